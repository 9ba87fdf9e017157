/- Parts of the proof: EvY0. -/
import Derived.Test.YtpknalhjgbgpiaaGreatDoorM23
noncomputable section
namespace Go.Proofs.YtpknalhjgbgpiaaGreatDoor
open Go Go.RowKit
set_option maxRecDepth 1000000 in
set_option maxHeartbeats 0 in
theorem dec0 : runG boxA 1000 4 [.s [112, 114, 101, 100, 32, 112, 40, 118, 97, 114, 49, 32, 97, 44, 32, 118, 97, 114, 50, 32, 65, 41, 32, 61, 32, 97, 32, 105, 110, 32, 65, 59, 32, 118, 97, 114, 50, 32, 88, 59, 32, 101, 120, 49, 32, 120, 58, 32, 112, 40, 120, 44, 32, 88, 41, 32, 38, 32, 126, 112, 40, 120, 32, 43, 32, 49, 44, 32, 88, 41, 59], .o (.sym 0)] s00 (isRes 76 2 [([88], 2, [0])] [([88], 2, [])]) = true := by kernel_rfl
end Go.Proofs.YtpknalhjgbgpiaaGreatDoor
