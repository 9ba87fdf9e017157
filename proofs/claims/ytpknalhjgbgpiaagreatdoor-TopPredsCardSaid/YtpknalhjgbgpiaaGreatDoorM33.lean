/- Parts of the proof: EvY2. -/
import Derived.Test.YtpknalhjgbgpiaaGreatDoorM23
noncomputable section
namespace Go.Proofs.YtpknalhjgbgpiaaGreatDoor
open Go Go.RowKit
set_option maxRecDepth 1000000 in
set_option maxHeartbeats 0 in
theorem dec2 : runG boxA 1000 4 [.s [112, 114, 101, 100, 32, 113, 40, 118, 97, 114, 48, 32, 97, 41, 32, 61, 32, 97, 59, 32, 112, 114, 101, 100, 32, 112, 40, 118, 97, 114, 48, 32, 97, 41, 32, 61, 32, 113, 40, 97, 41, 32, 124, 32, 126, 113, 40, 97, 41, 59, 32, 97, 108, 108, 48, 32, 98, 58, 32, 112, 40, 98, 41, 59], .o (.sym 0)] s00 (isRes 69 1 [] []) = true := by kernel_rfl
end Go.Proofs.YtpknalhjgbgpiaaGreatDoor
