/- Parts of the proof: EvY5. -/
import Derived.Test.YtpknalhjgbgpiaaGreatDoorM23
noncomputable section
namespace Go.Proofs.YtpknalhjgbgpiaaGreatDoor
open Go Go.RowKit
set_option maxRecDepth 1000000 in
set_option maxHeartbeats 0 in
theorem dec5 : runG boxA 1000 4 [.s [118, 97, 114, 49, 32, 120, 59, 32, 101, 120, 49, 32, 121, 58, 32, 121, 32, 60, 32, 120, 59], .o (.sym 0)] s00 (isRes 55 2 [([120], 1, [1])] [([120], 1, [0])]) = true := by kernel_rfl
end Go.Proofs.YtpknalhjgbgpiaaGreatDoor
