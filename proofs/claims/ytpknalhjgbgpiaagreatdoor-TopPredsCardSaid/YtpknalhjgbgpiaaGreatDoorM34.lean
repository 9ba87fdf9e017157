/- Parts of the proof: EvY3. -/
import Derived.Test.YtpknalhjgbgpiaaGreatDoorM23
noncomputable section
namespace Go.Proofs.YtpknalhjgbgpiaaGreatDoor
open Go Go.RowKit
set_option maxRecDepth 1000000 in
set_option maxHeartbeats 0 in
theorem dec3 : runG boxA 1000 4 [.s [97, 108, 108, 48, 32, 98, 58, 32, 98, 32, 124, 32, 126, 98, 59], .o (.sym 0)] s00 (isRes 69 1 [] []) = true := by kernel_rfl
end Go.Proofs.YtpknalhjgbgpiaaGreatDoor
