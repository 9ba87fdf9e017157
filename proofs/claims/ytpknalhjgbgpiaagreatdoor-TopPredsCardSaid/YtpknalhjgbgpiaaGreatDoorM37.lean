/- Parts of the proof: EvY6. -/
import Derived.Test.YtpknalhjgbgpiaaGreatDoorM23
noncomputable section
namespace Go.Proofs.YtpknalhjgbgpiaaGreatDoor
open Go Go.RowKit
set_option maxRecDepth 1000000 in
set_option maxHeartbeats 0 in
theorem decK1 : runG boxA 1000 4 [.s [97, 108, 108, 49, 32, 120, 58, 32, 101, 120, 49, 32, 121, 58, 32, 120, 32, 60, 32, 121, 59], .o (.sym 0)] s00 (isRes 51 1 [] []) = true := by kernel_rfl
end Go.Proofs.YtpknalhjgbgpiaaGreatDoor
