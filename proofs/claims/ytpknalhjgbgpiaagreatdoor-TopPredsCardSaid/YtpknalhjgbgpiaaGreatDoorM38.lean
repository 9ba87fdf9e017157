/- Parts of the proof: EvY7. -/
import Derived.Test.YtpknalhjgbgpiaaGreatDoorM23
noncomputable section
namespace Go.Proofs.YtpknalhjgbgpiaaGreatDoor
open Go Go.RowKit
set_option maxRecDepth 1000000 in
set_option maxHeartbeats 0 in
theorem decK2 : runG boxA 1000 4 [.s [101, 120, 49, 32, 120, 58, 32, 97, 108, 108, 49, 32, 121, 58, 32, 121, 32, 60, 61, 32, 120, 59], .o (.sym 0)] s00 (isRes 65 3 [] []) = true := by kernel_rfl
end Go.Proofs.YtpknalhjgbgpiaaGreatDoor
