/- Parts of the proof: TopL. -/
import Derived.Test.YtpknalhjgbgpiaaGreatDoorM27
import Derived.Test.YtpknalhjgbgpiaaGreatDoorM28
import Derived.Test.YtpknalhjgbgpiaaGreatDoorM29
import Derived.Test.YtpknalhjgbgpiaaGreatDoorM30
import Derived.Test.YtpknalhjgbgpiaaGreatDoorM31
import Derived.Test.YtpknalhjgbgpiaaGreatDoorM32
import Derived.Test.YtpknalhjgbgpiaaGreatDoorM33
import Derived.Test.YtpknalhjgbgpiaaGreatDoorM34
import Derived.Test.YtpknalhjgbgpiaaGreatDoorM35
import Derived.Test.YtpknalhjgbgpiaaGreatDoorM36
import Derived.Test.YtpknalhjgbgpiaaGreatDoorM37
import Derived.Test.YtpknalhjgbgpiaaGreatDoorM38
import Derived.Test.YtpknalhjgbgpiaaGreatDoorM39
namespace Go.Proofs.YtpknalhjgbgpiaaGreatDoor
open Go Go.RowKit
theorem smallR_one {n : List Nat} {k : Int} {l : List Int} (h1 : n.length ≤ 1) (h2 : l.length ≤ 1) : smallR [(n, k, l)] := by
  refine ⟨by show 1 ≤ 140737488355328; omega, fun x hx => ?_⟩
  obtain rfl := List.mem_singleton.1 hx
  exact ⟨Nat.le_trans h1 (by omega), Nat.le_trans h2 (by omega)⟩
theorem dec_c {F : Int} (h0 : 0 ≤ F) (hF : F ≤ 1073741824) {bs : ByteArray} {l : List Nat} (hb : bytesOf bs = l) {T : Nat} {tag : Int} {M C : List (List Nat × Int × List Int)} (hM : smallR M) (hC : smallR C)
    (hd : runG boxA 1000 4 [.s l, .o (.sym 0)] s00 (isRes T tag M C) = true) : DecC bs F (outR F T tag M C).1 (outR F T tag M C).2.1 (outR F T tag M C).2.2 :=
  fun _ hW => decide_any h0 hF hb hM hC hd hW
theorem outR_ne {F : Int} {T : Nat} {tag : Int} {M C : List (List Nat × Int × List Int)} (h : tag ≠ 4) : (outR F T tag M C).1 ≠ 4 := by
  unfold outR
  split
  · show (5 : Int) ≠ 4
    omega
  · exact h
theorem knownC (W : World) (hW : 4 ≤ W.heap.size) : Calls Tryz.prog 6 #[] W fun e w' => e = .returned (.bool true) ∧ Below W.heap.size W w' := known_walk (kn_c (by kernel_rfl) (by decide) decK1) (kn_c (by kernel_rfl) (by decide) decK2) hW
theorem lawPreds_any (way F : Int) {w : World} (hw : 3 ≤ w.heap.size) :
    Calls Tryz.prog 3 #[.int .i64 way, .int .i64 F] w fun e w' => e = .returned (.bool true) ∧ Below w.heap.size w w' := by
  by_cases he : way < 0 ∨ 3 ≤ way ∨ F < 0 ∨ 1073741824 < F
  · exact top_early he
  · have h0 : 0 ≤ F := by omega
    have hF : F ≤ 1073741824 := by omega
    have hw3 : way = 0 ∨ way = 1 ∨ way = 2 := by omega
    rcases hw3 with rfl | rfl | rfl
    · exact top_way0 h0 hF (outR_ne (by decide)) hw (dec_c h0 hF (by kernel_rfl) (smallR_one (by decide) (by decide)) (smallR_one (by decide) (by decide)) dec0) (dec_c h0 hF (by kernel_rfl) (smallR_one (by decide) (by decide)) (smallR_one (by decide) (by decide)) dec1) knownC
    · exact top_way1 h0 hF (outR_ne (by decide)) hw (dec_c h0 hF (by kernel_rfl) smallR_nil smallR_nil dec2) (dec_c h0 hF (by kernel_rfl) smallR_nil smallR_nil dec3) knownC
    · exact top_way2 h0 hF (outR_ne (by decide)) hw (dec_c h0 hF (by kernel_rfl) (smallR_one (by decide) (by decide)) (smallR_one (by decide) (by decide)) dec4) (dec_c h0 hF (by kernel_rfl) (smallR_one (by decide) (by decide)) (smallR_one (by decide) (by decide)) dec5) knownC
end Go.Proofs.YtpknalhjgbgpiaaGreatDoor
