/-
  BaseKnown: the walk.
-/
import Derived.Test.YtagbgenbhbgpoaaB5
namespace Go.Proofs.Ytagbgenbhbgpoaa
open Go.RowKit
theorem enc_nil : enc [] = [] := by decide
theorem enc_0 : enc [0] = [65, 65] := by decide
theorem enc_fb : enc [251, 240] = [45, 95, 65] := by decide
theorem dec_A : dec (⟨#[65]⟩ : ByteArray).data.toList = ([], 4, 1) := by decide
theorem dec_Ae : dec (⟨#[65, 61]⟩ : ByteArray).data.toList = ([], 4, 1) := by decide
theorem dec_A5 : dec (⟨#[65, 65, 65, 65, 65]⟩ : ByteArray).data.toList = ([], 4, 5) := by decide
theorem Encode_lit (l r : List UInt8) (g : Nat) (w : World) (hr : enc l = r) (hl : l.length ≤ 100000) (h : w.heap[g]? = some (.cells (Lib.byteCells l).toArray 5 (0, 0))) :
    Calls Try.prog 12 #[.slice (some ⟨g, 0, none⟩) l.length l.length] w fun e w' => e = .returned (.string ⟨r.toArray⟩) ∧ Fr nob w w' := by
  subst hr; exact Encode_calls _ l w hl (BS_lit h)
set_option maxRecDepth 100000 in
theorem BaseKnown_walk (w : World) :
    Calls Try.prog 6 #[] w fun e w' => e = .returned (.bool true) ∧ Below w.heap.size w w' := by
  go_enter Try.func6, Try.ntmps6
  go_wp2_with (fail)
  have h1 := Encode_calls (.slice none 0 0) [] w (by decide) (BS_nil _ _)
  rw [enc_nil] at h1
  refine h1.mono ?_
  clear h1
  rintro e w1 ⟨rfl, hF1⟩
  go_wp2_with (fail)
  refine (Encode_lit [0] _ w1.heap.size _ enc_0 (by decide) (blk_new _ _)).mono ?_
  rintro e w2 ⟨rfl, hF2⟩
  have F2 : Fr nob w w2 := (hF1.alloc _).call hF2 (fun _ _ h => h.elim)
  go_wp2_with (fail)
  refine (Encode_lit [251, 240] _ w2.heap.size _ enc_fb (by decide) (blk_new _ _)).mono ?_
  rintro e w3 ⟨rfl, hF3⟩
  have F3 : Fr nob w w3 := (F2.alloc _).call hF3 (fun _ _ h => h.elim)
  clear hF1 hF2 hF3 F2
  go_wp2_with (fail)
  refine (faulty_calls ⟨#[65]⟩ 1 _ (by decide) dec_A).mono ?_
  rintro e w4 ⟨rfl, hF4⟩
  have F4 : Fr nob w w4 := F3.call hF4 (fun _ _ h => h.elim)
  go_wp2_with (fail)
  refine (faulty_calls ⟨#[65, 61]⟩ 1 _ (by decide) dec_Ae).mono ?_
  rintro e w5 ⟨rfl, hF5⟩
  have F5 : Fr nob w w5 := F4.call hF5 (fun _ _ h => h.elim)
  go_wp2_with (fail)
  refine (faulty_calls ⟨#[65, 65, 65, 65, 65]⟩ 5 _ (by decide) dec_A5).mono ?_
  rintro e w6 ⟨rfl, hF6⟩
  have F6 : Fr nob w w6 := F5.call hF6 (fun _ _ h => h.elim)
  clear F3 F4 F5 hF4 hF5 hF6
  go_wp2_with (fail)
  refine (Size_calls 0 _ (by decide)).mono ?_
  rintro e w7 ⟨rfl, rfl⟩
  simp only [show sizeF 0 = (0, true) from by decide]
  go_wp2_with (fail)
  refine (Size_calls 1 _ (by decide)).mono ?_
  rintro e w7 ⟨rfl, rfl⟩
  simp only [show sizeF 1 = (0, false) from by decide]
  go_wp2_with (fail)
  refine (Size_calls 2 _ (by decide)).mono ?_
  rintro e w7 ⟨rfl, rfl⟩
  simp only [show sizeF 2 = (1, true) from by decide]
  go_wp2_with (fail)
  refine (Size_calls 4 _ (by decide)).mono ?_
  rintro e w7 ⟨rfl, rfl⟩
  simp only [show sizeF 4 = (3, true) from by decide]
  go_wp2_with (fail)
  refine (Size_calls (-3) _ (by decide)).mono ?_
  rintro e w7 ⟨rfl, rfl⟩
  simp only [show sizeF (-3) = (0, false) from by decide]
  go_wp2_with (fail)
  refine (awake_calls _).mono ?_
  rintro e w7 ⟨rfl, hF7⟩
  have F7 : Fr nob w w7 := F6.call hF7 (fun _ _ h => h.elim)
  go_wp2
  go_ret
  exact ⟨rfl, F7.none_below⟩
end Go.Proofs.Ytagbgenbhbgpoaa
