/-
  The reference's Within and Compare.
-/
import Derived.Test.YtcmiidklddnfhaaEN
namespace Go.Proofs.Ytcmiidklddnfhaa
open Go.RowKit
theorem drop_enc_len {ls : List Bs} (d : Nat) : (encN (ls.drop d)).length ≤ (encN ls).length := by
  induction ls generalizing d with
  | nil => simp
  | cons l ls ih =>
    cases d with
    | zero => simp
    | succ d => rw [List.drop_succ_cons, encN_cons]; have := ih d; simp; omega
set_option maxHeartbeats 4000000 in
set_option maxRecDepth 100000 in
theorem rWithin_calls (n z : Bs) (w : World) (hn : n.length ≤ 100000) (hz : z.length ≤ 100000) :
    Calls Try.prog 30 #[.string (mk n), .string (mk z)] w (BoolPost w (withinP n z)) := by
  have hln := labels_len n; have hlz := labels_len z
  have hcn := rLabels_calls n w hn
  have hcz := fun W => rLabels_calls z W hz
  have hw : withinP n z = decide ((labels n).2 = 0 ∧ (labels z).2 = 0 ∧ (labels z).1.length ≤ (labels n).1.length ∧ ((labels n).1.drop ((labels n).1.length - (labels z).1.length)).map low = (labels z).1.map low) := rfl
  unfold RLabPost at hcn hcz
  have hsn := labels_spec n
  have hsz := labels_spec z
  have hlow := fun W => rLower_calls z W (by omega)
  obtain ⟨ll, en, hle⟩ : ∃ ll en, labels n = (ll, en) := ⟨_, _, rfl⟩
  obtain ⟨zl, ez, hze⟩ : ∃ zl ez, labels z = (zl, ez) := ⟨_, _, rfl⟩
  rw [hle] at hcn hln hw hsn
  simp only [hze] at hcz hlz hw hsz
  simp only at hcn hln hlz hw hsn hsz
  generalize withinP n z = R at *
  obtain ⟨lz, hlz'⟩ : ∃ t, mk (low z) = t := ⟨_, rfl⟩
  have hlzl : lz.toList = low z := by rw [← hlz', Lib.toList_data]; rfl
  rw [hlz'] at hlow
  generalize mk n = tn at *
  generalize mk z = tz at *
  have HW := Ho.mk hw; have HCZ := Ho.mk hcz; have HSN := Ho.mk hsn; have HSZ := Ho.mk hsz; have HLOW := Ho.mk hlow; have HLZ := Ho.mk hlzl
  have hll : ll.length ≤ 100000 := by omega
  have hzl : zl.length ≤ 100000 := by omega
  clear hw hcz hsn hsz hle hze hln hlz hlow hlzl hlz'
  go_enter Try.func30, Try.ntmps30
  go_wp2_with (fail)
  refine hcn.mono ?_
  clear hcn
  rintro r w1 ⟨v1, rfl, hown1, hf1⟩
  obtain ⟨a1, cap1, rfl⟩ := own_shape hown1
  have HS1 := Ho.mk (own_strs hown1); have HF1 := Ho.mk hf1
  have hcap1 := own_cap hown1
  clear hown1 hf1
  go_wp2_with (fail)
  refine (HCZ.out w1).mono ?_
  clear HCZ
  rintro r w2 ⟨v2, rfl, hown2, hf2⟩
  obtain ⟨a2, cap2, rfl⟩ := own_shape hown2
  have HF2 := Ho.mk (HF1.out.trans hf2); have HS12 := Ho.mk (HS1.out.same hf2)
  clear hown2 hf2 HS1
  by_cases h1 : en = 0
  · have k1 : (en != 0) = false := by rw [h1]; rfl
    by_cases h2 : ez = 0
    · have k2 : (ez != 0) = false := by rw [h2]; rfl
      by_cases h3 : ll.length < zl.length
      · have k3 : decide ((ll.length : Int) < (zl.length : Int)) = true := decide_eq_true (by omega)
        have k3' : decide (ll.length < zl.length) = true := decide_eq_true h3
        have HR := Ho.mk (show R = false by rw [HW.out]; exact decide_eq_false (fun h => by have := h.2.2.1; omega))
        clear h1 h2 h3
        go_wp2_with (fail)
        go_ret
        exact BoolPost.mk' HR.out HF2.out
      · have k3 : decide ((ll.length : Int) < (zl.length : Int)) = false := decide_eq_false (by omega)
        have k3' : decide (ll.length < zl.length) = false := decide_eq_false h3
        obtain ⟨d, hd⟩ : ∃ d, ll.length - zl.length = d := ⟨_, rfl⟩
        have hdI : (ll.length : Int) - (zl.length : Int) = (d : Int) := by omega
        have hlow := slice_lo a1 ll.length cap1 d (by omega) hcap1
        rw [show ll.length - d = zl.length by omega] at hlow
        have htail := HS12.out.tail (k := d) (by omega) hcap1
        rw [show ll.length - d = zl.length by omega] at htail
        have htl : (ll.drop d).length = zl.length := by rw [List.length_drop]; omega
        obtain ⟨g1, g2, g3⟩ := HSN.out h1
        obtain ⟨y1, y2, y3⟩ := HSZ.out h2
        have gt : ∀ x ∈ ll.drop d, goodL x := fun x hx => g1 x (List.mem_of_mem_drop hx)
        have hel : (encN (ll.drop d)).length ≤ 255 := by have := drop_enc_len (ls := ll) d; rw [← g2] at this; omega
        have HJ := Ho.mk (joinP_good gt hel)
        have hlowt := fun W => rLower_calls (encN (ll.drop d)) W (by omega)
        obtain ⟨lt, hlt'⟩ : ∃ t, mk (low (encN (ll.drop d))) = t := ⟨_, rfl⟩
        have hltl : lt.toList = low (encN (ll.drop d)) := by rw [← hlt', Lib.toList_data]; rfl
        rw [hlt'] at hlowt
        have HR := Ho.mk (show R = (lt.toList == lz.toList) by
          rw [HW.out, hltl, HLZ.out, Bool.eq_iff_iff]
          simp only [h1, h2, true_and, hd, decide_eq_true_eq, beq_iff_eq]
          rw [y2, low_encN _ gt, low_encN _ y1]
          constructor
          · intro h; rw [h.2]
          · intro h; exact ⟨by omega, encN_inj (good_low gt) (good_low y1) h⟩)
        generalize ll.drop d = tl at *
        have HTL := Ho.mk htail; have HTLEN := Ho.mk htl; have HLT := Ho.mk hlowt
        have htl2 : tl.length ≤ 100000 := by omega
        generalize sl a1 cap1 d = a3 at *
        have hwr : IntKind.i64.wrap (d : Int) = (d : Int) := IntWalk.i64_in _ (by omega)
        clear h1 h2 h3 hd htail htl HW g1 g2 g3 y1 y2 y3 gt hel hltl hlowt hlt'
        go_wp2_with (fail)
        have htlx : IsStrs w2 (.slice a3 zl.length (cap1 - d)) tl := HTL.out
        (with_reducible refine (rJoin_calls _ tl w2 htlx htl2).mono ?_)
        rintro r w3 ⟨rfl, hf3⟩
        rw [HJ.out]
        simp only
        unfold str
        go_wp2_with (fail)
        refine (HLT.out w3).mono ?_
        rintro r w4 ⟨rfl, hf4⟩
        go_wp2_with (fail)
        refine (HLOW.out w4).mono ?_
        rintro r w5 ⟨rfl, hf5⟩
        go_wp2_with (fail)
        go_ret
        exact BoolPost.mk' HR.out (((HF2.out.trans hf3).trans hf4).trans hf5)
    · have k2 : (ez != 0) = true := by simp [h2]
      have HR := Ho.mk (show R = false by rw [HW.out]; exact decide_eq_false (fun h => h2 h.2.1))
      clear h1 h2
      go_wp2_with (fail)
      go_ret
      exact BoolPost.mk' HR.out HF2.out
  · have k1 : (en != 0) = true := by simp [h1]
    have HR := Ho.mk (show R = false by rw [HW.out]; exact decide_eq_false (fun h => h1 h.1))
    clear h1
    go_wp2_with (fail)
    go_ret
    exact BoolPost.mk' HR.out HF2.out
end Go.Proofs.Ytcmiidklddnfhaa
