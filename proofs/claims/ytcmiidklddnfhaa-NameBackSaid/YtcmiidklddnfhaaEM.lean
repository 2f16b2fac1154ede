/-
  package name: Same, Parent, Compare; the reference's Same, Parent, Within, Compare.
-/
import Derived.Test.YtcmiidklddnfhaaNC
import Derived.Test.YtcmiidklddnfhaaEX
namespace Go.Proofs.Ytcmiidklddnfhaa
open Go.RowKit
/-- Same, of either side. -/
theorem sameP_of {a b : Bs} : sameP a b = (if (labels a).2 = 0 then (if (labels b).2 = 0 then decide (low a = low b) else false) else false) := by
  unfold sameP
  by_cases h1 : (labels a).2 = 0
  · by_cases h2 : (labels b).2 = 0
    · simp [h1, h2]
    · simp [h1, h2]
  · simp [h1]
set_option maxRecDepth 100000 in
set_option maxHeartbeats 1000000 in
theorem Same_calls (a b : Bs) (w : World) (ha : a.length ≤ 100000) (hb : b.length ≤ 100000) : Calls Try.prog 28 #[.string (mk a), .string (mk b)] w (BoolPost w (sameP a b)) := by
  have hca := Check_calls a w ha
  have hcb := fun W => Check_calls b W hb
  have hla := fun W => Lower_calls a W (by omega)
  have hlb := fun W => Lower_calls b W (by omega)
  have hs := sameP_of (a := a) (b := b)
  generalize sameP a b = R at *
  generalize (labels a).2 = ea at *
  generalize (labels b).2 = eb at *
  obtain ⟨la, hla'⟩ : ∃ t, mk (low a) = t := ⟨_, rfl⟩
  obtain ⟨lb, hlb'⟩ : ∃ t, mk (low b) = t := ⟨_, rfl⟩
  have hal : la.toList = low a := by rw [← hla', Lib.toList_data]; rfl
  have hbl : lb.toList = low b := by rw [← hlb', Lib.toList_data]; rfl
  rw [hla'] at hla; rw [hlb'] at hlb
  generalize mk a = ta at *
  generalize mk b = tb at *
  have HB := Ho.mk hcb; have HLA := Ho.mk hla; have HLB := Ho.mk hlb; have HS := Ho.mk hs
  clear hcb hla hlb hs hla' hlb'
  by_cases h1 : ea = 0
  · have k1 : (ea == 0) = true := by rw [h1]; rfl
    by_cases h2 : eb = 0
    · have k2 : (eb == 0) = true := by rw [h2]; rfl
      have HR := Ho.mk (show R = (la.toList == lb.toList) by rw [HS.out, if_pos h1, if_pos h2, hal, hbl, Bool.eq_iff_iff]; simp)
      clear h1 h2 hal hbl
      go_enter Try.func28, Try.ntmps28
      go_wp2_with (fail)
      refine hca.mono ?_
      clear hca
      rintro r w1 ⟨rfl, hf1⟩
      go_wp2_with (fail)
      refine (HB.out w1).mono ?_
      rintro r w2 ⟨rfl, hf2⟩
      go_wp2_with (fail)
      refine (HLA.out w2).mono ?_
      rintro r w3 ⟨rfl, hf3⟩
      go_wp2_with (fail)
      refine (HLB.out w3).mono ?_
      rintro r w4 ⟨rfl, hf4⟩
      go_wp2_with (fail)
      go_ret
      exact BoolPost.mk' HR.out (((hf1.trans hf2).trans hf3).trans hf4)
    · have k2 : (eb == 0) = false := by rw [beq_eq_false_iff_ne]; exact h2
      have HR := Ho.mk (show R = false by rw [HS.out, if_pos h1, if_neg h2])
      clear h1 h2
      go_enter Try.func28, Try.ntmps28
      go_wp2_with (fail)
      refine hca.mono ?_
      clear hca
      rintro r w1 ⟨rfl, hf1⟩
      go_wp2_with (fail)
      refine (HB.out w1).mono ?_
      rintro r w2 ⟨rfl, hf2⟩
      go_wp2_with (fail)
      go_ret
      exact BoolPost.mk' HR.out (hf1.trans hf2)
  · have k1 : (ea == 0) = false := by rw [beq_eq_false_iff_ne]; exact h1
    have HR := Ho.mk (show R = false by rw [HS.out, if_neg h1])
    clear h1
    go_enter Try.func28, Try.ntmps28
    go_wp2_with (fail)
    refine hca.mono ?_
    clear hca
    rintro r w1 ⟨rfl, hf1⟩
    go_wp2_with (fail)
    go_ret
    exact BoolPost.mk' HR.out hf1
set_option maxRecDepth 100000 in
set_option maxHeartbeats 1000000 in
theorem rSame_calls (a b : Bs) (w : World) (ha : a.length ≤ 100000) (hb : b.length ≤ 100000) : Calls Try.prog 29 #[.string (mk a), .string (mk b)] w (BoolPost w (sameP a b)) := by
  have hca := rCheck_calls a w ha
  have hcb := fun W => rCheck_calls b W hb
  have hla := fun W => rLower_calls a W (by omega)
  have hlb := fun W => rLower_calls b W (by omega)
  have hs := sameP_of (a := a) (b := b)
  generalize sameP a b = R at *
  generalize (labels a).2 = ea at *
  generalize (labels b).2 = eb at *
  obtain ⟨la, hla'⟩ : ∃ t, mk (low a) = t := ⟨_, rfl⟩
  obtain ⟨lb, hlb'⟩ : ∃ t, mk (low b) = t := ⟨_, rfl⟩
  have hal : la.toList = low a := by rw [← hla', Lib.toList_data]; rfl
  have hbl : lb.toList = low b := by rw [← hlb', Lib.toList_data]; rfl
  rw [hla'] at hla; rw [hlb'] at hlb
  generalize mk a = ta at *
  generalize mk b = tb at *
  have HB := Ho.mk hcb; have HLA := Ho.mk hla; have HLB := Ho.mk hlb; have HS := Ho.mk hs
  clear hcb hla hlb hs hla' hlb'
  by_cases h1 : ea = 0
  · have k1 : (ea == 0) = true := by rw [h1]; rfl
    by_cases h2 : eb = 0
    · have k2 : (eb == 0) = true := by rw [h2]; rfl
      have HR := Ho.mk (show R = (la.toList == lb.toList) by rw [HS.out, if_pos h1, if_pos h2, hal, hbl, Bool.eq_iff_iff]; simp)
      clear h1 h2 hal hbl
      go_enter Try.func29, Try.ntmps29
      go_wp2_with (fail)
      refine hca.mono ?_
      clear hca
      rintro r w1 ⟨rfl, hf1⟩
      go_wp2_with (fail)
      refine (HB.out w1).mono ?_
      rintro r w2 ⟨rfl, hf2⟩
      go_wp2_with (fail)
      refine (HLA.out w2).mono ?_
      rintro r w3 ⟨rfl, hf3⟩
      go_wp2_with (fail)
      refine (HLB.out w3).mono ?_
      rintro r w4 ⟨rfl, hf4⟩
      go_wp2_with (fail)
      go_ret
      exact BoolPost.mk' HR.out (((hf1.trans hf2).trans hf3).trans hf4)
    · have k2 : (eb == 0) = false := by rw [beq_eq_false_iff_ne]; exact h2
      have HR := Ho.mk (show R = false by rw [HS.out, if_pos h1, if_neg h2])
      clear h1 h2
      go_enter Try.func29, Try.ntmps29
      go_wp2_with (fail)
      refine hca.mono ?_
      clear hca
      rintro r w1 ⟨rfl, hf1⟩
      go_wp2_with (fail)
      refine (HB.out w1).mono ?_
      rintro r w2 ⟨rfl, hf2⟩
      go_wp2_with (fail)
      go_ret
      exact BoolPost.mk' HR.out (hf1.trans hf2)
  · have k1 : (ea == 0) = false := by rw [beq_eq_false_iff_ne]; exact h1
    have HR := Ho.mk (show R = false by rw [HS.out, if_neg h1])
    clear h1
    go_enter Try.func29, Try.ntmps29
    go_wp2_with (fail)
    refine hca.mono ?_
    clear hca
    rintro r w1 ⟨rfl, hf1⟩
    go_wp2_with (fail)
    go_ret
    exact BoolPost.mk' HR.out hf1
def ParPost (n : Bs) (w : World) (e : Ending) (w' : World) : Prop := e = .returned (.tuple #[str (parentP n).1, .bool (parentP n).2]) ∧ Fr nob w w'
theorem ParPost.mk' {n : Bs} {w w' : World} {s : ByteArray} {b : Bs} {c : Bool} (h : parentP n = (b, c)) (hs : mk b = s) (hf : Fr nob w w') : ParPost n w (.returned (.tuple #[.string s, .bool c])) w' := ⟨by rw [h, ← hs]; rfl, hf⟩
set_option maxRecDepth 100000 in
set_option maxHeartbeats 1000000 in
theorem Parent_calls (n : Bs) (w : World) (hn : n.length ≤ 100000) : Calls Try.prog 24 #[.string (mk n)] w (ParPost n w) := by
  have hc := Check_calls n w hn
  have hspec := labels_spec n
  obtain ⟨ls, e, hl⟩ : ∃ ls e, labels n = (ls, e) := ⟨_, _, rfl⟩
  have hp : parentP n = if e = 0 ∧ ls ≠ [] then (encN ls.tail, true) else ([], false) := by unfold parentP; rw [hl]
  rw [hl] at hc hspec
  simp only at hc hspec
  obtain ⟨t, ht⟩ : ∃ t, mk n = t := ⟨_, rfl⟩
  have htl : t.toList = n := by rw [← ht, Lib.toList_data]; rfl
  have htz : t.size = n.length := by rw [← ht, mk_size]
  rw [ht] at hc ⊢
  have HP := Ho.mk hp; have HT := Ho.mk ht; have HSP := Ho.mk hspec
  clear hp ht hspec hl
  by_cases h1 : e = 0
  · have k1 : (e != 0) = false := by rw [h1]; rfl
    obtain ⟨hg, hn2, hn3⟩ := HSP.out h1
    cases ls with
    | nil =>
      have hroot : n = [0] := hn2
      have k2 : (t.toList == [0]) = true := by rw [htl, hroot]; rfl
      have HPP := Ho.mk (show parentP n = ([], false) by rw [HP.out, if_neg (by simp)])
      clear h1 hg hn2 hroot htl htz
      go_enter Try.func24, Try.ntmps24
      go_wp2_with (fail)
      refine hc.mono ?_
      clear hc
      rintro r w1 ⟨rfl, hf1⟩
      go_wp2_with (fail)
      go_ret2
      exact ParPost.mk' HPP.out rfl hf1
    | cons l ls =>
      have hgl := hg l (by simp)
      obtain ⟨e1, e2⟩ := ofNat_len hgl
      rw [encN_cons] at hn2
      have k2 : (t.toList == [0]) = false := by
        rw [htl, beq_eq_false_iff_ne, hn2]; intro h; injection h with h _; exact e2 h
      obtain ⟨c, hcc⟩ : ∃ c, UInt8.ofNat l.length = c := ⟨_, rfl⟩
      rw [hcc] at hn2 e1
      have hp0 : 0 < t.size := by rw [htz, hn2]; simp
      have hg0 : t[0] = c := by
        have h := HT.out; subst h
        have h2 : n[0]'(by rw [hn2]; simp) = c := by simp [hn2]
        exact h2
      have hc0 : (c.toNat : Int) = (l.length : Int) := by rw [e1]
      have hsl : t.extract (1 + l.length) t.size = mk (encN ls) := by
        have h := HT.out; subst h
        apply Go.WideShapes.bytes_inj
        rw [Lib.extract_data, mk_toList, hn2]
        show (List.drop (1 + l.length) (c :: (l ++ encN ls))).take _ = encN ls
        rw [Nat.add_comm 1, List.drop_succ_cons, List.drop_left]
        exact List.take_of_length_le (by rw [mk_size, show (c :: (l ++ encN ls)).length = l.length + (encN ls).length + 1 by simp]; omega)
      have hl63 := hgl.2
      have hts : 1 + l.length ≤ t.size := by rw [htz, hn2]; simp; omega
      have htb : t.size ≤ 100000 := by omega
      have HPP := Ho.mk (show parentP n = (encN ls, true) by rw [HP.out, if_pos ⟨h1, by simp⟩]; rfl)
      have HSL := Ho.mk hsl
      clear h1 hg hgl hn2 htl htz hsl e1 e2 hcc
      go_enter Try.func24, Try.ntmps24
      go_wp2_with (fail)
      refine hc.mono ?_
      clear hc
      rintro r w1 ⟨rfl, hf1⟩
      go_wp2_with (fail)
      go_ret2
      exact ParPost.mk' HPP.out HSL.out.symm hf1
  · have k1 : (e != 0) = true := by simp [h1]
    have HPP := Ho.mk (show parentP n = ([], false) by rw [HP.out, if_neg (by intro h; exact h1 h.1)])
    clear h1 htl htz
    go_enter Try.func24, Try.ntmps24
    go_wp2_with (fail)
    refine hc.mono ?_
    clear hc
    rintro r w1 ⟨rfl, hf1⟩
    go_wp2_with (fail)
    go_ret2
    exact ParPost.mk' HPP.out rfl hf1
theorem joinP_good {ls : List Bs} (h : ∀ l ∈ ls, goodL l) (h2 : (encN ls).length ≤ 255) : joinP ls = (encN ls, 0) := joinP_ok ((joinE_zero ls).2 h) h2
set_option maxRecDepth 100000 in
set_option maxHeartbeats 1000000 in
theorem rParent_calls (n : Bs) (w : World) (hn : n.length ≤ 100000) : Calls Try.prog 25 #[.string (mk n)] w (ParPost n w) := by
  have hc := rLabels_calls n w hn
  unfold RLabPost at hc
  have hspec := labels_spec n
  have hlen := labels_len n
  obtain ⟨ls, e, hl⟩ : ∃ ls e, labels n = (ls, e) := ⟨_, _, rfl⟩
  have hp : parentP n = if e = 0 ∧ ls ≠ [] then (encN ls.tail, true) else ([], false) := by unfold parentP; rw [hl]
  rw [hl] at hc hspec hlen
  simp only at hc hspec hlen
  generalize mk n = t at *
  have HP := Ho.mk hp; have HSP := Ho.mk hspec
  clear hp hspec hl
  by_cases h1 : e = 0
  · have k1 : (e != 0) = false := by rw [h1]; rfl
    obtain ⟨hg, hn2, hn3⟩ := HSP.out h1
    cases ls with
    | nil =>
      have HPP := Ho.mk (show parentP n = ([], false) by rw [HP.out, if_neg (by simp)])
      clear h1 hg hn2 hn3
      simp only [List.length_nil] at hc
      go_enter Try.func25, Try.ntmps25
      go_wp2_with (fail)
      refine hc.mono ?_
      clear hc
      rintro r w1 ⟨v, rfl, ho, hf1⟩
      obtain ⟨a, cap, rfl⟩ := own_shape ho
      clear ho
      go_wp2_with (fail)
      go_ret2
      exact ParPost.mk' HPP.out rfl hf1
    | cons l ls =>
      have HPP := Ho.mk (show parentP n = (encN ls, true) by rw [HP.out, if_pos ⟨h1, by simp⟩]; rfl)
      have hg2 : ∀ x ∈ ls, goodL x := fun x hx => hg x (List.mem_cons_of_mem _ hx)
      have hjl : (encN ls).length ≤ 255 := by rw [hn2, encN_cons] at hn3; simp at hn3; omega
      have HJ := Ho.mk (joinP_good hg2 hjl)
      have hll : ls.length + 1 ≤ 100000 := by simp at hlen; omega
      obtain ⟨m, hm⟩ : ∃ m, (l :: ls).length = m := ⟨_, rfl⟩
      have hm1 : m = ls.length + 1 := by rw [← hm]; rfl
      clear h1 hg hn2 hn3 hg2 hjl hlen
      have k2 : ((m : Int) == 0) = false := by rw [beq_eq_false_iff_ne]; omega
      have HM := Ho.mk hm; have HM1 := Ho.mk hm1
      rw [hm] at hc
      clear hm hm1
      go_enter Try.func25, Try.ntmps25
      go_wp2_with (fail)
      refine hc.mono ?_
      clear hc
      rintro r w1 ⟨v, rfl, ho, hf1⟩
      obtain ⟨a, cap, rfl⟩ := own_shape ho
      have hcap := own_cap ho
      have hs := own_strs (l := l :: ls) (by rw [HM.out]; exact ho)
      have htail := IsStrs.tail (k := 1) (by rw [HM.out]; exact hs) (by simp) (by rw [HM.out]; exact hcap)
      rw [HM.out] at htail
      have hsl : (Instr.slice 22 (.slice a m cap) (some (.int .i64 1)) none none).run Try.prog w1 = .ok (.slice (sl a cap 1) (m - 1) (cap - 1)) w1 := slice_lo a m cap 1 (by have := HM1.out; omega) hcap w1
      have hm2 : m - 1 = ls.length := by have := HM1.out; omega
      rw [hm2] at htail hsl
      have htail : IsStrs w1 (.slice (sl a cap 1) ls.length (cap - 1)) ls := htail
      generalize sl a cap 1 = a2 at *
      have HTL := Ho.mk htail
      clear ho hs htail hcap hm2
      go_wp2_with (fail)
      (with_reducible refine (rJoin_calls _ ls w1 HTL.out (by omega)).mono ?_)
      rintro r w2 ⟨rfl, hf2⟩
      rw [HJ.out]
      simp only
      unfold str
      go_wp2_with (fail)
      go_ret2
      exact ParPost.mk' HPP.out rfl (hf1.trans hf2)
  · have k1 : (e != 0) = true := by simp [h1]
    have HPP := Ho.mk (show parentP n = ([], false) by rw [HP.out, if_neg (by intro h; exact h1 h.1)])
    clear h1
    go_enter Try.func25, Try.ntmps25
    go_wp2_with (fail)
    refine hc.mono ?_
    clear hc
    rintro r w1 ⟨v, rfl, ho, hf1⟩
    obtain ⟨a, cap, rfl⟩ := own_shape ho
    clear ho
    go_wp2_with (fail)
    go_ret2
    exact ParPost.mk' HPP.out rfl hf1
end Go.Proofs.Ytcmiidklddnfhaa
