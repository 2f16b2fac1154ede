/-
  ostiarykit: SameTexts.
-/
import Derived.Test.YtlbhfnjhhpcphaaEC
import Derived.Laws.CopyOwn
import Derived.RegionTactic
import Derived.Deep.RegionHeld3
namespace Go.Proofs.Ytlbhfnjhhpcphaa
open Go.RowKit
theorem addr_add (b off j : Nat) : (⟨b, off, none⟩ : Addr).add j = ⟨b, off + j, none⟩ := by
  unfold Addr.add; split
  · rename_i h; subst h; rfl
  · rfl
theorem IsStrs.shape {w : World} {v : Value} {l : List Bs} (h : IsStrs w v l) : ∃ a cap, v = .slice a l.length cap := by obtain ⟨a, cap, h, _⟩ := h; exact ⟨a, cap, h⟩
set_option maxRecDepth 100000 in
theorem SameTexts_calls (v1 v2 : Value) (l1 l2 : List Bs) (w : World) (h1 : IsStrs w v1 l1) (h2 : IsStrs w v2 l2) (hl : l1.length ≤ 1000000) (hl2 : l2.length ≤ 1000000) :
    Calls Try.prog 57 #[v1, v2] w fun r w' => r = .returned (.bool (decide (l1 = l2))) ∧ Fr nob w w' := by
  obtain ⟨a1, cap1, rfl, hc1⟩ := h1
  obtain ⟨a2, cap2, rfl, hc2⟩ := h2
  have H1 := Ho.mk hc1; have H2 := Ho.mk hc2
  clear hc1 hc2
  by_cases hlen : l1.length = l2.length
  · have e1 : (((l1.length : Int)) != ((l2.length : Int))) = false := by simp [hlen]
    have e2 : (l1.length != l2.length) = false := by simp [hlen]
    have HL := Ho.mk hlen
    clear hlen
    go_enter Try.func57, Try.ntmps57
    go_wp2_with (fail)
    go_loopw [5] (fun si wr => ∃ i : Nat, i ≤ l1.length ∧ si = .int .i64 (i : Int) ∧ Ho (l1.take i = l2.take i) ∧ ∃ m, wr = w.drewN m) (fun si _ => l1.length - (intOf si).toNat)
    case atStart => exact ⟨0, by omega, rfl, Ho.mk rfl, 0, rfl⟩
    case round =>
      obtain ⟨i, hi, rfl, HT, m, rfl⟩ := hrel
      by_cases hlt : i < l1.length
      · have hlt2 : i < l2.length := by rw [← HL.out]; exact hlt
        obtain ⟨b1, o1, rfl, k1⟩ := H1.out i hlt
        obtain ⟨b2, o2, rfl, k2⟩ := H2.out i hlt2
        have ht1 := List.take_succ_eq_append_getElem hlt
        have ht2 := List.take_succ_eq_append_getElem hlt2
        have hne : l1[i] ≠ l2[i] → l1 ≠ l2 := fun h e => h (by subst e; rfl)
        have k1' : (w.drewN m).cell? ⟨b1, o1 + i, none⟩ = some (.string (mk l1[i])) := k1
        have k2' : (w.drewN m).cell? ⟨b2, o2 + i, none⟩ = some (.string (mk l2[i])) := k2
        generalize l1[i] = x at *
        generalize l2[i] = y at *
        obtain ⟨s, hs⟩ : ∃ s, mk x = s := ⟨_, rfl⟩
        obtain ⟨t, ht⟩ : ∃ t, mk y = t := ⟨_, rfl⟩
        have hsl : s.toList = x := by rw [← hs, Lib.toList_data]; rfl
        have htl : t.toList = y := by rw [← ht, Lib.toList_data]; rfl
        rw [hs] at k1'; rw [ht] at k2'
        generalize hwm : w.drewN m = wm at *
        have HW := Ho.mk hwm; have HT1 := Ho.mk ht1; have HT2 := Ho.mk ht2; have HNE := Ho.mk hne
        clear k1 k2 hwm ht1 ht2 hne hs ht
        by_cases hxy : x = y
        · have e3 : (s.toList == t.toList) = true := by rw [hsl, htl, hxy]; simp
          have HX := Ho.mk hxy
          clear hsl htl hxy
          go_wp2_with (fail)
          go_quiet (fail)
          go_wp2_with (fail)
          go_roundw
          case rel => exact ⟨i + 1, by omega, by go_num, ⟨by rw [HT1.out, HT2.out, HT.out, HX.out]⟩, m + nq, by rw [← HW.out, World.drewN_drewN]⟩
          case measure => simp [intOf]; omega
        · have e3 : (s.toList == t.toList) = false := by rw [hsl, htl]; simp [hxy]
          have HX := Ho.mk (HNE.out hxy)
          clear hsl htl hxy
          go_wp2_with (fail)
          go_quiet (fail)
          go_wp2_with (fail)
          go_ret
          refine ⟨by rw [decide_eq_false HX.out]; rfl, ?_⟩
          rw [← HW.out]; exact ((Fr.refl nob w).drewN m).drewN nq
      · obtain rfl : l1.length = i := by omega
        have he : l1 = l2 := by
          have h := HT.out
          rwa [List.take_length, HL.out, List.take_length] at h
        have HE := Ho.mk he
        clear he HT
        go_wp2_with (fail)
        go_ret
        exact ⟨by rw [decide_eq_true HE.out]; rfl, (Fr.refl nob w).drewN m⟩
  · have e1 : (((l1.length : Int)) != ((l2.length : Int))) = true := by simp; omega
    have e2 : (l1.length != l2.length) = true := by simp [hlen]
    have HN := Ho.mk (show l1 ≠ l2 from fun e => hlen (by rw [e]))
    clear hlen
    go_enter Try.func57, Try.ntmps57
    go_wp2_with (fail)
    go_ret
    exact ⟨by rw [decide_eq_false HN.out]; rfl, Fr.refl nob w⟩

end Go.Proofs.Ytlbhfnjhhpcphaa
