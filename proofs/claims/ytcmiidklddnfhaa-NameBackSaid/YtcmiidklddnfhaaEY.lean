/-
  NameChecks: the walk.
-/
import Derived.Test.YtcmiidklddnfhaaEX
namespace Go.Proofs.Ytcmiidklddnfhaa
open Go.RowKit
theorem LT_strs {w : World} {g : Nat} {l : List Bs} (h : w.heap[g]? = some (.cells (strs (LT l)).toArray 9 (0, 0))) : IsStrs w (.slice (some ⟨g, 0, none⟩) l.length (l.length + 3)) l := by
  refine ⟨_, _, rfl, fun i hi => ⟨g, 0, rfl, ?_⟩⟩
  rw [blk_cell h, Nat.zero_add]
  unfold LT lentAt strs
  have h3 : i < l.length + 3 := by omega
  simp [hi, h3]
set_option maxRecDepth 100000 in
set_option maxHeartbeats 4000000 in
theorem NameChecks_walk (n : Bs) (a1 : Option Addr) (cap1 : Nat) (L : List Bs) (w : World) (hv : IsStrs w (.slice a1 L.length cap1) L) (hcap : L.length ≤ maxLen) (hn : n.length ≤ maxLen) :
    Calls Try.prog 3 #[.string (mk n), .slice a1 L.length cap1] w (BoolPost w true) := by
  unfold maxLen at hcap hn
  by_cases g0 : 400 < n.length
  · have k0 : decide ((400 : Int) < ((mk n).size : Int)) = true := decide_eq_true (by rw [mk_size]; omega)
    have k0' : decide (400 < (mk n).size) = true := decide_eq_true (by rw [mk_size]; omega)
    clear hv g0
    go_enter Try.func3, Try.ntmps3
    go_wp2_with (fail)
    go_ret
    exact ⟨rfl, Fr.refl _ _⟩
  · have k0 : decide ((400 : Int) < ((mk n).size : Int)) = false := decide_eq_false (by rw [mk_size]; omega)
    have k0' : decide (400 < (mk n).size) = false := decide_eq_false (by rw [mk_size]; omega)
    by_cases g1 : 300 < L.length
    · have k1 : decide ((300 : Int) < (L.length : Int)) = true := decide_eq_true (by omega)
      have k1' : decide (300 < L.length) = true := decide_eq_true (by omega)
      clear hv g0 g1
      go_enter Try.func3, Try.ntmps3
      go_wp2_with (fail)
      go_ret
      exact ⟨rfl, Fr.refl _ _⟩
    · have k1 : decide ((300 : Int) < (L.length : Int)) = false := decide_eq_false (by omega)
      have k1' : decide (300 < L.length) = false := decide_eq_false (by omega)
      have hlong := long_calls _ L w hv (by omega)
      have HV := Ho.mk hv
      have hn4 : n.length ≤ 100000 := by omega
      have hl3 : L.length ≤ 100000 := by omega
      obtain ⟨lo, hlo⟩ : ∃ b, (L.any fun x => decide (100 < x.length)) = b := ⟨_, rfl⟩
      rw [hlo] at hlong
      clear hv g0 g1 hlo
      cases lo with
      | true =>
        go_enter Try.func3, Try.ntmps3
        go_wp2_with (fail)
        refine hlong.mono ?_
        clear hlong
        rintro r w' ⟨rfl, hf⟩
        go_wp2_with (fail)
        go_ret
        exact ⟨rfl, hf⟩
      | false =>
        go_enter Try.func3, Try.ntmps3
        go_wp2_with (fail)
        refine hlong.mono ?_
        clear hlong
        rintro r w1 ⟨rfl, hf1⟩
        have HF1 := Ho.mk hf1
        have hlent := LentTexts_calls _ L w1 hl3 (HV.out.same hf1)
        clear hf1
        go_wp2_with (fail)
        refine hlent.mono ?_
        clear hlent
        rintro r w2 ⟨g, rfl, hg, hh2, hf2⟩
        have HH2 := Ho.mk hh2; have HF2 := Ho.mk (HF1.out.trans hf2)
        clear hh2 hf2
        go_wp2_with (fail)
        refine (Labels_calls n w2 hn4).mono ?_
        rintro r w3 ⟨va, rfl, hown3, hq3, hf3⟩
        obtain ⟨aa, acap, rfl⟩ := own_shape hown3
        obtain ⟨ll, en, hle⟩ : ∃ ll en, labels n = (ll, en) := ⟨_, _, rfl⟩
        have hll := labels_len n
        rw [hle] at hown3 hq3 hll ⊢
        simp only at hown3 hq3 hll ⊢
        have HO3 := Ho.mk hown3; have HQ3 := Ho.mk hq3; have HF3 := Ho.mk hf3; have HLE := Ho.mk hle
        have hgw2 : g < w2.heap.size := lt_of_blk HH2.out
        clear hown3 hq3 hf3 hle
        have hll2 : ll.length ≤ 100000 := by omega
        go_wp2_with (fail)
        refine (rLabels_calls n w3 hn4).mono ?_
        rintro r w4 ⟨vb, rfl, hown4, hf4⟩
        obtain ⟨ba, bcap, rfl⟩ := own_shape hown4
        rw [HLE.out] at hown4 ⊢
        simp only at hown4 ⊢
        have HS4 := Ho.mk (own_strs hown4)
        have HG4 := Ho.mk hf4
        clear hown4 hf4
        go_wp2_with (fail)
        have hin4 := LT_strs (HG4.out.block _ _ (HF3.out.block _ _ HH2.out (fun h => h)) (fun h => h))
        refine (Join_calls _ L w4 hin4 hl3).mono ?_
        clear hin4
        rintro r w5 ⟨rfl, hf5⟩
        have HG5 := Ho.mk (HG4.out.trans hf5)
        have HS5 := Ho.mk (HS4.out.same hf5)
        clear hf5
        go_wp2_with (fail)
        have hfw5 : Fr nob w w5 := (HF2.out.trans HF3.out).trans HG5.out
        refine (rJoin_calls _ L w5 (HV.out.same hfw5) hl3).mono ?_
        clear hfw5
        rintro r w6 ⟨rfl, hf6⟩
        have HG6 := Ho.mk (HG5.out.trans hf6)
        have HS6 := Ho.mk (HS5.out.same hf6)
        clear hf6
        obtain ⟨jb, je, hje⟩ : ∃ b e, joinP L = (b, e) := ⟨_, _, rfl⟩
        rw [hje]
        simp only
        unfold str
        generalize mk jb = tj at *
        clear hje
        have hown6 : w6.ownsRow w2.heap.size 9 1 (.slice aa ll.length acap) ll.length (ll.map str) := row_fr HO3.out HG6.out (fun _ _ _ h => h.elim)
        have hsame := SameTexts_calls (.slice aa ll.length acap) (.slice ba ll.length bcap) ll ll w6 (own_strs hown6) HS6.out (by omega) (by omega)
        rw [decide_eq_true rfl] at hsame
        have hQ6 : AllQ IsStr 9 w6 (.slice aa ll.length acap) := allQ_fr HQ3.out HO3.out HG6.out (fun _ _ _ h => h.elim)
        have HO6 := Ho.mk hown6; have HQ6 := Ho.mk hQ6
        have e1 : (en == en) = true := by simp
        have e2 : (je == je) = true := by simp
        have e3 : (tj.toList == tj.toList) = true := by simp
        have e4 : ((ll.length : Int) == (ll.length : Int)) = true := by simp
        have e5 : (ll.length == ll.length) = true := by simp
        clear hown6 hQ6
        go_wp2_with (fail)
        refine hsame.mono ?_
        clear hsame
        rintro r w7 ⟨rfl, hf7⟩
        have HG7 := Ho.mk (HG6.out.trans hf7); have HF67 := Ho.mk hf7
        clear hf7
        go_wp2_with (fail)
        refine (Check_calls n w7 hn4).mono ?_
        rintro r w8 ⟨rfl, hf8⟩
        rw [HLE.out]
        go_wp2_with (fail)
        refine (rCheck_calls n w8 hn4).mono ?_
        rintro r w9 ⟨rfl, hf9⟩
        rw [HLE.out]
        go_wp2_with (fail)
        refine (Count_calls n w9 hn4).mono ?_
        rintro r w10 ⟨rfl, hf10⟩
        rw [HLE.out]
        have HF610 := Ho.mk (((HF67.out.trans hf8).trans hf9).trans hf10)
        clear hf8 hf9 hf10
        simp only
        go_wp2_with (fail)
        have hown10 : w10.ownsRow w2.heap.size 9 1 (.slice aa ll.length acap) ll.length (ll.map str) := row_fr HO6.out HF610.out (fun _ _ _ h => h.elim)
        have hover := OverTexts_calls aa ll.length acap _ _ w10 (by
          rcases HO6.out.2 with ⟨h, _⟩ | ⟨_, c', _, h, _, _, _, h2, _⟩
          · injection h with _ _ h; omega
          · injection h with _ _ h; unfold maxLen at h2; omega) hown10 (allQ_fr HQ6.out HO6.out HF610.out (fun _ _ _ h => h.elim))
        have HOWN10 := Ho.mk hown10
        refine hover.mono ?_
        clear hover hown10
        rintro r w11 ⟨rfl, hf11⟩
        have hfar : ∀ k, (Value.slice aa ll.length acap).ownBlock = some k → w2.heap.size ≤ k := fun k hk => by
          rcases HOWN10.out.2 with ⟨h, _⟩ | ⟨g', c', cur, h, hg', _⟩
          · rw [h] at hk; simp [Value.ownBlock] at hk
          · rw [h] at hk; simp only [Value.ownBlock, Option.some.injEq] at hk; omega
        have hfw10 : Fr nob w w10 := ((HF2.out.trans HF3.out).trans HG6.out).trans HF610.out
        have hg10 : w10.heap[g]? = some (.cells (strs (LT L)).toArray 9 (0, 0)) := HF610.out.block _ _ (HG6.out.block _ _ (HF3.out.block _ _ HH2.out (fun h => h)) (fun h => h)) (fun h => h)
        have hg11 := hf11.block _ _ hg10 (fun h => by have := hfar _ h; omega)
        have hw2 := HF2.out.size
        have hfw11 : Fr nob w w11 := hfw10.call hf11 (fun i _ hi => .inl (by have := hfar _ hi; omega))
        have hkept := KeptTexts_calls g _ L w11 hl3 hg11 (HV.out.same hfw11)
        have HFW11 := Ho.mk hfw11
        clear hf11 hfar hfw10 hg10 hg11 hw2 hfw11
        go_wp2_with (fail)
        refine hkept.mono ?_
        clear hkept
        rintro r w12 ⟨rfl, hf12⟩
        go_wp2_with (fail)
        refine (awake_calls w12).mono ?_
        rintro r w13 ⟨rfl, hf13⟩
        go_wp2_with (fail)
        go_ret
        exact ⟨rfl, (HFW11.out.trans hf12).trans hf13⟩
end Go.Proofs.Ytcmiidklddnfhaa
