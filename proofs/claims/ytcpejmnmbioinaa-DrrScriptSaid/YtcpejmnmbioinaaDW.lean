/-
  The reference ostiaryref21: Of, Len.
-/
import Derived.Test.YtcpejmnmbioinaaDV
import Derived.Test.YtcpejmnmbioinaaDI
namespace Go.Proofs.Ytcpejmnmbioinaa
open Go.RowKit
theorem of_at {st : Qs} {R : List RL} {n i : Int} (hr : st.ring = R.map (·.cl)) (h : atP R n i) : (i = -1 ∧ st.of n = 0) ∨ ∃ k : Nat, i = (k : Int) ∧ ∃ hk : k < R.length, R[k].cl.n = n ∧ st.of n = (R[k].cl.its.length : Int) := by
  rcases h with ⟨rfl, h⟩ | ⟨A, x, B, rfl, hx, hA, rfl⟩
  · left
    refine ⟨rfl, ?_⟩
    unfold Qs.of
    rw [hr, List.find?_map, List.find?_eq_none.2 (by intro x hx; simpa using h x hx)]
    rfl
  · right
    refine ⟨A.length, rfl, by simp, by simpa using hx, ?_⟩
    unfold Qs.of
    rw [hr, List.find?_map, List.find?_append, List.find?_eq_none.2 (by intro x hx; simpa using hA x hx), List.find?_cons_of_pos (by simpa using hx)]
    simp
set_option maxRecDepth 100000 in
set_option maxHeartbeats 2000000 in
theorem rOf_calls (D : Nat → Prop) (w : World) (r : Nat) (st : Qs) (n : Int) (hwf : st.wf) (h : RQ D w r st) :
    Calls Try.prog 27 #[.pointer (some ⟨r, 0, none⟩), .int .i64 n] w fun e w' => e = .returned (.int .i64 (st.of n)) ∧ Fr nob w w' := by
  obtain ⟨v, R, hh, hrow, hd, hri, hD, hst, _⟩ := h
  have hl : R.length ≤ 1024 := by
    have h1 := hwf.len; have h2 := hwf.cl.2
    rw [hst, List.length_map] at h1; omega
  have hat := at_calls w r n _ _ _ _ v st.turn R hh hrow (by omega)
  obtain ⟨ao, cap, rfl, hc1, hc2⟩ := row_shape hrow
  have hof := fun i (h : atP R n i) => of_at hst h
  obtain ⟨ln, hln⟩ : ∃ m, R.length = m := ⟨_, rfl⟩
  have HH := Ho.mk hh; have HR := Ho.mk hrow; have HOF := Ho.mk hof; have HLN := Ho.mk hln
  clear hh hrow hof hri hd hD hst hwf hln
  go_enter Try.func27, Try.ntmps27
  go_wp2_with (fail)
  refine hat.mono ?_
  clear hat
  rintro e w1 ⟨i, rfl, hat, hf⟩
  rcases HOF.out i hat with ⟨rfl, ho⟩ | ⟨k, rfl, hk, hn, ho⟩
  · have HO := Ho.mk ho
    clear ho hat
    go_wp2_with (fail)
    go_ret
    exact ⟨by rw [HO.out]; rfl, hf⟩
  · have HO := Ho.mk ho
    obtain ⟨g, cap', hv, l0, l1, l2, l3⟩ := row_line HR.out k hk
    injection hv with hv1 hv2 hv3
    subst hv1
    have hb1 := hf.block _ _ HH.out (fun h => h)
    have c4 : w1.cell? ⟨r, 4, none⟩ = some (.slice (some ⟨g, 0, none⟩) R.length cap) := blk_cell hb1 4
    have c3 := hf.cell (fun h => h) l3
    rw [HLN.out] at c4 hk
    have hd : decide ((k : Int) < 0) = false := decide_eq_false (by omega)
    clear ho hat hn l0 l1 l2 l3 hb1 hv2 hv3
    go_wp2_with (fail)
    go_ret
    exact ⟨by rw [HO.out]; rfl, hf⟩
end Go.Proofs.Ytcpejmnmbioinaa
