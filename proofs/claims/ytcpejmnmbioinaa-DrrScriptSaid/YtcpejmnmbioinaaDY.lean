/-
  The reference ostiaryref21: Clients.
-/
import Derived.Test.YtcpejmnmbioinaaDX
import Derived.Test.YtcpejmnmbioinaaDJ
namespace Go.Proofs.Ytcpejmnmbioinaa
open Go.RowKit
set_option maxRecDepth 100000 in
set_option maxHeartbeats 2000000 in
theorem rClients_calls (D : Nat → Prop) (w : World) (r : Nat) (st : Qs) (hwf : st.wf) (h : RQ D w r st) :
    Calls Try.prog 28 #[.pointer (some ⟨r, 0, none⟩)] w fun e w' => ∃ ao cap, e = .returned (.slice ao st.ring.length cap) ∧
      w'.ownsRow w.heap.size 3 1 (.slice ao st.ring.length cap) st.ring.length (icells (st.ring.map (·.n))) ∧ Fr nob w w' := by
  obtain ⟨v, R, hh, hrow, hd, hri, hD, hst, _⟩ := h
  have hl : R.length ≤ 1024 := by
    have h1 := hwf.len; have h2 := hwf.cl.2
    rw [hst, List.length_map] at h1; omega
  have e1 : st.ring.length = R.length := by rw [hst, List.length_map]
  have e2 : st.ring.map (·.n) = R.map (fun x => x.cl.n) := by rw [hst, List.map_map]; rfl
  rw [e1, e2]
  obtain ⟨ao, cap, rfl, hc1, hc2⟩ := row_shape hrow
  have c4 : w.cell? ⟨r, 4, none⟩ = some (.slice ao R.length cap) := blk_cell hh 4
  obtain ⟨ln, hln⟩ : ∃ m, R.length = m := ⟨_, rfl⟩
  rw [hln] at c4 hc1 hl ⊢
  have HR := Ho.mk hrow; have HLN := Ho.mk hln; have HH := Ho.mk hh
  clear hh hrow hri hd hD hst hwf hln e1 e2 c4
  go_enter Try.func28, Try.ntmps28
  go_wp2_with (fail)
  go_loopw [3, 4] (fun so iv wr => ∃ (k : Nat) (ao' : Option Addr) (cap' : Nat), k ≤ ln ∧ iv = .int .i64 (k : Int) ∧ so = .slice ao' k cap' ∧
      Ho (wr.ownsRow w.heap.size 3 1 (.slice ao' k cap') k (icells ((R.take k).map fun x => x.cl.n))) ∧ Ho (Fr nob w wr)) (fun _ iv _ => ln - (intOf iv).toNat)
  case atStart => exact ⟨0, none, 0, by omega, rfl, rfl, Ho.mk (World.ownsRow_nil _ _ _ _), Ho.mk (Fr.refl _ _)⟩
  case round =>
    obtain ⟨k, ao', cap', hk, rfl, rfl, HOW, HF⟩ := hrel
    have hbr := HF.out.block _ _ HH.out (fun h => h)
    have c4 : wr.cell? ⟨r, 4, none⟩ = some (.slice ao R.length cap) := blk_cell hbr 4
    rw [HLN.out] at c4
    clear hbr
    by_cases hlt : k < ln
    · have hkl : k < R.length := by rw [HLN.out]; exact hlt
      obtain ⟨g, cap2, hv, l0, _⟩ := row_line HR.out k hkl
      injection hv with hv1 hv2 hv3
      subst hv1
      have hlt' : decide ((k : Int) < (ln : Int)) = true := decide_eq_true (by omega)
      have hlt'' : decide (k < ln) = true := decide_eq_true hlt
      have htk : R.take (k + 1) = R.take k ++ [R[k]] := List.take_succ_eq_append_getElem hkl
      have l0 := HF.out.cell (fun h => h) l0
      generalize R[k] = x at *
      have hnb := blk_new wr (.cells #[.int .i64 x.cl.n] 3)
      have hnf := (Fr.refl nob wr).alloc (.cells #[.int .i64 x.cl.n] 3)
      have hown := own_fr HOW.out hnf (fun _ _ h => h)
      have hcell : (wr.alloc (.cells #[.int .i64 x.cl.n] 3)).cell? ⟨wr.heap.size, 0, none⟩ = some (.int .i64 x.cl.n) := blk_cell hnb 0
      have hbase : w.heap.size ≤ (wr.alloc (.cells #[.int .i64 x.cl.n] 3)).heap.size := Nat.le_trans HF.out.size hnf.size
      have el : ((R.take k).map fun x => x.cl.n).length = k := by rw [List.length_map, List.length_take]; omega
      have hmn : min k R.length = k := by omega
      have HNF := Ho.mk hnf; have HOWN := Ho.mk hown; have HCELL := Ho.mk hcell; have HBASE := Ho.mk hbase; have HL := Ho.mk el; have HTK := Ho.mk htk
      clear hnb hnf hown hcell hbase el htk hv2 hv3
      go_wp2_with (at_builtin; refine wpList_append_int rfl _ _ rfl w.heap.size (.slice ao' k cap') ((R.take k).map fun x => x.cl.n) rfl (by rw [HL.out]; exact HOWN.out) wr.heap.size x.cl.n rfl HCELL.out (by rw [HL.out]; omega) HBASE.out ?_)
      intro ao2 cap3 w5 hown5 hg5
      try rw [HL.out] at hown5
      have hf5 : Fr nob w w5 := (HF.out.trans HNF.out).grown hg5 (fun k hk => .inl (own_new HOWN.out hk))
      have HO5 := Ho.mk hown5; have HF5 := Ho.mk hf5
      clear hown5 hg5 hf5
      try rw [HL.out]
      go_wp2_with (fail)
      go_roundw
      case rel =>
        refine ⟨k + 1, ao2, cap3, by omega, by go_num, by first | rfl | rw [hmn], Ho.mk ?_, HF5⟩
        rw [HTK.out, List.map_append, List.map_take]
        have h5 := HO5.out
        try rw [hmn] at h5
        exact h5
      case measure => simp [intOf]; omega
    · obtain rfl : k = ln := by omega
      have hlt' : decide ((k : Int) < (k : Int)) = false := decide_eq_false (by omega)
      have hall := HOW.out
      rw [List.take_of_length_le (by rw [HLN.out]; exact Nat.le_refl _)] at hall
      have HALL := Ho.mk hall
      clear hall HOW
      go_wp2_with (fail)
      go_ret
      exact ⟨ao', cap', rfl, HALL.out, HF.out⟩
end Go.Proofs.Ytcpejmnmbioinaa
