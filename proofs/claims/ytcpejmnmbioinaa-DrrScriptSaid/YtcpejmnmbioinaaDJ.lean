/-
  package drr: Clients.
-/
import Derived.Test.YtcpejmnmbioinaaDI
namespace Go.Proofs.Ytcpejmnmbioinaa
open Go.RowKit
/-- A pointer to the first one's element. -/
def ptE (R : List El) : Value := PtHead (R.map fun x => x.e)
theorem ptE_val (R : List El) : PtHead ((R.map valE).map (·.1)) = ptE R := by unfold ptE; rw [List.map_map]; rfl
theorem ptE_nil : ptE [] = .pointer none := rfl
theorem ptE_cons (x : El) (R : List El) : ptE (x :: R) = .pointer (some ⟨x.e, 0, none⟩) := rfl
def lenV (v : Value) : Nat := match v with | .slice _ n _ => n | _ => 0
set_option maxRecDepth 100000 in
set_option maxHeartbeats 1000000 in
theorem clients_calls (D : Nat → Prop) (w : World) (q : Nat) (st : Qs) (h : QS D w q st) :
    Calls Try.prog 15 #[.pointer (some ⟨q, 0, none⟩)] w fun r w' => ∃ ao cap, r = .returned (.slice ao st.ring.length cap) ∧
      w'.ownsRow w.heap.size 3 1 (.slice ao st.ring.length cap) st.ring.length (icells (st.ring.map (·.n))) ∧ Fr nob w w' := by
  obtain ⟨hwf, bl, mp, E, hQ, _⟩ := h
  have hel : E.length ≤ 1024 := by
    have h1 := hwf.len; have h2 := hwf.cl.2
    rw [hQ.st, List.length_map] at h1; omega
  have e1 : st.ring.length = E.length := by rw [hQ.st, List.length_map]
  have e2 : st.ring.map (·.n) = E.map (fun x => x.cl.n) := by rw [hQ.st, List.map_map]; rfl
  rw [e1, e2]
  have hcall := none_calls q bl w hQ.cells.2.2.2.2.1
  have q4 := hQ.cells.2.2.2.2.1
  have hfront := chain_front_calls bl _ w hQ.ring
  rw [ptE_val] at hfront
  have HQ := Ho.mk hQ
  have HEL := Ho.mk hel
  clear hQ hwf e1 e2 hel
  go_enter Try.func15, Try.ntmps15
  go_wp2_with (fail)
  refine hcall.mono ?_
  clear hcall
  rintro r w' ⟨rfl, rfl⟩
  go_wp2_with (fail)
  refine hfront.mono ?_
  clear hfront
  rintro r w3 ⟨rfl, rfl⟩
  obtain ⟨w, rfl⟩ : ∃ w : World, w = w' := ⟨_, rfl⟩
  go_wp2_with (fail)
  go_loopw [3, 4] (fun so se wr => ∃ (A R : List El) (ao : Option Addr) (cap : Nat), Ho (E = A ++ R) ∧ so = .slice ao A.length cap ∧ se = ptE R ∧
      Ho (wr.ownsRow w.heap.size 3 1 (.slice ao A.length cap) A.length (icells (A.map fun x => x.cl.n))) ∧ Ho (Fr nob w wr))
    (fun so _ _ => E.length - lenV so)
  case atStart => exact ⟨[], E, none, 0, Ho.mk rfl, rfl, rfl, Ho.mk (World.ownsRow_nil _ _ _ _), Ho.mk (Fr.refl _ _)⟩
  case round =>
    obtain ⟨A, R, ao, cap, HE, rfl, rfl, HOW, HF⟩ := hrel
    cases R with
    | nil =>
      rw [ptE_nil]
      go_wp2_with (fail)
      go_ret
      have e : E = A := by rw [HE.out, List.append_nil]
      rw [e]
      exact ⟨ao, cap, rfl, HOW.out, HF.out⟩
    | cons x R =>
      rw [ptE_cons]
      have hQr := HQ.out.fr HF.out (fun _ _ h => h)
      have hxE : x ∈ E := by rw [HE.out]; simp
      obtain ⟨na, nb, hnode⟩ := hQr.ring.node (valE x) (List.mem_map_of_mem hxE)
      have hof := of_calls x.e x.c wr na nb _ hnode
      have c0 : wr.cell? ⟨x.c, 0, none⟩ = some (.int .i64 x.cl.n) := blk_cell (hQr.cls x hxE).1 0
      have HQr := Ho.mk hQr
      clear hQr hxE hnode
      go_wp2_with (fail)
      refine hof.mono ?_
      clear hof
      rintro r w' ⟨rfl, rfl⟩
      unfold Pt
      obtain ⟨wr, rfl⟩ : ∃ wr : World, wr = w' := ⟨_, rfl⟩
      have hnb := blk_new wr (.cells #[.int .i64 x.cl.n] 3)
      have hnf := (Fr.refl nob wr).alloc (.cells #[.int .i64 x.cl.n] 3)
      have hown := own_fr HOW.out hnf (fun _ _ h => h)
      have hcell : (wr.alloc (.cells #[.int .i64 x.cl.n] 3)).cell? ⟨wr.heap.size, 0, none⟩ = some (.int .i64 x.cl.n) := blk_cell hnb 0
      have hbase : w.heap.size ≤ (wr.alloc (.cells #[.int .i64 x.cl.n] 3)).heap.size := Nat.le_trans HF.out.size hnf.size
      have hAl : A.length ≤ 100000 := by
        have h1 := HEL.out; rw [HE.out, List.length_append] at h1; omega
      have el : (A.map fun x => x.cl.n).length = A.length := List.length_map _
      have HNF := Ho.mk hnf; have HOWN := Ho.mk hown; have HCELL := Ho.mk hcell; have HBASE := Ho.mk hbase; have HAL := Ho.mk hAl; have HL := Ho.mk el
      clear hnb hnf hown hcell hbase hAl el
      go_wp2_with (at_builtin; refine wpList_append_int rfl _ _ rfl w.heap.size (.slice ao A.length cap) (A.map fun x => x.cl.n) rfl (by rw [HL.out]; exact HOWN.out) wr.heap.size x.cl.n rfl HCELL.out (by rw [HL.out]; exact HAL.out) HBASE.out ?_)
      intro ao2 cap2 w5 hown5 hg5
      try rw [HL.out] at hown5
      have hf5 : Fr nob w w5 := (HF.out.trans HNF.out).grown hg5 (fun k hk => .inl (own_new HOWN.out hk))
      have hE2 : E = (A ++ [x]) ++ R := by rw [HE.out]; simp
      have hQ5 := HQ.out.fr hf5 (fun _ _ h => h)
      have hnext := chain_next_calls bl x.e (.iface 60 (Pt x.c)) (A.map valE) (R.map valE) w5 (by
        have := hQ5.ring; rw [HE.out, List.map_append, List.map_cons] at this; exact this)
      rw [ptE_val] at hnext
      have HO5 := Ho.mk hown5; have HF5 := Ho.mk hf5; have HE2 := Ho.mk hE2
      clear hown5 hg5 hf5 hQ5 hE2
      try rw [HL.out]
      go_wp2_with (fail)
      refine hnext.mono ?_
      clear hnext
      rintro r w6 ⟨rfl, n, rfl⟩
      go_wp2_with (fail)
      go_roundw
      case rel =>
        refine ⟨A ++ [x], R, ao2, cap2, HE2, by simp, rfl, Ho.mk ?_, Ho.mk (HF5.out.drewN _)⟩
        have h1 := own_fr HO5.out ((Fr.refl nob w5).drewN n) (fun _ _ h => h)
        simpa using h1
      case measure =>
        have h1 := congrArg List.length HE.out
        simp only [List.length_append, List.length_cons] at h1
        simp only [lenV]
        omega
end Go.Proofs.Ytcpejmnmbioinaa
