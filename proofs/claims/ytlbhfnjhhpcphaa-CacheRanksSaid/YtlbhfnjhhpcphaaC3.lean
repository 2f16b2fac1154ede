/-
  package chain: the contracts of New, PushBack, Remove and MoveToBack.
-/
import Derived.Test.YtlbhfnjhhpcphaaC2
namespace Go.Proofs.Ytlbhfnjhhpcphaa
open Go.RowKit
set_option maxRecDepth 100000 in
theorem chain_new_calls (w : World) :
    Calls Try.prog 47 #[] w fun r w' => ∃ bl, w.heap.size = bl ∧ r = .returned (Pt bl) ∧ Ring w' bl [] ∧ Fr nob w w' := by
  go_enter Try.func47, Try.ntmps47
  go_wp2
  have hb := blk_new w (.cells #[.nilIface, .pointer none, .pointer none, .pointer none, .int .i64 0] 117 (0, 0))
  have hfr := (Fr.refl nob w).alloc (.cells #[.nilIface, .pointer none, .pointer none, .pointer none, .int .i64 0] 117 (0, 0))
  generalize hw4 : (w.alloc _) = w4 at *
  have hsz : w.heap.size < w4.heap.size := lt_of_blk hb
  obtain ⟨bl, hbl⟩ : ∃ bl, w.heap.size = bl := ⟨_, rfl⟩
  rw [hbl] at hb hsz ⊢
  have e1 := blk_cell hb 1
  have e2 := blk_cell hb 2
  have f1 := blk_free hb 1
  have f2 := blk_free hb 2
  have HB := Ho.mk hb; have HF := Ho.mk hfr; have HBL := Ho.mk hbl; have HW := Ho.mk hw4; have HSZ := Ho.mk hsz
  clear hb hfr hbl hw4 hsz
  go_region
  go_wp2
  go_ret
  have hs1 := blk_set (blk_set HB.out 1 (Pt bl)) 2 (Pt bl)
  refine ⟨bl, HBL.out, rfl, ⟨⟨_, _, hs1⟩, fun x hx => absurd hx (by simp), by simp, ?_⟩, ?_⟩
  · refine ⟨blk_cell hs1 2, blk_cell hs1 1, trivial⟩
  · exact ((HF.out.set (p := ⟨bl, 1, none⟩) (.inl (Nat.le_of_eq HBL.out)) _).set (p := ⟨bl, 2, none⟩) (.inl (Nat.le_of_eq HBL.out)) _).drew
theorem Ring.same {w w' : World} {bl : Nat} {L : List (Nat × Value)} (h : Ring w bl L) (hf : Fr nob w w') : Ring w' bl L := h.fr hf fun _ _ h => h
set_option maxRecDepth 100000 in
theorem chain_push_calls (bl : Nat) (t : TypeId) (x : Value) (L : List (Nat × Value)) (w : World) (h : Ring w bl L) (hlen : L.length < 2 ^ 40) :
    Calls Try.prog 60 #[.pointer (some ⟨bl, 0, none⟩), .iface t x] w fun r w' => ∃ e, r = .returned (Pt e) ∧ w.heap.size ≤ e ∧ Ring w' bl (L ++ [(e, .iface t x)]) ∧ Fr (RingB bl L) w w' := by
  have HR := Ho.mk h; clear h
  go_enter Try.func60, Try.ntmps60
  go_wp2_with (fail)
  have hb := blk_new w (.cells #[.iface t x, .pointer none, .pointer none, Pt bl] 115 (0, 0))
  have hfr := (Fr.refl nob w).alloc (.cells #[.iface t x, .pointer none, .pointer none, Pt bl] 115 (0, 0))
  unfold Pt at hb hfr
  generalize hw4 : (w.alloc _) = w4 at *
  have hr4 := HR.out.same hfr
  have hlt : ∀ k, RingB bl L k → k < w.heap.size := fun k hk => HR.out.lt hk
  have hcall := chain_last_calls bl w.heap.size (.iface t x) (.pointer none) (.pointer none) L w4 hr4 hlen hb (fun hm => absurd (hlt _ (.inr hm)) (by omega))
  obtain ⟨e, he⟩ : ∃ e, w.heap.size = e := ⟨_, rfl⟩
  rw [he] at hcall hlt
  try rw [he]
  have HF := Ho.mk hfr; have HE := Ho.mk he; have HW := Ho.mk hw4; have HLT := Ho.mk hlt
  clear hfr he hw4 hlt hb hr4
  refine hcall.mono ?_
  clear hcall
  rintro r w5 ⟨rfl, h5, f5⟩
  have H5 := Ho.mk h5; have F5 := Ho.mk f5
  clear h5 f5
  go_wp2
  go_ret
  refine ⟨e, rfl, Nat.le_of_eq HE.out, H5.out, ?_⟩
  refine (HF.out.mono (S' := RingB bl L) (fun _ _ h => h.elim)).call F5.out ?_
  rintro i _ (h1 | rfl)
  · exact .inr h1
  · exact .inl (Nat.le_of_eq HE.out)
theorem ringB_mid (bl e : Nat) (v : Value) (L1 L2 : List (Nat × Value)) (k : Nat) : RingB bl (L1 ++ (e, v) :: L2) k ↔ RingB bl (L1 ++ L2) k ∨ k = e := by
  simp only [RingB, List.map_append, List.map_cons, List.mem_append, List.mem_cons]
  constructor
  · rintro (h | h | h | h) <;> simp [h]
  · rintro ((h | h | h) | h) <;> simp [h]
set_option maxRecDepth 100000 in
theorem chain_remove_calls (bl e : Nat) (v : Value) (L1 L2 : List (Nat × Value)) (w : World) (h : Ring w bl (L1 ++ (e, v) :: L2)) (hlen : (L1 ++ (e, v) :: L2).length < 2 ^ 40) :
    Calls Try.prog 59 #[.pointer (some ⟨bl, 0, none⟩), .pointer (some ⟨e, 0, none⟩)] w fun r w' => r = .returned (.tuple #[]) ∧ Ring w' bl (L1 ++ L2) ∧ Fr (RingB bl (L1 ++ (e, v) :: L2)) w w' := by
  obtain ⟨a, b, hnode⟩ := h.node (e, v) (by simp)
  have q3 : w.cell? ⟨e, 3, none⟩ = some (.pointer (some ⟨bl, 0, none⟩)) := blk_cell hnode 3
  have he := eqL_same w ⟨bl, 0, none⟩
  have hcall := chain_out_calls bl e v L1 L2 w h hlen
  have hE : e ∉ (L1 ++ L2).map (·.1) ∧ e ≠ bl := by
    have h1 := h.nodup
    have h2 := h.root_ne
    rw [List.map_append, List.map_cons, List.nodup_append, List.nodup_cons] at h1
    rw [List.map_append, List.map_cons] at h2
    refine ⟨fun hm => ?_, fun hm => h2 (by rw [hm]; simp)⟩
    rw [List.map_append] at hm
    rcases List.mem_append.1 hm with hm | hm
    · exact h1.2.2 e hm e (by simp) rfl
    · exact h1.2.1.1 hm
  have HE := Ho.mk hE
  clear h hnode hE
  go_enter Try.func59, Try.ntmps59
  go_wp2_with (fail)
  refine hcall.mono ?_
  clear hcall he q3
  rintro r w5 ⟨rfl, h5, ⟨a', b', hn⟩, f5⟩
  have g3 : w5.cell? ⟨e, 3, none⟩ = some (.pointer (some ⟨bl, 0, none⟩)) := blk_cell hn 3
  have g4 := blk_free hn 3
  have H5 := Ho.mk h5; have F5 := Ho.mk f5
  clear h5 f5 hn
  go_wp2
  go_end0
  refine ⟨rfl, ?_, ?_⟩
  · refine H5.out.fr (S := fun k => k = e) ((Fr.refl (fun k => k = e) w5).set (p := ⟨e, 3, none⟩) (.inr rfl) _) ?_
    rintro k hk rfl
    rcases hk with h1 | h1
    · exact HE.out.2 h1
    · exact HE.out.1 h1
  · exact F5.out.set (p := ⟨e, 3, none⟩) (.inr (.inr (by simp))) _
set_option maxRecDepth 100000 in
theorem chain_move_calls (bl e : Nat) (v : Value) (L1 L2 : List (Nat × Value)) (w : World) (h : Ring w bl (L1 ++ (e, v) :: L2)) (hlen : (L1 ++ (e, v) :: L2).length < 2 ^ 40) :
    Calls Try.prog 62 #[.pointer (some ⟨bl, 0, none⟩), .pointer (some ⟨e, 0, none⟩)] w fun r w' => r = .returned (.tuple #[]) ∧ Ring w' bl (L1 ++ L2 ++ [(e, v)]) ∧ Fr (RingB bl (L1 ++ (e, v) :: L2)) w w' := by
  obtain ⟨a, b, hnode⟩ := h.node (e, v) (by simp)
  have q3 : w.cell? ⟨e, 3, none⟩ = some (.pointer (some ⟨bl, 0, none⟩)) := blk_cell hnode 3
  have he := eqL_same w ⟨bl, 0, none⟩
  have hcall := chain_out_calls bl e v L1 L2 w h hlen
  have hE : e ∉ (L1 ++ L2).map (·.1) := by
    have h1 := h.nodup
    rw [List.map_append, List.map_cons, List.nodup_append, List.nodup_cons] at h1
    intro hm
    rw [List.map_append] at hm
    rcases List.mem_append.1 hm with hm | hm
    · exact h1.2.2 e hm e (by simp) rfl
    · exact h1.2.1.1 hm
  have HE := Ho.mk hE
  clear h hnode hE
  go_enter Try.func62, Try.ntmps62
  go_wp2_with (fail)
  refine hcall.mono ?_
  clear hcall he q3
  rintro r w5 ⟨rfl, h5, ⟨a', b', hn⟩, f5⟩
  have hcall := chain_last_calls bl e v a' b' (L1 ++ L2) w5 h5 (by simp at hlen ⊢; omega) hn HE.out
  have F5 := Ho.mk f5
  clear h5 f5 hn
  go_wp2_with (fail)
  refine hcall.mono ?_
  clear hcall
  rintro r w6 ⟨rfl, h6, f6⟩
  have H6 := Ho.mk h6; have F6 := Ho.mk f6
  clear h6 f6
  go_wp2
  go_end0
  refine ⟨rfl, H6.out, F5.out.trans (F6.out.mono ?_)⟩
  intro k _ hk
  exact (ringB_mid bl e v L1 L2 k).2 hk
end Go.Proofs.Ytlbhfnjhhpcphaa
