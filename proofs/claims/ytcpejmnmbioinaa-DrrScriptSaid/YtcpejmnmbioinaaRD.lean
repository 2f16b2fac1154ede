/-
  The reference ostiaryref21: Peek.
-/
import Derived.Test.YtcpejmnmbioinaaRC
namespace Go.Proofs.Ytcpejmnmbioinaa
open Go.RowKit
set_option maxRecDepth 100000 in
set_option maxHeartbeats 4000000 in
theorem rPeek_calls (D : Nat → Prop) (w : World) (r : Nat) (st : Qs) (hwf : st.wf) (h : RQ D w r st) (hD : ∀ k, w.heap.size ≤ k → D k) :
    Calls Try.prog 23 #[.pointer (some ⟨r, 0, none⟩)] w fun e w' => e = .returned (.tuple #[.int .i64 st.next.2.1, .int .i64 st.next.2.2.1, .bool st.next.2.2.2]) ∧ Fr nob w w' := by
  obtain ⟨v, R, hh, hrow, hd, hri, hDr, hst, hne⟩ := h
  obtain ⟨ao, cap, rfl, hc1, hc2⟩ := row_shape hrow
  have c0 : w.cell? ⟨r, 0, none⟩ = some (.int .i64 st.clients) := blk_cell hh 0
  have c1 : w.cell? ⟨r, 1, none⟩ = some (.int .i64 st.items) := blk_cell hh 1
  have c2 : w.cell? ⟨r, 2, none⟩ = some (.int .i64 st.quantum) := blk_cell hh 2
  have c3 : w.cell? ⟨r, 3, none⟩ = some (.int .i64 st.most) := blk_cell hh 3
  have c4 : w.cell? ⟨r, 4, none⟩ = some (.slice ao R.length cap) := blk_cell hh 4
  have hf := (Fr.refl nob w).alloc (.cells #[.int .i64 st.clients, .int .i64 st.items, .int .i64 st.quantum, .int .i64 st.most, .slice ao R.length cap] 72)
  have hb := blk_new w (.cells #[.int .i64 st.clients, .int .i64 st.items, .int .i64 st.quantum, .int .i64 st.most, .slice ao R.length cap] 72)
  have hq : RQ D (w.alloc (.cells #[.int .i64 st.clients, .int .i64 st.items, .int .i64 st.quantum, .int .i64 st.most, .slice ao R.length cap] 72)) w.heap.size st :=
    ⟨.slice ao R.length cap, R, hb, hf.row hrow, hd, fun x hx => ⟨(hri x hx).1.fr hf (fun _ _ _ _ h => h), (hri x hx).2⟩, hD _ (Nat.le_refl _), hst, hne⟩
  have hcall := rNext_calls D _ w.heap.size st hwf hq (fun k hk => hD k (Nat.le_trans hf.size hk))
  have HF := Ho.mk hf
  clear hh hrow hd hri hDr hst hne hf hb hq hwf hD
  obtain ⟨a1, h1⟩ : ∃ x, st.next.2.1 = x := ⟨_, rfl⟩
  obtain ⟨a2, h2⟩ : ∃ x, st.next.2.2.1 = x := ⟨_, rfl⟩
  obtain ⟨a3, h3⟩ : ∃ x, st.next.2.2.2 = x := ⟨_, rfl⟩
  rw [h1, h2, h3] at hcall ⊢
  clear h1 h2 h3
  go_enter Try.func23, Try.ntmps23
  go_wp2_with (fail)
  refine hcall.mono ?_
  clear hcall
  rintro e w1 ⟨rfl, _, hf1⟩
  have HF1 := Ho.mk (HF.out.call (S := nob) hf1 (fun k _ h => .inl (Nat.le_of_eq h.symm)))
  clear hf1
  go_wp2_with (fail)
  go_ret3
  exact ⟨rfl, HF1.out⟩
end Go.Proofs.Ytcpejmnmbioinaa
