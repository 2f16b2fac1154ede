/-
  package drr: New, Len; a scheduler that is new.
-/
import Derived.Test.YtcpejmnmbioinaaD9
import Derived.Carry
namespace Go.Proofs.Ytcpejmnmbioinaa
open Go.RowKit
def Qs.new (clients items quantum most : Int) : Qs := ⟨clients, items, quantum, most, [], false⟩
theorem Qs.wf.new {clients items quantum most : Int} (h1 : 1 ≤ clients ∧ clients ≤ 1024) (h2 : 1 ≤ items ∧ items ≤ 64) (h3 : most ≤ quantum ∧ quantum ≤ 4096) (h4 : 1 ≤ most) : (Qs.new clients items quantum most).wf :=
  ⟨h1, h2, h3, h4, by show ((0 : Nat) : Int) ≤ clients; omega, by simp [Qs.new], fun c hc => by simp [Qs.new] at hc, fun c hc => by simp [Qs.new] at hc, fun c hc => by simp [Qs.new] at hc, fun c hc => by simp [Qs.new] at hc⟩
set_option maxRecDepth 100000 in
theorem new_calls (D : Nat → Prop) (w : World) (clients items quantum most : Int) (h1 : 1 ≤ clients ∧ clients ≤ 1024) (h2 : 1 ≤ items ∧ items ≤ 64) (h3 : most ≤ quantum ∧ quantum ≤ 4096) (h4 : 1 ≤ most) (hD : ∀ k, w.heap.size ≤ k → D k) :
    Calls Try.prog 11 #[.int .i64 clients, .int .i64 items, .int .i64 quantum, .int .i64 most] w fun r w' => ∃ q, r = .returned (.tuple #[Pt q, .int .i64 0]) ∧ w.heap.size ≤ q ∧ QS D w' q (Qs.new clients items quantum most) ∧ Fr nob w w' := by
  have d1 : decide (clients < 1) = false := decide_eq_false (by omega)
  have d2 : decide (1024 < clients) = false := decide_eq_false (by omega)
  have d3 : decide (items < 1) = false := decide_eq_false (by omega)
  have d4 : decide (64 < items) = false := decide_eq_false (by omega)
  have d5 : decide (quantum < 1) = false := decide_eq_false (by omega)
  have d6 : decide (4096 < quantum) = false := decide_eq_false (by omega)
  have d7 : decide (most < 1) = false := decide_eq_false (by omega)
  have d8 : decide (quantum < most) = false := decide_eq_false (by omega)
  have hwf := Qs.wf.new h1 h2 h3 h4
  have HWF := Ho.mk hwf; have HD := Ho.mk hD
  clear hwf hD h1 h2 h3 h4
  have hcall := chain_new_calls w
  go_enter Try.func11, Try.ntmps11
  go_wp2_with (fail)
  refine hcall.mono ?_
  clear hcall
  rintro r w1 ⟨bl, hbl, rfl, h1, f1⟩
  unfold Pt
  have hmk := @run_makeMap Try.prog
  have hbl1 : bl < w1.heap.size := h1.lt (.inl rfl)
  have H1 := Ho.mk h1; have F1 := Ho.mk f1; have HBL := Ho.mk hbl; have HBL1 := Ho.mk hbl1
  clear h1 f1 hbl hbl1
  go_wp2_with (fail)
  go_ret2
  have hm2 := MapF.new (kv := ikey) w1
  have hf2 := (Fr.refl nob w1).alloc (.map #[] 0)
  have h2 := H1.out.same hf2
  generalize hw2 : w1.alloc (.map #[] 0) = w2 at *
  have hmlt := hm2.lt
  have hsz2 : w2.heap.size = w1.heap.size + 1 := by rw [← hw2]; simp
  have hb3 := blk_new w2 (.cells (headCells (Qs.new clients items quantum most) bl w1.heap.size (total (Qs.new clients items quantum most).ring : Nat)) 52)
  have hf3 := (Fr.refl nob w2).alloc (.cells (headCells (Qs.new clients items quantum most) bl w1.heap.size (total (Qs.new clients items quantum most).ring : Nat)) 52)
  have h3 := h2.same hf3
  have hm3 := hm2.fr hf3 (fun h => h)
  have hs1 := F1.out.size
  have hs2 := hf2.size
  refine ⟨w2.heap.size, by rw [hsz2]; rfl, by omega, ⟨HWF.out, bl, w1.heap.size, [], ⟨hb3, h3, by simp, hm3, by simp, rfl⟩, ?_⟩, (F1.out.trans hf2).trans hf3⟩
  intro k hk
  apply HD.out
  rcases hk with rfl | rfl | hk | ⟨x, hx, _⟩
  · omega
  · exact hs1
  · rcases hk with rfl | hk
    · exact Nat.le_of_eq HBL.out
    · simp at hk
  · simp at hx
theorem len_calls (D : Nat → Prop) (w : World) (q : Nat) (st : Qs) (h : QS D w q st) :
    Calls Try.prog 19 #[.pointer (some ⟨q, 0, none⟩)] w fun r w' => r = .returned (.int .i64 (total st.ring : Nat)) ∧ w' = w := by
  obtain ⟨_, bl, mp, E, hQ, _⟩ := h
  obtain ⟨q0, q1, q2, q3, q4, q5, q6, q7⟩ := hQ.cells
  have hcall := none_calls q bl w q4
  clear hQ
  go_enter Try.func19, Try.ntmps19
  go_wp2_with (fail)
  refine hcall.mono ?_
  clear hcall
  rintro r w' ⟨rfl, rfl⟩
  go_wp2_with (fail)
  go_ret
  exact ⟨rfl, rfl⟩
theorem QS.weak {D D' : Nat → Prop} {w : World} {q : Nat} {st : Qs} (h : QS D w q st) (hD : ∀ k, k < w.heap.size → D k → D' k) : QS D' w q st := by
  obtain ⟨hwf, bl, mp, E, hQ, hO⟩ := h
  exact ⟨hwf, bl, mp, E, hQ, fun k hk => hD k (hQ.lt hk) (hO k hk)⟩
theorem QS.fr {D S : Nat → Prop} {w w' : World} {q : Nat} {st : Qs} (h : QS D w q st) (hf : Fr S w w') (hS : ∀ k, D k → ¬ S k) : QS D w' q st := by
  obtain ⟨hwf, bl, mp, E, hQ, hO⟩ := h
  exact ⟨hwf, bl, mp, E, hQ.fr hf (fun k hk => hS k (hO k hk)), hO⟩
end Go.Proofs.Ytcpejmnmbioinaa
