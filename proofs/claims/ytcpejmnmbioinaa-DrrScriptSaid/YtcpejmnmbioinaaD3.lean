/-
  package drr: Put.
-/
import Derived.Test.YtcpejmnmbioinaaD2
namespace Go.Proofs.Ytcpejmnmbioinaa
open Go.RowKit
theorem mid_find (A B : List El) (x : El) (hA : ∀ a ∈ A, a.cl.n ≠ x.cl.n) : (A ++ x :: B).find? (fun y => y.cl.n == x.cl.n) = some x := by
  rw [List.find?_append]
  have : A.find? (fun y => y.cl.n == x.cl.n) = none := by
    rw [List.find?_eq_none]; intro a ha; simpa using hA a ha
  rw [this]; simp
theorem atE_mid (A B : List El) (x : El) (hA : ∀ a ∈ A, a.cl.n ≠ x.cl.n) : atE (A ++ x :: B) x.cl.n = some (Pt x.e) := by
  unfold atE; rw [mid_find A B x hA]; rfl
theorem atE_same (A B : List El) (x x' : El) (hn : x'.cl.n = x.cl.n) (he : x'.e = x.e) : atE (A ++ x' :: B) = atE (A ++ x :: B) := by
  funext n
  unfold atE
  rw [List.find?_append, List.find?_append, List.find?_cons, List.find?_cons, hn]
  cases A.find? (fun y => y.cl.n == n) with
  | some a => rfl
  | none =>
    simp only [Option.none_or]
    split
    · simp [he]
    · rfl
/-- A scheduler of which one client's items, and the number of all items, are others. -/
theorem QI.mid {w w' : World} {q bl mp : Nat} {A B : List El} {x x' : El} {st st' : Qs} {S : Nat → Prop} (h : QI w q bl mp (A ++ x :: B) st) (hf : Fr S w w')
    (hS : ∀ k, S k → k = q ∨ k = x.c ∨ inB x.ao k) (he : x'.e = x.e) (hc : x'.c = x.c) (hn : x'.cl.n = x.cl.n)
    (hx : ClAt w' x') (hao : ∀ k, inB x'.ao k → inB x.ao k ∨ w.heap.size ≤ k)
    (hhead : w'.heap[q]? = some (.cells (headCells st' bl mp (total st'.ring : Nat)) 52 (0, 0)))
    (hst : st'.ring = (A ++ x' :: B).map (·.cl)) : QI w' q bl mp (A ++ x' :: B) st' := by
  obtain ⟨⟨_, kq⟩, ⟨_, _, km⟩, ⟨_, kb⟩, ke⟩ := h.kinds
  obtain ⟨_, ⟨_, kxc⟩, kxi⟩ := ke x (by simp)
  have hval : (A ++ x' :: B).map valE = (A ++ x :: B).map valE := by
    simp [valE, he, hc]
  have hap := h.apart
  rw [List.pairwise_append, List.pairwise_cons] at hap
  obtain ⟨ha1, ⟨ha2, ha3⟩, ha4⟩ := hap
  have hlt : ∀ y, (y ∈ A ∨ y ∈ B) → ∀ k, inB y.ao k → k < w.heap.size := fun y hy k hk => by
    obtain ⟨cs, h1⟩ := (h.cls y (by rcases hy with hy | hy <;> simp [hy])).2.lt hk; exact lt_of_blk h1
  refine ⟨hhead, ?_, ?_, ?_, ?_, hst⟩
  · rw [hval]
    refine h.ring.fr hf fun k hk hSk => ?_
    have kk : (∃ cs, w.heap[k]? = some (.cells cs 81 (0, 0))) ∨ (∃ cs, w.heap[k]? = some (.cells cs 79 (0, 0))) := by
      rcases hk with rfl | hk
      · exact .inl ⟨_, kb⟩
      · obtain ⟨y, hy, rfl⟩ := List.mem_map.1 hk
        obtain ⟨z, hz, rfl⟩ := List.mem_map.1 hy
        exact .inr (ke z hz).1
    rcases hS k hSk with rfl | rfl | hi
    · rcases kk with ⟨_, kk⟩ | ⟨_, kk⟩ <;> rw [kq] at kk <;> simp at kk
    · rcases kk with ⟨_, kk⟩ | ⟨_, kk⟩ <;> rw [kxc] at kk <;> simp at kk
    · obtain ⟨_, ki⟩ := kxi k hi
      rcases kk with ⟨_, kk⟩ | ⟨_, kk⟩ <;> rw [ki] at kk <;> simp at kk
  · have other : ∀ y, (y ∈ A ∨ y ∈ B) → ClAt w' y := by
      intro y hy
      have hyE : y ∈ A ++ x :: B := by rcases hy with hy | hy <;> simp [hy]
      obtain ⟨_, ⟨_, kyc⟩, kyi⟩ := ke y hyE
      have hyx : y.c ≠ x.c ∧ ∀ k, inB y.ao k → ¬ inB x.ao k := by
        rcases hy with hy | hy
        · exact ha4 y hy x (by simp)
        · have := ha2 y hy; exact ⟨fun e => this.1 e.symm, fun k h1 h2 => this.2 k h2 h1⟩
      refine (h.cls y hyE).fr hf (fun hSk => ?_) (fun k hk hSk => ?_)
      · rcases hS _ hSk with e | e | hi
        · rw [e, kq] at kyc; simp at kyc
        · exact hyx.1 e
        · obtain ⟨_, ki⟩ := kxi _ hi; rw [ki] at kyc; simp at kyc
      · obtain ⟨_, kk⟩ := kyi k hk
        rcases hS _ hSk with e | e | hi
        · rw [e, kq] at kk; simp at kk
        · rw [e, kxc] at kk; simp at kk
        · exact hyx.2 k hk hi
    intro y hy
    rcases List.mem_append.1 hy with hy | hy
    · exact other y (.inl hy)
    · rcases List.mem_cons.1 hy with rfl | hy
      · exact hx
      · exact other y (.inr hy)
  · rw [atE_same A B x x' hn he]
    refine h.map.fr hf fun hSk => ?_
    rcases hS _ hSk with e | e | hi
    · rw [e, kq] at km; simp at km
    · rw [e, kxc] at km; simp at km
    · obtain ⟨_, ki⟩ := kxi _ hi; rw [ki] at km; simp at km
  · rw [List.pairwise_append, List.pairwise_cons]
    refine ⟨ha1, ⟨fun y hy => ?_, ha3⟩, fun a ha y hy => ?_⟩
    · have := ha2 y hy
      refine ⟨by rw [hc]; exact this.1, fun k h1 h2 => ?_⟩
      rcases hao k h1 with h3 | h3
      · exact this.2 k h3 h2
      · have := hlt y (.inr hy) k h2; omega
    · rcases List.mem_cons.1 hy with rfl | hy
      · have := ha4 a ha x (by simp)
        refine ⟨by rw [hc]; exact this.1, fun k h1 h2 => ?_⟩
        rcases hao k h2 with h3 | h3
        · exact this.2 k h1 h3
        · have := hlt a (.inl ha) k h1; omega
      · exact ha4 a ha y (List.mem_cons_of_mem _ hy)
theorem Own.mid {q bl mp : Nat} {A B : List El} {x x' : El} (he : x'.e = x.e) (hc : x'.c = x.c) {k : Nat} (h : Own q bl mp (A ++ x' :: B) k) : Own q bl mp (A ++ x :: B) k ∨ inB x'.ao k := by
  have hval : (A ++ x' :: B).map valE = (A ++ x :: B).map valE := by simp [valE, he, hc]
  rcases h with h | h | h | ⟨y, hy, h⟩
  · exact .inl (.inl h)
  · exact .inl (.inr (.inl h))
  · rw [hval] at h; exact .inl (.inr (.inr (.inl h)))
  · rcases List.mem_append.1 hy with hy | hy
    · exact .inl (.inr (.inr (.inr ⟨y, List.mem_append_left _ hy, h⟩)))
    · rcases List.mem_cons.1 hy with rfl | hy
      · rcases h with h | h
        · exact .inl (.inr (.inr (.inr ⟨x, by simp, .inl (by rw [h, hc])⟩)))
        · exact .inr h
      · exact .inl (.inr (.inr (.inr ⟨y, by simp [hy], h⟩)))
/-- The cells of a scheduler's head. -/
theorem QI.cells {w : World} {q bl mp : Nat} {E : List El} {st : Qs} (h : QI w q bl mp E st) : w.cell? ⟨q, 0, none⟩ = some (.int .i64 st.clients) ∧ w.cell? ⟨q, 1, none⟩ = some (.int .i64 st.items) ∧ w.cell? ⟨q, 2, none⟩ = some (.int .i64 st.quantum) ∧
    w.cell? ⟨q, 3, none⟩ = some (.int .i64 st.most) ∧ w.cell? ⟨q, 4, none⟩ = some (.pointer (some ⟨bl, 0, none⟩)) ∧ w.cell? ⟨q, 5, none⟩ = some (.map (some mp)) ∧ w.cell? ⟨q, 6, none⟩ = some (.bool st.turn) ∧ w.cell? ⟨q, 7, none⟩ = some (.int .i64 (total st.ring : Nat)) :=
  ⟨blk_cell h.head 0, blk_cell h.head 1, blk_cell h.head 2, blk_cell h.head 3, blk_cell h.head 4, blk_cell h.head 5, blk_cell h.head 6, blk_cell h.head 7⟩
theorem find_cl (E : List El) (n : Int) (h : (E.map (·.cl)).find? (fun c => c.n == n) = none) : E.find? (fun x => x.cl.n == n) = none := by
  rw [List.find?_map] at h
  rw [Option.map_eq_none_iff] at h
  exact h
theorem zeroE (w : World) : (zeroValue 57).run Try.prog w = .ok (.pointer none) w := by
  have h1 : (Try.prog.info? 57).map (·.zero) = some (some (.pointer none)) := by kernel_rfl
  obtain ⟨i, h2, h3⟩ := Option.map_eq_some_iff.1 h1
  simp [zeroValue, typeInfo, h2, h3]
set_option maxRecDepth 100000 in
theorem put_range_calls (D : Nat → Prop) (w : World) (q : Nat) (st : Qs) (n cost x : Int) (h : QS D w q st) (hc : cost < 1 ∨ st.most < cost) :
    Calls Try.prog 12 #[.pointer (some ⟨q, 0, none⟩), .int .i64 n, .int .i64 cost, .int .i64 x] w fun r w' => r = .returned (.int .i64 5) ∧ w' = w := by
  obtain ⟨hwf, bl, mp, E, hQ, hD⟩ := h
  obtain ⟨q0, q1, q2, q3, q4, q5, q6, q7⟩ := hQ.cells
  have hcall := none_calls q bl w q4
  clear hQ hwf hD
  by_cases h1 : cost < 1
  case' pos => have hd1 : decide (cost < 1) = true := decide_eq_true h1
  case' neg =>
    have hd1 : decide (cost < 1) = false := decide_eq_false h1
    have hd2 : decide (st.most < cost) = true := decide_eq_true (by omega)
  all_goals
    clear h1 hc
    go_enter Try.func12, Try.ntmps12
    go_wp2_with (fail)
    refine hcall.mono ?_
    clear hcall
    rintro r w' ⟨rfl, rfl⟩
    go_wp2_with (fail)
    go_ret
    exact ⟨rfl, rfl⟩
end Go.Proofs.Ytcpejmnmbioinaa
