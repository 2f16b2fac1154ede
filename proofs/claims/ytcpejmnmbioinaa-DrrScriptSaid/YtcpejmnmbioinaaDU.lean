/-
  The reference ostiaryref21 in memory; New, at.
-/
import Derived.Test.YtcpejmnmbioinaaDT
namespace Go.Proofs.Ytcpejmnmbioinaa
open Go.RowKit
/-- Items that can be read, in blocks of D. -/
def RI (D : Nat → Prop) (w : World) (ao : Option Addr) (its : List (Int × Int)) : Prop :=
  ∀ j (h : j < its.length), ∃ g off cur, ao = some ⟨g, off, none⟩ ∧ D g ∧ w.heap[g]? = some (.cells cur 77 (0, 0)) ∧ cur[off + j * 2]? = some (.int .i64 its[j].1) ∧ cur[off + j * 2 + 1]? = some (.int .i64 its[j].2)
theorem RI.cells {D : Nat → Prop} {w : World} {ao : Option Addr} {its : List (Int × Int)} (h : RI D w ao its) (j : Nat) (hj : j < its.length) : ∃ g off, ao = some ⟨g, off, none⟩ ∧ D g ∧ w.cell? ⟨g, off + j * 2, none⟩ = some (.int .i64 its[j].1) ∧ w.cell? ⟨g, off + j * 2 + 1, none⟩ = some (.int .i64 its[j].2) := by
  obtain ⟨g, off, cur, h1, h2, h3, h4, h5⟩ := h j hj
  exact ⟨g, off, h1, h2, (blk_cell h3 _).trans h4, (blk_cell h3 _).trans h5⟩
/-- A line: its client, its items' slice. -/
structure RL where
  cl : Cl
  ao : Option Addr
  cap : Nat
def lineC (t : Bool) (x : RL) : List Value := [.int .i64 x.cl.n, .int .i64 x.cl.credit, .bool t, .slice x.ao x.cl.its.length x.cap]
/-- A ring's cells. -/
def rowC (t : Bool) : List RL → List Value
  | [] => []
  | x :: R => lineC t x ++ R.flatMap (lineC false)
theorem rowC_false (R : List RL) : rowC false R = R.flatMap (lineC false) := by cases R <;> rfl
theorem rowC_len (t : Bool) (R : List RL) : (rowC t R).length = R.length * 4 := by
  have h : ∀ L : List RL, (L.flatMap (lineC false)).length = L.length * 4 := by
    intro L
    induction L with
    | nil => rfl
    | cons x L ih => rw [List.flatMap_cons, List.length_append, ih, List.length_cons]; simp [lineC]; omega
  cases R with
  | nil => rfl
  | cons x R => show (lineC t x ++ _).length = _; rw [List.length_append, h, List.length_cons]; simp [lineC]; omega
/-- The reference in memory. -/
def RQ (D : Nat → Prop) (w : World) (r : Nat) (st : Qs) : Prop :=
  ∃ v R, w.heap[r]? = some (.cells #[.int .i64 st.clients, .int .i64 st.items, .int .i64 st.quantum, .int .i64 st.most, v] 72 (0, 0)) ∧
    w.ownsRow 0 75 4 v R.length (rowC st.turn R) ∧ (∀ k, v.ownBlock = some k → D k) ∧ (∀ x ∈ R, RI D w x.ao x.cl.its ∧ x.cl.its.length ≤ x.cap) ∧ D r ∧ st.ring = R.map (·.cl) ∧ (R = [] → st.turn = false)
theorem RI.fr {D S : Nat → Prop} {w w' : World} {ao : Option Addr} {its : List (Int × Int)} (h : RI D w ao its) (hf : Fr S w w') (hS : ∀ k cur, D k → w.heap[k]? = some (.cells cur 77 (0, 0)) → ¬ S k) : RI D w' ao its := by
  intro j hj
  obtain ⟨g, off, cur, h1, h2, h3, h4⟩ := h j hj
  exact ⟨g, off, cur, h1, h2, hf.block _ _ h3 (hS g cur h2 h3), h4⟩
theorem row4_fr {B : Nat} {e : TypeId} {sz : Nat} {w w' : World} {v : Value} {n : Nat} {xs : List Value} {S : Nat → Prop} (h : w.ownsRow B e sz v n xs) (hf : Fr S w w') (hS : ∀ k, v.ownBlock = some k → ¬ S k) : w'.ownsRow B e sz v n xs := by
  obtain ⟨h0, h1⟩ := h
  refine ⟨h0, ?_⟩
  rcases h1 with h1 | ⟨g, cap, cur, rfl, hg, hh, r⟩
  · exact .inl h1
  · exact .inr ⟨g, cap, cur, rfl, hg, hf.block g _ hh (hS g rfl), r⟩
theorem RQ.fr {D S : Nat → Prop} {w w' : World} {r : Nat} {st : Qs} (h : RQ D w r st) (hf : Fr S w w') (hS : ∀ k, D k → ¬ S k) : RQ D w' r st := by
  obtain ⟨v, R, h1, h2, h3, h4, h5, h6⟩ := h
  exact ⟨v, R, hf.block _ _ h1 (hS r h5), row4_fr h2 hf (fun k hk => hS k (h3 k hk)), h3, fun x hx => ⟨(h4 x hx).1.fr hf (fun k _ hk _ => hS k hk), (h4 x hx).2⟩, h5, h6⟩
set_option maxRecDepth 100000 in
set_option maxHeartbeats 2000000 in
theorem rNew_calls (w : World) (a b c d : Int) (h : newOk a b c d) :
    Calls Try.prog 20 #[.int .i64 a, .int .i64 b, .int .i64 c, .int .i64 d] w fun e w' => ∃ r, e = .returned (.tuple #[Pt r, .int .i64 0]) ∧ w.heap.size ≤ r ∧ r < w'.heap.size ∧ RQ (fun k => k = r) w' r (Qs.new a b c d) ∧ Fr nob w w' := by
  have g1 := fun W => within_calls W a 1024
  have g2 := fun W => within_calls W b 64
  have g3 := fun W => within_calls W c 4096
  have g4 := fun W => within_calls W d c
  rw [decide_eq_true h.1] at g1
  rw [decide_eq_true h.2.1] at g2
  rw [decide_eq_true h.2.2.1] at g3
  rw [decide_eq_true h.2.2.2] at g4
  clear h
  have H1 := Ho.mk g1; have H2 := Ho.mk g2; have H3 := Ho.mk g3; have H4 := Ho.mk g4
  clear g1 g2 g3 g4
  go_enter Try.func20, Try.ntmps20
  go_wp2_with (fail)
  refine (H1.out w).mono ?_
  rintro r w1 ⟨rfl, rfl⟩
  go_wp2_with (fail)
  refine (H2.out _).mono ?_
  rintro r w1 ⟨rfl, rfl⟩
  go_wp2_with (fail)
  refine (H3.out _).mono ?_
  rintro r w1 ⟨rfl, rfl⟩
  go_wp2_with (fail)
  refine (H4.out _).mono ?_
  rintro r w1 ⟨rfl, rfl⟩
  go_wp2_with (fail)
  go_ret2
  have hb := blk_new w1 (.cells #[.int .i64 a, .int .i64 b, .int .i64 c, .int .i64 d, .slice none 0 0] 72)
  refine ⟨w1.heap.size, rfl, Nat.le_refl _, by simp, ⟨.slice none 0 0, [], hb, World.ownsRow_nil _ _ _ _, by simp [Value.ownBlock], by simp, rfl, rfl, fun _ => rfl⟩, (Fr.refl nob w1).alloc _⟩
set_option maxRecDepth 100000 in
set_option maxHeartbeats 2000000 in
theorem rNew_bad_calls (w : World) (a b c d : Int) (h : ¬ newOk a b c d) :
    Calls Try.prog 20 #[.int .i64 a, .int .i64 b, .int .i64 c, .int .i64 d] w fun e w' => e = .returned (.tuple #[.pointer none, .int .i64 2]) ∧ w' = w := by
  have g1 := fun W => within_calls W a 1024
  have g2 := fun W => within_calls W b 64
  have g3 := fun W => within_calls W c 4096
  have g4 := fun W => within_calls W d c
  unfold newOk at h
  by_cases k1 : 1 ≤ a ∧ a ≤ 1024
  case neg =>
    rw [decide_eq_false k1] at g1
    clear h k1
    have H1 := Ho.mk g1; clear g1 g2 g3 g4
    go_enter Try.func20, Try.ntmps20
    go_wp2_with (fail)
    refine (H1.out w).mono ?_
    rintro r w1 ⟨rfl, rfl⟩
    go_wp2_with (fail)
    go_ret2
    exact ⟨rfl, rfl⟩
  rw [decide_eq_true k1] at g1
  by_cases k2 : 1 ≤ b ∧ b ≤ 64
  case neg =>
    rw [decide_eq_false k2] at g2
    clear h k1 k2
    have H1 := Ho.mk g1; have H2 := Ho.mk g2; clear g1 g2 g3 g4
    go_enter Try.func20, Try.ntmps20
    go_wp2_with (fail)
    refine (H1.out w).mono ?_
    rintro r w1 ⟨rfl, rfl⟩
    go_wp2_with (fail)
    refine (H2.out _).mono ?_
    rintro r w1 ⟨rfl, rfl⟩
    go_wp2_with (fail)
    go_ret2
    exact ⟨rfl, rfl⟩
  rw [decide_eq_true k2] at g2
  by_cases k3 : 1 ≤ c ∧ c ≤ 4096
  case neg =>
    rw [decide_eq_false k3] at g3
    clear h k1 k2 k3
    have H1 := Ho.mk g1; have H2 := Ho.mk g2; have H3 := Ho.mk g3; clear g1 g2 g3 g4
    go_enter Try.func20, Try.ntmps20
    go_wp2_with (fail)
    refine (H1.out w).mono ?_
    rintro r w1 ⟨rfl, rfl⟩
    go_wp2_with (fail)
    refine (H2.out _).mono ?_
    rintro r w1 ⟨rfl, rfl⟩
    go_wp2_with (fail)
    refine (H3.out _).mono ?_
    rintro r w1 ⟨rfl, rfl⟩
    go_wp2_with (fail)
    go_ret2
    exact ⟨rfl, rfl⟩
  rw [decide_eq_true k3] at g3
  have k4 : ¬ (1 ≤ d ∧ d ≤ c) := fun k4 => h ⟨k1, k2, k3, k4⟩
  rw [decide_eq_false k4] at g4
  clear h k1 k2 k3 k4
  have H1 := Ho.mk g1; have H2 := Ho.mk g2; have H3 := Ho.mk g3; have H4 := Ho.mk g4; clear g1 g2 g3 g4
  go_enter Try.func20, Try.ntmps20
  go_wp2_with (fail)
  refine (H1.out w).mono ?_
  rintro r w1 ⟨rfl, rfl⟩
  go_wp2_with (fail)
  refine (H2.out _).mono ?_
  rintro r w1 ⟨rfl, rfl⟩
  go_wp2_with (fail)
  refine (H3.out _).mono ?_
  rintro r w1 ⟨rfl, rfl⟩
  go_wp2_with (fail)
  refine (H4.out _).mono ?_
  rintro r w1 ⟨rfl, rfl⟩
  go_wp2_with (fail)
  go_ret2
  exact ⟨rfl, rfl⟩
end Go.Proofs.Ytcpejmnmbioinaa
