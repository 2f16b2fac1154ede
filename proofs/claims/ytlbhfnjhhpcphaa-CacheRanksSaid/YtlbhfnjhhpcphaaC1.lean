/-
  package chain: lists whose elements know their neighbours: what a list is in memory, and the contracts of its functions.
-/
import Derived.Test.YtlbhfnjhhpcphaaChecked
import Derived.Test.YtlbhfnjhhpcphaaA
import Derived.RegionTactic
namespace Go.Proofs.Ytlbhfnjhhpcphaa
open Go.RowKit
/-- A pointer to the head of a block. -/
def Pt (k : Nat) : Value := .pointer (some ⟨k, 0, none⟩)
/-- From a on, each of the blocks stands behind the one before. -/
def Seg (w : World) : Nat → List Nat → Prop
  | _, [] => True
  | a, e :: r => w.cell? ⟨a, 2, none⟩ = some (Pt e) ∧ w.cell? ⟨e, 1, none⟩ = some (Pt a) ∧ Seg w e r
/-- The last of a list that stands behind a. -/
def lastOf (a : Nat) (l : List Nat) : Nat := (a :: l).getLast (by simp)
theorem lastOf_nil (a : Nat) : lastOf a [] = a := rfl
theorem lastOf_cons (a e : Nat) (r : List Nat) : lastOf a (e :: r) = lastOf e r := by unfold lastOf; simp
theorem lastOf_mem (a : Nat) (l : List Nat) : lastOf a l ∈ a :: l := List.getLast_mem _
theorem lastOf_snoc (a e : Nat) (l : List Nat) : lastOf a (l ++ [e]) = e := by
  unfold lastOf; simp only [← List.cons_append]; exact List.getLast_concat
theorem seg_append (w : World) (l : List Nat) : ∀ (a : Nat) (r : List Nat), Seg w a (l ++ r) ↔ Seg w a l ∧ Seg w (lastOf a l) r := by
  induction l with
  | nil => intro a r; simp [Seg, lastOf_nil]
  | cons e l ih => intro a r; simp only [List.cons_append, Seg, ih, lastOf_cons, and_assoc]
theorem seg_same {w w' : World} (l : List Nat) : ∀ (a : Nat), (∀ x, x ∈ (a :: l).dropLast → w'.cell? ⟨x, 2, none⟩ = w.cell? ⟨x, 2, none⟩) → (∀ x ∈ l, w'.cell? ⟨x, 1, none⟩ = w.cell? ⟨x, 1, none⟩) → Seg w a l → Seg w' a l := by
  induction l with
  | nil => intro a _ _ _; trivial
  | cons e l ih =>
    intro a h2 h1 h
    refine ⟨(h2 a (by simp)).trans h.1, (h1 e (by simp)).trans h.2.1, ih e (fun x hx => h2 x (by simp only [List.dropLast_cons_cons]; exact List.mem_cons_of_mem _ hx)) (fun x hx => h1 x (List.mem_cons_of_mem _ hx)) h.2.2⟩
/-- A list in memory: its root's block, its elements' blocks with their values. -/
structure Ring (w : World) (bl : Nat) (L : List (Nat × Value)) : Prop where
  root : ∃ a b, w.heap[bl]? = some (.cells #[.nilIface, a, b, .pointer none, .int .i64 L.length] 117 (0, 0))
  node : ∀ x ∈ L, ∃ a b, w.heap[x.1]? = some (.cells #[x.2, a, b, Pt bl] 115 (0, 0))
  nodup : (L.map (·.1)).Nodup
  seg : Seg w bl (L.map (·.1) ++ [bl])
theorem Ring.root_ne {w : World} {bl : Nat} {L : List (Nat × Value)} (h : Ring w bl L) : bl ∉ L.map (·.1) := by
  intro hm
  obtain ⟨x, hx, rfl⟩ := List.mem_map.1 hm
  obtain ⟨a, b, h1⟩ := h.root
  obtain ⟨c, d, h2⟩ := h.node x hx
  rw [h1] at h2; simp at h2
/-- The blocks of a list. -/
def RingB (bl : Nat) (L : List (Nat × Value)) : Nat → Prop := fun k => k = bl ∨ k ∈ L.map (·.1)
theorem Ring.lt {w : World} {bl : Nat} {L : List (Nat × Value)} (h : Ring w bl L) {k : Nat} (hk : RingB bl L k) : k < w.heap.size := by
  rcases hk with rfl | hk
  · obtain ⟨a, b, h1⟩ := h.root; exact lt_of_blk h1
  · obtain ⟨x, hx, rfl⟩ := List.mem_map.1 hk
    obtain ⟨a, b, h1⟩ := h.node x hx; exact lt_of_blk h1
theorem cell_of_eq {w w' : World} {k : Nat} (h : w'.heap[k]? = w.heap[k]?) (o : Nat) : w'.cell? ⟨k, o, none⟩ = w.cell? ⟨k, o, none⟩ := by
  unfold World.cell?; simp only [h]
/-- What does not turn a list's blocks leaves it a list. -/
theorem Ring.fr {w w' : World} {bl : Nat} {L : List (Nat × Value)} {S : Nat → Prop} (h : Ring w bl L) (hf : Fr S w w') (hS : ∀ k, RingB bl L k → ¬ S k) : Ring w' bl L := by
  have hb : ∀ k, RingB bl L k → w'.heap[k]? = w.heap[k]? := fun k hk => by
    have hlt := h.lt hk
    rw [Array.getElem?_eq_getElem hlt]
    exact hf.block k _ (Array.getElem?_eq_getElem hlt) (hS k hk)
  refine ⟨?_, ?_, h.nodup, ?_⟩
  · obtain ⟨a, b, h1⟩ := h.root; exact ⟨a, b, (hb bl (.inl rfl)).trans h1⟩
  · intro x hx; obtain ⟨a, b, h1⟩ := h.node x hx; exact ⟨a, b, (hb x.1 (.inr (List.mem_map_of_mem hx))).trans h1⟩
  · refine seg_same _ bl (fun x hx => ?_) (fun x hx => ?_) h.seg
    · have : x ∈ bl :: L.map (·.1) := by
        have h2 : (bl :: (L.map (·.1) ++ [bl])).dropLast = bl :: L.map (·.1) := by rw [← List.cons_append, List.dropLast_concat]
        rw [h2] at hx; exact hx
      rcases List.mem_cons.1 this with rfl | hm
      · exact cell_of_eq (hb _ (.inl rfl)) 2
      · exact cell_of_eq (hb _ (.inr hm)) 2
    · rcases List.mem_append.1 hx with hm | hm
      · exact cell_of_eq (hb _ (.inr hm)) 1
      · obtain rfl : x = bl := by simpa using hm
        exact cell_of_eq (hb _ (.inl rfl)) 1
theorem cell_set_other (w : World) (p : Addr) (v : Value) (k o : Nat) (h : ¬ (p.block = k ∧ p.off = o)) : (w.setCell p v).cell? ⟨k, o, none⟩ = w.cell? ⟨k, o, none⟩ := by
  by_cases hk : p.block = k
  · subst hk
    have ho : p.off ≠ o := fun e => h ⟨rfl, e⟩
    unfold World.cell? World.setCell
    simp only [Array.getElem?_modify, if_true]
    cases hh : w.heap[p.block]? with
    | none => rfl
    | some x =>
      cases x with
      | cells c e f =>
        simp only [Option.map_some]
        split
        · rfl
        · split
          · rfl
          · rw [Array.getElem?_setIfInBounds_ne ho]
      | _ => rfl
  · exact cell_of_eq (Below.heap_setCell w p v k (fun e => hk e.symm)) o
theorem cell_set_same {w : World} {k o : Nat} {u : Value} (h : w.cell? ⟨k, o, none⟩ = some u) (v : Value) : (w.setCell ⟨k, o, none⟩ v).cell? ⟨k, o, none⟩ = some v := by
  unfold World.cell? at h ⊢
  unfold World.setCell
  simp only [Array.getElem?_modify, if_true]
  cases hh : w.heap[k]? with
  | none => simp [hh] at h
  | some x =>
    cases x with
    | cells c e f =>
      simp [hh] at h
      have hlt : o < c.size := (Array.getElem?_eq_some_iff.1 h).1
      simp [hlt]
    | _ => simp [hh] at h
theorem cell_off {w : World} {p : Addr} {v : Value} {k o : Nat} (h : p.off ≠ o) : (w.setCell p v).cell? ⟨k, o, none⟩ = w.cell? ⟨k, o, none⟩ := cell_set_other w p v k o (fun e => h e.2)
theorem cell_blk {w : World} {p : Addr} {v : Value} {k o : Nat} (h : p.block ≠ k) : (w.setCell p v).cell? ⟨k, o, none⟩ = w.cell? ⟨k, o, none⟩ := cell_set_other w p v k o (fun e => h e.1)
theorem node_set {w : World} {k : Nat} {v x : Value} (h : ∃ a b, w.heap[k]? = some (.cells #[v, a, b, x] 115 (0, 0))) (j o : Nat) (y : Value) (ho : o = 1 ∨ o = 2) : ∃ a b, (w.setCell ⟨j, o, none⟩ y).heap[k]? = some (.cells #[v, a, b, x] 115 (0, 0)) := by
  obtain ⟨a, b, h⟩ := h
  by_cases e : j = k
  · subst e
    rcases ho with rfl | rfl
    · exact ⟨y, b, blk_set h 1 y⟩
    · exact ⟨a, y, blk_set h 2 y⟩
  · exact ⟨a, b, blk_far h _ (fun h => e h.symm) y⟩
theorem root_set {w : World} {k : Nat} {n : Value} (h : ∃ a b, w.heap[k]? = some (.cells #[.nilIface, a, b, .pointer none, n] 117 (0, 0))) (j o : Nat) (y : Value) (ho : o = 1 ∨ o = 2) : ∃ a b, (w.setCell ⟨j, o, none⟩ y).heap[k]? = some (.cells #[.nilIface, a, b, .pointer none, n] 117 (0, 0)) := by
  obtain ⟨a, b, h⟩ := h
  by_cases e : j = k
  · subst e
    rcases ho with rfl | rfl
    · exact ⟨y, b, blk_set h 1 y⟩
    · exact ⟨a, y, blk_set h 2 y⟩
  · exact ⟨a, b, blk_far h _ (fun h => e h.symm) y⟩
theorem root_len {w : World} {k : Nat} {n : Value} (h : ∃ a b, w.heap[k]? = some (.cells #[.nilIface, a, b, .pointer none, n] 117 (0, 0))) (m : Value) : ∃ a b, (w.setCell ⟨k, 4, none⟩ m).heap[k]? = some (.cells #[.nilIface, a, b, .pointer none, m] 117 (0, 0)) := by
  obtain ⟨a, b, h⟩ := h
  exact ⟨a, b, blk_set h 4 m⟩
theorem node_far {w : World} {k : Nat} {v x : Value} (h : ∃ a b, w.heap[k]? = some (.cells #[v, a, b, x] 115 (0, 0))) {j : Nat} (hj : k ≠ j) (o : Nat) (y : Value) : ∃ a b, (w.setCell ⟨j, o, none⟩ y).heap[k]? = some (.cells #[v, a, b, x] 115 (0, 0)) := by
  obtain ⟨a, b, h⟩ := h
  exact ⟨a, b, blk_far h _ hj y⟩
end Go.Proofs.Ytlbhfnjhhpcphaa
