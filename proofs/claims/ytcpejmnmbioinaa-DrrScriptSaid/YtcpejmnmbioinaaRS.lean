/-
  Slices of the reference's lines.
-/
import Derived.Test.YtcpejmnmbioinaaDZ
namespace Go.Proofs.Ytcpejmnmbioinaa
open Go.RowKit
theorem line_hi (a : Option Addr) (n cap k : Nat) (hk : k ≤ cap) (W : World) : (Instr.slice 70 (.slice a n cap) none (some (.int .i64 (k : Int))) none).run Try.prog W = .ok (.slice a k cap) W := by
  have hb := run_sliceBound (P := Try.prog) (w := W) .i64 (k : Int) cap .sliceAcap (by omega) (by omega)
  cases a with
  | none => simp [Instr.slice, Instr.sliceBounds, hb, go_sem]
  | some ad => simp [Instr.slice, Instr.sliceBounds, hb, go_sem]
theorem line_lo (a : Option Addr) (n cap k : Nat) (hk : k ≤ n) (hn : n ≤ cap) (W : World) : (Instr.slice 70 (.slice a n cap) (some (.int .i64 (k : Int))) none none).run Try.prog W = .ok (.slice (if cap = k then a else a.map (·.add (k * 4))) (n - k) (cap - k)) W := by
  have hb := run_sliceBound (P := Try.prog) (w := W) .i64 (k : Int) n .sliceB (by omega) (by omega)
  obtain ⟨i, z, h2, _, h4, _⟩ := infoLine
  cases a with
  | none => simp [Instr.slice, Instr.sliceBounds, hb, go_sem, run_underlying Try.underlying70, sizeOf, typeInfo, h2, h4]
  | some ad => simp [Instr.slice, Instr.sliceBounds, hb, go_sem, run_underlying Try.underlying70, sizeOf, typeInfo, h2, h4]
theorem flat4_len (L : List RL) : (L.flatMap (lineC false)).length = L.length * 4 := by rw [← rowC_false]; exact rowC_len false L
/-- Which turn the ring has behind a cut. -/
def turnOf (A : List RL) (t : Bool) : Bool := match A with | [] => false | _ => t
theorem rowC_append (t : Bool) (A B : List RL) : rowC (turnOf A t) (A ++ B) = rowC t A ++ B.flatMap (lineC false) := by
  cases A with
  | nil => exact rowC_false B
  | cons a A => show lineC t a ++ (A ++ B).flatMap (lineC false) = (lineC t a ++ A.flatMap (lineC false)) ++ _; rw [List.flatMap_append, List.append_assoc]
theorem rowC_full (t : Bool) (A B : List RL) (h : A ≠ []) : rowC t (A ++ B) = rowC t A ++ B.flatMap (lineC false) := by
  cases A with
  | nil => exact absurd rfl h
  | cons a A => exact rowC_append t (a :: A) B
theorem rowC_take (t : Bool) (A B : List RL) : (rowC t (A ++ B)).take (A.length * 4) = rowC t A := by
  cases A with
  | nil => simp [rowC]
  | cons a A =>
    rw [rowC_full t (a :: A) B (by simp), List.take_append_of_le_length (by rw [rowC_len]; exact Nat.le_refl _), List.take_of_length_le (by rw [rowC_len]; exact Nat.le_refl _)]
theorem rowC_drop (t : Bool) (A B : List RL) (h : A ≠ []) : (rowC t (A ++ B)).drop (A.length * 4) = B.flatMap (lineC false) := by
  rw [rowC_full t A B h, List.drop_left' (rowC_len t A)]
theorem rowC_one (t : Bool) (L : List RL) : ∀ u ∈ rowC t L, u.oneCell' = true := by
  have hl : ∀ t x, ∀ u ∈ lineC t x, u.oneCell' = true := by
    intro t x u hu
    simp only [lineC, List.mem_cons, List.not_mem_nil, or_false] at hu
    rcases hu with rfl | rfl | rfl | rfl <;> rfl
  have hf : ∀ L : List RL, ∀ u ∈ L.flatMap (lineC false), u.oneCell' = true := by
    intro L u hu
    obtain ⟨x, _, hx⟩ := List.mem_flatMap.1 hu
    exact hl _ _ u hx
  intro u hu
  cases L with
  | nil => simp [rowC] at hu
  | cons x L =>
    rcases List.mem_append.1 (show u ∈ lineC t x ++ L.flatMap (lineC false) from hu) with h | h
    · exact hl _ _ u h
    · exact hf _ u h
theorem turnOf_map (A : List RL) (t : Bool) : (if A.map (·.cl) = [] then false else t) = turnOf A t := by cases A <;> rfl
theorem setCellFr (w : World) (r o : Nat) (v : Value) : Fr (fun k => k = r) w (w.setCell ⟨r, o, none⟩ v) := (Fr.refl (fun k => k = r) w).set (p := ⟨r, o, none⟩) (.inr rfl) v
theorem line_not {w : World} {B : Nat} {v : Value} {n : Nat} {xs : List Value} (h : w.ownsRow B 75 4 v n xs) {r : Nat} {cs : Array Value} (hr : w.heap[r]? = some (.cells cs 72 (0, 0))) {k : Nat} (hk : v.ownBlock = some k) : k ≠ r := by
  rintro rfl
  rcases h.2 with ⟨rfl, _⟩ | ⟨g, cap, cur, rfl, _, hh, _⟩
  · simp [Value.ownBlock] at hk
  · simp only [Value.ownBlock, Option.some.injEq] at hk
    subst hk
    rw [hr] at hh; simp at hh
/-- A new ring is stored. -/
theorem RQ.ring {D : Nat → Prop} {w6 : World} {r : Nat} {a b c d : Int} {v0 : Value} {st : Qs} {R : List RL} {v : Value}
    (hh : w6.heap[r]? = some (.cells #[.int .i64 a, .int .i64 b, .int .i64 c, .int .i64 d, v0] 72 (0, 0)))
    (ha : st.clients = a) (hb : st.items = b) (hc : st.quantum = c) (hd : st.most = d) (hD : D r)
    (ho : w6.ownsRow 0 75 4 v R.length (rowC st.turn R)) (hk : ∀ k, v.ownBlock = some k → D k)
    (hri : ∀ x ∈ R, RI D w6 x.ao x.cl.its ∧ x.cl.its.length ≤ x.cap) (hst : st.ring = R.map (·.cl)) (ht : R = [] → st.turn = false) : RQ D (w6.setCell ⟨r, 4, none⟩ v) r st := by
  subst ha hb hc hd
  refine ⟨v, R, blk_set hh 4 v, row4_fr ho (setCellFr w6 r 4 v) (fun k hk => line_not ho hh hk), hk, fun x hx => ⟨(hri x hx).1.fr (setCellFr w6 r 4 v) (fun k cur _ hc e => by subst e; rw [hh] at hc; simp at hc), (hri x hx).2⟩, hD, hst, ht⟩
end Go.Proofs.Ytcpejmnmbioinaa
