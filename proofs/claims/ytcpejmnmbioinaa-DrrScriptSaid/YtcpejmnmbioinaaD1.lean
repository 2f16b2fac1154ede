/-
  package drr: a client's items in memory; append to them, and the slice behind the first one.
-/
import Derived.Test.YtcpejmnmbioinaaC3
import Derived.Test.YtcpejmnmbioinaaM1
import Derived.ArgAppend
namespace Go.Proofs.Ytcpejmnmbioinaa
open Go.RowKit
/-- Items as cells. -/
def flat (its : List (Int × Int)) : List Value := its.flatMap fun x => [.int .i64 x.1, .int .i64 x.2]
theorem flat_append (a b : List (Int × Int)) : flat (a ++ b) = flat a ++ flat b := by simp [flat]
theorem flat_cons (x : Int × Int) (r : List (Int × Int)) : flat (x :: r) = .int .i64 x.1 :: .int .i64 x.2 :: flat r := by simp [flat]
theorem flat_len (a : List (Int × Int)) : (flat a).length = a.length * 2 := by
  induction a with
  | nil => rfl
  | cons x r ih => rw [flat_cons]; simp [ih]; omega
theorem flat_one (a : List (Int × Int)) : ∀ u ∈ flat a, u.oneCell' = true := by
  intro u hu
  simp only [flat, List.mem_flatMap, List.mem_cons, List.not_mem_nil, or_false] at hu
  obtain ⟨x, _, rfl | rfl⟩ := hu <;> rfl
theorem flat_get (a : List (Int × Int)) (j : Nat) (x : Int × Int) (h : a[j]? = some x) : (flat a)[j * 2]? = some (.int .i64 x.1) ∧ (flat a)[j * 2 + 1]? = some (.int .i64 x.2) := by
  induction a generalizing j with
  | nil => simp at h
  | cons y r ih =>
    cases j with
    | zero => simp at h; subst h; simp [flat_cons]
    | succ j =>
      simp at h
      obtain ⟨h1, h2⟩ := ih j h
      have e1 : (j + 1) * 2 = j * 2 + 1 + 1 := by omega
      rw [e1, flat_cons]
      exact ⟨by simpa using h1, by simpa using h2⟩
/-- A slice of items. -/
def IR (w : World) (ao : Option Addr) (cap : Nat) (its : List (Int × Int)) : Prop :=
  its.length ≤ cap ∧ cap ≤ maxLen ∧ ((ao = none ∧ cap = 0) ∨ ∃ g off cur, ao = some ⟨g, off, none⟩ ∧ w.heap[g]? = some (.cells cur 66 (0, 0)) ∧ off + cap * 2 ≤ cur.size ∧ ∀ j u, (flat its)[j]? = some u → cur[off + j]? = some u)
/-- The block of a slice. -/
def inB (ao : Option Addr) : Nat → Prop := fun k => ∃ a, ao = some a ∧ a.block = k
theorem IR.fr {w w' : World} {ao : Option Addr} {cap : Nat} {its : List (Int × Int)} {S : Nat → Prop} (h : IR w ao cap its) (hf : Fr S w w') (hS : ∀ k, inB ao k → ¬ S k) : IR w' ao cap its := by
  obtain ⟨h1, h2, h3⟩ := h
  refine ⟨h1, h2, ?_⟩
  rcases h3 with h3 | ⟨g, off, cur, rfl, hb, h4, h5⟩
  · exact .inl h3
  · exact .inr ⟨g, off, cur, rfl, hf.block g _ hb (hS g ⟨_, rfl, rfl⟩), h4, h5⟩
theorem IR.lt {w : World} {ao : Option Addr} {cap : Nat} {its : List (Int × Int)} (h : IR w ao cap its) {k : Nat} (hk : inB ao k) : ∃ cur, w.heap[k]? = some (.cells cur 66 (0, 0)) := by
  obtain ⟨h1, h2, h3⟩ := h
  obtain ⟨a, ha, rfl⟩ := hk
  rcases h3 with ⟨h3, _⟩ | ⟨g, off, cur, h3, hb, h4, h5⟩
  · rw [h3] at ha; cases ha
  · rw [h3] at ha; cases ha; exact ⟨cur, hb⟩
theorem IR.nil (w : World) : IR w none 0 [] := ⟨by simp, by simp, .inl ⟨rfl, rfl⟩⟩
theorem IR.tail {w : World} {ao : Option Addr} {cap : Nat} {x : Int × Int} {r : List (Int × Int)} (h : IR w ao cap (x :: r)) : IR w (if cap = 1 then ao else ao.map (·.add (1 * 2))) (cap - 1) r := by
  obtain ⟨h1, h2, h3⟩ := h
  simp only [List.length_cons] at h1
  refine ⟨by omega, by omega, .inr ?_⟩
  rcases h3 with ⟨_, h3⟩ | ⟨g, off, cur, rfl, hb, h4, h5⟩
  · omega
  · by_cases hc : cap = 1
    · rw [if_pos hc]
      refine ⟨g, off, cur, rfl, hb, by omega, fun j u hj => ?_⟩
      have : r = [] := List.eq_nil_of_length_eq_zero (by omega)
      rw [this] at hj; simp [flat] at hj
    · rw [if_neg hc]
      refine ⟨g, off + 2, cur, rfl, hb, by omega, fun j u hj => ?_⟩
      have := h5 (j + 2) u (by rw [flat_cons]; simpa using hj)
      rw [← this]; congr 1; omega
theorem IR.tail_in {ao : Option Addr} {cap k : Nat} : inB (if cap = 1 then ao else ao.map (·.add (1 * 2))) k ↔ inB ao k := by
  split
  · rfl
  · cases ao with
    | none => simp [inB]
    | some a => simp [inB, Addr.add]
theorem infoItem : ∃ i, Try.prog.info? 66 = some i ∧ i.zero = some (.agg #[.int .i64 0, .int .i64 0]) ∧ i.size = 2 ∧ i.bytes = 16 := by
  have h1 : (Try.prog.info? 66).map (fun i => (i.zero, i.size, i.bytes)) = some (some (.agg #[.int .i64 0, .int .i64 0]), 2, 16) := by kernel_rfl
  obtain ⟨i, h2, h3⟩ := Option.map_eq_some_iff.1 h1
  simp at h3
  exact ⟨i, h2, h3.1, h3.2.1, h3.2.2⟩
/-- append(items, item{c, n}). -/
theorem wpList_append_item {w : World} {ops : Array Oper} {rest : List Oper} {o : Oper} {a : Act} {Q : Exit → Act → World → Prop}
    (hg : o.guard = none) (s x : Operand) (hop : o.op = Op.call { callee := Callee.builtin Builtin.append, args := #[s, x], argTypes := #[61, 61] })
    (ao : Option Addr) (n cap : Nat) (its : List (Int × Int)) (hs : a.eval s = .slice ao n cap) (hn : n = its.length) (hI : IR w ao cap its) (hlen : its.length ≤ 100000)
    (b : Nat) (c y : Int) (cs : Array Value) (hx : a.eval x = .slice (some ⟨b, 0, none⟩) 1 1) (hb : w.heap[b]? = some (.cells cs 66 (0, 0))) (hc0 : cs = #[.int .i64 c, .int .i64 y])
    (h : ∀ ao' cap' w', IR w' ao' cap' (its ++ [(c, y)]) → (∀ k, inB ao' k → inB ao k ∨ w.heap.size ≤ k) → Fr (inB ao) w w' → wpList Try.prog ops Q rest (a.put o.dst (.slice ao' (its.length + 1) cap')) w') :
    wpList Try.prog ops Q (o :: rest) a w := by
  subst hn hc0
  obtain ⟨i, h2, h3, h4, h5⟩ := infoItem
  have hnews : ∀ j u, (flat [(c, y)])[j]? = some u → w.cell? ((⟨b, 0, none⟩ : Addr).add j) = some u := by
    intro j u hj
    rw [Addr.add_lit, blk_cell hb]
    simp only [Nat.zero_add]
    simpa [flat] using hj
  have hfl : ∀ w' : World, ∀ g off cap' : Nat, ∀ cur : Array Value, w'.heap[g]? = some (.cells cur 66 (0, 0)) → its.length + 1 ≤ cap' → cap' ≤ maxLen → off + cap' * 2 ≤ cur.size → (∀ j u, (flat (its ++ [(c, y)]))[j]? = some u → cur[off + j]? = some u) → IR w' (some ⟨g, off, none⟩) cap' (its ++ [(c, y)]) :=
    fun w' g off cap' cur h1 h2 h3 h4 h5 => ⟨by simpa using h2, h3, .inr ⟨g, off, cur, rfl, h1, h4, h5⟩⟩
  have hown : ∀ (v' : Value) (w' : World), w'.ownsRow w.heap.size 66 2 v' (its.length + 1) (flat its ++ flat [(c, y)]) → w.grownBy w' none → ∃ ao' cap', v' = .slice ao' (its.length + 1) cap' ∧ IR w' ao' cap' (its ++ [(c, y)]) ∧ (∀ k, inB ao' k → w.heap.size ≤ k) := by
    intro v' w' hv _
    obtain ⟨hv1, ⟨_, hv2⟩ | ⟨g, cap', cur, rfl, hgb, hgg, k1, k2, k3, k4⟩⟩ := hv
    · omega
    · refine ⟨_, _, rfl, hfl w' g 0 cap' cur hgg k1 k2 (by omega) ?_, ?_⟩
      · intro j u hj
        rw [Nat.zero_add]
        rw [flat_append] at hj
        have hjl : j < (its.length + 1) * 2 := by
          have := (List.getElem?_eq_some_iff.1 hj).1
          rw [hv1] at this; exact this
        rw [← k4, List.getElem?_take_of_lt hjl] at hj
        simpa using hj
      · rintro k ⟨a', ha, rfl⟩; cases ha; exact hgb
  obtain ⟨h1, hm, hI⟩ := hI
  rcases hI with ⟨rfl, rfl⟩ | ⟨g, off, cur, rfl, hgb, hsz, hcur⟩
  · obtain rfl : its = [] := List.eq_nil_of_length_eq_zero (by omega)
    refine wpList_append_own w hg s x 61 hop w.heap.size 66 i _ 2 16 Try.underlying61 h2 h3 h4 h5 rfl (by decide) _ 0 [] hs (World.ownsRow_nil _ _ _ _) ⟨b, 0, none⟩ 1 1 (flat [(c, y)]) hx rfl hnews (flat_one _) (by unfold maxLen; omega) (by omega) (Nat.le_refl _) ?_
    intro v' w' hv hgw _
    have hgw' : w.grownBy w' none := hgw
    obtain ⟨ao', cap', rfl, hi, hk⟩ := hown v' w' (by simpa [flat] using hv) hgw'
    exact h ao' cap' w' hi (fun k hk' => .inr (hk k hk')) ((Fr.refl _ w).grown hgw' (fun k hk => by cases hk))
  · refine wpList_append_arg w hg s x 61 hop 66 i _ 2 16 Try.underlying61 h2 h3 h4 h5 rfl (by decide) g off its.length cap (flat its) hs (flat_len _) ?_ ⟨b, 0, none⟩ 1 1 (flat [(c, y)]) hx rfl hnews (flat_one _) ?_ ?_ ?_ ?_ ?_
    · intro j u hj
      rw [blk_cell hgb]; exact hcur j u hj
    · intro hroom j hj
      have hj2 : j < 2 := by simpa [flat] using hj
      rw [blk_cell hgb, blk_free hgb]
      refine ⟨?_, rfl⟩
      have hlt2 : off + its.length * 2 + j < cur.size := by omega
      simp [hlt2]
    · unfold maxLen; omega
    · omega
    · intro hroom
      refine h _ cap _ (hfl _ g off cap _ (blk_set (blk_set hgb (off + its.length * 2) (.int .i64 c)) (off + its.length * 2 + 1) (.int .i64 y)) hroom hm (by simpa using hsz) ?_) (fun k hk => .inl hk) ?_
      · intro j u hj
        rw [flat_append] at hj
        by_cases hjl : j < (flat its).length
        · rw [List.getElem?_append_left hjl] at hj
          rw [flat_len] at hjl
          rw [Array.getElem?_setIfInBounds_ne (by omega), Array.getElem?_setIfInBounds_ne (by omega)]
          exact hcur j u hj
        · rw [List.getElem?_append_right (by omega), flat_len] at hj
          rw [flat_len] at hjl
          have hj2 : j - its.length * 2 < 2 := by
            have := (List.getElem?_eq_some_iff.1 hj).1; simpa [flat] using this
          have hcases : j = its.length * 2 ∨ j = its.length * 2 + 1 := by omega
          rcases hcases with rfl | rfl
          · rw [Nat.sub_self] at hj
            simp [flat] at hj; subst hj
            rw [Array.getElem?_setIfInBounds_ne (by omega)]
            exact Array.getElem?_setIfInBounds_self_of_lt (by omega)
          · rw [Nat.add_sub_cancel_left] at hj
            simp [flat] at hj; subst hj
            rw [← Nat.add_assoc]
            exact Array.getElem?_setIfInBounds_self_of_lt (by simp; omega)
      · exact ((Fr.refl _ w).set (p := ⟨g, off + its.length * 2, none⟩) (.inr ⟨_, rfl, rfl⟩) _).set (p := ⟨g, off + its.length * 2 + 1, none⟩) (.inr ⟨_, rfl, rfl⟩) _
    · intro _ v' w' hv hgw
      obtain ⟨ao', cap', rfl, hi, hk⟩ := hown v' w' hv hgw
      exact h ao' cap' w' hi (fun k hk' => .inr (hk k hk')) ((Fr.refl _ w).grown hgw (fun k hk => by cases hk))
end Go.Proofs.Ytcpejmnmbioinaa
