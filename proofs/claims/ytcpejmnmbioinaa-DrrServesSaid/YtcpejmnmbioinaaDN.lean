/-
  DrrServes, plain: nobody waits for ever.
-/
import Derived.Test.YtcpejmnmbioinaaD8
namespace Go.Proofs.Ytcpejmnmbioinaa
/-- What those ahead of a may take before it. -/
def ahead (q a : Int) : List Cl → Int
  | [] => 0
  | c :: r => if c.n = a then 0 else (c.credit + q) + ahead q a r
def others (q : Int) (r : List Cl) : Int := (r.map fun c => c.credit + q).sum
def Vof (st : Qs) (a : Int) : Int :=
  if st.turn then
    match st.ring with
    | [] => 0
    | c :: r => if c.n = a then others st.quantum r else c.credit + ahead st.quantum a r
  else ahead st.quantum a st.ring
theorem ahead_cons_ne {q a : Int} {c : Cl} {r : List Cl} (h : c.n ≠ a) : ahead q a (c :: r) = (c.credit + q) + ahead q a r := by rw [ahead, if_neg h]
theorem ahead_cons_eq {q a : Int} {c : Cl} {r : List Cl} (h : c.n = a) : ahead q a (c :: r) = 0 := by rw [ahead, if_pos h]
theorem others_cons (q : Int) (c : Cl) (r : List Cl) : others q (c :: r) = (c.credit + q) + others q r := by simp [others]
theorem ahead_nonneg {q a : Int} (hq : 0 ≤ q) (r : List Cl) (h : ∀ c ∈ r, 0 ≤ c.credit) : 0 ≤ ahead q a r := by
  induction r with
  | nil => simp [ahead]
  | cons c r ih =>
    by_cases hc : c.n = a
    · rw [ahead_cons_eq hc]; exact Int.le_refl _
    · rw [ahead_cons_ne hc]
      have := ih (fun c hc => h c (List.mem_cons_of_mem _ hc)); have := h c (by simp); omega
theorem others_nonneg {q : Int} (hq : 0 ≤ q) (r : List Cl) (h : ∀ c ∈ r, 0 ≤ c.credit) : 0 ≤ others q r := by
  induction r with
  | nil => simp [others]
  | cons c r ih =>
    rw [others_cons]
    have := ih (fun c hc => h c (List.mem_cons_of_mem _ hc)); have := h c (by simp); omega
theorem others_le {q b : Int} (r : List Cl) (h : ∀ c ∈ r, c.credit + q ≤ b) : others q r ≤ (r.length : Int) * b := by
  induction r with
  | nil => simp [others]
  | cons c r ih =>
    rw [others_cons, List.length_cons]
    have h1 := ih (fun c hc => h c (List.mem_cons_of_mem _ hc)); have h2 := h c (by simp)
    have e : ((r.length + 1 : Nat) : Int) * b = (r.length : Int) * b + b := by rw [Int.natCast_add, Int.add_mul]; simp
    rw [e]; omega
/-- a is there: all ahead of it are others. -/
theorem ahead_le {q a b : Int} (hb : 0 ≤ b) (r : List Cl) (ha : a ∈ r.map (·.n)) (h : ∀ c ∈ r, c.credit + q ≤ b) : ahead q a r ≤ ((r.length : Int) - 1) * b := by
  induction r with
  | nil => simp at ha
  | cons c r ih =>
    by_cases hc : c.n = a
    · rw [ahead_cons_eq hc, List.length_cons]
      have e : ((r.length + 1 : Nat) : Int) - 1 = (r.length : Int) := by omega
      rw [e]; exact Int.mul_nonneg (by omega) hb
    · rw [ahead_cons_ne hc, List.length_cons]
      have ha' : a ∈ r.map (·.n) := by
        rw [List.map_cons, List.mem_cons] at ha
        exact ha.resolve_left (fun e => hc e.symm)
      have h1 := ih ha' (fun c hc => h c (List.mem_cons_of_mem _ hc)); have h2 := h c (by simp)
      have e : (((r.length + 1 : Nat) : Int) - 1) * b = ((r.length : Int) - 1) * b + b := by
        have : ((r.length + 1 : Nat) : Int) - 1 = ((r.length : Int) - 1) + 1 := by omega
        rw [this, Int.add_mul, Int.one_mul]
      rw [e]; omega
theorem ahead_app {q a : Int} (r s : List Cl) (ha : a ∈ r.map (·.n)) : ahead q a (r ++ s) = ahead q a r := by
  induction r with
  | nil => simp at ha
  | cons c r ih =>
    rw [List.cons_append]
    by_cases hc : c.n = a
    · rw [ahead_cons_eq hc, ahead_cons_eq hc]
    · rw [ahead_cons_ne hc, ahead_cons_ne hc, ih]
      rw [List.map_cons, List.mem_cons] at ha
      exact ha.resolve_left (fun e => hc e.symm)
theorem ahead_others {q a : Int} (r : List Cl) (c : Cl) (hr : ∀ y ∈ r, y.n ≠ a) (hc : c.n = a) : ahead q a (r ++ [c]) = others q r := by
  induction r with
  | nil => simp [ahead, others, hc]
  | cons y r ih => rw [List.cons_append, ahead_cons_ne (hr y (by simp)), others_cons, ih (fun z hz => hr z (List.mem_cons_of_mem _ hz))]
theorem Vof_le {st : Qs} {a : Int} (h : st.wf) (ha : a ∈ st.ring.map (·.n)) : Vof st a ≤ ((st.ring.length : Int) - 1) * (st.most - 1 + st.quantum) := by
  have hq := h.qu; have hm := h.mo; have hr := h.rest
  unfold Vof
  cases ht : st.turn with
  | false =>
    rw [ht] at hr
    simp only [Bool.false_eq_true, if_false] at hr ⊢
    exact ahead_le (by omega) _ ha (fun c hc => by have := hr c hc; omega)
  | true =>
    rw [ht] at hr
    simp only [if_true] at hr ⊢
    cases hring : st.ring with
    | nil => rw [hring] at ha; simp at ha
    | cons c r =>
      rw [hring] at hr ha
      simp only [List.tail_cons] at hr
      simp only
      have hh := h.high c (by rw [hring]; simp)
      rw [List.length_cons]
      have e : ((r.length + 1 : Nat) : Int) - 1 = (r.length : Int) := by omega
      rw [e]
      by_cases hc : c.n = a
      · rw [if_pos hc]
        exact others_le r (fun y hy => by have := hr y hy; omega)
      · rw [if_neg hc]
        have ha' : a ∈ r.map (·.n) := by
          rw [List.map_cons, List.mem_cons] at ha
          exact ha.resolve_left (fun e => hc e.symm)
        have h1 := ahead_le (q := st.quantum) (b := st.most - 1 + st.quantum) (by omega) r ha' (fun y hy => by have := hr y hy; omega)
        rw [Int.sub_mul, Int.one_mul] at h1
        omega
theorem Vof_nonneg {st : Qs} {a : Int} (h : st.wf) : 0 ≤ Vof st a := by
  have hq := h.qu; have hm := h.mo
  unfold Vof
  cases ht : st.turn with
  | false =>
    simp only [Bool.false_eq_true, if_false]
    exact ahead_nonneg (by omega) _ h.low
  | true =>
    simp only [if_true]
    cases hring : st.ring with
    | nil => exact Int.le_refl _
    | cons c r =>
      have hl : ∀ y ∈ r, 0 ≤ y.credit := fun y hy => h.low y (by rw [hring]; exact List.mem_cons_of_mem _ hy)
      have hc := h.low c (by rw [hring]; simp)
      simp only
      split
      · exact others_nonneg (by omega) r hl
      · have := ahead_nonneg (q := st.quantum) (a := a) (by omega) r hl; omega
end Go.Proofs.Ytcpejmnmbioinaa
