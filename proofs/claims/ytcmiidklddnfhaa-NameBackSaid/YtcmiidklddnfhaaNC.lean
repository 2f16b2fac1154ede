/-
  Names, plain: the lower form, whether two are the same, what is behind the first label, the order.
-/
import Derived.Test.YtcmiidklddnfhaaEW
import Derived.Lib.Bytealg
namespace Go.Proofs.Ytcmiidklddnfhaa
theorem lowB_small {c : UInt8} (h : c.toNat < 65) : lowB c = c := by unfold lowB; rw [if_neg (by omega)]
theorem low_append (a b : Bs) : low (a ++ b) = low a ++ low b := List.map_append ..
theorem low_encN (ls : List Bs) (h : ∀ l ∈ ls, goodL l) : low (encN ls) = encN (ls.map low) := by
  induction ls with
  | nil => rfl
  | cons l ls ih =>
    have hg := h l (by simp)
    rw [List.map_cons, encN_cons, encN_cons, low_len]
    show lowB _ :: low (l ++ encN ls) = _
    rw [low_append, ih (fun x hx => h x (List.mem_cons_of_mem _ hx)), lowB_small (by rw [(ofNat_len hg).1]; have := hg.2; omega)]
theorem good_low {ls : List Bs} (h : ∀ l ∈ ls, goodL l) : ∀ l ∈ ls.map low, goodL l := by
  intro l hl
  obtain ⟨x, hx, rfl⟩ := List.mem_map.1 hl
  have := h x hx
  unfold goodL at this ⊢
  rw [low_len]; exact this
theorem encN_inj {a b : List Bs} (ha : ∀ l ∈ a, goodL l) (hb : ∀ l ∈ b, goodL l) (h : encN a = encN b) : a = b := by
  have h1 := lab_encN a ha
  rw [h, lab_encN b hb] at h1
  exact (Option.some.inj h1).symm
/-- What is known of a name's labels. -/
theorem labels_spec (n : Bs) (h : (labels n).2 = 0) : (∀ l ∈ (labels n).1, goodL l) ∧ n = encN (labels n).1 ∧ n.length ≤ 255 := by
  unfold labels at h ⊢
  cases hl : lab n with
  | none => rw [hl] at h; simp at h
  | some ls =>
    rw [hl] at h
    simp only at h ⊢
    by_cases h2 : 255 < n.length
    · rw [if_pos h2] at h; simp at h
    · rw [if_neg h2] at h ⊢
      exact ⟨(lab_some hl).1, (lab_some hl).2, by omega⟩
theorem labels_enc (ls : List Bs) (h : ∀ l ∈ ls, goodL l) (h2 : (encN ls).length ≤ 255) : labels (encN ls) = (ls, 0) := labels_ok (lab_encN ls h) h2
theorem lowB_zero {c : UInt8} : lowB c = 0 ↔ c = 0 := by
  unfold lowB
  by_cases h : 65 ≤ c.toNat ∧ c.toNat ≤ 90
  · rw [if_pos h]
    constructor
    · intro e; have := congrArg UInt8.toNat e; simp at this; omega
    · intro e; subst e; simp at h
  · rw [if_neg h]
theorem lowB_toNat_small {c : UInt8} : (lowB c).toNat ≤ 63 ↔ c.toNat ≤ 63 := by
  unfold lowB
  by_cases h : 65 ≤ c.toNat ∧ c.toNat ≤ 90
  · rw [if_pos h]; simp; omega
  · rw [if_neg h]
theorem lab_low (k : Nat) : ∀ n : Bs, n.length ≤ k → lab (low n) = (lab n).map (·.map low) := by
  induction k with
  | zero => intro n h; obtain rfl : n = [] := List.eq_nil_of_length_eq_zero (by omega); rfl
  | succ k ih =>
    intro n h
    cases n with
    | nil => rfl
    | cons c r =>
      show lab (lowB c :: low r) = _
      rw [lab_cons, lab_cons]
      by_cases h0 : c = 0
      · rw [if_pos (lowB_zero.2 h0), if_pos h0]
        by_cases hr : r = []
        · subst hr; rfl
        · rw [if_neg hr, if_neg (by intro e; exact hr (List.map_eq_nil_iff.1 e))]; rfl
      · rw [if_neg (fun e => h0 (lowB_zero.1 e)), if_neg h0]
        by_cases h1 : 63 < c.toNat
        · have h2 : 63 < (lowB c).toNat := by
            have := (lowB_toNat_small (c := c)).1
            omega
          rw [if_pos (.inl h2), if_pos (.inl h1)]; rfl
        · have he : lowB c = c := lowB_small (by omega)
          rw [he, low_len]
          by_cases h2 : 63 < c.toNat ∨ r.length < c.toNat
          · rw [if_pos h2, if_pos h2]; rfl
          · rw [if_neg h2, if_neg h2]
            have e1 : (low r).drop c.toNat = low (r.drop c.toNat) := by unfold low; rw [List.map_drop]
            have e2 : (low r).take c.toNat = low (r.take c.toNat) := by unfold low; rw [List.map_take]
            rw [e1, e2, ih _ (by rw [List.length_drop]; simp at h; omega)]
            cases lab (r.drop c.toNat) <;> simp
theorem labels_low (n : Bs) : labels (low n) = ((labels n).1.map low, (labels n).2) := by
  unfold labels
  rw [lab_low _ n (Nat.le_refl _), low_len]
  cases lab n with
  | none => rfl
  | some ls =>
    simp only [Option.map_some]
    split <;> rfl
/-- Are two names the same? -/
def sameP (a b : Bs) : Bool := decide ((labels a).2 = 0 ∧ (labels b).2 = 0 ∧ low a = low b)
/-- What is behind the first label. -/
def parentP (n : Bs) : Bs × Bool := if (labels n).2 = 0 ∧ (labels n).1 ≠ [] then (encN (labels n).1.tail, true) else ([], false)
/-- The order of labels, the last first. -/
def cmpL : List Bs → List Bs → Int
  | [], [] => 0
  | [], _ :: _ => -1
  | _ :: _, [] => 1
  | x :: xs, y :: ys => if Lib.compareBytes (low x) (low y) = 0 then cmpL xs ys else Lib.compareBytes (low x) (low y)
/-- Which name is ahead. -/
def compareP (a b : Bs) : Int := if (labels a).2 = 0 ∧ (labels b).2 = 0 then cmpL (labels a).1.reverse (labels b).1.reverse else 0
theorem cmpB_vals (a b : Bs) : Lib.compareBytes a b = 0 ∨ Lib.compareBytes a b = 1 ∨ Lib.compareBytes a b = -1 := by
  induction a generalizing b with
  | nil => cases b <;> simp [Lib.compareBytes]
  | cons x xs ih =>
    cases b with
    | nil => simp [Lib.compareBytes]
    | cons y ys =>
      simp only [Lib.compareBytes]
      split
      · simp
      · split
        · simp
        · exact ih ys
theorem cmpB_eq (a b : Bs) : Lib.compareBytes a b = 0 ↔ a = b := by
  induction a generalizing b with
  | nil => cases b <;> simp [Lib.compareBytes]
  | cons x xs ih =>
    cases b with
    | nil => simp [Lib.compareBytes]
    | cons y ys =>
      simp only [Lib.compareBytes]
      by_cases h1 : x < y
      · rw [if_pos h1]; simp; intro e; subst e; exact absurd h1 (UInt8.lt_irrefl x)
      · rw [if_neg h1]
        by_cases h2 : y < x
        · rw [if_pos h2]; simp; intro e; subst e; exact absurd h2 (UInt8.lt_irrefl x)
        · rw [if_neg h2, ih ys]
          have e : x = y := by
            apply UInt8.toNat_inj.1
            have h3 : ¬ x.toNat < y.toNat := h1
            have h4 : ¬ y.toNat < x.toNat := h2
            omega
          simp [e]
theorem cmpB_neg (a b : Bs) : Lib.compareBytes b a = - Lib.compareBytes a b := by
  induction a generalizing b with
  | nil => cases b <;> simp [Lib.compareBytes]
  | cons x xs ih =>
    cases b with
    | nil => simp [Lib.compareBytes]
    | cons y ys =>
      simp only [Lib.compareBytes]
      by_cases h1 : x < y
      · have h2 : ¬ y < x := fun h => by have a1 : x.toNat < y.toNat := h1; have a2 : y.toNat < x.toNat := h; omega
        simp [h1, h2]
      · by_cases h2 : y < x
        · simp [h1, h2]
        · simp [h1, h2, ih ys]
theorem bytesLess_cmp (a b : Bs) : Op.bytesLess a b = true ↔ Lib.compareBytes a b = -1 := by
  induction a generalizing b with
  | nil => cases b <;> simp [Lib.compareBytes, Op.bytesLess]
  | cons x xs ih =>
    cases b with
    | nil => simp [Lib.compareBytes, Op.bytesLess]
    | cons y ys =>
      simp only [Lib.compareBytes, Op.bytesLess]
      by_cases h1 : x < y
      · simp [h1]
      · by_cases h2 : y < x
        · have hne : x ≠ y := fun e => by subst e; exact UInt8.lt_irrefl x h2
          simp [h1, h2, hne]
        · have e : x = y := by
            apply UInt8.toNat_inj.1
            have h3 : ¬ x.toNat < y.toNat := h1
            have h4 : ¬ y.toNat < x.toNat := h2
            omega
          subst e
          simp [UInt8.lt_irrefl, ih ys]
theorem cB_lt {x y : UInt8} (xs ys : Bs) (h : x.toNat < y.toNat) : Lib.compareBytes (x :: xs) (y :: ys) = -1 := if_pos h
theorem cB_gt {x y : UInt8} (xs ys : Bs) (h : y.toNat < x.toNat) : Lib.compareBytes (x :: xs) (y :: ys) = 1 := by
  have h1 : ¬ x < y := fun e => by have e' : x.toNat < y.toNat := e; omega
  have h2 : y < x := h
  simp only [Lib.compareBytes]; rw [if_neg h1, if_pos h2]
theorem cB_eq {x y : UInt8} (xs ys : Bs) (h : x.toNat = y.toNat) : Lib.compareBytes (x :: xs) (y :: ys) = Lib.compareBytes xs ys := by
  have h1 : ¬ x < y := fun e => by have e' : x.toNat < y.toNat := e; omega
  have h2 : ¬ y < x := fun e => by have e' : y.toNat < x.toNat := e; omega
  simp only [Lib.compareBytes]; rw [if_neg h1, if_neg h2]
theorem cmpB_trans (a b c : Bs) (h1 : Lib.compareBytes a b ≤ 0) (h2 : Lib.compareBytes b c ≤ 0) : Lib.compareBytes a c ≤ 0 ∧ (Lib.compareBytes a b < 0 ∨ Lib.compareBytes b c < 0 → Lib.compareBytes a c < 0) := by
  induction a generalizing b c with
  | nil =>
    cases b with
    | nil => cases c <;> simp_all [Lib.compareBytes]
    | cons y ys => cases c <;> simp_all [Lib.compareBytes]
  | cons x xs ih =>
    cases b with
    | nil => simp [Lib.compareBytes] at h1
    | cons y ys =>
      cases c with
      | nil => simp [Lib.compareBytes] at h2
      | cons z zs =>
        rcases Nat.lt_trichotomy x.toNat y.toNat with a1 | a1 | a1
        · rcases Nat.lt_trichotomy y.toNat z.toNat with b1 | b1 | b1
          · rw [cB_lt xs zs (by omega)]; exact ⟨by decide, fun _ => by decide⟩
          · rw [cB_lt xs zs (by omega)]; exact ⟨by decide, fun _ => by decide⟩
          · rw [cB_gt ys zs b1] at h2; omega
        · rw [cB_eq xs ys a1] at h1 ⊢
          rcases Nat.lt_trichotomy y.toNat z.toNat with b1 | b1 | b1
          · rw [cB_lt xs zs (by omega)]; exact ⟨by decide, fun _ => by decide⟩
          · rw [cB_eq ys zs b1] at h2 ⊢
            rw [cB_eq xs zs (by omega)]
            exact ih ys zs h1 h2
          · rw [cB_gt ys zs b1] at h2; omega
        · rw [cB_gt xs ys a1] at h1; omega
theorem cmpL_neg (a b : List Bs) : cmpL b a = - cmpL a b := by
  induction a generalizing b with
  | nil => cases b <;> simp [cmpL]
  | cons x xs ih =>
    cases b with
    | nil => simp [cmpL]
    | cons y ys =>
      simp only [cmpL]
      rw [cmpB_neg (low x) (low y)]
      by_cases h : Lib.compareBytes (low x) (low y) = 0
      · rw [if_pos (by omega), if_pos h, ih ys]
      · rw [if_neg (by omega), if_neg h]
theorem cmpL_eq (a b : List Bs) : cmpL a b = 0 ↔ a.map low = b.map low := by
  induction a generalizing b with
  | nil => cases b <;> simp [cmpL]
  | cons x xs ih =>
    cases b with
    | nil => simp [cmpL]
    | cons y ys =>
      simp only [cmpL, List.map_cons, List.cons.injEq]
      by_cases h : Lib.compareBytes (low x) (low y) = 0
      · rw [if_pos h, ih ys]; simp [(cmpB_eq _ _).1 h]
      · rw [if_neg h]
        constructor
        · intro e; exact absurd e h
        · intro e; exact absurd ((cmpB_eq _ _).2 e.1) h
theorem cmpL_vals (a b : List Bs) : cmpL a b = 0 ∨ cmpL a b = 1 ∨ cmpL a b = -1 := by
  induction a generalizing b with
  | nil => cases b <;> simp [cmpL]
  | cons x xs ih =>
    cases b with
    | nil => simp [cmpL]
    | cons y ys =>
      simp only [cmpL]
      split
      · exact ih ys
      · exact cmpB_vals _ _
theorem cmpL_trans (a b c : List Bs) (h1 : cmpL a b ≤ 0) (h2 : cmpL b c ≤ 0) : cmpL a c ≤ 0 := by
  induction a generalizing b c with
  | nil => cases c <;> simp [cmpL]
  | cons x xs ih =>
    cases b with
    | nil => simp [cmpL] at h1
    | cons y ys =>
      cases c with
      | nil => simp [cmpL] at h2
      | cons z zs =>
        simp only [cmpL] at h1 h2 ⊢
        by_cases e1 : Lib.compareBytes (low x) (low y) = 0
        · rw [if_pos e1] at h1
          have exy := (cmpB_eq _ _).1 e1
          rw [exy]
          by_cases e2 : Lib.compareBytes (low y) (low z) = 0
          · rw [if_pos e2] at h2 ⊢; exact ih ys zs h1 h2
          · rw [if_neg e2] at h2 ⊢; exact h2
        · rw [if_neg e1] at h1
          by_cases e2 : Lib.compareBytes (low y) (low z) = 0
          · rw [← (cmpB_eq _ _).1 e2, if_neg e1]; exact h1
          · rw [if_neg e2] at h2
            have := (cmpB_trans _ _ _ h1 h2).2 (.inl (by omega))
            rw [if_neg (by omega)]; omega
end Go.Proofs.Ytcmiidklddnfhaa
