/-
  Names, plain: labels of a name, the name of labels, lower form. No program.
-/
namespace Go.Proofs.Ytlbhfnjhhpcphaa
abbrev Bs := List UInt8
/-- The labels of a name, by so many steps; none: it is no name. -/
def labF : Nat → Bs → Option (List Bs)
  | 0, _ => none
  | _ + 1, [] => none
  | k + 1, c :: r =>
    if c = 0 then (if r = [] then some [] else none)
    else if 63 < c.toNat ∨ r.length < c.toNat then none
    else (labF k (r.drop c.toNat)).map (r.take c.toNat :: ·)
/-- The labels of a name. -/
def lab (n : Bs) : Option (List Bs) := labF n.length n
theorem labF_more (k : Nat) : ∀ n : Bs, n.length ≤ k → labF k n = labF n.length n := by
  suffices h : ∀ m k n, n.length ≤ m → m ≤ k → labF k n = labF m n from fun n hn => h _ _ _ (Nat.le_refl _) hn
  intro m
  induction m with
  | zero => intro k n h1 _; obtain rfl : n = [] := List.eq_nil_of_length_eq_zero (by omega); cases k <;> rfl
  | succ m ih =>
    intro k n h1 h2
    obtain ⟨k, rfl⟩ : ∃ j, k = j + 1 := ⟨k - 1, by omega⟩
    cases n with
    | nil => rfl
    | cons c r =>
      simp only [labF]
      rw [ih k (r.drop c.toNat) (by simp at h1 ⊢; omega) (by omega)]
theorem lab_nil : lab [] = none := rfl
theorem lab_cons (c : UInt8) (r : Bs) : lab (c :: r) = if c = 0 then (if r = [] then some [] else none) else if 63 < c.toNat ∨ r.length < c.toNat then none else (lab (r.drop c.toNat)).map (r.take c.toNat :: ·) := by
  show labF (r.length + 1) (c :: r) = _
  simp only [labF]
  rw [labF_more r.length (r.drop c.toNat) (by simp)]
  rfl
/-- A label as it stands in a name. -/
def encL (l : Bs) : Bs := UInt8.ofNat l.length :: l
/-- The name of labels. -/
def encN (ls : List Bs) : Bs := ls.flatMap encL ++ [0]
/-- A label that may be. -/
def goodL (l : Bs) : Prop := 1 ≤ l.length ∧ l.length ≤ 63
instance (l : Bs) : Decidable (goodL l) := by unfold goodL; infer_instance
theorem encN_nil : encN [] = [0] := rfl
theorem encN_cons (l : Bs) (ls : List Bs) : encN (l :: ls) = UInt8.ofNat l.length :: (l ++ encN ls) := by simp [encN, encL]
theorem ofNat_len {l : Bs} (h : goodL l) : (UInt8.ofNat l.length).toNat = l.length ∧ UInt8.ofNat l.length ≠ 0 := by
  obtain ⟨h1, h2⟩ := h
  have e : (UInt8.ofNat l.length).toNat = l.length := by simp; omega
  refine ⟨e, fun h => ?_⟩
  rw [h] at e; simp at e; omega
theorem lab_encN (ls : List Bs) (h : ∀ l ∈ ls, goodL l) : lab (encN ls) = some ls := by
  induction ls with
  | nil => rfl
  | cons l ls ih =>
    obtain ⟨e1, e2⟩ := ofNat_len (h l (by simp))
    have hg := h l (by simp)
    rw [encN_cons, lab_cons, if_neg e2, if_neg (by rw [e1]; simp; exact hg.2), e1, List.drop_left, List.take_left, ih (fun x hx => h x (List.mem_cons_of_mem _ hx))]
    rfl
theorem lab_some {n : Bs} {ls : List Bs} (h : lab n = some ls) : (∀ l ∈ ls, goodL l) ∧ n = encN ls := by
  suffices key : ∀ k n ls, n.length ≤ k → lab n = some ls → (∀ l ∈ ls, goodL l) ∧ n = encN ls from key _ n ls (Nat.le_refl _) h
  intro k
  induction k with
  | zero => intro n ls hk h; obtain rfl : n = [] := List.eq_nil_of_length_eq_zero (by omega); simp [lab_nil] at h
  | succ k ih =>
    intro n ls hk h
    cases n with
    | nil => simp [lab_nil] at h
    | cons c r =>
      rw [lab_cons] at h
      by_cases h0 : c = 0
      · rw [if_pos h0] at h
        by_cases hr : r = []
        · rw [if_pos hr] at h; cases h; subst h0 hr; exact ⟨by simp, rfl⟩
        · rw [if_neg hr] at h; cases h
      · rw [if_neg h0] at h
        by_cases hb : 63 < c.toNat ∨ r.length < c.toNat
        · rw [if_pos hb] at h; cases h
        · rw [if_neg hb] at h
          obtain ⟨ls', h1, rfl⟩ := Option.map_eq_some_iff.1 h
          obtain ⟨g1, g2⟩ := ih _ _ (by simp at hk ⊢; omega) h1
          have hc : 0 < c.toNat := by
            rcases Nat.eq_zero_or_pos c.toNat with h | h
            · exact absurd (UInt8.toNat_inj.1 h) h0
            · exact h
          have hlen : (r.take c.toNat).length = c.toNat := by simp; omega
          refine ⟨fun l hl => ?_, ?_⟩
          · rcases List.mem_cons.1 hl with rfl | hl
            · exact ⟨by omega, by omega⟩
            · exact g1 l hl
          · rw [encN_cons, hlen, ← g2, List.take_append_drop]
            congr 1
            exact (UInt8.ofNat_toNat).symm
theorem lab_iff {n : Bs} {ls : List Bs} : lab n = some ls ↔ (∀ l ∈ ls, goodL l) ∧ n = encN ls :=
  ⟨lab_some, fun ⟨h1, h2⟩ => by rw [h2]; exact lab_encN ls h1⟩
/-- Behind the first labels. -/
def labAt (n : Bs) (pre : List Bs) (rest : Bs) : Prop := lab n = (lab rest).map (pre ++ ·) ∧ pre.length + rest.length ≤ n.length
theorem labAt.start (n : Bs) : labAt n [] n := ⟨by simp, by simp⟩
theorem labAt.step {n : Bs} {pre : List Bs} {c : UInt8} {r : Bs} (h : labAt n pre (c :: r)) (h0 : c ≠ 0) (h1 : c.toNat ≤ 63) (h2 : c.toNat ≤ r.length) : labAt n (pre ++ [r.take c.toNat]) (r.drop c.toNat) := by
  refine ⟨?_, ?_⟩
  · rw [h.1, lab_cons, if_neg h0, if_neg (by omega)]
    cases lab (r.drop c.toNat) <;> simp
  · have hc : 0 < c.toNat := by
      rcases Nat.eq_zero_or_pos c.toNat with h | h
      · exact absurd (UInt8.toNat_inj.1 h) h0
      · exact h
    have := h.2
    simp at this ⊢; omega
theorem labAt.done {n : Bs} {pre : List Bs} (h : labAt n pre [0]) : lab n = some pre := by
  rw [h.1]; simp [lab_cons]
theorem labAt.bad {n : Bs} {pre : List Bs} {rest : Bs} (h : labAt n pre rest) (hr : lab rest = none) : lab n = none := by
  rw [h.1, hr]; rfl
/-- Labels: the labels, or the error. -/
def labels (n : Bs) : List Bs × Int :=
  match lab n with
  | none => ([], 4)
  | some ls => if 255 < n.length then ([], 3) else (ls, 0)
theorem labels_ok {n : Bs} {ls : List Bs} (h : lab n = some ls) (h2 : n.length ≤ 255) : labels n = (ls, 0) := by
  unfold labels; rw [h]; simp only; rw [if_neg (by omega)]
theorem labels_long {n : Bs} {ls : List Bs} (h : lab n = some ls) (h2 : 255 < n.length) : labels n = ([], 3) := by
  unfold labels; rw [h]; simp only; rw [if_pos h2]
theorem labels_bad {n : Bs} (h : lab n = none) : labels n = ([], 4) := by
  unfold labels; rw [h]
/-- Strings of bytes. -/
def mk (l : Bs) : ByteArray := ⟨l.toArray⟩
theorem mk_toList (l : Bs) : (mk l).data.toList = l := rfl
theorem mk_size (l : Bs) : (mk l).size = l.length := rfl
theorem mk_of (s : ByteArray) : mk s.data.toList = s := by cases s; rfl
theorem mk_inj {a b : Bs} : mk a = mk b ↔ a = b := ⟨fun h => by have := congrArg (·.data.toList) h; exact this, fun h => by rw [h]⟩
end Go.Proofs.Ytlbhfnjhhpcphaa
