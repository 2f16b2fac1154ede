/-
  NameBack, plain: the text of a name is read as it; where a fault lies.
-/
import Derived.Test.YtcmiidklddnfhaaETx
namespace Go.Proofs.Ytcmiidklddnfhaa
theorem lbl_escB (c : UInt8) (r : Bs) (a : Nat) (acc : Bs) : lbl (escB c ++ r) a acc = lbl r (a + (escB c).length) (acc ++ [c]) := by
  by_cases h1 : c = 46 ∨ c = 92
  · have e : escB c = [92, c] := by unfold escB; rw [if_pos h1]
    rw [e]
    have he : escP (c :: r) = .ok (c, 2) := by
      rw [escP_nd (by rcases h1 with rfl | rfl <;> decide), if_neg (by rcases h1 with rfl | rfl <;> decide)]
    show lbl (92 :: c :: r) a acc = _
    rw [lbl_esc _ a acc he]
    rfl
  · by_cases h2 : c < 33 ∨ 126 < c
    · have e : escB c = 92 :: (digs c).map (48 + ·) := by unfold escB; rw [if_neg h1, if_pos h2]
      rw [e]
      have key : ∀ n : Fin 256, isDig (48 + UInt8.ofNat n.1 / 100) = true ∧ isDig (48 + UInt8.ofNat n.1 / 10 % 10) = true ∧ isDig (48 + UInt8.ofNat n.1 % 10) = true ∧ 100 * ((48 + UInt8.ofNat n.1 / 100).toNat - 48) + 10 * ((48 + UInt8.ofNat n.1 / 10 % 10).toNat - 48) + ((48 + UInt8.ofNat n.1 % 10).toNat - 48) = n.1 := by decide +kernel
      obtain ⟨k1, k2, k3, k4⟩ := key ⟨c.toNat, c.toNat_lt⟩
      simp only [UInt8.ofNat_toNat] at k1 k2 k3 k4
      have he : escP ((48 + c / 100) :: (48 + c / 10 % 10) :: (48 + c % 10) :: r) = .ok (c, 4) := by
        rw [escP_d3 k1, if_pos ⟨k2, k3⟩, k4, if_neg (by have := c.toNat_lt; omega), UInt8.ofNat_toNat]
      show lbl (92 :: (48 + c / 100) :: (48 + c / 10 % 10) :: (48 + c % 10) :: r) a acc = _
      rw [lbl_esc _ a acc he]
      rfl
    · have e : escB c = [c] := by unfold escB; rw [if_neg h1, if_neg h2]
      rw [e]
      exact lbl_char r a acc (fun h => h1 (.inl h)) h2 (fun h => h1 (.inr h))
theorem lbl_esc_all (l : Bs) (r : Bs) (a : Nat) (acc : Bs) : lbl (l.flatMap escB ++ r) a acc = lbl r (a + (l.flatMap escB).length) (acc ++ l) := by
  induction l generalizing a acc with
  | nil => simp
  | cons c l ih =>
    rw [List.flatMap_cons, List.append_assoc, lbl_escB, ih, List.append_assoc, List.length_append]
    congr 1
    omega
theorem escB_head (c : UInt8) : ∃ d t, escB c = d :: t ∧ d ≠ 46 := by
  unfold escB
  by_cases h1 : c = 46 ∨ c = 92
  · rw [if_pos h1]; exact ⟨92, [c], rfl, by decide⟩
  · rw [if_neg h1]
    split
    · exact ⟨92, _, rfl, by decide⟩
    · exact ⟨c, [], rfl, fun h => h1 (.inl h)⟩
theorem esc_head {l : Bs} (h : l ≠ []) : ∃ d t, l.flatMap escB = d :: t ∧ d ≠ 46 := by
  cases l with
  | nil => exact absurd rfl h
  | cons c l =>
    obtain ⟨d, t, e, hd⟩ := escB_head c
    exact ⟨d, t ++ l.flatMap escB, by rw [List.flatMap_cons, e]; rfl, hd⟩
/-- A label's text, with the point or at the end. -/
theorem labelP_text {l : Bs} (h : goodL l) (r : Bs) (a : Nat) : labelP (l.flatMap escB ++ 46 :: r) a = .ok (l, r, a + (textL l).length) := by
  obtain ⟨d, t, e, hd⟩ := esc_head (l := l) (by rintro rfl; exact absurd h.1 (by decide))
  have hl := lbl_esc_all l (46 :: r) a []
  rw [lbl_dot, List.nil_append] at hl
  have e2 : (textL l).length = (l.flatMap escB).length + 1 := by unfold textL; simp
  rw [e2, ← Nat.add_assoc]
  rw [e] at hl ⊢
  exact labelP_ok (r' := 46 :: r) hd hl h.2
theorem labelP_text_end {l : Bs} (h : goodL l) (a : Nat) : labelP (l.flatMap escB) a = .ok (l, [], a + (textL l).length) := by
  obtain ⟨d, t, e, hd⟩ := esc_head (l := l) (by rintro rfl; exact absurd h.1 (by decide))
  have hl := lbl_esc_all l [] a []
  rw [lbl_nil, List.nil_append, List.append_nil] at hl
  have e2 : (textL l).length = (l.flatMap escB).length + 1 := by unfold textL; simp
  rw [e2, ← Nat.add_assoc]
  rw [e] at hl ⊢
  exact labelP_ok (r' := []) hd hl h.2
theorem par_label {s : Bs} {a : Nat} {acc : List Bs} {b r' : Bs} {a' : Nat} (h : labelP s a = .ok (b, r', a')) (hs : s ≠ []) : par s a acc = par r' a' (acc ++ [b]) := by
  cases s with
  | nil => exact absurd rfl hs
  | cons c s => exact par_ok h
theorem par_texts (ls : List Bs) (h : ∀ l ∈ ls, goodL l) (a : Nat) (acc : List Bs) : par (ls.flatMap textL) a acc = .ok (acc ++ ls) := by
  induction ls generalizing a acc with
  | nil => rw [List.append_nil]; rfl
  | cons l ls ih =>
    have e : (l :: ls).flatMap textL = l.flatMap escB ++ 46 :: ls.flatMap textL := by rw [List.flatMap_cons]; unfold textL; simp
    rw [e, par_label (labelP_text (h l (by simp)) _ a) (by simp), ih (fun x hx => h x (List.mem_cons_of_mem _ hx)), List.append_assoc]
    rfl
theorem par_texts_end (ls : List Bs) (hne : ls ≠ []) (h : ∀ l ∈ ls, goodL l) (a : Nat) (acc : List Bs) : par (ls.flatMap textL).dropLast a acc = .ok (acc ++ ls) := by
  induction ls generalizing a acc with
  | nil => exact absurd rfl hne
  | cons l ls ih =>
    by_cases hl : ls = []
    · subst hl
      have e : ([l].flatMap textL).dropLast = l.flatMap escB := by simp [textL]
      obtain ⟨d, t, e3, _⟩ := esc_head (l := l) (by rintro rfl; exact absurd (h [] (by simp)).1 (by decide))
      rw [e, par_label (labelP_text_end (h l (by simp)) a) (by rw [e3]; simp)]
      rfl
    · have hne2 : ls.flatMap textL ≠ [] := by
        cases ls with
        | nil => exact absurd rfl hl
        | cons x xs => simp [textL]
      have e : ((l :: ls).flatMap textL).dropLast = l.flatMap escB ++ 46 :: (ls.flatMap textL).dropLast := by
        rw [List.flatMap_cons, List.dropLast_append_of_ne_nil hne2]; unfold textL; simp
      rw [e, par_label (labelP_text (h l (by simp)) _ a) (by simp), ih hl (fun x hx => h x (List.mem_cons_of_mem _ hx)), List.append_assoc]
      rfl
theorem parseP_of {s : Bs} {ls : List Bs} (h1 : s ≠ []) (h2 : s ≠ [46]) (h : par s 0 [] = .ok ls) (hj : (joinP ls).2 = 0) : parseP s = ((joinP ls).1, 0, 0) := by
  unfold parseP
  rw [if_neg h1, if_neg h2]
  change (match par s 0 [] with | .error (e, a) => _ | .ok ls => _) = _
  rw [h]; simp only; rw [if_pos hj]
theorem textN_cons {ls : List Bs} (hne : ls ≠ []) (h : ∀ l ∈ ls, goodL l) : ∃ d t, ls.flatMap textL = d :: t ∧ d ≠ 46 ∧ t ≠ [] := by
  cases ls with
  | nil => exact absurd rfl hne
  | cons l ls =>
    obtain ⟨d, t, e, hd⟩ := esc_head (l := l) (by rintro rfl; exact absurd (h [] (by simp)).1 (by decide))
    refine ⟨d, t ++ (46 :: ls.flatMap textL), ?_, hd, by simp⟩
    rw [List.flatMap_cons]; unfold textL; rw [e]; simp
/-- The text of a name is read as it. -/
theorem parse_text {n : Bs} (h : (labels n).2 = 0) : parseP (textN (labels n).1) = (n, 0, 0) := by
  obtain ⟨hg, hn, hl⟩ := labels_spec n h
  generalize (labels n).1 = ls at *
  subst hn
  have hj := joinP_good hg hl
  by_cases hne : ls = []
  · subst hne; rfl
  · have e : textN ls = ls.flatMap textL := by unfold textN; rw [if_neg hne]
    obtain ⟨d, t, e2, hd, ht⟩ := textN_cons hne hg
    rw [e]
    have := parseP_of (s := ls.flatMap textL) (ls := ls) (by rw [e2]; simp) (by rw [e2]; intro k; injection k with k1 k2; exact hd k1) (par_texts ls hg 0 []) (by rw [hj])
    rw [this, hj]
theorem parse_text_end {n : Bs} (h : (labels n).2 = 0) (hne : (labels n).1 ≠ []) : parseP (textN (labels n).1).dropLast = (n, 0, 0) := by
  obtain ⟨hg, hn, hl⟩ := labels_spec n h
  generalize (labels n).1 = ls at *
  subst hn
  have hj := joinP_good hg hl
  have e : textN ls = ls.flatMap textL := by unfold textN; rw [if_neg hne]
  obtain ⟨d, t, e2, hd, ht⟩ := textN_cons hne hg
  rw [e]
  have e3 : (ls.flatMap textL).dropLast = d :: t.dropLast := by rw [e2, List.dropLast_cons_of_ne_nil ht]
  have := parseP_of (s := (ls.flatMap textL).dropLast) (ls := ls) (by rw [e3]; simp) (by rw [e3]; intro k; injection k with k1 k2; exact hd k1) (par_texts_end ls hne hg 0 []) (by rw [hj])
  rw [this, hj]
theorem textN_last {ls : List Bs} : ∃ t, textN ls = t ++ [46] := by
  unfold textN
  split
  · exact ⟨[], rfl⟩
  · rename_i h
    obtain ⟨xs, x, rfl⟩ : ∃ xs x, ls = xs ++ [x] := ⟨ls.dropLast, ls.getLast h, (List.dropLast_concat_getLast h).symm⟩
    refine ⟨xs.flatMap textL ++ x.flatMap escB, ?_⟩
    rw [List.flatMap_append]; simp [textL]
theorem textN_len {n : Bs} (h : (labels n).2 = 0) : (textN (labels n).1).length ≤ 70000 := by
  obtain ⟨hg, hn, hl⟩ := labels_spec n h
  have h1 := enc_len2 (labels n).1
  rw [← hn] at h1
  have h2 := texts_len (labels n).1 (fun l hl => (hg l hl).2)
  unfold textN
  split
  · simp
  · omega
/-! Where a fault lies. -/
theorem escP_err {r : Bs} {e : Int} {o : Nat} (h : escP r = .error (e, o)) : e ≠ 0 ∧ o ≤ 1 := by
  unfold escP at h
  split at h
  · cases h; exact ⟨by decide, by decide⟩
  · split at h
    · split at h
      · cases h; exact ⟨by decide, by decide⟩
      · cases h
    · split at h
      · split at h
        · split at h
          · cases h; exact ⟨by decide, by decide⟩
          · cases h
        · cases h; exact ⟨by decide, by decide⟩
      · cases h; exact ⟨by decide, by decide⟩
theorem lbl_err (s : Bs) : ∀ (k : Nat) (r : Bs) (a : Nat) (acc : Bs) (e : Int) (p : Nat), r.length ≤ k → r = s.drop a → a ≤ s.length → lbl r a acc = .error (e, p) → e ≠ 0 ∧ p ≤ s.length := by
  intro k
  induction k with
  | zero =>
    intro r a acc e p hk hr ha h
    obtain rfl : r = [] := List.eq_nil_of_length_eq_zero (by omega)
    rw [lbl_nil] at h; cases h
  | succ k ih =>
    intro r a acc e p hk hr ha h
    cases r with
    | nil => rw [lbl_nil] at h; cases h
    | cons c r =>
      simp only [List.length_cons] at hk
      have hlen : r.length + 1 = s.length - a := by have := congrArg List.length hr; simpa using this
      have hr1 : r = s.drop (a + 1) := by
        have : (c :: r).drop 1 = (s.drop a).drop 1 := by rw [hr]
        rw [List.drop_drop] at this; simpa using this
      by_cases h0 : c = 46
      · subst h0; rw [lbl_dot] at h; cases h
      · by_cases h1 : c < 33 ∨ 126 < c
        · rw [lbl_bad r a acc h0 h1] at h; cases h; exact ⟨by decide, ha⟩
        · by_cases h2 : c = 92
          · subst h2
            cases he : escP r with
            | error e =>
              obtain ⟨e, o⟩ := e
              rw [lbl_esc_bad r a acc he] at h; cases h
              have := escP_err he
              exact ⟨this.1, by omega⟩
            | ok xm =>
              obtain ⟨x, m⟩ := xm
              rw [lbl_esc r a acc he] at h
              have hm := escP_ok he
              exact ih _ _ _ _ _ (by rw [List.length_drop]; omega) (by rw [hr1, List.drop_drop]; congr 1; omega) (by omega) h
          · rw [lbl_char r a acc h0 h1 h2] at h
            exact ih _ _ _ _ _ (by omega) hr1 (by omega) h
theorem labelP_fault {s : Bs} {c : UInt8} {r : Bs} {a : Nat} {e : Int} {p : Nat} (hr : c :: r = s.drop a) (ha : a ≤ s.length) (h : labelP (c :: r) a = .error (e, p)) : e ≠ 0 ∧ p ≤ s.length := by
  by_cases h0 : c = 46
  · subst h0; rw [labelP_dot] at h; cases h; exact ⟨by decide, ha⟩
  · cases hl : lbl (c :: r) a [] with
    | error x =>
      rw [labelP_err h0 hl] at h; cases h
      exact lbl_err s _ _ _ _ _ _ (Nat.le_refl _) hr ha hl
    | ok x =>
      obtain ⟨b1, r1, a1⟩ := x
      by_cases h1 : 63 < b1.length
      · rw [labelP_long h0 hl h1] at h; cases h; exact ⟨by decide, ha⟩
      · rw [labelP_ok h0 hl (by omega)] at h; cases h
theorem par_fault (s : Bs) : ∀ (k : Nat) (r : Bs) (a : Nat) (acc : List Bs) (e : Int) (p : Nat), r.length ≤ k → r = s.drop a → par r a acc = .error (e, p) → e ≠ 0 ∧ p ≤ s.length := by
  intro k
  induction k with
  | zero =>
    intro r a acc e p hk hr h
    obtain rfl : r = [] := List.eq_nil_of_length_eq_zero (by omega)
    rw [par_nil] at h; cases h
  | succ k ih =>
    intro r a acc e p hk hr h
    cases r with
    | nil => rw [par_nil] at h; cases h
    | cons c r =>
      have hlen : r.length + 1 = s.length - a := by have := congrArg List.length hr; simpa using this
      cases hl : labelP (c :: r) a with
      | error x =>
        rw [par_err hl] at h; cases h
        exact labelP_fault hr (by omega) hl
      | ok x =>
        obtain ⟨b, r', a'⟩ := x
        rw [par_ok hl] at h
        have h1 := labelP_less hl
        rw [hr] at hl
        have h2 := (labelP_at (s := s) (by omega) hl).1
        exact ih _ _ _ _ _ (by simp only [List.length_cons] at hk; omega) h2 h
/-- What a reading answers: a fault that lies in the text, and no name; or a name that may be. -/
theorem parse_spec (s : Bs) : ((parseP s).2.1 ≠ 0 ∧ (parseP s).1 = [] ∧ 0 ≤ (parseP s).2.2 ∧ (parseP s).2.2 ≤ (s.length : Int)) ∨ ((parseP s).2 = (0, 0) ∧ (labels (parseP s).1).2 = 0) := by
  unfold parseP
  by_cases h1 : s = []
  · rw [if_pos h1]; left; exact ⟨by decide, rfl, by decide, by simp⟩
  · rw [if_neg h1]
    by_cases h2 : s = [46]
    · rw [if_pos h2]; right; exact ⟨rfl, by decide⟩
    · rw [if_neg h2]
      change _ ∨ _
      cases hp : par s 0 [] with
      | error x =>
        obtain ⟨e, p⟩ := x
        have := par_fault s _ s 0 [] e p (Nat.le_refl _) rfl hp
        unfold par at hp
        rw [hp]
        left; exact ⟨this.1, rfl, by simp, by simp; omega⟩
      | ok ls =>
        unfold par at hp
        rw [hp]
        simp only
        by_cases hj : (joinP ls).2 = 0
        · rw [if_pos hj]
          right
          refine ⟨rfl, ?_⟩
          have hz : (∀ l ∈ ls, goodL l) ∧ (encN ls).length ≤ 255 ∧ joinP ls = (encN ls, 0) := by
            unfold joinP at hj ⊢
            by_cases h1 : joinE ls = 0
            · rw [if_neg (by simp [h1])] at hj ⊢
              by_cases h2 : 255 < (encN ls).length
              · rw [if_pos h2] at hj; simp at hj
              · rw [if_neg h2]; exact ⟨(joinE_zero ls).1 h1, by omega, rfl⟩
            · rw [if_pos h1] at hj; exact absurd hj h1
          obtain ⟨g1, g2, g3⟩ := hz
          rw [g3, labels_enc _ g1 g2]
        · rw [if_neg hj]
          left; exact ⟨hj, rfl, by simp, by simp⟩
end Go.Proofs.Ytcmiidklddnfhaa
