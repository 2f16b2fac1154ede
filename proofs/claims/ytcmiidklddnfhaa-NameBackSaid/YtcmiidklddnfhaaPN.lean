/-
  Names, plain: the reading of a text. No program.
-/
import Derived.Test.YtcmiidklddnfhaaEE
namespace Go.Proofs.Ytcmiidklddnfhaa
def isDig (c : UInt8) : Bool := 48 ≤ c && c ≤ 57
/-- What stands behind a backslash: the byte, and how many bytes that is, the backslash too; or the fault, so many bytes on from the backslash. -/
def escP : Bs → Except (Int × Nat) (UInt8 × Nat)
  | [] => .error (4, 0)
  | a :: t =>
    if isDig a = false then (if a < 33 ∨ 126 < a then .error (4, 1) else .ok (a, 2))
    else match t with
      | b :: c :: _ => if isDig b = true ∧ isDig c = true then (if 255 < 100 * (a.toNat - 48) + 10 * (b.toNat - 48) + (c.toNat - 48) then .error (5, 0) else .ok (UInt8.ofNat (100 * (a.toNat - 48) + 10 * (b.toNat - 48) + (c.toNat - 48)), 4)) else .error (4, 0)
      | _ => .error (4, 0)
/-- A label's bytes, from a place on. -/
def lblF : Nat → Bs → Nat → Bs → Except (Int × Nat) (Bs × Bs × Nat)
  | 0, r, at_, acc => .ok (acc, r, at_)
  | _ + 1, [], at_, acc => .ok (acc, [], at_)
  | k + 1, c :: r, at_, acc =>
    if c = 46 then .ok (acc, c :: r, at_)
    else if c < 33 ∨ 126 < c then .error (4, at_)
    else if c = 92 then (match escP r with
      | .error (e, o) => .error (e, at_ + o)
      | .ok (x, m) => lblF k (r.drop (m - 1)) (at_ + m) (acc ++ [x]))
    else lblF k r (at_ + 1) (acc ++ [c])
/-- A label, and the point behind it. -/
def labelP (r : Bs) (at_ : Nat) : Except (Int × Nat) (Bs × Bs × Nat) :=
  if r.head? = some 46 then .error (4, at_)
  else match lblF r.length r at_ [] with
    | .error e => .error e
    | .ok (b, r', a') => if 63 < b.length then .error (3, at_) else .ok (b, r'.drop 1, a' + 1)
/-- All labels. -/
def parF : Nat → Bs → Nat → List Bs → Except (Int × Nat) (List Bs)
  | 0, _, _, acc => .ok acc
  | _ + 1, [], _, acc => .ok acc
  | k + 1, c :: r, at_, acc => match labelP (c :: r) at_ with
    | .error e => .error e
    | .ok (b, r', a') => parF k r' a' (acc ++ [b])
/-- Parse: the name, the error, where. -/
def parseP (s : Bs) : Bs × Int × Int :=
  if s = [] then ([], 4, 0) else if s = [46] then ([0], 0, 0)
  else match parF s.length s 0 [] with
    | .error (e, a) => ([], e, a)
    | .ok ls => if (joinP ls).2 = 0 then ((joinP ls).1, 0, 0) else ([], (joinP ls).2, 0)
theorem escP_nd {a : UInt8} {t : Bs} (h : isDig a = false) : escP (a :: t) = if a < 33 ∨ 126 < a then .error (4, 1) else .ok (a, 2) := by simp [escP, h]
theorem escP_d1 {a : UInt8} (h : isDig a = true) : escP [a] = .error (4, 0) := by simp [escP, h]
theorem escP_d2 {a b : UInt8} (h : isDig a = true) : escP [a, b] = .error (4, 0) := by simp [escP, h]
theorem escP_d3 {a b c : UInt8} {z : Bs} (h : isDig a = true) : escP (a :: b :: c :: z) = if isDig b = true ∧ isDig c = true then (if 255 < 100 * (a.toNat - 48) + 10 * (b.toNat - 48) + (c.toNat - 48) then .error (5, 0) else .ok (UInt8.ofNat (100 * (a.toNat - 48) + 10 * (b.toNat - 48) + (c.toNat - 48)), 4)) else .error (4, 0) := by
  rw [escP, if_neg (by rw [h]; simp)]
theorem escP_ok {r : Bs} {x : UInt8} {m : Nat} (h : escP r = .ok (x, m)) : (m = 2 ∧ 1 ≤ r.length) ∨ (m = 4 ∧ 3 ≤ r.length) := by
  unfold escP at h
  split at h
  · cases h
  · split at h
    · split at h
      · cases h
      · cases h; left; simp
    · split at h
      · split at h
        · split at h
          · cases h
          · cases h; right; simp
        · cases h
      · cases h
theorem lblF_more (k : Nat) : ∀ (m : Nat) (r : Bs) (a : Nat) (acc : Bs), r.length ≤ m → m ≤ k → lblF k r a acc = lblF m r a acc := by
  intro m
  induction m generalizing k with
  | zero =>
    intro r a acc h1 _
    obtain rfl : r = [] := List.eq_nil_of_length_eq_zero (by omega)
    cases k <;> rfl
  | succ m ih =>
    intro r a acc h1 h2
    obtain ⟨k, rfl⟩ : ∃ j, k = j + 1 := ⟨k - 1, by omega⟩
    cases r with
    | nil => rfl
    | cons c r =>
      simp only [List.length_cons] at h1
      simp only [lblF]
      split
      · rfl
      · split
        · rfl
        · split
          · cases he : escP r with
            | error e => rfl
            | ok xm =>
              obtain ⟨x, m'⟩ := xm
              simp only
              exact ih k _ _ _ (by rw [List.length_drop]; omega) (by omega)
          · exact ih k _ _ _ (by omega) (by omega)
/-- The reading of a label goes on: at a place, with what was read. -/
def lbl (r : Bs) (a : Nat) (acc : Bs) := lblF r.length r a acc
theorem lbl_nil (a : Nat) (acc : Bs) : lbl [] a acc = .ok (acc, [], a) := rfl
theorem lbl_dot (r : Bs) (a : Nat) (acc : Bs) : lbl (46 :: r) a acc = .ok (acc, 46 :: r, a) := rfl
theorem lbl_bad {c : UInt8} (r : Bs) (a : Nat) (acc : Bs) (h0 : c ≠ 46) (h : c < 33 ∨ 126 < c) : lbl (c :: r) a acc = .error (4, a) := by
  unfold lbl; simp only [List.length_cons, lblF]; rw [if_neg h0, if_pos h]
theorem lbl_esc_bad (r : Bs) (a : Nat) (acc : Bs) {e : Int} {o : Nat} (h : escP r = .error (e, o)) : lbl (92 :: r) a acc = .error (e, a + o) := by
  unfold lbl; simp only [List.length_cons, lblF]; rw [if_neg (by decide), if_neg (by decide), if_pos trivial, h]
theorem lbl_esc (r : Bs) (a : Nat) (acc : Bs) {x : UInt8} {m : Nat} (h : escP r = .ok (x, m)) : lbl (92 :: r) a acc = lbl (r.drop (m - 1)) (a + m) (acc ++ [x]) := by
  unfold lbl; simp only [List.length_cons, lblF]; rw [if_neg (by decide), if_neg (by decide), if_pos trivial, h]
  exact lblF_more _ _ _ _ _ (Nat.le_refl _) (by rw [List.length_drop]; omega)
theorem lbl_char {c : UInt8} (r : Bs) (a : Nat) (acc : Bs) (h0 : c ≠ 46) (h : ¬ (c < 33 ∨ 126 < c)) (h1 : c ≠ 92) : lbl (c :: r) a acc = lbl r (a + 1) (acc ++ [c]) := by
  unfold lbl; simp only [List.length_cons, lblF]; rw [if_neg h0, if_neg h, if_neg h1]
/-- Where a label's reading has come to. -/
theorem lbl_at (s : Bs) : ∀ (k : Nat) (r : Bs) (a : Nat) (acc b r' : Bs) (a' : Nat), r.length ≤ k → r = s.drop a → a ≤ s.length → lbl r a acc = .ok (b, r', a') → r' = s.drop a' ∧ a ≤ a' ∧ a' ≤ s.length ∧ b.length + a ≤ acc.length + a' := by
  intro k
  induction k with
  | zero =>
    intro r a acc b r' a' hk hr ha h
    obtain rfl : r = [] := List.eq_nil_of_length_eq_zero (by omega)
    rw [lbl_nil] at h; cases h; exact ⟨hr, Nat.le_refl _, ha, by omega⟩
  | succ k ih =>
    intro r a acc b r' a' hk hr ha h
    cases r with
    | nil => rw [lbl_nil] at h; cases h; exact ⟨hr, Nat.le_refl _, ha, by omega⟩
    | cons c r =>
      simp only [List.length_cons] at hk
      have hlen : r.length + 1 = s.length - a := by have := congrArg List.length hr; simpa using this
      have hr1 : r = s.drop (a + 1) := by
        have : (c :: r).drop 1 = (s.drop a).drop 1 := by rw [hr]
        rw [List.drop_drop] at this; simpa using this
      by_cases h0 : c = 46
      · subst h0; rw [lbl_dot] at h; cases h; exact ⟨hr, Nat.le_refl _, ha, by omega⟩
      · by_cases h1 : c < 33 ∨ 126 < c
        · rw [lbl_bad r a acc h0 h1] at h; cases h
        · by_cases h2 : c = 92
          · subst h2
            cases he : escP r with
            | error e => obtain ⟨e, o⟩ := e; rw [lbl_esc_bad r a acc he] at h; cases h
            | ok xm =>
              obtain ⟨x, m⟩ := xm
              rw [lbl_esc r a acc he] at h
              have hm := escP_ok he
              obtain ⟨g1, g2, g3, g4⟩ := ih _ _ _ _ _ _ (by rw [List.length_drop]; omega) (by rw [hr1, List.drop_drop]; congr 1; omega) (by omega) h
              exact ⟨g1, by omega, g3, by simp at g4; omega⟩
          · rw [lbl_char r a acc h0 h1 h2] at h
            obtain ⟨g1, g2, g3, g4⟩ := ih _ _ _ _ _ _ (by omega) hr1 (by omega) h
            exact ⟨g1, by omega, g3, by simp at g4; omega⟩
theorem labelP_dot (r : Bs) (a : Nat) : labelP (46 :: r) a = .error (4, a) := by unfold labelP; rw [if_pos (by simp)]
theorem labelP_err {c : UInt8} {r : Bs} {a : Nat} (h0 : c ≠ 46) {e : Int × Nat} (h : lbl (c :: r) a [] = .error e) : labelP (c :: r) a = .error e := by
  unfold labelP; rw [if_neg (by simpa using h0)]
  change (match lbl (c :: r) a [] with | .error e => _ | .ok (b, r', a') => _) = _
  rw [h]
theorem labelP_long {c : UInt8} {r : Bs} {a : Nat} (h0 : c ≠ 46) {b r' : Bs} {a' : Nat} (h : lbl (c :: r) a [] = .ok (b, r', a')) (h1 : 63 < b.length) : labelP (c :: r) a = .error (3, a) := by
  unfold labelP; rw [if_neg (by simpa using h0)]
  change (match lbl (c :: r) a [] with | .error e => _ | .ok (b, r', a') => _) = _
  rw [h]; simp only; rw [if_pos h1]
theorem labelP_ok {c : UInt8} {r : Bs} {a : Nat} (h0 : c ≠ 46) {b r' : Bs} {a' : Nat} (h : lbl (c :: r) a [] = .ok (b, r', a')) (h1 : b.length ≤ 63) : labelP (c :: r) a = .ok (b, r'.drop 1, a' + 1) := by
  unfold labelP; rw [if_neg (by simpa using h0)]
  change (match lbl (c :: r) a [] with | .error e => _ | .ok (b, r', a') => _) = _
  rw [h]; simp only; rw [if_neg (by omega)]
theorem lbl_more (s : Bs) : ∀ (k : Nat) (r : Bs) (a : Nat) (acc b r' : Bs) (a' : Nat), r.length ≤ k → lbl r a acc = .ok (b, r', a') → r'.length ≤ r.length := by
  intro k
  induction k with
  | zero =>
    intro r a acc b r' a' hk h
    obtain rfl : r = [] := List.eq_nil_of_length_eq_zero (by omega)
    rw [lbl_nil] at h; cases h; simp
  | succ k ih =>
    intro r a acc b r' a' hk h
    cases r with
    | nil => rw [lbl_nil] at h; cases h; simp
    | cons c r =>
      simp only [List.length_cons] at hk
      by_cases h0 : c = 46
      · subst h0; rw [lbl_dot] at h; cases h; simp
      · by_cases h1 : c < 33 ∨ 126 < c
        · rw [lbl_bad r a acc h0 h1] at h; cases h
        · by_cases h2 : c = 92
          · subst h2
            cases he : escP r with
            | error e => obtain ⟨e, o⟩ := e; rw [lbl_esc_bad r a acc he] at h; cases h
            | ok xm =>
              obtain ⟨x, m⟩ := xm
              rw [lbl_esc r a acc he] at h
              have := ih _ _ _ _ _ _ (by rw [List.length_drop]; omega) h
              rw [List.length_drop] at this; simp; omega
          · rw [lbl_char r a acc h0 h1 h2] at h
            have := ih _ _ _ _ _ _ (by omega) h
            simp; omega
theorem labelP_less {c : UInt8} {r : Bs} {a : Nat} {b r' : Bs} {a' : Nat} (h : labelP (c :: r) a = .ok (b, r', a')) : r'.length ≤ r.length := by
  by_cases h0 : c = 46
  · subst h0; rw [labelP_dot] at h; cases h
  · cases hl : lbl (c :: r) a [] with
    | error e => rw [labelP_err h0 hl] at h; cases h
    | ok x =>
      obtain ⟨b1, r1, a1⟩ := x
      by_cases h1 : 63 < b1.length
      · rw [labelP_long h0 hl h1] at h; cases h
      · rw [labelP_ok h0 hl (by omega)] at h
        cases h
        have := lbl_more [] _ _ _ _ _ _ _ (Nat.le_refl _) hl
        simp at this ⊢; omega
theorem parF_more (k : Nat) : ∀ (m : Nat) (r : Bs) (a : Nat) (acc : List Bs), r.length ≤ m → m ≤ k → parF k r a acc = parF m r a acc := by
  intro m
  induction m generalizing k with
  | zero =>
    intro r a acc h1 _
    obtain rfl : r = [] := List.eq_nil_of_length_eq_zero (by omega)
    cases k <;> rfl
  | succ m ih =>
    intro r a acc h1 h2
    obtain ⟨k, rfl⟩ : ∃ j, k = j + 1 := ⟨k - 1, by omega⟩
    cases r with
    | nil => rfl
    | cons c r =>
      simp only [parF]
      cases hl : labelP (c :: r) a with
      | error e => rfl
      | ok x =>
        obtain ⟨b, r', a'⟩ := x
        simp only
        have := labelP_less hl
        exact ih k _ _ _ (by simp at h1; omega) (by omega)
/-- The reading goes on. -/
def par (r : Bs) (a : Nat) (acc : List Bs) := parF r.length r a acc
theorem par_nil (a : Nat) (acc : List Bs) : par [] a acc = .ok acc := rfl
theorem par_err {c : UInt8} {r : Bs} {a : Nat} {acc : List Bs} {e : Int × Nat} (h : labelP (c :: r) a = .error e) : par (c :: r) a acc = .error e := by
  unfold par; simp only [List.length_cons, parF]; rw [h]
theorem par_ok {c : UInt8} {r : Bs} {a : Nat} {acc : List Bs} {b r' : Bs} {a' : Nat} (h : labelP (c :: r) a = .ok (b, r', a')) : par (c :: r) a acc = par r' a' (acc ++ [b]) := by
  unfold par; simp only [List.length_cons, parF]; rw [h]; simp only
  exact parF_more _ _ _ _ _ (Nat.le_refl _) (labelP_less h)
end Go.Proofs.Ytcmiidklddnfhaa
