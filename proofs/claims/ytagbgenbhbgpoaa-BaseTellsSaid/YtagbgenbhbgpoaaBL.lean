/-
  Plain: bytes as text of 64 letters, as a machine of bits.
-/
namespace Go.Proofs.Ytagbgenbhbgpoaa
def letL : List UInt8 := [65, 66, 67, 68, 69, 70, 71, 72, 73, 74, 75, 76, 77, 78, 79, 80, 81, 82, 83, 84, 85, 86, 87, 88, 89, 90, 97, 98, 99, 100, 101, 102, 103, 104, 105, 106, 107, 108, 109, 110, 111, 112, 113, 114, 115, 116, 117, 118, 119, 120, 121, 122, 48, 49, 50, 51, 52, 53, 54, 55, 56, 57, 45, 95]
/-- The letter of a number. -/
def lt (n : Nat) : UInt8 := letL.getD n 0
/-- Letters out, as long as there are six bits. -/
def drainS : Nat → Nat → List UInt8 → Nat × Nat × List UInt8
  | c + 6, n, out => drainS c (n % 2 ^ c) (out ++ [lt (n / 2 ^ c)])
  | c, n, out => (n, c, out)
def drain (n c : Nat) (out : List UInt8) : Nat × Nat × List UInt8 := drainS c n out
def feed (s : Nat × Nat × List UInt8) (b : UInt8) : Nat × Nat × List UInt8 := drain (s.1 * 256 + b.toNat) (s.2.1 + 8) s.2.2
def encSt (l : List UInt8) : Nat × Nat × List UInt8 := l.foldl feed (0, 0, [])
def finish (s : Nat × Nat × List UInt8) : List UInt8 := if 0 < s.2.1 then s.2.2 ++ [lt (s.1 * 2 ^ (6 - s.2.1))] else s.2.2
def enc (l : List UInt8) : List UInt8 := finish (encSt l)
theorem drain_yes {n c : Nat} {out : List UInt8} (h : 6 ≤ c) : drain n c out = drain (n % 2 ^ (c - 6)) (c - 6) (out ++ [lt (n / 2 ^ (c - 6))]) := by
  obtain ⟨d, rfl⟩ : ∃ d, c = d + 6 := ⟨c - 6, by omega⟩
  unfold drain
  rw [drainS, Nat.add_sub_cancel]
theorem drain_no {n c : Nat} {out : List UInt8} (h : ¬ 6 ≤ c) : drain n c out = (n, c, out) := by
  unfold drain
  match c, h with
  | 0, _ | 1, _ | 2, _ | 3, _ | 4, _ | 5, _ => rfl
  | c + 6, h => omega
theorem drain_ok (c : Nat) : ∀ (n : Nat) (out : List UInt8), n < 2 ^ c → (drain n c out).1 < 2 ^ (drain n c out).2.1 ∧ (drain n c out).2.1 < 6 ∧ 6 * (drain n c out).2.2.length + (drain n c out).2.1 = 6 * out.length + c := by
  induction c using Nat.strongRecOn with
  | _ c ih =>
    intro n out hn
    by_cases h : 6 ≤ c
    · rw [drain_yes h]
      obtain ⟨h1, h2, h3⟩ := ih (c - 6) (by omega) (n % 2 ^ (c - 6)) (out ++ [lt (n / 2 ^ (c - 6))]) (Nat.mod_lt _ (Nat.two_pow_pos _))
      exact ⟨h1, h2, by rw [h3]; simp; omega⟩
    · rw [drain_no h]; exact ⟨hn, by simp; omega, rfl⟩
theorem feed_ok {s : Nat × Nat × List UInt8} (b : UInt8) (h1 : s.1 < 2 ^ s.2.1) : (feed s b).1 < 2 ^ (feed s b).2.1 ∧ (feed s b).2.1 < 6 ∧ 6 * (feed s b).2.2.length + (feed s b).2.1 = 6 * s.2.2.length + s.2.1 + 8 := by
  have hb : b.toNat < 256 := b.toNat_lt
  have h := drain_ok (s.2.1 + 8) (s.1 * 256 + b.toNat) s.2.2 (by rw [Nat.pow_add]; omega)
  exact h
theorem encSt_snoc (l : List UInt8) (b : UInt8) : encSt (l ++ [b]) = feed (encSt l) b := by unfold encSt; rw [List.foldl_append]; rfl
theorem encSt_take (l : List UInt8) (k : Nat) (h : k < l.length) : encSt (l.take (k + 1)) = feed (encSt (l.take k)) l[k] := by
  rw [List.take_succ_eq_append_getElem h, encSt_snoc]
theorem snoc_ind {α : Type} {P : List α → Prop} (h0 : P []) (h1 : ∀ l a, P l → P (l ++ [a])) (l : List α) : P l := by
  have h : ∀ r : List α, P r.reverse := by
    intro r
    induction r with
    | nil => exact h0
    | cons a r ih => rw [List.reverse_cons]; exact h1 _ _ ih
  have := h l.reverse
  rwa [List.reverse_reverse] at this
theorem encSt_ok (l : List UInt8) : (encSt l).1 < 2 ^ (encSt l).2.1 ∧ (encSt l).2.1 < 6 ∧ 6 * (encSt l).2.2.length + (encSt l).2.1 = 8 * l.length := by
  induction l using snoc_ind with
  | h0 => exact ⟨by decide, by decide, rfl⟩
  | h1 l b ih =>
    rw [encSt_snoc]
    obtain ⟨h1, h2, h3⟩ := feed_ok b ih.1
    exact ⟨h1, h2, by rw [h3]; simp; omega⟩
def pre (p : List UInt8) (s : Nat × Nat × List UInt8) : Nat × Nat × List UInt8 := (s.1, s.2.1, p ++ s.2.2)
theorem drain_pre (p : List UInt8) (c : Nat) : ∀ (n : Nat) (o : List UInt8), drain n c (p ++ o) = pre p (drain n c o) := by
  induction c using Nat.strongRecOn with
  | _ c ih =>
    intro n o
    by_cases h : 6 ≤ c
    · rw [drain_yes h, drain_yes h, List.append_assoc, ih (c - 6) (by omega)]
    · rw [drain_no h, drain_no h]; rfl
theorem feed_pre (p : List UInt8) (s : Nat × Nat × List UInt8) (b : UInt8) : feed (pre p s) b = pre p (feed s b) := drain_pre p _ _ _
theorem foldl_pre (p : List UInt8) (l : List UInt8) : ∀ s, l.foldl feed (pre p s) = pre p (l.foldl feed s) := by
  induction l with
  | nil => intro s; rfl
  | cons b l ih => intro s; rw [List.foldl_cons, List.foldl_cons, feed_pre, ih]
theorem finish_pre (p : List UInt8) (s : Nat × Nat × List UInt8) : finish (pre p s) = p ++ finish s := by
  unfold finish pre; simp only; split <;> simp
theorem encSt_three {a : List UInt8} (h : a.length % 3 = 0) : ∃ o, encSt a = (0, 0, o) := by
  obtain ⟨h1, h2, h3⟩ := encSt_ok a
  generalize encSt a = s at *
  obtain ⟨n, c, o⟩ := s
  simp only at h1 h2 h3
  obtain rfl : c = 0 := by omega
  exact ⟨o, by rw [show n = 0 from by simpa using h1]⟩
theorem enc_append {a : List UInt8} (h : a.length % 3 = 0) (b : List UInt8) : enc (a ++ b) = enc a ++ enc b := by
  obtain ⟨o, ho⟩ := encSt_three h
  have e : encSt (a ++ b) = pre o (encSt b) := by
    have h1 : encSt (a ++ b) = b.foldl feed (encSt a) := by unfold encSt; rw [List.foldl_append]
    rw [h1, ho, show ((0, 0, o) : Nat × Nat × List UInt8) = pre o (0, 0, []) from by simp [pre], foldl_pre]; rfl
  unfold enc
  rw [e, finish_pre, ho]
  rfl
theorem enc_len (l : List UInt8) : 6 * (enc l).length < 8 * l.length + 6 ∧ 8 * l.length ≤ 6 * (enc l).length := by
  obtain ⟨h1, h2, h3⟩ := encSt_ok l
  unfold enc finish
  split
  · simp; omega
  · omega
/-- A letter's number; 255: it is none. -/
def dnum (i : Nat) : Nat := if 65 ≤ i ∧ i ≤ 90 then i - 65 else if 97 ≤ i ∧ i ≤ 122 then i - 71 else if 48 ≤ i ∧ i ≤ 57 then i + 4 else if i = 45 then 62 else if i = 95 then 63 else 255
theorem dnum_or (i : Nat) : dnum i < 64 ∨ dnum i = 255 := by unfold dnum; repeat (first | split | omega)
def dfeed (s : Nat × Nat × List UInt8) (b : UInt8) : Nat × Nat × List UInt8 :=
  if 8 ≤ s.2.1 + 6 then ((s.1 * 64 + dnum b.toNat) % 2 ^ (s.2.1 + 6 - 8), s.2.1 + 6 - 8, s.2.2 ++ [UInt8.ofNat ((s.1 * 64 + dnum b.toNat) / 2 ^ (s.2.1 + 6 - 8))])
  else (s.1 * 64 + dnum b.toNat, s.2.1 + 6, s.2.2)
def decSt (l : List UInt8) : Nat × Nat × List UInt8 := l.foldl dfeed (0, 0, [])
theorem decSt_snoc (l : List UInt8) (b : UInt8) : decSt (l ++ [b]) = dfeed (decSt l) b := by unfold decSt; rw [List.foldl_append]; rfl
theorem decSt_take (l : List UInt8) (k : Nat) (h : k < l.length) : decSt (l.take (k + 1)) = dfeed (decSt (l.take k)) l[k] := by
  rw [List.take_succ_eq_append_getElem h, decSt_snoc]
def okL (b : UInt8) : Bool := decide (dnum b.toNat < 64)
theorem dfeed_ok {s : Nat × Nat × List UInt8} {b : UInt8} (h1 : s.1 < 2 ^ s.2.1) (h2 : s.2.1 < 8) (hb : okL b = true) :
    (dfeed s b).1 < 2 ^ (dfeed s b).2.1 ∧ (dfeed s b).2.1 < 8 ∧ 8 * (dfeed s b).2.2.length + (dfeed s b).2.1 = 8 * s.2.2.length + s.2.1 + 6 := by
  have hb' : dnum b.toNat < 64 := of_decide_eq_true hb
  have h3 : s.1 * 64 + dnum b.toNat < 2 ^ (s.2.1 + 6) := by rw [Nat.pow_add]; omega
  unfold dfeed
  by_cases h : 8 ≤ s.2.1 + 6
  · rw [if_pos h]
    exact ⟨Nat.mod_lt _ (Nat.two_pow_pos _), by simp only; omega, by simp; omega⟩
  · rw [if_neg h]
    exact ⟨h3, by simp only; omega, by simp; omega⟩
theorem decSt_ok (l : List UInt8) (h : ∀ b ∈ l, okL b = true) : (decSt l).1 < 2 ^ (decSt l).2.1 ∧ (decSt l).2.1 < 8 ∧ 8 * (decSt l).2.2.length + (decSt l).2.1 = 6 * l.length := by
  induction l using snoc_ind with
  | h0 => exact ⟨by decide, by decide, rfl⟩
  | h1 l b ih =>
    rw [decSt_snoc]
    obtain ⟨i1, i2, i3⟩ := ih fun b hb => h b (by simp [hb])
    obtain ⟨h1, h2, h3⟩ := dfeed_ok (b := b) i1 i2 (h b (by simp))
    exact ⟨h1, h2, by rw [h3]; simp; omega⟩
def sizeF (n : Int) : Int × Bool := if n < 0 ∨ n % 4 = 1 then (0, false) else (n / 4 * 3 + max (n % 4 - 1) 0, true)
/-- What Decode answers: bytes, an error, a place. -/
def dec (l : List UInt8) : List UInt8 × Int × Int :=
  match l.findIdx? (fun b => !okL b) with
  | some i => ([], 4, i)
  | none => if (sizeF l.length).2 = false then ([], 4, l.length) else if (decSt l).1 ≠ 0 then ([], 4, l.length - 1) else ((decSt l).2.2, 0, 0)
theorem dec_bad {l : List UInt8} {k : Nat} (hk : k < l.length) (h : ∀ i, (hi : i < k) → okL (l[i]'(by omega)) = true) (hb : okL l[k] = false) : dec l = ([], 4, (k : Int)) := by
  have e : l.findIdx? (fun b => !okL b) = some k := by
    rw [List.findIdx?_eq_some_iff_getElem]
    exact ⟨hk, by simp [hb], fun j hj => by simp [h j hj]⟩
  unfold dec; rw [e]
theorem dec_good {l : List UInt8} (h : ∀ b ∈ l, okL b = true) : dec l = if (sizeF l.length).2 = false then ([], 4, (l.length : Int)) else if (decSt l).1 ≠ 0 then ([], 4, (l.length : Int) - 1) else ((decSt l).2.2, 0, 0) := by
  have e : l.findIdx? (fun b => !okL b) = none := by
    rw [List.findIdx?_eq_none_iff]; intro b hb; simp [h b hb]
  unfold dec; rw [e]
end Go.Proofs.Ytagbgenbhbgpoaa
