/-
  Plain: the reference's text of bytes, and bytes of a text, are the machine's.
-/
import Derived.Test.YtagbgenbhbgpoaaR2
namespace Go.Proofs.Ytagbgenbhbgpoaa
theorem bitN_three (a b c : UInt8) (r : List UInt8) (i : Nat) : bitN (a :: b :: c :: r) (24 + i) = bitN r i := by
  unfold bitN
  rw [show (24 + i) / 8 = i / 8 + 3 from by omega, show (24 + i) % 8 = i % 8 from by omega]
  rfl
theorem sixN_three (a b c : UInt8) (r : List UInt8) (i k : Nat) : sixN (a :: b :: c :: r) (24 + i) k = sixN r i k := by
  induction k with
  | zero => rfl
  | succ k ih => rw [sixN, sixN, ih, show 24 + i + k = 24 + (i + k) from by omega, bitN_three]
theorem six_eq (l : List UInt8) (i : Nat) : sixN l i 6 = 32 * bitN l i + 16 * bitN l (i + 1) + 8 * bitN l (i + 2) + 4 * bitN l (i + 3) + 2 * bitN l (i + 4) + bitN l (i + 5) := by
  simp only [sixN, Nat.add_zero]; omega
theorem six0 (a : UInt8) (r : List UInt8) : sixN (a :: r) 0 6 = a.toNat / 4 := by
  have ha := a.toNat_lt
  rw [six_eq]; simp [bitN]; omega
theorem six6 (a : UInt8) : sixN [a] 6 6 = a.toNat % 4 * 16 := by
  have ha := a.toNat_lt
  rw [six_eq]; simp [bitN]; omega
theorem six6' (a b : UInt8) (r : List UInt8) : sixN (a :: b :: r) 6 6 = (a.toNat % 4 * 256 + b.toNat) / 16 := by
  have ha := a.toNat_lt
  have hb := b.toNat_lt
  rw [six_eq]; simp [bitN]; omega
theorem six12 (a b : UInt8) : sixN [a, b] 12 6 = (a.toNat % 4 * 256 + b.toNat) % 16 * 4 := by
  have ha := a.toNat_lt
  have hb := b.toNat_lt
  rw [six_eq]; simp [bitN]; omega
theorem six12' (a b c : UInt8) (r : List UInt8) : sixN (a :: b :: c :: r) 12 6 = ((a.toNat % 4 * 256 + b.toNat) % 16 * 256 + c.toNat) / 64 := by
  have ha := a.toNat_lt
  have hb := b.toNat_lt
  have hc := c.toNat_lt
  rw [six_eq]; simp [bitN]; omega
theorem six18 (a b c : UInt8) (r : List UInt8) : sixN (a :: b :: c :: r) 18 6 = ((a.toNat % 4 * 256 + b.toNat) % 16 * 256 + c.toNat) % 64 := by
  have ha := a.toNat_lt
  have hb := b.toNat_lt
  have hc := c.toNat_lt
  rw [six_eq]; simp [bitN]; omega
theorem refEnc_four (a b c : UInt8) (r : List UInt8) (k : Nat) : refEnc (a :: b :: c :: r) (k + 4) = refEnc (a :: b :: c :: r) 4 ++ refEnc r k := by
  unfold refEnc
  rw [Nat.add_comm, List.range_add, List.map_append, List.map_map]
  congr 1
  apply List.map_congr_left
  intro j _
  simp only [Function.comp]
  rw [show 6 * (4 + j) = 24 + 6 * j from by omega, sixN_three]
theorem refEnc_enc (n : Nat) : ∀ (l : List UInt8) (k : Nat), l.length = n → 8 * l.length ≤ 6 * k → 6 * k < 8 * l.length + 6 → refEnc l k = enc l := by
  induction n using Nat.strongRecOn with
  | _ n ih =>
    intro l k hl h1 h2
    match l, hl, h1, h2 with
    | [], _, h1, h2 =>
      simp at h2
      obtain rfl : k = 0 := by omega
      rfl
    | [a], _, h1, h2 =>
      simp at h1 h2
      obtain rfl : k = 2 := by omega
      rw [enc1]
      show [lt (sixN [a] 0 6), lt (sixN [a] 6 6)] = _
      rw [six0, six6]
    | [a, b], _, h1, h2 =>
      simp at h1 h2
      obtain rfl : k = 3 := by omega
      rw [enc2]
      show [lt (sixN [a, b] 0 6), lt (sixN [a, b] 6 6), lt (sixN [a, b] 12 6)] = _
      rw [six0, six6', six12]
    | a :: b :: c :: r, hl, h1, h2 =>
      simp at hl h1 h2
      obtain ⟨k, rfl⟩ : ∃ m, k = m + 4 := ⟨k - 4, by omega⟩
      rw [refEnc_four, ih r.length (by omega) r k rfl (by omega) (by omega)]
      have e : enc (a :: b :: c :: r) = enc [a, b, c] ++ enc r := enc_append (a := [a, b, c]) (by simp) r
      rw [e, enc3]
      show [lt (sixN (a :: b :: c :: r) 0 6), lt (sixN (a :: b :: c :: r) 6 6), lt (sixN (a :: b :: c :: r) 12 6), lt (sixN (a :: b :: c :: r) 18 6)] ++ enc r = _
      rw [six0, six6', six12', six18]
/-- The first t bits of a byte of a text. -/
def bN (S : List UInt8) (j : Nat) : Nat → Nat
  | 0 => 0
  | t + 1 => bN S j t + sbit S (8 * j + t) * 2 ^ (7 - t)
theorem bN_shape (S : List UInt8) (j t : Nat) (ht : t ≤ 8) : ∃ m, bN S j t = 2 ^ (8 - t) * m ∧ m < 2 ^ t := by
  induction t with
  | zero => exact ⟨0, rfl, by decide⟩
  | succ t ih =>
    obtain ⟨m, h1, h2⟩ := ih (by omega)
    have hb := sbit_lt S (8 * j + t)
    refine ⟨2 * m + sbit S (8 * j + t), ?_, by rw [Nat.pow_succ]; omega⟩
    rw [bN, h1, show 8 - t = (8 - (t + 1)) + 1 from by omega, Nat.pow_succ, show 7 - t = 8 - (t + 1) from by omega]
    rw [Nat.mul_add, Nat.mul_comm (sbit S (8 * j + t)), Nat.mul_assoc]
theorem bN_lt (S : List UInt8) (j t : Nat) (ht : t ≤ 8) : bN S j t < 256 := by
  obtain ⟨m, h1, h2⟩ := bN_shape S j t ht
  rw [h1, show (256 : Nat) = 2 ^ (8 - t) * 2 ^ t from by rw [← Nat.pow_add, show 8 - t + t = 8 from by omega]]
  exact Nat.mul_lt_mul_of_pos_left h2 (Nat.two_pow_pos _)
theorem bN_or (S : List UInt8) (j t : Nat) (ht : t < 8) : bN S j t ||| sbit S (8 * j + t) * 2 ^ (7 - t) = bN S j (t + 1) := by
  obtain ⟨m, h1, h2⟩ := bN_shape S j t (by omega)
  have hb := sbit_lt S (8 * j + t)
  have hlt : sbit S (8 * j + t) * 2 ^ (7 - t) < 2 ^ (8 - t) := by
    rw [show 8 - t = (7 - t) + 1 from by omega, Nat.pow_succ]
    have h3 : sbit S (8 * j + t) * 2 ^ (7 - t) ≤ 1 * 2 ^ (7 - t) := Nat.mul_le_mul_right _ (by omega)
    have := Nat.two_pow_pos (7 - t)
    omega
  rw [bN, h1, Nat.two_pow_add_eq_or_of_lt hlt]
theorem outS_eq (S : List UInt8) (n i : Nat) : outS S n i = (List.range n).map fun j => UInt8.ofNat (bN S j (min 8 (i - 8 * j))) := by
  induction i with
  | zero =>
    unfold outS
    apply List.ext_getElem
    · simp
    · intro j h1 h2; simp [bN]
  | succ i ih =>
    rw [outS, ih]
    apply List.ext_getElem
    · simp
    · intro j h1 h2
      simp at h1
      simp only [List.getElem_set, List.getElem_map, List.getElem_range]
      by_cases e : i / 8 = j
      · rw [if_pos e]
        have h3 : min 8 (i - 8 * j) = i % 8 := by omega
        have h4 : min 8 (i + 1 - 8 * j) = i % 8 + 1 := by omega
        rw [h4, e]
        have h5 : (((List.range n).map fun j => UInt8.ofNat (bN S j (min 8 (i - 8 * j)))).getD j 0) = UInt8.ofNat (bN S j (i % 8)) := by
          simp [List.getD_eq_getElem?_getD, h1, h3]
        rw [h5, ofN (bN_lt S j _ (by omega)), ← bN_or S j (i % 8) (by omega), show 8 * j + i % 8 = i from by omega]
      · rw [if_neg e]
        have h3 : min 8 (i + 1 - 8 * j) = min 8 (i - 8 * j) := by omega
        rw [h3]
theorem outS_full (S : List UInt8) (n : Nat) : outS S n (8 * n) = (List.range n).map fun j => UInt8.ofNat (bN S j 8) := by
  rw [outS_eq]
  apply List.map_congr_left
  intro j hj
  have : j < n := by simpa using hj
  rw [show min 8 (8 * n - 8 * j) = 8 from by omega]
theorem sbit_four (x y z t : UInt8) (r : List UInt8) (i : Nat) : sbit (x :: y :: z :: t :: r) (24 + i) = sbit r i := by
  unfold sbit
  rw [show (24 + i) / 6 = i / 6 + 4 from by omega, show (24 + i) % 6 = i % 6 from by omega]
  rfl
theorem bN_four (x y z t : UInt8) (r : List UInt8) (j k : Nat) : bN (x :: y :: z :: t :: r) (3 + j) k = bN r j k := by
  induction k with
  | zero => rfl
  | succ k ih => rw [bN, bN, ih, show 8 * (3 + j) + k = 24 + (8 * j + k) from by omega, sbit_four]
theorem bN_eq (S : List UInt8) (j : Nat) : bN S j 8 = 128 * sbit S (8 * j) + 64 * sbit S (8 * j + 1) + 32 * sbit S (8 * j + 2) + 16 * sbit S (8 * j + 3) + 8 * sbit S (8 * j + 4) + 4 * sbit S (8 * j + 5) + 2 * sbit S (8 * j + 6) + sbit S (8 * j + 7) := by
  simp only [bN, Nat.add_zero]; omega
theorem bN0 (x y : UInt8) (r : List UInt8) (_hx : dnum x.toNat < 64) (_hy : dnum y.toNat < 64) : bN (x :: y :: r) 0 8 = (dnum x.toNat * 64 + dnum y.toNat) / 16 := by
  rw [bN_eq]; simp [sbit]; omega
theorem bN1 (x y z : UInt8) (r : List UInt8) (_hx : dnum x.toNat < 64) (_hy : dnum y.toNat < 64) (_hz : dnum z.toNat < 64) : bN (x :: y :: z :: r) 1 8 = ((dnum x.toNat * 64 + dnum y.toNat) % 16 * 64 + dnum z.toNat) / 4 := by
  rw [bN_eq]; simp [sbit]; omega
theorem bN2 (x y z t : UInt8) (r : List UInt8) (_hx : dnum x.toNat < 64) (_hy : dnum y.toNat < 64) (_hz : dnum z.toNat < 64) (_ht : dnum t.toNat < 64) : bN (x :: y :: z :: t :: r) 2 8 = ((dnum x.toNat * 64 + dnum y.toNat) % 16 * 64 + dnum z.toNat) % 4 * 64 + dnum t.toNat := by
  rw [bN_eq]; simp [sbit]; omega
theorem out_dec (m : Nat) : ∀ (S : List UInt8) (n : Nat), S.length = m → (∀ b ∈ S, okL b = true) → S.length % 4 ≠ 1 → 8 * n ≤ 6 * S.length → 6 * S.length < 8 * n + 8 →
    ((List.range n).map fun j => UInt8.ofNat (bN S j 8)) = (decSt S).2.2 ∧ ((decSt S).1 = 0 ↔ ∀ t, t < 6 * S.length - 8 * n → sbit S (8 * n + t) = 0) := by
  induction m using Nat.strongRecOn with
  | _ m ih =>
    intro S n hS hok h4 h1 h2
    have hd : ∀ b ∈ S, dnum b.toNat < 64 := fun b hb => of_decide_eq_true (hok b hb)
    match S, hS with
    | [], _ =>
      simp at h1 h2
      obtain rfl : n = 0 := by omega
      exact ⟨rfl, by simp [decSt]⟩
    | [x], _ => simp at h4
    | [x, y], _ =>
      have hx := hd x (by simp)
      have hy := hd y (by simp)
      simp at h1 h2
      obtain rfl : n = 1 := by omega
      rw [dst2]
      refine ⟨by simp [List.range_succ, bN0 x y [] hx hy], ?_⟩
      simp only [List.length_cons, List.length_nil]
      constructor
      · intro h t ht
        have : t = 0 ∨ t = 1 ∨ t = 2 ∨ t = 3 := by omega
        rcases this with rfl | rfl | rfl | rfl <;> simp [sbit] <;> omega
      · intro h
        have t0 := h 0 (by omega)
        have t1 := h 1 (by omega)
        have t2 := h 2 (by omega)
        have t3 := h 3 (by omega)
        simp [sbit] at t0 t1 t2 t3
        omega
    | [x, y, z], _ =>
      have hx := hd x (by simp)
      have hy := hd y (by simp)
      have hz := hd z (by simp)
      simp at h1 h2
      obtain rfl : n = 2 := by omega
      rw [dst3]
      refine ⟨by simp [List.range_succ, bN0 x y [z] hx hy, bN1 x y z [] hx hy hz], ?_⟩
      simp only [List.length_cons, List.length_nil]
      constructor
      · intro h t ht
        have : t = 0 ∨ t = 1 := by omega
        rcases this with rfl | rfl <;> simp [sbit] <;> omega
      · intro h
        have t0 := h 0 (by omega)
        have t1 := h 1 (by omega)
        simp [sbit] at t0 t1
        omega
    | x :: y :: z :: t :: r, hS =>
      have hx := hd x (by simp)
      have hy := hd y (by simp)
      have hz := hd z (by simp)
      have ht := hd t (by simp)
      simp at hS h1 h2 h4
      obtain ⟨n, rfl⟩ : ∃ k, n = 3 + k := ⟨n - 3, by omega⟩
      obtain ⟨i1, i2⟩ := ih r.length (by omega) r n rfl (fun b hb => hok b (by simp [hb])) (by omega) (by omega) (by omega)
      rw [decSt_four, dst4]
      refine ⟨?_, ?_⟩
      · unfold pre
        simp only
        rw [← i1, List.range_add, List.map_append, List.map_map]
        congr 1
        · simp [List.range_succ, bN0 x y (z :: t :: r) hx hy, bN1 x y z (t :: r) hx hy hz, bN2 x y z t r hx hy hz ht]
        · apply List.map_congr_left
          intro j _
          simp only [Function.comp]
          rw [bN_four]
      · unfold pre
        simp only
        rw [i2]
        simp only [List.length_cons]
        constructor
        · intro h u hu
          rw [show 8 * (3 + n) + u = 24 + (8 * n + u) from by omega, sbit_four]
          exact h u (by omega)
        · intro h u hu
          have := h u (by omega)
          rw [show 8 * (3 + n) + u = 24 + (8 * n + u) from by omega, sbit_four] at this
          exact this
theorem rdec_dec (S : List UInt8) : rdec S = dec S := by
  unfold rdec dec
  cases hf : S.findIdx? (fun b => !okL b) with
  | some i => rfl
  | none =>
    have hall : ∀ b ∈ S, okL b = true := fun b hb => by
      have := List.findIdx?_eq_none_iff.1 hf b hb; simpa using this
    simp only
    by_cases h1 : (sizeF S.length).2 = false
    · rw [if_pos h1, if_pos h1]
    · rw [if_neg h1, if_neg h1]
      have h4 : ¬ ((S.length : Int) < 0 ∨ (S.length : Int) % 4 = 1) := by
        intro h; apply h1; unfold sizeF; rw [if_pos h]
      have hn : (sizeF (S.length : Int)).1 = (S.length : Int) / 4 * 3 + max ((S.length : Int) % 4 - 1) 0 := by unfold sizeF; rw [if_neg h4]
      obtain ⟨n, hn2⟩ : ∃ n : Nat, (sizeF (S.length : Int)).1.toNat = n := ⟨_, rfl⟩
      rw [hn2]
      obtain ⟨o1, o2⟩ := out_dec _ S n rfl hall (by omega) (by omega) (by omega)
      rw [outS_full, o1]
      by_cases h5 : (decSt S).1 = 0
      · rw [if_neg, if_neg (by simpa using h5)]
        rw [List.any_eq_true]
        rintro ⟨t, ht, h6⟩
        rw [o2.1 h5 t (by simpa using ht)] at h6
        exact absurd h6 (by decide)
      · rw [if_pos, if_pos h5]
        apply Classical.byContradiction
        intro h6
        apply h5
        rw [o2]
        intro t ht
        apply Classical.byContradiction
        intro h7
        apply h6
        rw [List.any_eq_true]
        exact ⟨t, by simpa using ht, by rw [bne_iff_ne]; exact h7⟩
end Go.Proofs.Ytagbgenbhbgpoaa
