/-
  Plain: what is encoded is decoded, what is decoded is encoded as it was.
-/
import Derived.Test.YtagbgenbhbgpoaaBL
namespace Go.Proofs.Ytagbgenbhbgpoaa
theorem lt_dnum (b : UInt8) (h : okL b = true) : lt (dnum b.toNat) = b := by
  have : ∀ n : Fin 256, okL (UInt8.ofNat n.val) = true → lt (dnum (UInt8.ofNat n.val).toNat) = UInt8.ofNat n.val := by decide +kernel
  have h2 := this ⟨b.toNat, b.toNat_lt⟩
  simp only [UInt8.ofNat_toNat] at h2
  exact h2 h
theorem dnum_lt (n : Nat) (h : n < 64) : dnum (lt n).toNat = n := by
  have : ∀ n : Fin 64, dnum (lt n.val).toNat = n.val := by decide +kernel
  exact this ⟨n, h⟩
theorem okL_lt (n : Nat) (h : n < 64) : okL (lt n) = true := by unfold okL; rw [dnum_lt n h]; exact decide_eq_true h
theorem dfeed_pre (p : List UInt8) (s : Nat × Nat × List UInt8) (b : UInt8) : dfeed (pre p s) b = pre p (dfeed s b) := by
  unfold dfeed pre; simp only; split <;> simp
theorem dfold_pre (p : List UInt8) (l : List UInt8) : ∀ s, l.foldl dfeed (pre p s) = pre p (l.foldl dfeed s) := by
  induction l with
  | nil => intro s; rfl
  | cons b l ih => intro s; rw [List.foldl_cons, List.foldl_cons, dfeed_pre, ih]
theorem enc1 (a : UInt8) : enc [a] = [lt (a.toNat / 4), lt (a.toNat % 4 * 16)] := by
  simp [enc, encSt, feed, drain, drainS, finish]
theorem enc2 (a b : UInt8) : enc [a, b] = [lt (a.toNat / 4), lt ((a.toNat % 4 * 256 + b.toNat) / 16), lt ((a.toNat % 4 * 256 + b.toNat) % 16 * 4)] := by
  simp [enc, encSt, feed, drain, drainS, finish]
theorem enc3 (a b c : UInt8) : enc [a, b, c] = [lt (a.toNat / 4), lt ((a.toNat % 4 * 256 + b.toNat) / 16), lt (((a.toNat % 4 * 256 + b.toNat) % 16 * 256 + c.toNat) / 64), lt (((a.toNat % 4 * 256 + b.toNat) % 16 * 256 + c.toNat) % 64)] := by
  simp [enc, encSt, feed, drain, drainS, finish]
theorem dst2 (x y : UInt8) : decSt [x, y] = ((dnum x.toNat * 64 + dnum y.toNat) % 16, 4, [UInt8.ofNat ((dnum x.toNat * 64 + dnum y.toNat) / 16)]) := by
  simp [decSt, dfeed]
theorem dst3 (x y z : UInt8) : decSt [x, y, z] = (((dnum x.toNat * 64 + dnum y.toNat) % 16 * 64 + dnum z.toNat) % 4, 2, [UInt8.ofNat ((dnum x.toNat * 64 + dnum y.toNat) / 16), UInt8.ofNat (((dnum x.toNat * 64 + dnum y.toNat) % 16 * 64 + dnum z.toNat) / 4)]) := by
  simp [decSt, dfeed]
theorem dst4 (x y z t : UInt8) : decSt [x, y, z, t] = (0, 0, [UInt8.ofNat ((dnum x.toNat * 64 + dnum y.toNat) / 16), UInt8.ofNat (((dnum x.toNat * 64 + dnum y.toNat) % 16 * 64 + dnum z.toNat) / 4), UInt8.ofNat (((dnum x.toNat * 64 + dnum y.toNat) % 16 * 64 + dnum z.toNat) % 4 * 64 + dnum t.toNat)]) := by
  simp [decSt, dfeed, Nat.mod_one]
theorem decSt_four (x y z t : UInt8) (r : List UInt8) : decSt (x :: y :: z :: t :: r) = pre (decSt [x, y, z, t]).2.2 (decSt r) := by
  have h1 : decSt (x :: y :: z :: t :: r) = r.foldl dfeed (decSt [x, y, z, t]) := by unfold decSt; rfl
  rw [h1, dst4]
  have h2 := dfold_pre [UInt8.ofNat ((dnum x.toNat * 64 + dnum y.toNat) / 16), UInt8.ofNat (((dnum x.toNat * 64 + dnum y.toNat) % 16 * 64 + dnum z.toNat) / 4), UInt8.ofNat (((dnum x.toNat * 64 + dnum y.toNat) % 16 * 64 + dnum z.toNat) % 4 * 64 + dnum t.toNat)] r (0, 0, [])
  simp only [pre, List.append_nil] at h2 ⊢
  exact h2
theorem ofN {n : Nat} (h : n < 256) : (UInt8.ofNat n).toNat = n := by simp; omega
theorem ofN_eq {n : Nat} {b : UInt8} (h : n = b.toNat) : UInt8.ofNat n = b := by subst h; simp
/-- What is encoded is decoded. -/
theorem dec_enc_st (n : Nat) : ∀ l : List UInt8, l.length = n → (decSt (enc l)).1 = 0 ∧ (decSt (enc l)).2.2 = l ∧ ∀ b ∈ enc l, okL b = true := by
  induction n using Nat.strongRecOn with
  | _ n ih =>
    intro l hl
    match l, hl with
    | [], _ => exact ⟨rfl, rfl, by intro b hb; simp [enc, encSt, finish] at hb⟩
    | [a], _ =>
      have ha := a.toNat_lt
      rw [enc1, dst2, dnum_lt _ (by omega), dnum_lt _ (by omega)]
      refine ⟨by simp only; omega, ?_, ?_⟩
      · simp only; rw [ofN_eq (b := a) (by omega)]
      · intro b hb; simp at hb; rcases hb with rfl | rfl <;> exact okL_lt _ (by omega)
    | [a, b], _ =>
      have ha := a.toNat_lt
      have hb := b.toNat_lt
      rw [enc2, dst3, dnum_lt _ (by omega), dnum_lt _ (by omega), dnum_lt _ (by omega)]
      refine ⟨by simp only; omega, ?_, ?_⟩
      · simp only; rw [ofN_eq (b := a) (by omega), ofN_eq (b := b) (by omega)]
      · intro x hx; simp at hx; rcases hx with rfl | rfl | rfl <;> exact okL_lt _ (by omega)
    | a :: b :: c :: r, hl =>
      have ha := a.toNat_lt
      have hb := b.toNat_lt
      have hc := c.toNat_lt
      have e : enc (a :: b :: c :: r) = enc [a, b, c] ++ enc r := enc_append (a := [a, b, c]) (by simp) r
      simp at hl
      obtain ⟨i1, i2, i3⟩ := ih r.length (by omega) r rfl
      rw [e, enc3]
      simp only [List.cons_append, List.nil_append]
      rw [decSt_four, dst4, dnum_lt _ (by omega), dnum_lt _ (by omega), dnum_lt _ (by omega), dnum_lt _ (by omega)]
      refine ⟨by unfold pre; simp only; exact i1, ?_, ?_⟩
      · unfold pre; simp only; rw [i2, ofN_eq (b := a) (by omega), ofN_eq (b := b) (by omega), ofN_eq (b := c) (by omega)]; rfl
      · intro x hx
        simp only [List.mem_cons] at hx
        rcases hx with rfl | rfl | rfl | rfl | hx
        · exact okL_lt _ (by omega)
        · exact okL_lt _ (by omega)
        · exact okL_lt _ (by omega)
        · exact okL_lt _ (by omega)
        · exact i3 x hx
theorem sizeF_enc (l : List UInt8) : sizeF (enc l).length = ((l.length : Int), true) := by
  obtain ⟨h1, h2⟩ := enc_len l
  unfold sizeF
  rw [if_neg (by omega)]
  refine Prod.ext ?_ rfl
  simp only
  omega
theorem dec_enc (l : List UInt8) : dec (enc l) = (l, 0, 0) := by
  obtain ⟨h1, h2, h3⟩ := dec_enc_st _ l rfl
  rw [dec_good h3, sizeF_enc, if_neg (by simp), h1, if_neg (by simp), h2]
/-- What is decoded is encoded as it was. -/
theorem enc_dec_st (n : Nat) : ∀ s : List UInt8, s.length = n → (∀ b ∈ s, okL b = true) → (s.length : Int) % 4 ≠ 1 → (decSt s).1 = 0 → enc (decSt s).2.2 = s := by
  induction n using Nat.strongRecOn with
  | _ n ih =>
    intro s hs hok h4 h0
    have hd : ∀ b ∈ s, dnum b.toNat < 64 := fun b hb => of_decide_eq_true (hok b hb)
    match s, hs with
    | [], _ => rfl
    | [x], _ => simp at h4
    | [x, y], _ =>
      have hx := hd x (by simp)
      have hy := hd y (by simp)
      have lx := lt_dnum x (hok x (by simp))
      have ly := lt_dnum y (hok y (by simp))
      rw [dst2] at h0 ⊢
      simp only at h0 ⊢
      rw [enc1, ofN (by omega)]
      rw [show (dnum x.toNat * 64 + dnum y.toNat) / 16 / 4 = dnum x.toNat from by omega, show (dnum x.toNat * 64 + dnum y.toNat) / 16 % 4 * 16 = dnum y.toNat from by omega, lx, ly]
    | [x, y, z], _ =>
      have hx := hd x (by simp)
      have hy := hd y (by simp)
      have hz := hd z (by simp)
      have lx := lt_dnum x (hok x (by simp))
      have ly := lt_dnum y (hok y (by simp))
      have lz := lt_dnum z (hok z (by simp))
      rw [dst3] at h0 ⊢
      simp only at h0 ⊢
      rw [enc2, ofN (by omega), ofN (by omega)]
      generalize dnum x.toNat = p at *
      generalize dnum y.toNat = q at *
      generalize dnum z.toNat = r at *
      rw [show (p * 64 + q) / 16 / 4 = p from by omega, show ((p * 64 + q) / 16 % 4 * 256 + ((p * 64 + q) % 16 * 64 + r) / 4) / 16 = q from by omega, show ((p * 64 + q) / 16 % 4 * 256 + ((p * 64 + q) % 16 * 64 + r) / 4) % 16 * 4 = r from by omega, lx, ly, lz]
    | x :: y :: z :: t :: w, hs =>
      have hx := hd x (by simp)
      have hy := hd y (by simp)
      have hz := hd z (by simp)
      have ht := hd t (by simp)
      have lx := lt_dnum x (hok x (by simp))
      have ly := lt_dnum y (hok y (by simp))
      have lz := lt_dnum z (hok z (by simp))
      have lt' := lt_dnum t (hok t (by simp))
      rw [decSt_four] at h0 ⊢
      unfold pre at h0 ⊢
      simp only at h0 ⊢
      have i1 := ih w.length (by simp at hs; omega) w rfl (fun b hb => hok b (by simp [hb])) (by simp at h4; omega) h0
      rw [dst4]
      simp only
      rw [enc_append (by simp), i1, enc3, ofN (by omega), ofN (by omega), ofN (by omega)]
      generalize dnum x.toNat = p at *
      generalize dnum y.toNat = q at *
      generalize dnum z.toNat = r at *
      generalize dnum t.toNat = v at *
      rw [show (p * 64 + q) / 16 / 4 = p from by omega, show ((p * 64 + q) / 16 % 4 * 256 + ((p * 64 + q) % 16 * 64 + r) / 4) / 16 = q from by omega,
        show (((p * 64 + q) / 16 % 4 * 256 + ((p * 64 + q) % 16 * 64 + r) / 4) % 16 * 256 + (((p * 64 + q) % 16 * 64 + r) % 4 * 64 + v)) / 64 = r from by omega,
        show (((p * 64 + q) / 16 % 4 * 256 + ((p * 64 + q) % 16 * 64 + r) / 4) % 16 * 256 + (((p * 64 + q) % 16 * 64 + r) % 4 * 64 + v)) % 64 = v from by omega, lx, ly, lz, lt']
      rfl
/-- The three ways of a decoding. -/
theorem dec_ways (s : List UInt8) : ((dec s).2.1 = 0 ∧ (dec s).2.2 = 0 ∧ enc (dec s).1 = s) ∨ ((dec s).1 = [] ∧ (dec s).2.1 = 4 ∧ 0 ≤ (dec s).2.2 ∧ (dec s).2.2 ≤ s.length) := by
  unfold dec
  cases hf : s.findIdx? (fun b => !okL b) with
  | some i =>
    rw [List.findIdx?_eq_some_iff_getElem] at hf
    obtain ⟨h, _⟩ := hf
    exact .inr ⟨rfl, rfl, by simp only; omega, by simp only; omega⟩
  | none =>
    have hall : ∀ b ∈ s, okL b = true := fun b hb => by
      have := List.findIdx?_eq_none_iff.1 hf b hb; simpa using this
    simp only
    by_cases h1 : (sizeF s.length).2 = false
    · rw [if_pos h1]; exact .inr ⟨rfl, rfl, by simp only; omega, by simp only; omega⟩
    · rw [if_neg h1]
      have h4 : (s.length : Int) % 4 ≠ 1 := by
        intro h; apply h1; unfold sizeF; rw [if_pos (.inr h)]
      by_cases h2 : (decSt s).1 ≠ 0
      · rw [if_pos h2]
        refine .inr ⟨rfl, rfl, ?_, by simp only; omega⟩
        simp only
        cases s with
        | nil => exact absurd rfl h2
        | cons b r => simp
      · rw [if_neg h2]
        exact .inl ⟨rfl, rfl, enc_dec_st _ s rfl hall h4 (by simpa using h2)⟩
end Go.Proofs.Ytagbgenbhbgpoaa
