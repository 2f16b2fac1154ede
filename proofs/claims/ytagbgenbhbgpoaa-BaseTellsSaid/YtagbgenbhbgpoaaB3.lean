/-
  base.Size, base.Encode, base.Decode.
-/
import Derived.Test.YtagbgenbhbgpoaaB1
import Derived.Test.YtagbgenbhbgpoaaB2
import Derived.Test.YtagbgenbhbgpoaaBld
import Derived.Test.YtagbgenbhbgpoaaBL
import Derived.Test.YtagbgenbhbgpoaaShelf
import Derived.Laws.OwnMore
namespace Go.Proofs.Ytagbgenbhbgpoaa
open Go.RowKit
theorem Size_calls (n : Int) (w : World) (h1 : n < 2 ^ 63) :
    Calls Try.prog 10 #[.int .i64 n] w fun e w' => e = .returned (.tuple #[.int .i64 (sizeF n).1, .bool (sizeF n).2]) ∧ w = w' := by
  by_cases hn : n < 0
  · have e : sizeF n = (0, false) := by unfold sizeF; rw [if_pos (.inl hn)]
    rw [e]; clear e
    go_enter Try.func10, Try.ntmps10
    go_wp2
    go_ret2
    exact ⟨rfl, rfl⟩
  · have hn0 : 0 ≤ n := by omega
    clear hn
    by_cases h4 : n % 4 = 1
    · have e : sizeF n = (0, false) := by unfold sizeF; rw [if_pos (.inr h4)]
      rw [e]; clear e
      have h4' : (n % 4 == 1) = true := by simp [h4]
      clear h4
      go_enter Try.func10, Try.ntmps10
      go_wp2
      go_ret2
      exact ⟨rfl, rfl⟩
    · have e : sizeF n = (n / 4 * 3 + max (n % 4 - 1) 0, true) := by unfold sizeF; rw [if_neg (by omega)]
      rw [e]; clear e
      have h4' : (n % 4 == 1) = false := by simp [h4]
      clear h4
      have h5 : n / 4 * 3 < 2 ^ 63 := by omega
      go_enter Try.func10, Try.ntmps10
      go_wp2
      go_ret2
      exact ⟨rfl, rfl⟩
/-- A slice of bytes that reads as l, its cells below block B. -/
def BS (B : Nat) (w : World) (v : Value) (l : List UInt8) : Prop :=
  ∃ a cap, v = .slice a l.length cap ∧ l.length ≤ cap ∧ (a = none → cap = 0) ∧ ∀ i (h : i < l.length), ∃ b off, a = some ⟨b, off, none⟩ ∧ b < B ∧ w.cell? ⟨b, off + i, none⟩ = some (.int .u8 l[i].toNat)
theorem let_at (n : Nat) (h : n < 64) : (lets[n]'(by rw [lets_size]; exact h)) = lt n := by
  have : ∀ i : Fin 64, (lets[i.val]'(by rw [lets_size]; exact i.isLt)) = lt i.val := by decide
  exact this ⟨n, h⟩
theorem run_let (n : Nat) (h : n < 64) (w : World) : (Instr.index 9 (.string lets) (.int .i64 (n : Int))).run Try.prog w = .ok (.int .u8 (lt n).toNat) w := by
  rw [run_index_string _ _ _ _ _ Try.underlying9]
  have h2 : n < lets.size := by rw [lets_size]; exact h
  simp [h2, ← let_at n h]
set_option maxRecDepth 100000 in
set_option maxHeartbeats 1000000 in
theorem Encode_calls (v : Value) (l : List UInt8) (w : World) (hl : l.length ≤ 100000) (hv : BS w.heap.size w v l) :
    Calls Try.prog 12 #[v] w fun e w' => e = .returned (.string ⟨(enc l).toArray⟩) ∧ Fr nob w w' := by
  obtain ⟨a, cap, rfl, hcap, _, hcell⟩ := hv
  go_enter Try.func12, Try.ntmps12
  go_wp2_with (fail)
  have HC := Ho.mk hcell; clear hcell
  go_loopw [9] (fun i wr => ∃ k : Nat, k ≤ l.length ∧ i = .int .i64 k ∧ SB w.heap.size w.heap.size (encSt (l.take k)).2.2 wr ∧ Bits (w.heap.size + 1) (encSt (l.take k)).1 (encSt (l.take k)).2.1 wr ∧ Fr nob w wr)
    (fun i _ => l.length - (intOf i).toNat)
  case atStart =>
    refine ⟨0, by omega, rfl, SB.new' (blk_old (blk_new _ _) _), ?_, ((Fr.refl _ _).alloc _).alloc _⟩
    exact blk_new' (by simp)
  case round =>
    obtain ⟨k, hk, rfl, hS, hB, hF⟩ := hrel
    by_cases hlt : k < l.length
    · obtain ⟨b, off, rfl, hb, hc⟩ := HC.out k hlt
      have c1 : wr.cell? ⟨b, off + k, none⟩ = some (.int .u8 l[k].toNat) := (hF.none_below.cell (p := ⟨b, off + k, none⟩) hb).trans hc
      generalize hst : encSt (l.take k) = st at *
      obtain ⟨n, c, out⟩ := st
      obtain ⟨h1, h2, h3⟩ : n < 2 ^ c ∧ c < 6 ∧ 6 * out.length + c = 8 * k := by
        have := encSt_ok (l.take k); rw [hst] at this; simpa [Nat.min_eq_left hk] using this
      have hnb : n < 64 := Nat.lt_of_lt_of_le h1 (Nat.pow_le_pow_right (n := 2) (by decide) (by omega : c ≤ 6))
      have hxb : l[k].toNat < 256 := l[k].toNat_lt
      have HST := Ho.mk hst; clear hst
      have H3 := Ho.mk h3; clear h3
      have HB := Ho.mk hB; have HS := Ho.mk hS; clear hB hS
      go_wp2_with (go_at_call 22; refine (put_nat (w.heap.size + 1) n c l[k].toNat 8 _ _ _ HB.out rfl rfl (by omega) (by omega) hxb (by omega)).mono ?_; rintro e w1 ⟨rfl, hB1, hF1⟩)
      obtain ⟨wo, rfl⟩ : ∃ wo : World, wo = wr := ⟨_, rfl⟩
      have hF1' : Fr nob w w1 := hF.call hF1 (fun i _ h => .inl (by omega))
      have hS1 : SB w.heap.size w.heap.size out w1 := HS.out.fr hF1 (by omega) (fun k c fz hk h => by subst hk; rw [HB.out] at h; simp at h)
      have HS1 := Ho.mk hS1; have HB1 := Ho.mk hB1; clear hS1 hB1 c1
      go_loopg [] (c + 8) (fun gq wz => ∃ (n1 : Nat) (out1 : List UInt8), drain n1 gq out1 = drain (n * 256 + l[k].toNat) (c + 8) out ∧ n1 < 2 ^ gq ∧ 6 * out1.length + gq = 6 * out.length + c + 8 ∧ gq ≤ c + 8 ∧ SB w.heap.size w.heap.size out1 wz ∧ Bits (w.heap.size + 1) n1 gq wz ∧ Fr nob w wz)
      case atStart => exact ⟨n * 256 + l[k].toNat, out, rfl, by rw [Nat.pow_add]; omega, by omega, by omega, HS1.out, HB1.out, hF1'⟩
      case round =>
        obtain ⟨n1, out1, hd, hn1, ho1, hg1, hS2, hB2, hF2⟩ := hrel
        have HD := Ho.mk hd; have HO1 := Ho.mk ho1
        clear hd ho1
        have q1 : wr.cell? ⟨w.heap.size + 1, 1, none⟩ = some (.int .i64 gk) := blk_cell hB2 1
        have HB2 := Ho.mk hB2; have HS2 := Ho.mk hS2; clear hS2 hB2
        have hn1b : n1 < 2 ^ 32 := Nat.lt_of_lt_of_le hn1 (Nat.pow_le_pow_right (n := 2) (by decide) (by omega))
        by_cases h6 : 6 ≤ gk
        · have hlt64 : n1 / 2 ^ (gk - 6) < 64 := by
            rw [Nat.div_lt_iff_lt_mul (Nat.two_pow_pos _), show (64 : Nat) = 2 ^ 6 from rfl, ← Nat.pow_add, show 6 + (gk - 6) = gk from by omega]; exact hn1
          obtain ⟨q, hq⟩ : ∃ q, q = n1 / 2 ^ (gk - 6) := ⟨_, rfl⟩
          obtain ⟨r, hr⟩ : ∃ r, r = n1 % 2 ^ (gk - 6) := ⟨_, rfl⟩
          obtain ⟨d, rfl⟩ : ∃ d, gk = d + 6 := ⟨gk - 6, by omega⟩
          have hq64 : q < 64 := by rw [hq]; exact hlt64
          have hix := run_let q hq64
          unfold lets at hix
          have HQ := Ho.mk hq; have HR := Ho.mk hr; clear hq hr hlt64
          go_wp2_with (go_at_call 23; refine (get_nat (w.heap.size + 1) n1 (d + 6) 6 q r d 6 _ HQ.out HR.out (by omega) HB2.out rfl hn1b h6 (by omega)).mono ?_; rintro e w2 ⟨rfl, hB3, hF3⟩)
          have hF3' : Fr nob w w2 := hF2.call hF3 (fun i _ h => .inl (by omega))
          have hS3 : SB w.heap.size w.heap.size out1 w2 := HS2.out.fr hF3 (by omega) (fun k c fz hk h => by subst hk; rw [HB2.out] at h; simp at h)
          have hlen1 : out1.length ≤ 200000 := by have := HO1.out; have := H3.out; omega
          refine (WriteByte_sb w.heap.size w.heap.size out1 (lt q) _ rfl w2 hS3 (by omega)).mono ?_
          rintro e w3 ⟨rfl, hS4, hF4⟩
          have hF4' : Fr nob w w3 := hF3'.call hF4 (fun i _ h => .inl (by rcases h with h | h <;> omega))
          have hB4 : Bits (w.heap.size + 1) r d w3 := hF4.block _ _ hB3 (by
            rintro (h | ⟨_, c, fz, h⟩)
            · omega
            · rw [hB3] at h; simp at h)
          have HS4 := Ho.mk hS4; have HB4 := Ho.mk hB4; clear hS4 hB4 hB3 hS3
          go_wp2
          go_roundg d
          case measure => omega
          case rel =>
            refine ⟨r, out1 ++ [lt q], ?_, ?_, by have := HO1.out; simp; omega, by omega, HS4.out, HB4.out, hF4'⟩
            · rw [← HD.out, drain_yes h6, HR.out, HQ.out]; rfl
            · rw [HR.out]; exact Nat.mod_lt _ (Nat.two_pow_pos _)
        · have h6' : ¬ (6 : Int) ≤ gk := by omega
          clear h6
          go_wp2
          go_roundw
          case rel =>
            have hd := HD.out
            rw [drain_no (by omega)] at hd
            have e : encSt (l.take (k + 1)) = (n1, gk, out1) := by rw [encSt_take _ _ hlt, HST.out]; exact hd.symm
            rw [show ((k : Int) + 1) = ((k + 1 : Nat) : Int) from by omega]
            exact ⟨k + 1, by omega, rfl, by rw [e]; exact HS2.out, by rw [e]; exact HB2.out, hF2⟩
          case measure => simp [intOf]; omega
    · obtain rfl : k = l.length := by omega
      rw [List.take_length] at hS hB
      have hok := encSt_ok l
      have henc : enc l = finish (encSt l) := rfl
      generalize encSt l = st at *
      obtain ⟨n, c, out⟩ := st
      simp only at hS hB hok
      obtain ⟨h1, h2, h3⟩ := hok
      have H3 := Ho.mk h3; have HE := Ho.mk henc; clear h3 henc
      have q1 : wr.cell? ⟨w.heap.size + 1, 1, none⟩ = some (.int .i64 c) := blk_cell hB 1
      have HB := Ho.mk hB; have HS := Ho.mk hS; clear hB hS hlt
      by_cases hc : 0 < c
      · obtain ⟨m, hm⟩ : ∃ m, m = n * 2 ^ (6 - c) := ⟨_, rfl⟩
        have hm64 : m < 64 := by
          rw [hm, show (64 : Nat) = 2 ^ c * 2 ^ (6 - c) from by rw [← Nat.pow_add, show c + (6 - c) = 6 from by omega]]
          exact Nat.mul_lt_mul_of_pos_right h1 (Nat.two_pow_pos _)
        have HM := Ho.mk hm; clear hm
        have hnb : n < 64 := Nat.lt_of_lt_of_le h1 (Nat.pow_le_pow_right (n := 2) (by decide) (by omega : c ≤ 6))
        have hix := run_let m hm64
        unfold lets at hix
        go_wp2_with (fail)
        refine (put_nat (w.heap.size + 1) n c 0 (6 - c) 0 _ _ HB.out (by omega) rfl (by omega) (by omega) (Nat.two_pow_pos _) (by omega)).mono ?_
        rintro e w1 ⟨rfl, hB1, hF1⟩
        have hB1' : Bits (w.heap.size + 1) m (6 : Nat) w1 := by
          rw [Nat.add_zero, ← HM.out, show c + (6 - c) = 6 from by omega] at hB1; exact hB1
        have hF1' : Fr nob w w1 := hF.call hF1 (fun i _ h => .inl (by omega))
        have hS1 : SB w.heap.size w.heap.size out w1 := HS.out.fr hF1 (by omega) (fun k c fz hk h => by subst hk; rw [HB.out] at h; simp at h)
        have HB1 := Ho.mk hB1'; have HS1 := Ho.mk hS1; clear hB1 hB1' hS1 q1
        go_wp2_with (fail)
        refine (get_nat (w.heap.size + 1) m 6 6 m 0 0 6 _ (by simp) (by simp [Nat.mod_one]) rfl HB1.out rfl (by omega) (by omega) (by omega)).mono ?_
        rintro e w2 ⟨rfl, hB2, hF2⟩
        have hF2' : Fr nob w w2 := hF1'.call hF2 (fun i _ h => .inl (by omega))
        have hS2 : SB w.heap.size w.heap.size out w2 := HS1.out.fr hF2 (by omega) (fun k c fz hk h => by subst hk; rw [HB1.out] at h; simp at h)
        have HS2 := Ho.mk hS2; clear hS2 hB2
        go_wp2_with (fail)
        refine (WriteByte_sb w.heap.size w.heap.size out (lt m) _ rfl w2 HS2.out (by have := H3.out; omega)).mono ?_
        rintro e w3 ⟨rfl, hS3, hF3⟩
        have hF3' : Fr nob w w3 := hF2'.call hF3 (fun i _ h => .inl (by rcases h with h | h <;> omega))
        have HS3 := Ho.mk hS3; clear hS3
        go_wp2_with (fail)
        refine (String_sb w.heap.size w.heap.size _ w3 HS3.out).mono ?_
        rintro e w4 ⟨rfl, hS4, hF4⟩
        have hF4' : Fr nob w w4 := hF3'.call hF4 (fun i _ h => .inl (by rcases h with h | h <;> omega))
        go_wp2
        go_ret
        refine ⟨?_, hF4'⟩
        rw [HE.out, HM.out]; unfold finish; rw [if_pos hc]; rfl
      · have hc' : ¬ (0 : Int) < c := by omega
        go_wp2_with (fail)
        refine (String_sb w.heap.size w.heap.size _ wr HS.out).mono ?_
        rintro e w4 ⟨rfl, hS4, hF4⟩
        have hF4' : Fr nob w w4 := hF.call hF4 (fun i _ h => .inl (by rcases h with h | h <;> omega))
        go_wp2
        go_ret
        refine ⟨?_, hF4'⟩
        rw [HE.out]; unfold finish; rw [if_neg hc]; rfl
end Go.Proofs.Ytagbgenbhbgpoaa
