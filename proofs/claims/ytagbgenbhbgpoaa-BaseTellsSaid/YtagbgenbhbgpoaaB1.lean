/-
  base.bits: put and get.
-/
import Derived.Test.YtagbgenbhbgpoaaChecked
import Derived.Test.YtagbgenbhbgpoaaA
import Derived.Laws.BitsLemmas
namespace Go.Proofs.Ytagbgenbhbgpoaa
open Go.RowKit
theorem i64_small {n : Int} (h0 : 0 ≤ n) (h1 : n < 2 ^ 62) : IntKind.i64.wrap n = n := by rw [IntKind.wrap_i64]; omega
theorem pow_le {k : Nat} (h : k ≤ 16) : (2 : Int) ^ k ≤ 65536 ∧ (1 : Int) ≤ 2 ^ k := by
  have h1 : 2 ^ k ≤ 65536 := Nat.pow_le_pow_right (n := 2) (by decide) h
  have h2 : 0 < 2 ^ k := Nat.two_pow_pos k
  have e : (2 : Int) ^ k = ((2 ^ k : Nat) : Int) := by simp
  rw [e]
  exact ⟨by omega, by omega⟩
theorem mul_pow_bd {n : Int} {k : Nat} (h0 : 0 ≤ n) (h1 : n < 65536) (hk : k ≤ 16) : 0 ≤ n * 2 ^ k ∧ n * 2 ^ k < 2 ^ 62 := by
  obtain ⟨h2, h3⟩ := pow_le hk
  refine ⟨Int.mul_nonneg h0 (by omega), ?_⟩
  have : n * 2 ^ k ≤ 65536 * 65536 := Int.mul_le_mul (by omega) h2 (by omega) (by omega)
  omega
theorem or_join {n x : Int} {k : Nat} (h0 : 0 ≤ n) (h1 : n < 65536) (hk : k ≤ 16) (hx : 0 ≤ x) (hx2 : x < 2 ^ k) : bits .or .i64 (n * 2 ^ k) x = n * 2 ^ k + x := by
  obtain ⟨h2, h3⟩ := mul_pow_bd h0 h1 hk
  obtain ⟨h4, h5⟩ := pow_le hk
  exact bits_join .i64 62 (by decide) (fun n h0 h1 => i64_small h0 h1) k _ _ h2 (by simp) h3 hx hx2 (by omega)
theorem and_mask {n : Int} {k : Nat} (h0 : 0 ≤ n) (h1 : n < 2 ^ 62) (hk : k ≤ 16) : bits .and .i64 n (2 ^ k - 1) = n % 2 ^ k :=
  bits_mask .i64 62 (by decide) (fun n h0 h1 => i64_small h0 h1) k (by omega) n h0 h1
theorem wrap64_small' {n : Int} (h : 0 ≤ n ∧ n < 2 ^ 62) : wrap64 n = n := by unfold wrap64; omega
/-- The struct bits in block g. -/
def Bits (g : Nat) (n c : Int) (w : World) : Prop := w.heap[g]? = some (.cells #[.int .i64 n, .int .i64 c] 42 (0, 0))
theorem put_calls (g : Nat) (n c x k : Int) (w : World) (hb : Bits g n c w) (h0 : 0 ≤ n) (h1 : n < 65536) (hk : 0 ≤ k) (hk2 : k ≤ 16) (hx : 0 ≤ x) (hx2 : x < 2 ^ k.toNat) (hc : 0 ≤ c) (hc2 : c ≤ 64) :
    Calls Try.prog 22 #[.pointer (some ⟨g, 0, none⟩), .int .i64 x, .int .i64 k] w fun e w' => e = .returned (.tuple #[]) ∧ Bits g (n * 2 ^ k.toNat + x) (c + k) w' ∧ Fr (· = g) w w' := by
  unfold Bits at hb
  have q0 : w.cell? ⟨g, 0, none⟩ = some (.int .i64 n) := blk_cell hb 0
  have q1 : w.cell? ⟨g, 1, none⟩ = some (.int .i64 c) := blk_cell hb 1
  have f0 : w.frozen? ⟨g, 0, none⟩ = false := blk_free hb 0
  have f1 : w.frozen? ⟨g, 1, none⟩ = false := blk_free hb 1
  have HB := Ho.mk hb; clear hb
  go_enter Try.func22, Try.ntmps22
  go_wp2
  go_end0
  have e : bits .or .i64 (wrap64 (n * 2 ^ k.toNat)) x = n * 2 ^ k.toNat + x := by
    rw [wrap64_small' (mul_pow_bd h0 h1 (by omega))]; exact or_join h0 h1 (by omega) hx hx2
  rw [e]
  refine ⟨rfl, ?_, ((Fr.refl (· = g) w).set (.inr rfl) _).set (.inr rfl) _⟩
  have h2 := blk_set (blk_set HB.out 0 (.int .i64 (n * 2 ^ k.toNat + x))) 1 (.int .i64 (c + k))
  exact h2
theorem get_calls (g : Nat) (n c k : Int) (w : World) (hb : Bits g n c w) (h0 : 0 ≤ n) (h1 : n < 2 ^ 32) (hk : 0 ≤ k) (hk2 : k ≤ c) (hc2 : c ≤ 16) :
    Calls Try.prog 23 #[.pointer (some ⟨g, 0, none⟩), .int .i64 k] w fun e w' => e = .returned (.int .i64 (n / 2 ^ (c - k).toNat)) ∧ Bits g (n % 2 ^ (c - k).toNat) (c - k) w' ∧ Fr (· = g) w w' := by
  unfold Bits at hb
  have q0 : w.cell? ⟨g, 0, none⟩ = some (.int .i64 n) := blk_cell hb 0
  have q1 : w.cell? ⟨g, 1, none⟩ = some (.int .i64 c) := blk_cell hb 1
  have f0 : w.frozen? ⟨g, 0, none⟩ = false := blk_free hb 0
  have f1 : w.frozen? ⟨g, 1, none⟩ = false := blk_free hb 1
  have HB := Ho.mk hb; clear hb
  go_enter Try.func23, Try.ntmps23
  go_wp2
  go_quiet (fail)
  go_wp2
  go_region
  go_wp2
  go_ret
  obtain ⟨p1, p2⟩ := pow_le (k := (c - k).toNat) (by omega)
  have e1 : wrap64 (2 ^ (c - k).toNat) = 2 ^ (c - k).toNat := wrap64_small' ⟨by omega, by omega⟩
  have e2 : wrap64 (wrap64 (2 ^ (c - k).toNat) - 1) = 2 ^ (c - k).toNat - 1 := by rw [e1]; exact wrap64_small' ⟨by omega, by omega⟩
  rw [e2, and_mask h0 (by omega) (by omega)]
  refine ⟨rfl, ?_, (((Fr.refl (· = g) w).set (.inr rfl) _).drewN _).set (.inr rfl) _⟩
  have h2 := blk_set (w := (w.setCell ⟨g, 1, none⟩ (.int .i64 (c - k))).drewN (nq + 1)) (blk_set HB.out 1 (.int .i64 (c - k))) 0 (.int .i64 (n % 2 ^ (c - k).toNat))
  exact h2
theorem two_pow_cast (k : Nat) : (2 : Int) ^ k = ((2 ^ k : Nat) : Int) := by simp
theorem get_nat (g n c kn q r d : Nat) (k : Int) (w : World) (hq : q = n / 2 ^ (c - kn)) (hr : r = n % 2 ^ (c - kn)) (hd : d = c - kn) (hb : Bits g n c w) (hk : k = kn) (h1 : n < 2 ^ 32) (hk2 : kn ≤ c) (hc2 : c ≤ 16) :
    Calls Try.prog 23 #[.pointer (some ⟨g, 0, none⟩), .int .i64 k] w fun e w' => e = .returned (.int .i64 q) ∧ Bits g r d w' ∧ Fr (· = g) w w' := by
  subst hk hq hr hd
  have e : ((c : Int) - (kn : Int)).toNat = c - kn := by omega
  have e2 : ((c : Int) - (kn : Int)) = ((c - kn : Nat) : Int) := by omega
  have h := get_calls g n c kn w hb (by omega) (by omega) (by omega) (by omega) (by omega)
  rw [e, e2, two_pow_cast, ← Int.natCast_ediv, ← Int.natCast_emod] at h
  exact h
theorem put_nat (g n c xn kn : Nat) (x k : Int) (w : World) (hb : Bits g n c w) (hk : k = kn) (hx : x = xn) (h1 : n < 65536) (hk2 : kn ≤ 16) (hx2 : xn < 2 ^ kn) (hc2 : c ≤ 64) :
    Calls Try.prog 22 #[.pointer (some ⟨g, 0, none⟩), .int .i64 x, .int .i64 k] w fun e w' => e = .returned (.tuple #[]) ∧ Bits g ((n * 2 ^ kn + xn : Nat) : Int) ((c + kn : Nat) : Int) w' ∧ Fr (· = g) w w' := by
  subst hk hx
  have h := put_calls g n c xn kn w hb (by omega) (by omega) (by omega) (by omega) (by omega) (by rw [Int.toNat_natCast, two_pow_cast]; omega) (by omega) (by omega)
  rw [Int.toNat_natCast, two_pow_cast, ← Int.natCast_mul, ← Int.natCast_add, ← Int.natCast_add] at h
  exact h
end Go.Proofs.Ytagbgenbhbgpoaa
