/-
  ostiarykit.Pick.
-/
import Derived.Test.YtlbhfnjhhpcphaaCM
namespace Go.Proofs.Ytlbhfnjhhpcphaa
open Go.RowKit
theorem tmod_neg {x n : Int} (hn : 0 < n) (h : x.tmod n < 0) : x.tmod n + n = x % n := by
  have h1 := Int.tmod_add_mul_tdiv x n
  have h2 := Int.lt_tmod_of_pos x hn
  have e : x = (x.tmod n + n) + n * (x.tdiv n - 1) := by rw [Int.mul_sub, Int.mul_one]; omega
  have e2 : ((x.tmod n + n) + n * (x.tdiv n - 1)) % n = x.tmod n + n := by
    rw [Int.add_mul_emod_self_left, Int.emod_eq_of_lt (by omega) (by omega)]
  rw [← e2, ← e]
theorem tmod_pos {x n : Int} (hn : 0 < n) (h : ¬ x.tmod n < 0) : x.tmod n = x % n := by
  have h1 := Int.tmod_add_mul_tdiv x n
  have h2 := Int.tmod_lt_of_pos x hn
  have e2 : (x.tmod n + n * (x.tdiv n)) % n = x.tmod n := by
    rw [Int.add_mul_emod_self_left, Int.emod_eq_of_lt (by omega) (by omega)]
  rw [← e2, h1]
def pick (x n : Int) : Int := if n < 1 then 0 else x % n
theorem Pick_calls (x n : Int) (w : World) (h3 : n < 2 ^ 62) :
    Calls Try.prog 20 #[.int .i64 x, .int .i64 n] w fun e w' => e = .returned (.int .i64 (pick x n)) ∧ w = w' := by
  by_cases hn : n < 1
  · have e : pick x n = 0 := by unfold pick; rw [if_pos hn]
    rw [e]; clear e
    go_enter Try.func20, Try.ntmps20
    go_wp2
    go_ret
    exact ⟨rfl, rfl⟩
  · have e : pick x n = x % n := by unfold pick; rw [if_neg hn]
    rw [e]; clear e
    have hn1 : 1 ≤ n := by omega
    clear hn
    have t1 : x.tmod n < n := Int.tmod_lt_of_pos x (by omega)
    have t2 : -n < x.tmod n := by
      have := Int.lt_tmod_of_pos x (show 0 < n by omega); omega
    have e2 : ¬ n = 0 := by omega
    by_cases ht : x.tmod n < 0
    · have E := Ho.mk (tmod_neg (show 0 < n by omega) ht)
      go_enter Try.func20, Try.ntmps20
      go_wp2
      go_ret
      exact ⟨by rw [← E.out]; rfl, rfl⟩
    · have E := Ho.mk (tmod_pos (show 0 < n by omega) ht)
      go_enter Try.func20, Try.ntmps20
      go_wp2
      go_ret
      exact ⟨by rw [← E.out]; rfl, rfl⟩
theorem results_tmp4 {fn : Func} {t u v x : Tmp} (h : fn.results = #[.tmp t, .tmp u, .tmp v, .tmp x]) (tmps : Array Value) (P : Program) (w : World) :
    (results fn tmps).run P w = .ok (.tuple #[tmps.getD t undef, tmps.getD u undef, tmps.getD v undef, tmps.getD x undef]) w := by
  simp [results, h]
theorem pick_lo (x n : Int) : 0 ≤ pick x n := by
  unfold pick; split
  · omega
  · exact Int.emod_nonneg _ (by omega)
theorem pick_hi (x n : Int) (h : 1 ≤ n) : pick x n < n := by
  unfold pick; rw [if_neg (by omega)]; exact Int.emod_lt_of_pos _ (by omega)
end Go.Proofs.Ytlbhfnjhhpcphaa
