/-
  ostiarykit.Pick; the laws' numbers.
-/
import Derived.Test.YtcpejmnmbioinaaDB
namespace Go.Proofs.Ytcpejmnmbioinaa
open Go.RowKit
theorem tmod_neg {x n : Int} (hn : 0 < n) (h : x.tmod n < 0) : x.tmod n + n = x % n := by
  have h1 := Int.tmod_add_mul_tdiv x n
  have h2 := Int.lt_tmod_of_pos x hn
  have e : x = (x.tmod n + n) + n * (x.tdiv n - 1) := by rw [Int.mul_sub, Int.mul_one]; omega
  have e2 : ((x.tmod n + n) + n * (x.tdiv n - 1)) % n = x.tmod n + n := by
    rw [Int.add_mul_emod_self_left, Int.emod_eq_of_lt (by omega) (by omega)]
  rw [← e2, ← e]
theorem tmod_pos {x n : Int} (hn : 0 < n) (h : ¬ x.tmod n < 0) : x.tmod n = x % n := by
  have h1 := Int.tmod_add_mul_tdiv x n
  have h2 := Int.tmod_lt_of_pos x hn
  have e2 : (x.tmod n + n * (x.tdiv n)) % n = x.tmod n := by
    rw [Int.add_mul_emod_self_left, Int.emod_eq_of_lt (by omega) (by omega)]
  rw [← e2, h1]
def pick (x n : Int) : Int := if n < 1 then 0 else x % n
theorem Pick_calls (x n : Int) (w : World) (h3 : n < 2 ^ 62) :
    Calls Try.prog 9 #[.int .i64 x, .int .i64 n] w fun e w' => e = .returned (.int .i64 (pick x n)) ∧ w = w' := by
  by_cases hn : n < 1
  · have e : pick x n = 0 := by unfold pick; rw [if_pos hn]
    rw [e]; clear e
    go_enter Try.func9, Try.ntmps9
    go_wp2
    go_ret
    exact ⟨rfl, rfl⟩
  · have e : pick x n = x % n := by unfold pick; rw [if_neg hn]
    rw [e]; clear e
    have hn1 : 1 ≤ n := by omega
    clear hn
    have t1 : x.tmod n < n := Int.tmod_lt_of_pos x (by omega)
    have t2 : -n < x.tmod n := by
      have := Int.lt_tmod_of_pos x (show 0 < n by omega); omega
    have e2 : ¬ n = 0 := by omega
    by_cases ht : x.tmod n < 0
    · have E := Ho.mk (tmod_neg (show 0 < n by omega) ht)
      go_enter Try.func9, Try.ntmps9
      go_wp2
      go_ret
      exact ⟨by rw [← E.out]; rfl, rfl⟩
    · have E := Ho.mk (tmod_pos (show 0 < n by omega) ht)
      go_enter Try.func9, Try.ntmps9
      go_wp2
      go_ret
      exact ⟨by rw [← E.out]; rfl, rfl⟩
theorem results_tmp4 {fn : Func} {t u v x : Tmp} (h : fn.results = #[.tmp t, .tmp u, .tmp v, .tmp x]) (tmps : Array Value) (P : Program) (w : World) :
    (results fn tmps).run P w = .ok (.tuple #[tmps.getD t undef, tmps.getD u undef, tmps.getD v undef, tmps.getD x undef]) w := by
  simp [results, h]
theorem pick_lo (x n : Int) : 0 ≤ pick x n := by
  unfold pick; split
  · omega
  · exact Int.emod_nonneg _ (by omega)
theorem pick_hi (x n : Int) (h : 1 ≤ n) : pick x n < n := by
  unfold pick; rw [if_neg (by omega)]; exact Int.emod_lt_of_pos _ (by omega)
set_option maxRecDepth 100000 in
theorem shape_calls (a b c d : Int) (w : World) :
    Calls Try.prog 10 #[.int .i64 a, .int .i64 b, .int .i64 c, .int .i64 d] w fun r w' => r = .returned (.tuple #[.int .i64 (1 + pick a 8), .int .i64 (1 + pick b 12), .int .i64 (1 + pick c 40), .int .i64 (1 + pick d (1 + pick c 40))]) ∧ w' = w := by
  have l1 := pick_lo c 40; have l2 := pick_hi c 40 (by omega)
  have l3 := pick_lo a 8; have l4 := pick_hi a 8 (by omega)
  have l5 := pick_lo b 12; have l6 := pick_hi b 12 (by omega)
  have l7 := pick_lo d (1 + pick c 40); have l8 := pick_hi d (1 + pick c 40) (by omega)
  have h1 := Pick_calls c 40 w (by omega)
  have h2 := Pick_calls a 8 w (by omega)
  have h3 := Pick_calls b 12 w (by omega)
  have h4 := Pick_calls d (1 + pick c 40) w (by omega)
  generalize pick d (1 + pick c 40) = p4 at *
  generalize pick c 40 = p1 at *
  generalize pick a 8 = p2 at *
  generalize pick b 12 = p3 at *
  have e1 : IntKind.i64.wrap (1 + p1) = 1 + p1 := by rw [IntKind.wrap_i64]; omega
  have e2 : IntKind.i64.wrap (1 + p2) = 1 + p2 := by rw [IntKind.wrap_i64]; omega
  have e3 : IntKind.i64.wrap (1 + p3) = 1 + p3 := by rw [IntKind.wrap_i64]; omega
  have e4 : IntKind.i64.wrap (1 + p4) = 1 + p4 := by rw [IntKind.wrap_i64]; omega
  have H4 := Ho.mk (show 1 + p1 = 1 + p1 from rfl)
  obtain ⟨q1, hq1⟩ : ∃ q, 1 + p1 = q := ⟨_, rfl⟩
  rw [hq1] at h4 e1 ⊢
  rw [← hq1] at e1
  replace e1 := e1.trans hq1
  clear l1 l2 l3 l4 l5 l6 l7 l8 H4 hq1
  go_enter Try.func10, Try.ntmps10
  go_wp2_with (fail)
  refine h1.mono ?_
  clear h1
  rintro r w' ⟨rfl, rfl⟩
  go_wp2_with (fail)
  refine h2.mono ?_
  clear h2
  rintro r w' ⟨rfl, rfl⟩
  go_wp2_with (fail)
  refine h3.mono ?_
  clear h3
  rintro r w' ⟨rfl, rfl⟩
  go_wp2_with (fail)
  refine h4.mono ?_
  clear h4
  rintro r w' ⟨rfl, rfl⟩
  go_wp2_with (fail)
  refine bodyPost_ret (results_tmp4 rfl _ _ _) rfl ?_
  exact ⟨rfl, rfl⟩
end Go.Proofs.Ytcpejmnmbioinaa
