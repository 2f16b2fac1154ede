/-
  New refuses: package drr and the reference.
-/
import Derived.Test.YtcpejmnmbioinaaDS
import Derived.Test.YtcpejmnmbioinaaDA
namespace Go.Proofs.Ytcpejmnmbioinaa
open Go.RowKit
/-- May a scheduler be made? -/
def newOk (a b c d : Int) : Prop := (1 ≤ a ∧ a ≤ 1024) ∧ (1 ≤ b ∧ b ≤ 64) ∧ (1 ≤ c ∧ c ≤ 4096) ∧ 1 ≤ d ∧ d ≤ c
instance (a b c d : Int) : Decidable (newOk a b c d) := by unfold newOk; infer_instance
set_option maxRecDepth 100000 in
set_option maxHeartbeats 2000000 in
theorem new_bad_calls (w : World) (a b c d : Int) (h : ¬ newOk a b c d) :
    Calls Try.prog 11 #[.int .i64 a, .int .i64 b, .int .i64 c, .int .i64 d] w fun r w' => r = .returned (.tuple #[.pointer none, .int .i64 2]) ∧ w' = w := by
  unfold newOk at h
  rcases (show a < 1 ∨ (¬ a < 1 ∧ 1024 < a) ∨ (¬ a < 1 ∧ ¬ 1024 < a ∧ b < 1) ∨ (¬ a < 1 ∧ ¬ 1024 < a ∧ ¬ b < 1 ∧ 64 < b) ∨ (¬ a < 1 ∧ ¬ 1024 < a ∧ ¬ b < 1 ∧ ¬ 64 < b ∧ c < 1) ∨ (¬ a < 1 ∧ ¬ 1024 < a ∧ ¬ b < 1 ∧ ¬ 64 < b ∧ ¬ c < 1 ∧ 4096 < c) ∨ (¬ a < 1 ∧ ¬ 1024 < a ∧ ¬ b < 1 ∧ ¬ 64 < b ∧ ¬ c < 1 ∧ ¬ 4096 < c ∧ d < 1) ∨ (¬ a < 1 ∧ ¬ 1024 < a ∧ ¬ b < 1 ∧ ¬ 64 < b ∧ ¬ c < 1 ∧ ¬ 4096 < c ∧ ¬ d < 1 ∧ c < d) by omega) with g1 | ⟨g1, g2⟩ | ⟨g1, g2, g3⟩ | ⟨g1, g2, g3, g4⟩ | ⟨g1, g2, g3, g4, g5⟩ | ⟨g1, g2, g3, g4, g5, g6⟩ | ⟨g1, g2, g3, g4, g5, g6, g7⟩ | ⟨g1, g2, g3, g4, g5, g6, g7, g8⟩
  case' inl => have d1 : decide (a < 1) = true := decide_eq_true g1
  case' inr.inl => have d1 : decide (a < 1) = false := decide_eq_false g1; have d2 : decide (1024 < a) = true := decide_eq_true g2
  case' inr.inr.inl => have d1 : decide (a < 1) = false := decide_eq_false g1; have d2 : decide (1024 < a) = false := decide_eq_false g2; have d3 : decide (b < 1) = true := decide_eq_true g3
  case' inr.inr.inr.inl => have d1 : decide (a < 1) = false := decide_eq_false g1; have d2 : decide (1024 < a) = false := decide_eq_false g2; have d3 : decide (b < 1) = false := decide_eq_false g3; have d4 : decide (64 < b) = true := decide_eq_true g4
  case' inr.inr.inr.inr.inl => have d1 : decide (a < 1) = false := decide_eq_false g1; have d2 : decide (1024 < a) = false := decide_eq_false g2; have d3 : decide (b < 1) = false := decide_eq_false g3; have d4 : decide (64 < b) = false := decide_eq_false g4; have d5 : decide (c < 1) = true := decide_eq_true g5
  case' inr.inr.inr.inr.inr.inl => have d1 : decide (a < 1) = false := decide_eq_false g1; have d2 : decide (1024 < a) = false := decide_eq_false g2; have d3 : decide (b < 1) = false := decide_eq_false g3; have d4 : decide (64 < b) = false := decide_eq_false g4; have d5 : decide (c < 1) = false := decide_eq_false g5; have d6 : decide (4096 < c) = true := decide_eq_true g6
  case' inr.inr.inr.inr.inr.inr.inl => have d1 : decide (a < 1) = false := decide_eq_false g1; have d2 : decide (1024 < a) = false := decide_eq_false g2; have d3 : decide (b < 1) = false := decide_eq_false g3; have d4 : decide (64 < b) = false := decide_eq_false g4; have d5 : decide (c < 1) = false := decide_eq_false g5; have d6 : decide (4096 < c) = false := decide_eq_false g6; have d7 : decide (d < 1) = true := decide_eq_true g7
  case' inr.inr.inr.inr.inr.inr.inr => have d1 : decide (a < 1) = false := decide_eq_false g1; have d2 : decide (1024 < a) = false := decide_eq_false g2; have d3 : decide (b < 1) = false := decide_eq_false g3; have d4 : decide (64 < b) = false := decide_eq_false g4; have d5 : decide (c < 1) = false := decide_eq_false g5; have d6 : decide (4096 < c) = false := decide_eq_false g6; have d7 : decide (d < 1) = false := decide_eq_false g7; have d8 : decide (c < d) = true := decide_eq_true g8
  all_goals
    clear h
    go_enter Try.func11, Try.ntmps11
    go_wp2_with (fail)
    go_ret2
    exact ⟨rfl, rfl⟩
set_option maxRecDepth 100000 in
theorem within_calls (w : World) (n m : Int) :
    Calls Try.prog 39 #[.int .i64 n, .int .i64 m] w fun r w' => r = .returned (.bool (decide (1 ≤ n ∧ n ≤ m))) ∧ w' = w := by
  by_cases h1 : 1 ≤ n
  · have d1 : decide (1 ≤ n) = true := decide_eq_true h1
    by_cases h2 : n ≤ m
    · have d2 : decide (n ≤ m) = true := decide_eq_true h2
      have HR := Ho.mk (decide_eq_true (And.intro h1 h2))
      clear h1 h2
      go_enter Try.func39, Try.ntmps39
      go_wp2_with (fail)
      go_ret
      exact ⟨by rw [HR.out]; rfl, rfl⟩
    · have d2 : decide (n ≤ m) = false := decide_eq_false h2
      have HR := Ho.mk (decide_eq_false (fun h : 1 ≤ n ∧ n ≤ m => h2 h.2))
      clear h1 h2
      go_enter Try.func39, Try.ntmps39
      go_wp2_with (fail)
      go_ret
      exact ⟨by rw [HR.out]; rfl, rfl⟩
  · have d1 : decide (1 ≤ n) = false := decide_eq_false h1
    have HR := Ho.mk (decide_eq_false (fun h : 1 ≤ n ∧ n ≤ m => h1 h.1))
    clear h1
    go_enter Try.func39, Try.ntmps39
    go_wp2_with (fail)
    go_ret
    exact ⟨by rw [HR.out]; rfl, rfl⟩
end Go.Proofs.Ytcpejmnmbioinaa
