/-
  package sets: Check, Better.
-/
import Derived.Test.YtlbhfnjhhpcphaaCM
namespace Go.Proofs.Ytlbhfnjhhpcphaa
open Go.RowKit
open Go.MapKept
theorem str_klaw {P : Program} {k : TypeId} (hk : P.underlying k = some .string) : KLaw P k (fun x : Bs => str x) := by
  have isK : ∀ x : Bs, IsKey .string (str x) := fun x => by simp [IsKey, str]
  refine ⟨fun h => ?_, fun w em x => run_checkKey hk (isK x) em 9999, ?_, fun w x => run_keyThatStays (isK x)⟩
  · simp only [str, Value.string.injEq] at h
    exact congrArg (fun b : ByteArray => b.data.toList) h
  · intro w x es hes
    have hks : ∀ y ∈ es, IsKey .string y.key := fun y hy => by
      obtain ⟨l, hl⟩ := hes y hy
      rw [hl]; exact isK l
    rcases findNow_spec (isK x) es 0 hks with ⟨h1, h2⟩ | ⟨j, e0, h1, h2, h3⟩
    · exact .inl ⟨run_findKey hk h1, h2⟩
    · exact .inr ⟨j, e0, by simpa using run_findKey hk h1, h2, h3⟩
def shortB (n : Int) : Bool := decide (0 ≤ n ∧ n ≤ 65535)
theorem short_calls (n : Int) (w : World) :
    Calls Try.prog 58 #[.int .i64 n] w fun r w' => r = .returned (.bool (shortB n)) ∧ w = w' := by
  by_cases h1 : 0 ≤ n
  · have d1 : decide (0 ≤ n) = true := decide_eq_true h1
    by_cases h2 : n ≤ 65535
    · have d2 : decide (n ≤ 65535) = true := decide_eq_true h2
      have HR := Ho.mk (decide_eq_true (And.intro h1 h2))
      clear h1 h2
      go_enter Try.func58, Try.ntmps58
      go_wp2
      go_ret
      exact ⟨by unfold shortB; rw [HR.out]; rfl, rfl⟩
    · have d2 : decide (n ≤ 65535) = false := decide_eq_false h2
      have HR := Ho.mk (decide_eq_false (fun h : 0 ≤ n ∧ n ≤ 65535 => h2 h.2))
      clear h1 h2
      go_enter Try.func58, Try.ntmps58
      go_wp2
      go_ret
      exact ⟨by unfold shortB; rw [HR.out]; rfl, rfl⟩
  · have d1 : decide (0 ≤ n) = false := decide_eq_false h1
    have HR := Ho.mk (decide_eq_false (fun h : 0 ≤ n ∧ n ≤ 65535 => h1 h.1))
    clear h1
    go_enter Try.func58, Try.ntmps58
    go_wp2
    go_ret
    exact ⟨by unfold shortB; rw [HR.out]; rfl, rfl⟩
theorem Better_calls (a b : Int) (w : World) :
    Calls Try.prog 38 #[.int .i64 a, .int .i64 b, .bool false] w fun r w' => r = .returned (.bool (decide (a ≤ b))) ∧ w = w' := by
  go_enter Try.func38, Try.ntmps38
  go_wp2
  go_ret
  exact ⟨rfl, rfl⟩
/-- The first thing that is amiss with a set, but its data. -/
def headBad (s : CSet) : Prop := (labels s.name).2 ≠ 0 ∨ ¬ (0 ≤ s.typ ∧ s.typ ≤ 65535) ∨ ¬ (0 ≤ s.cls ∧ s.cls ≤ 65535) ∨ s.ttl < 0 ∨ 2147483648 ≤ s.ttl ∨ s.data.length < 1 ∨ 64 < s.data.length
set_option maxRecDepth 100000 in
set_option maxHeartbeats 4000000 in
theorem setsCheck_head_calls (s : CSet) (ao : Option Addr) (cap : Nat) (w : World) (hn : s.name.length ≤ 100000) (hbad : headBad s) :
    Calls Try.prog 34 #[.agg #[.string (mk s.name), .int .i64 s.typ, .int .i64 s.cls, .int .i64 s.ttl, .slice ao s.data.length cap]] w fun r w' => r = .returned (.int .i64 2) ∧ Fr nob w w' := by
  have hf := (Fr.refl nob w).alloc (.cells #[.string (mk s.name), .int .i64 s.typ, .int .i64 s.cls, .int .i64 s.ttl, .slice ao s.data.length cap] 24)
  have hck := Ho.mk (Check_calls s.name (w.alloc (.cells #[.string (mk s.name), .int .i64 s.typ, .int .i64 s.cls, .int .i64 s.ttl, .slice ao s.data.length cap] 24)) hn)
  have hnb := blk_new w (.cells #[.string (mk s.name), .int .i64 s.typ, .int .i64 s.cls, .int .i64 s.ttl, .slice ao s.data.length cap] 24)
  have HF := Ho.mk hf; have HNB := Ho.mk hnb
  obtain ⟨e, he⟩ : ∃ e, (labels s.name).2 = e := ⟨_, rfl⟩
  obtain ⟨ln, hln⟩ : ∃ n, s.data.length = n := ⟨_, rfl⟩
  have hcase : e ≠ 0 ∨ (e = 0 ∧ shortB s.typ = false) ∨ (e = 0 ∧ shortB s.typ = true ∧ shortB s.cls = false) ∨ (e = 0 ∧ shortB s.typ = true ∧ shortB s.cls = true ∧ s.ttl < 0) ∨ (e = 0 ∧ shortB s.typ = true ∧ shortB s.cls = true ∧ ¬ s.ttl < 0 ∧ 2147483648 ≤ s.ttl) ∨
      (e = 0 ∧ shortB s.typ = true ∧ shortB s.cls = true ∧ ¬ s.ttl < 0 ∧ ¬ 2147483648 ≤ s.ttl ∧ ln < 1) ∨ (e = 0 ∧ shortB s.typ = true ∧ shortB s.cls = true ∧ ¬ s.ttl < 0 ∧ ¬ 2147483648 ≤ s.ttl ∧ ¬ ln < 1 ∧ 64 < ln) := by
    unfold headBad at hbad
    rw [he, hln] at hbad
    have h1 : shortB s.typ = true ↔ (0 ≤ s.typ ∧ s.typ ≤ 65535) := by unfold shortB; simp
    have h2 : shortB s.cls = true ↔ (0 ≤ s.cls ∧ s.cls ≤ 65535) := by unfold shortB; simp
    by_cases k1 : e = 0
    · cases k2 : shortB s.typ with
      | false => exact .inr (.inl ⟨k1, rfl⟩)
      | true =>
        cases k3 : shortB s.cls with
        | false => exact .inr (.inr (.inl ⟨k1, rfl, rfl⟩))
        | true =>
          have g1 := h1.1 k2; have g2 := h2.1 k3
          by_cases k4 : s.ttl < 0
          · exact .inr (.inr (.inr (.inl ⟨k1, rfl, rfl, k4⟩)))
          · by_cases k5 : 2147483648 ≤ s.ttl
            · exact .inr (.inr (.inr (.inr (.inl ⟨k1, rfl, rfl, k4, k5⟩))))
            · by_cases k6 : ln < 1
              · exact .inr (.inr (.inr (.inr (.inr (.inl ⟨k1, rfl, rfl, k4, k5, k6⟩)))))
              · refine .inr (.inr (.inr (.inr (.inr (.inr ⟨k1, rfl, rfl, k4, k5, k6, ?_⟩)))))
                rcases hbad with h | h | h | h | h | h | h
                · exact absurd k1 h
                · exact absurd g1 h
                · exact absurd g2 h
                · exact absurd h k4
                · exact absurd h k5
                · omega
                · exact h
    · exact .inl k1
  rw [he] at hck
  rw [hln] at hck hf hnb HF HNB ⊢
  obtain ⟨bx, hbx⟩ : ∃ b, w.heap.size = b := ⟨_, rfl⟩
  have HBX := Ho.mk hbx
  clear he hln hbad hnb hf hbx
  rcases hcase with h1 | ⟨h1, h2⟩ | ⟨h1, h2, h3⟩ | ⟨h1, h2, h3, h4⟩ | ⟨h1, h2, h3, h4, h5⟩ | ⟨h1, h2, h3, h4, h5, h6⟩ | ⟨h1, h2, h3, h4, h5, h6, h7⟩
  case' inl => have q1 : (e != 0) = true := (by simp [h1]); clear h1
  case' inr.inl => have q1 : (e != 0) = false := (by simp [h1]); clear h1
  case' inr.inr.inl => have q1 : (e != 0) = false := (by simp [h1]); clear h1
  case' inr.inr.inr.inl => have q1 : (e != 0) = false := (by simp [h1]); have q4 : decide (s.ttl < 0) = true := decide_eq_true h4; clear h1 h4
  case' inr.inr.inr.inr.inl => have q1 : (e != 0) = false := (by simp [h1]); have q4 : decide (s.ttl < 0) = false := decide_eq_false h4; have q5 : decide (2147483648 ≤ s.ttl) = true := decide_eq_true h5; clear h1 h4 h5
  case' inr.inr.inr.inr.inr.inl => have q1 : (e != 0) = false := (by simp [h1]); have q4 : decide (s.ttl < 0) = false := decide_eq_false h4; have q5 : decide (2147483648 ≤ s.ttl) = false := decide_eq_false h5; have q6 : decide ((ln : Int) < 1) = true := decide_eq_true (by omega); have q6' : decide (ln < 1) = true := decide_eq_true h6; clear h1 h4 h5 h6
  case' inr.inr.inr.inr.inr.inr => have q1 : (e != 0) = false := (by simp [h1]); have q4 : decide (s.ttl < 0) = false := decide_eq_false h4; have q5 : decide (2147483648 ≤ s.ttl) = false := decide_eq_false h5; have q6 : decide ((ln : Int) < 1) = false := decide_eq_false (by omega); have q6' : decide (ln < 1) = false := decide_eq_false h6; have q7 : decide ((64 : Int) < (ln : Int)) = true := decide_eq_true (by omega); have q7' : decide (64 < ln) = true := decide_eq_true h7; clear h1 h4 h5 h6 h7
  all_goals
    go_enter Try.func34, Try.ntmps34
    go_wp2_with (fail)
    refine hck.out.mono ?_
    clear hck
    rintro r w1 ⟨rfl, f1⟩
    have hb1 := f1.block _ _ HNB.out (fun h => h)
    have g1 : w1.cell? ⟨w.heap.size, 1, none⟩ = some (.int .i64 s.typ) := blk_cell hb1 1
    have g2 : w1.cell? ⟨w.heap.size, 2, none⟩ = some (.int .i64 s.cls) := blk_cell hb1 2
    have g3 : w1.cell? ⟨w.heap.size, 3, none⟩ = some (.int .i64 s.ttl) := blk_cell hb1 3
    have g4 : w1.cell? ⟨w.heap.size, 4, none⟩ = some (.slice ao ln cap) := blk_cell hb1 4
    have HF1 := Ho.mk (HF.out.trans f1)
    clear f1 hb1
    go_wp2_with (first | (go_at_call 58; refine (short_calls _ _).mono ?_; rintro r w2 ⟨rfl, rfl⟩))
    go_ret
    exact ⟨rfl, HF1.out⟩
end Go.Proofs.Ytlbhfnjhhpcphaa
