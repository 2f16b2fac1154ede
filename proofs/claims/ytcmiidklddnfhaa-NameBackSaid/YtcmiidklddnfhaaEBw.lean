/-
  NameBack: the walk.
-/
import Derived.Test.YtcmiidklddnfhaaEBp
import Derived.Test.YtcmiidklddnfhaaEVb
import Derived.Test.YtcmiidklddnfhaaEZb
namespace Go.Proofs.Ytcmiidklddnfhaa
open Go.RowKit
/-- What the second half asks: a text is read; the name's text is read as it. -/
structure BackB (w : World) (ts : ByteArray) (tm tt : ByteArray) (e a : Int) : Prop where
  p : ∀ W, Fr nob w W → Calls Try.prog 34 #[.string ts] W (fun r w' => r = .returned (.tuple #[.string tm, .agg #[.int .i64 e, .int .i64 a]]) ∧ Fr nob w w')
  t : e = 0 → ∀ W, Fr nob w W → Calls Try.prog 33 #[.string tm] W (fun r w' => r = .returned (.tuple #[.string tt, .int .i64 0]) ∧ Fr nob w w')
  q : e = 0 → ∀ W, Fr nob w W → Calls Try.prog 34 #[.string tt] W (fun r w' => r = .returned (.tuple #[.string tm, .agg #[.int .i64 0, .int .i64 0]]) ∧ Fr nob w w')
  c : e = 0 → ∀ W, Calls Try.prog 16 #[.string tm] W (fun r w' => r = .returned (.int .i64 0) ∧ Fr nob W w')
  f : e ≠ 0 → tm = ⟨#[]⟩ ∧ 0 ≤ a ∧ a ≤ (ts.size : Int)
theorem backB (s : Bs) (w : World) (hs : s.length ≤ 100000) : ∃ tm tt e a, BackB w (mk s) tm tt e a := by
  have hp := fun W => Parse_calls s W hs
  unfold ParsePost FaultV at hp
  rcases parse_spec s with ⟨h1, h2, h3, h4⟩ | ⟨h1, h2⟩
  · refine ⟨mk (parseP s).1, mk [], (parseP s).2.1, (parseP s).2.2, fun W hf => (hp W).mono fun r w' k => ⟨k.1, hf.trans k.2⟩, fun h => absurd h h1, fun h => absurd h h1, fun h => absurd h h1, fun _ => ⟨by rw [h2]; rfl, h3, by rw [mk_size]; exact h4⟩⟩
  · have hl := labels_spec _ h2
    refine ⟨mk (parseP s).1, mk (textN (labels (parseP s).1).1), 0, 0, fun W hf => (hp W).mono fun r w' k => ⟨by rw [k.1, h1]; rfl, hf.trans k.2⟩, fun _ W hf => ?_, fun _ W hf => ?_, fun _ W => ?_, fun h => absurd rfl h⟩
    · have ht := Text_calls (parseP s).1 W (by omega)
      unfold TextPost textP at ht
      rw [if_pos h2] at ht
      exact ht.mono fun r w' k => ⟨k.1, hf.trans k.2⟩
    · have hq := Parse_calls (textN (labels (parseP s).1).1) W (by have := textN_len h2; omega)
      unfold ParsePost FaultV at hq
      rw [parse_text h2] at hq
      exact hq.mono fun r w' k => ⟨k.1, hf.trans k.2⟩
    · exact (Check_calls _ W (by omega)).mono fun r w' k => ⟨by rw [k.1, h2], k.2⟩
set_option hygiene false in
macro "back_b" : tactic => `(tactic| (
    with_reducible refine (HP.out _ (by first | assumption | exact hw)).mono ?_
    rintro r w21 ⟨rfl, f21⟩
    by_cases h0 : e = 0
    · have q9 : (e != 0) = false := by rw [h0]; rfl
      have HT2 := Ho.mk (F.t h0); have HQ2 := Ho.mk (F.q h0); have HC2 := Ho.mk (F.c h0)
      clear h0
      go_wp2_with (fail)
      with_reducible refine (HT2.out _ (by first | assumption | exact f21.alloc _)).mono ?_
      rintro r w22 ⟨rfl, f22⟩
      go_wp2_with (fail)
      with_reducible refine (HQ2.out _ (by assumption)).mono ?_
      rintro r w23 ⟨rfl, f23⟩
      go_wp2_with (fail)
      with_reducible refine (HC2.out _).mono ?_
      rintro r w24 ⟨rfl, f24⟩
      have c24 : w24.cell? ⟨w23.heap.size, 0, none⟩ = some (.int .i64 0) := f24.cell (fun h => h) (blk_cell (blk_new w23 (.cells #[.int .i64 0, .int .i64 0] 45)) 0)
      have f25 := (f23.alloc (.cells #[.int .i64 0, .int .i64 0] 45)).trans f24
      have e25 : (tm.toList == tm.toList) = true := by simp
      clear f24
      go_wp2_with (fail)
      go_ret
      exact ⟨rfl, f25⟩
    · have q9 : (e != 0) = true := by simp [h0]
      obtain ⟨y1, y2, y3⟩ := F.f h0
      subst y1
      have y2' : decide ((0 : Int) ≤ a) = true := decide_eq_true y2
      have y3' : decide (a ≤ (ts.size : Int)) = true := decide_eq_true y3
      clear h0
      go_wp2_with (fail)
      go_ret
      exact ⟨rfl, f21.alloc _⟩))
set_option maxHeartbeats 8000000 in
set_option maxRecDepth 100000 in
theorem back_none (tn ts tm tt : ByteArray) (en e a : Int) (w : World) (F : BackB w ts tm tt e a) (hn : tn.size ≤ 400) (hs : ts.size ≤ 1200) (hen : en ≠ 0) (hc : ∀ W, Fr nob w W → Calls Try.prog 16 #[.string tn] W (fun r w' => r = .returned (.int .i64 en) ∧ Fr nob w w')) :
    Calls Try.prog 7 #[.string tn, .string ts] w (BoolPost w true) := by
  have hw : Fr nob w w := Fr.refl _ _
  have k1 : decide ((400 : Int) < (tn.size : Int)) = false := decide_eq_false (by omega)
  have k1' : decide (400 < tn.size) = false := decide_eq_false (by omega)
  have k2 : decide ((1200 : Int) < (ts.size : Int)) = false := decide_eq_false (by omega)
  have k2' : decide (1200 < ts.size) = false := decide_eq_false (by omega)
  have k3 : (en == 0) = false := by rw [beq_eq_false_iff_ne]; exact hen
  have HA := Ho.mk (fun W (hf : Fr nob w W) => (awake_calls W).mono (R' := fun e w' => e = .returned (.bool true) ∧ Fr nob w w') fun e w' k => ⟨k.1, hf.trans k.2⟩)
  have HC := Ho.mk hc; have HP := Ho.mk F.p
  clear hc hen
  go_enter Try.func7, Try.ntmps7
  go_wp2_with (fail)
  refine (HA.out _ hw).mono ?_
  rintro r w1 ⟨rfl, f1⟩
  go_wp2_with (fail)
  refine (HC.out _ f1).mono ?_
  rintro r w2 ⟨rfl, f2⟩
  go_wp2_with (fail)
  back_b
end Go.Proofs.Ytcmiidklddnfhaa
