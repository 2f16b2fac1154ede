/-
  The examples of the chapter: is, four, awake.
-/
import Derived.Test.YtcpejmnmbioinaaDA
namespace Go.Proofs.Ytcpejmnmbioinaa
open Go.RowKit
set_option maxRecDepth 100000 in
theorem is_calls (D : Nat → Prop) (w : World) (q : Nat) (st : Qs) (a b : Int) (h : QS D w q st) (hD : ∀ k, w.heap.size ≤ k → D k) (ha : st.next.2 = (a, b, true)) :
    Calls Try.prog 29 #[.pointer (some ⟨q, 0, none⟩), .int .i64 a, .int .i64 b] w fun r w' => r = .returned (.bool true) ∧ QS D w' q st.next.1 ∧ Fr D w w' := by
  have hcall := next_calls D w q st h hD
  rw [ha] at hcall
  clear h hD ha
  go_enter Try.func29, Try.ntmps29
  go_wp2_with (fail)
  refine hcall.mono ?_
  clear hcall
  rintro r w' ⟨rfl, h1, h2⟩
  have h3 : (a == a) = true := by simp
  have h4 : (b == b) = true := by simp
  go_wp2_with (fail)
  go_ret
  exact ⟨rfl, h1, h2⟩
theorem four_calls (D : Nat → Prop) (w : World) (hD : ∀ k, w.heap.size ≤ k → D k) :
    Calls Try.prog 16 #[] w fun r w' => ∃ q, r = .returned (Pt q) ∧ w.heap.size ≤ q ∧ QS D w' q (Qs.new 4 4 10 10) ∧ Fr nob w w' := by
  have hcall := new_calls D w 4 4 10 10 (by omega) (by omega) (by omega) (by omega) hD
  clear hD
  go_enter Try.func16, Try.ntmps16
  go_wp2_with (fail)
  refine hcall.mono ?_
  clear hcall
  rintro r w' ⟨q, rfl, h0, h1, h2⟩
  unfold Pt
  go_wp2_with (fail)
  go_ret
  exact ⟨q, rfl, h0, h1, h2⟩
def s0 : Qs := Qs.new 4 4 10 10
def s1 : Qs := (s0.put 1 6 11).1
def s2 : Qs := (s1.put 1 6 12).1
def s3 : Qs := (s2.put 2 3 21).1
def s4 : Qs := (s3.put 2 3 22).1
def s5 : Qs := (s4.put 2 3 23).1
def s6 : Qs := s5.next.1
def s7 : Qs := s6.next.1
def s8 : Qs := s7.next.1
def s9 : Qs := s8.next.1
def s10 : Qs := s9.next.1
theorem put0 : (s0.put 1 6 11).2 = 0 := by rfl
theorem put1 : (s1.put 1 6 12).2 = 0 := by rfl
theorem put2 : (s2.put 2 3 21).2 = 0 := by rfl
theorem put3 : (s3.put 2 3 22).2 = 0 := by rfl
theorem put4 : (s4.put 2 3 23).2 = 0 := by rfl
theorem next5 : s5.next.2 = (1, 11, true) := by rfl
theorem next6 : s6.next.2 = (2, 21, true) := by rfl
theorem next7 : s7.next.2 = (2, 22, true) := by rfl
theorem next8 : s8.next.2 = (2, 23, true) := by rfl
theorem next9 : s9.next.2 = (1, 12, true) := by rfl
theorem next10 : s10.next.2 = (0, 0, false) := by rfl
theorem total10 : total s10.next.1.ring = 0 := by rfl
set_option maxRecDepth 100000 in
set_option maxHeartbeats 4000000 in
theorem awake_calls (w : World) : Calls Try.prog 8 #[] w fun r w' => r = .returned (.bool true) ∧ Fr nob w w' := by
  have hf0 : Fr (fun k => w.heap.size ≤ k) w w := Fr.refl _ w
  suffices key : ∀ B, w.heap.size = B → Fr (fun k => B ≤ k) w w → Calls Try.prog 8 #[] w fun r w' => r = .returned (.bool true) ∧ Fr (fun k => B ≤ k) w w' from (key _ rfl hf0).mono fun r w' h => ⟨h.1, h.2.mono fun k h1 h2 => by omega⟩
  intro B hB hf
  suffices key : ∀ w0, w0 = w → Calls Try.prog 8 #[] w fun r w' => r = .returned (.bool true) ∧ Fr (fun k => B ≤ k) w0 w' from key w rfl
  intro w0 hw0
  have hf : Fr (fun k => B ≤ k) w0 w := hw0 ▸ hf
  have hB0 : ∀ w', Fr (fun k => B ≤ k) w0 w' → ∀ k, w'.heap.size ≤ k → B ≤ k := fun w' h k hk => by
    have := h.size; rw [hw0, hB] at this; omega
  have HB0 := Ho.mk hB0; have HF := Ho.mk hf
  clear hw0 hB hf0 hf hB0
  go_enter Try.func8, Try.ntmps8
  go_wp2_with (fail)
  refine (four_calls (fun k => B ≤ k) w (HB0.out w HF.out)).mono ?_
  rintro r w1 ⟨q, rfl, h0, h1, f1⟩
  have h1 : QS (fun k => B ≤ k) w1 q s0 := h1
  have hf1 := HF.out.trans (f1.mono (fun _ _ h => h.elim))
  have HQ := Ho.mk h1; have HF1 := Ho.mk hf1
  clear h0 h1 f1 hf1 HF
  unfold Pt
  go_wp2_with (fail)
  have hc := put_calls (fun k => B ≤ k) w1 q s0 1 6 11 HQ.out (HB0.out w1 HF1.out)
  rw [put0] at hc
  refine hc.mono ?_
  clear hc
  rintro r w2 ⟨rfl, h1, f1⟩
  have h1 : QS (fun k => B ≤ k) w2 q s1 := h1
  have hf1 := HF1.out.trans f1
  clear HQ HF1
  have HQ := Ho.mk h1; have HF1 := Ho.mk hf1
  clear h1 f1 hf1
  go_wp2_with (fail)
  have hc := put_calls (fun k => B ≤ k) w2 q s1 1 6 12 HQ.out (HB0.out w2 HF1.out)
  rw [put1] at hc
  refine hc.mono ?_
  clear hc
  rintro r w3 ⟨rfl, h1, f1⟩
  have h1 : QS (fun k => B ≤ k) w3 q s2 := h1
  have hf1 := HF1.out.trans f1
  clear HQ HF1
  have HQ := Ho.mk h1; have HF1 := Ho.mk hf1
  clear h1 f1 hf1
  go_wp2_with (fail)
  have hc := put_calls (fun k => B ≤ k) w3 q s2 2 3 21 HQ.out (HB0.out w3 HF1.out)
  rw [put2] at hc
  refine hc.mono ?_
  clear hc
  rintro r w4 ⟨rfl, h1, f1⟩
  have h1 : QS (fun k => B ≤ k) w4 q s3 := h1
  have hf1 := HF1.out.trans f1
  clear HQ HF1
  have HQ := Ho.mk h1; have HF1 := Ho.mk hf1
  clear h1 f1 hf1
  go_wp2_with (fail)
  have hc := put_calls (fun k => B ≤ k) w4 q s3 2 3 22 HQ.out (HB0.out w4 HF1.out)
  rw [put3] at hc
  refine hc.mono ?_
  clear hc
  rintro r w5 ⟨rfl, h1, f1⟩
  have h1 : QS (fun k => B ≤ k) w5 q s4 := h1
  have hf1 := HF1.out.trans f1
  clear HQ HF1
  have HQ := Ho.mk h1; have HF1 := Ho.mk hf1
  clear h1 f1 hf1
  go_wp2_with (fail)
  have hc := put_calls (fun k => B ≤ k) w5 q s4 2 3 23 HQ.out (HB0.out w5 HF1.out)
  rw [put4] at hc
  refine hc.mono ?_
  clear hc
  rintro r w6 ⟨rfl, h1, f1⟩
  have h1 : QS (fun k => B ≤ k) w6 q s5 := h1
  have hf1 := HF1.out.trans f1
  clear HQ HF1
  have HQ := Ho.mk h1; have HF1 := Ho.mk hf1
  clear h1 f1 hf1
  go_wp2_with (fail)
  have hc := is_calls (fun k => B ≤ k) w6 q s5 1 11 HQ.out (HB0.out w6 HF1.out) next5
  refine hc.mono ?_
  clear hc
  rintro r w7 ⟨rfl, h1, f1⟩
  have h1 : QS (fun k => B ≤ k) w7 q s6 := h1
  have hf1 := HF1.out.trans f1
  clear HQ HF1
  have HQ := Ho.mk h1; have HF1 := Ho.mk hf1
  clear h1 f1 hf1
  go_wp2_with (fail)
  have hc := is_calls (fun k => B ≤ k) w7 q s6 2 21 HQ.out (HB0.out w7 HF1.out) next6
  refine hc.mono ?_
  clear hc
  rintro r w8 ⟨rfl, h1, f1⟩
  have h1 : QS (fun k => B ≤ k) w8 q s7 := h1
  have hf1 := HF1.out.trans f1
  clear HQ HF1
  have HQ := Ho.mk h1; have HF1 := Ho.mk hf1
  clear h1 f1 hf1
  go_wp2_with (fail)
  have hc := is_calls (fun k => B ≤ k) w8 q s7 2 22 HQ.out (HB0.out w8 HF1.out) next7
  refine hc.mono ?_
  clear hc
  rintro r w9 ⟨rfl, h1, f1⟩
  have h1 : QS (fun k => B ≤ k) w9 q s8 := h1
  have hf1 := HF1.out.trans f1
  clear HQ HF1
  have HQ := Ho.mk h1; have HF1 := Ho.mk hf1
  clear h1 f1 hf1
  go_wp2_with (fail)
  have hc := is_calls (fun k => B ≤ k) w9 q s8 2 23 HQ.out (HB0.out w9 HF1.out) next8
  refine hc.mono ?_
  clear hc
  rintro r w10 ⟨rfl, h1, f1⟩
  have h1 : QS (fun k => B ≤ k) w10 q s9 := h1
  have hf1 := HF1.out.trans f1
  clear HQ HF1
  have HQ := Ho.mk h1; have HF1 := Ho.mk hf1
  clear h1 f1 hf1
  go_wp2_with (fail)
  have hc := is_calls (fun k => B ≤ k) w10 q s9 1 12 HQ.out (HB0.out w10 HF1.out) next9
  refine hc.mono ?_
  clear hc
  rintro r w11 ⟨rfl, h1, f1⟩
  have h1 : QS (fun k => B ≤ k) w11 q s10 := h1
  have hf1 := HF1.out.trans f1
  clear HQ HF1
  have HQ := Ho.mk h1; have HF1 := Ho.mk hf1
  clear h1 f1 hf1
  go_wp2_with (fail)
  have hc := next_calls (fun k => B ≤ k) w11 q s10 HQ.out (HB0.out w11 HF1.out)
  rw [next10] at hc
  refine hc.mono ?_
  clear hc
  rintro r w12 ⟨rfl, h1, f1⟩
  have hf1 := HF1.out.trans f1
  have hl := len_calls _ _ _ _ h1
  rw [total10] at hl
  clear HQ HF1
  have HF1 := Ho.mk hf1
  clear h1 f1 hf1
  go_wp2_with (fail)
  refine hl.mono ?_
  clear hl
  rintro r w13 ⟨rfl, rfl⟩
  go_wp2_with (fail)
  go_ret
  exact ⟨rfl, HF1.out⟩
end Go.Proofs.Ytcpejmnmbioinaa
