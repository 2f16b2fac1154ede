/-
  DrrKnown: the walk.
-/
import Derived.Test.YtcpejmnmbioinaaDL
namespace Go.Proofs.Ytcpejmnmbioinaa
open Go.RowKit
set_option maxRecDepth 100000 in
theorem new_bad_calls (w : World) : Calls Try.prog 11 #[.int .i64 1, .int .i64 1, .int .i64 5, .int .i64 6] w fun r w' => r = .returned (.tuple #[.pointer none, .int .i64 2]) ∧ w' = w := by
  go_enter Try.func11, Try.ntmps11
  go_wp2_with (fail)
  go_ret2
  exact ⟨rfl, rfl⟩
theorem kp1 : (s0.put 1 11 0) = (s0, 5) := by rfl
theorem kp2 : (s0.put 9 1 5) = (⟨4, 4, 10, 10, [⟨9, 0, [(1, 5)]⟩], false⟩, 0) := by rfl
theorem kp3 : (Qs.drop ⟨4, 4, 10, 10, [⟨9, 0, [(1, 5)]⟩], false⟩ 9) = (⟨4, 4, 10, 10, [], false⟩, [5]) := by rfl
set_option maxRecDepth 100000 in
set_option maxHeartbeats 4000000 in
theorem DrrKnown_walk (w : World) : Calls Try.prog 5 #[] w fun r w' => r = .returned (.bool true) ∧ Fr (fun k => w.heap.size ≤ k) w w' := by
  suffices key : ∀ w0 B, w0 = w → B = w.heap.size → Calls Try.prog 5 #[] w fun r w' => r = .returned (.bool true) ∧ Fr (fun k => B ≤ k) w0 w' from key w _ rfl rfl
  intro w0 B hw0 hB
  have hf : Fr (fun k => B ≤ k) w0 w := by rw [hw0]; exact Fr.refl _ w
  have hsz : ∀ w', Fr (fun k => B ≤ k) w0 w' → ∀ k, w'.heap.size ≤ k → B ≤ k := fun w' h k hk => by have := h.size; rw [hw0, ← hB] at this; omega
  have HF := Ho.mk hf; have HSZ := Ho.mk hsz
  clear hf hsz hw0 hB
  go_enter Try.func5, Try.ntmps5
  go_wp2_with (fail)
  refine (four_calls (fun k => B ≤ k) w (HSZ.out w HF.out)).mono ?_
  rintro r w1 ⟨q, rfl, h0, h1, f1⟩
  have HQ1 := Ho.mk (show QS (fun k => B ≤ k) w1 q s0 from h1)
  have HF1 := Ho.mk (HF.out.trans (f1.mono (fun _ _ h => h.elim)))
  clear h0 h1 f1 HF
  unfold Pt
  go_wp2_with (fail)
  refine (new_bad_calls w1).mono ?_
  rintro r w' ⟨rfl, rfl⟩
  go_wp2_with (fail)
  have hc := put_calls (fun k => B ≤ k) _ q s0 1 11 0 HQ1.out (HSZ.out _ HF1.out)
  rw [kp1] at hc
  refine hc.mono ?_
  clear hc
  rintro r w2 ⟨rfl, h2, f2⟩
  have HQ2 := Ho.mk h2; have HF2 := Ho.mk (HF1.out.trans f2)
  clear h2 f2 HQ1 HF1
  go_wp2_with (fail)
  have hc := put_calls (fun k => B ≤ k) _ q s0 9 1 5 HQ2.out (HSZ.out _ HF2.out)
  rw [kp2] at hc
  refine hc.mono ?_
  clear hc
  rintro r w3 ⟨rfl, h3, f3⟩
  have HQ3 := Ho.mk h3; have HF3 := Ho.mk (HF2.out.trans f3)
  clear h3 f3 HQ2 HF2
  go_wp2_with (fail)
  refine (clients_calls (fun k => B ≤ k) _ q _ HQ3.out).mono ?_
  rintro r w4 ⟨ao, cap, rfl, hown4, f4⟩
  have hf5 := (Fr.refl nob w4).alloc (.cells #[.int .i64 9] 3)
  have hb5 := blk_new w4 (.cells #[.int .i64 9] 3)
  have hs1 : IsInts (w4.alloc (.cells #[.int .i64 9] 3)) (.slice ao 1 cap) [9] := (own_ints (l := [9]) hown4).fr hf5 (fun _ _ h => h)
  have hs2 : IsInts (w4.alloc (.cells #[.int .i64 9] 3)) (.slice (some ⟨w4.heap.size, 0, none⟩) 1 1) [9] := ⟨_, _, rfl, fun i hi => ⟨_, 0, rfl, by
    obtain rfl : i = 0 := by simp at hi; omega
    exact blk_cell hb5 0⟩⟩
  have hsame := SameInts_calls _ _ [9] _ hs1 hs2 (by simp)
  have HQ5 := Ho.mk ((HQ3.out.fr f4 (fun _ _ h => h)).fr hf5 (fun _ _ h => h))
  have HF5 := Ho.mk ((HF3.out.trans (f4.mono (S' := fun k => B ≤ k) (fun _ _ h => h.elim))).trans (hf5.mono (fun _ _ h => h.elim)))
  clear f4 hown4 hf5 hb5 hs1 hs2 HQ3 HF3
  simp only [List.length_cons, List.length_nil, Nat.zero_add]
  go_wp2_with (fail)
  refine hsame.mono ?_
  clear hsame
  rintro r w6 ⟨rfl, f6⟩
  have HQ6 := Ho.mk (HQ5.out.fr f6 (fun _ _ h => h))
  have HF6 := Ho.mk (HF5.out.trans (f6.mono (fun _ _ h => h.elim)))
  clear f6 HQ5 HF5
  go_wp2_with (fail)
  refine (awake_calls w6).mono ?_
  rintro r w7 ⟨rfl, f7⟩
  have HQ7 := Ho.mk (HQ6.out.fr f7 (fun _ _ h => h))
  have HF7 := Ho.mk (HF6.out.trans (f7.mono (fun _ _ h => h.elim)))
  clear f7 HQ6 HF6
  go_wp2_with (fail)
  have hc := drop_calls (fun k => B ≤ k) _ q _ 9 HQ7.out
  rw [kp3] at hc
  refine hc.mono ?_
  clear hc
  rintro r w8 ⟨ao, cap, rfl, hown8, h8, f8⟩
  have hf9 := (Fr.refl nob w8).alloc (.cells #[.int .i64 5] 3)
  have hb9 := blk_new w8 (.cells #[.int .i64 5] 3)
  have hs1 : IsInts (w8.alloc (.cells #[.int .i64 5] 3)) (.slice ao 1 cap) [5] := (own_ints (l := [5]) hown8).fr hf9 (fun _ _ h => h)
  have hs2 : IsInts (w8.alloc (.cells #[.int .i64 5] 3)) (.slice (some ⟨w8.heap.size, 0, none⟩) 1 1) [5] := ⟨_, _, rfl, fun i hi => ⟨_, 0, rfl, by
    obtain rfl : i = 0 := by simp at hi; omega
    exact blk_cell hb9 0⟩⟩
  have hsame := SameInts_calls _ _ [5] _ hs1 hs2 (by simp)
  have hfq := hf9
  have HQ9 := Ho.mk (h8.fr hf9 (fun _ _ h => h))
  have HF9 := Ho.mk ((HF7.out.trans f8).trans (hf9.mono (fun _ _ h => h.elim)))
  clear f8 hown8 hf9 hb9 hs1 hs2 HQ7 HF7 h8 hfq
  simp only [List.length_cons, List.length_nil, Nat.zero_add]
  go_wp2_with (fail)
  refine hsame.mono ?_
  clear hsame
  rintro r w10 ⟨rfl, f10⟩
  have h10 := HQ9.out.fr f10 (fun _ _ h => h)
  have HF10 := Ho.mk (HF9.out.trans (f10.mono (fun _ _ h => h.elim)))
  have hl := len_calls _ _ _ _ h10
  have e0 : ((total (Qs.mk 4 4 10 10 [] false).ring : Nat) : Int) = 0 := rfl
  rw [e0] at hl
  clear f10 h10 e0
  go_wp2_with (fail)
  refine hl.mono ?_
  clear hl
  rintro r w11 ⟨rfl, rfl⟩
  go_wp2_with (fail)
  go_ret
  exact ⟨rfl, HF10.out⟩
end Go.Proofs.Ytcpejmnmbioinaa
