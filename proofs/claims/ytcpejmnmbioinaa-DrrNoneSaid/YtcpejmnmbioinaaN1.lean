/-
  A scheduler that is none: what each method answers.
-/
import Derived.Test.YtcpejmnmbioinaaDB
namespace Go.Proofs.Ytcpejmnmbioinaa
open Go.RowKit
/-- None, or one that New did not make. -/
def NonQ (v : Value) (w : World) : Prop := v = .pointer none ∨ ∃ b, v = .pointer (some ⟨b, 0, none⟩) ∧ w.cell? ⟨b, 4, none⟩ = some (.pointer none)
theorem nonq_calls (v : Value) (w : World) (h : NonQ v w) : Calls Try.prog 31 #[v] w fun r w' => r = .returned (.bool true) ∧ w' = w := by
  rcases h with rfl | ⟨b, rfl, h⟩
  · exact none_nil_calls w
  · go_enter Try.func31, Try.ntmps31
    go_wp2
    go_ret
    exact ⟨rfl, rfl⟩
set_option maxRecDepth 100000 in
theorem non_Next (v : Value) (w : World) (h : NonQ v w) : Calls Try.prog 13 #[v] w fun r w' => r = .returned (.tuple #[.int .i64 0, .int .i64 0, .bool false]) ∧ w' = w := by
  have hcall := nonq_calls v w h
  clear h
  go_enter Try.func13, Try.ntmps13
  go_wp2_with (fail)
  refine hcall.mono ?_
  clear hcall
  rintro r w' ⟨rfl, rfl⟩
  go_wp2_with (fail)
  go_ret3
  exact ⟨rfl, rfl⟩
set_option maxRecDepth 100000 in
theorem non_Peek (v : Value) (w : World) (h : NonQ v w) : Calls Try.prog 22 #[v] w fun r w' => r = .returned (.tuple #[.int .i64 0, .int .i64 0, .bool false]) ∧ w' = w := by
  have hcall := nonq_calls v w h
  clear h
  go_enter Try.func22, Try.ntmps22
  go_wp2_with (fail)
  refine hcall.mono ?_
  clear hcall
  rintro r w' ⟨rfl, rfl⟩
  go_wp2_with (fail)
  go_ret3
  exact ⟨rfl, rfl⟩
set_option maxRecDepth 100000 in
theorem non_Put (v : Value) (a b c : Int) (w : World) (h : NonQ v w) : Calls Try.prog 12 #[v, .int .i64 a, .int .i64 b, .int .i64 c] w fun r w' => r = .returned (.int .i64 1) ∧ w' = w := by
  have hcall := nonq_calls v w h
  clear h
  go_enter Try.func12, Try.ntmps12
  go_wp2_with (fail)
  refine hcall.mono ?_
  clear hcall
  rintro r w' ⟨rfl, rfl⟩
  go_wp2_with (fail)
  go_ret
  exact ⟨rfl, rfl⟩
set_option maxRecDepth 100000 in
theorem non_Len (v : Value) (w : World) (h : NonQ v w) : Calls Try.prog 19 #[v] w fun r w' => r = .returned (.int .i64 0) ∧ w' = w := by
  have hcall := nonq_calls v w h
  clear h
  go_enter Try.func19, Try.ntmps19
  go_wp2_with (fail)
  refine hcall.mono ?_
  clear hcall
  rintro r w' ⟨rfl, rfl⟩
  go_wp2_with (fail)
  go_ret
  exact ⟨rfl, rfl⟩
set_option maxRecDepth 100000 in
theorem non_Of (v : Value) (a : Int) (w : World) (h : NonQ v w) : Calls Try.prog 14 #[v, .int .i64 a] w fun r w' => r = .returned (.int .i64 0) ∧ w' = w := by
  have hcall := nonq_calls v w h
  clear h
  go_enter Try.func14, Try.ntmps14
  go_wp2_with (fail)
  refine hcall.mono ?_
  clear hcall
  rintro r w' ⟨rfl, rfl⟩
  go_wp2_with (fail)
  go_ret
  exact ⟨rfl, rfl⟩
set_option maxRecDepth 100000 in
theorem non_Clients (v : Value) (w : World) (h : NonQ v w) : Calls Try.prog 15 #[v] w fun r w' => r = .returned (.slice none 0 0) ∧ w' = w := by
  have hcall := nonq_calls v w h
  clear h
  go_enter Try.func15, Try.ntmps15
  go_wp2_with (fail)
  refine hcall.mono ?_
  clear hcall
  rintro r w' ⟨rfl, rfl⟩
  go_wp2_with (fail)
  go_ret
  exact ⟨rfl, rfl⟩
set_option maxRecDepth 100000 in
theorem non_Drop (v : Value) (a : Int) (w : World) (h : NonQ v w) : Calls Try.prog 18 #[v, .int .i64 a] w fun r w' => r = .returned (.slice none 0 0) ∧ w' = w := by
  have hcall := nonq_calls v w h
  clear h
  go_enter Try.func18, Try.ntmps18
  go_wp2_with (fail)
  refine hcall.mono ?_
  clear hcall
  rintro r w' ⟨rfl, rfl⟩
  go_wp2_with (fail)
  go_ret
  exact ⟨rfl, rfl⟩
set_option maxRecDepth 100000 in
set_option maxHeartbeats 4000000 in
theorem DrrNone_walk (a b c : Int) (w : World) : Calls Try.prog 7 #[.int .i64 a, .int .i64 b, .int .i64 c] w fun r w' => r = .returned (.bool true) ∧ Fr nob w w' := by
  go_enter Try.func7, Try.ntmps7
  go_wp2_with (fail)
  have h1 := blk_new w (.cells #[.int .i64 0, .int .i64 0, .int .i64 0, .int .i64 0, .pointer none, .map none, .bool false, .int .i64 0] 52)
  have f1 := (Fr.refl nob w).alloc (.cells #[.int .i64 0, .int .i64 0, .int .i64 0, .int .i64 0, .pointer none, .map none, .bool false, .int .i64 0] 52)
  have h2 := blk_new (w.alloc (.cells #[.int .i64 0, .int .i64 0, .int .i64 0, .int .i64 0, .pointer none, .map none, .bool false, .int .i64 0] 52)) (.cells #[.pointer none, .pointer (some ⟨w.heap.size, 0, none⟩)] 27)
  have h1' := blk_old h1 (.cells #[.pointer none, .pointer (some ⟨w.heap.size, 0, none⟩)] 27)
  have f2 := f1.alloc (.cells #[.pointer none, .pointer (some ⟨w.heap.size, 0, none⟩)] 27)
  have hsz : (w.alloc (.cells #[.int .i64 0, .int .i64 0, .int .i64 0, .int .i64 0, .pointer none, .map none, .bool false, .int .i64 0] 52)).heap.size = w.heap.size + 1 := by simp
  rw [hsz] at h2
  generalize hw2 : (w.alloc (.cells #[.int .i64 0, .int .i64 0, .int .i64 0, .int .i64 0, .pointer none, .map none, .bool false, .int .i64 0] 52)).alloc (.cells #[.pointer none, .pointer (some ⟨w.heap.size, 0, none⟩)] 27) = w2 at *
  have hv : ∀ k : Nat, k < 2 → ∃ v, w2.cell? ⟨w.heap.size + 1, k, none⟩ = some v ∧ NonQ v w2 := by
    intro k hk
    obtain rfl | rfl : k = 0 ∨ k = 1 := by omega
    · exact ⟨_, blk_cell h2 0, .inl rfl⟩
    · exact ⟨_, blk_cell h2 1, .inr ⟨_, rfl, blk_cell h1' 4⟩⟩
  have HV := Ho.mk hv; have HF := Ho.mk f2
  clear h1 f1 h2 h1' f2 hsz hw2 hv
  go_loop [9] (fun i => ∃ k : Nat, k ≤ 2 ∧ i = .int .i64 k) (fun i => 2 - (intOf i).toNat)
  case atStart => exact ⟨0, by omega, rfl⟩
  case round =>
    obtain ⟨k, hk, rfl⟩ := hrel
    by_cases hlt : k < 2
    · obtain ⟨v, hv, hn⟩ := HV.out k hlt
      have HN := Ho.mk hn; clear hn
      go_wp2_with (fail)
      refine (non_Next v w2 HN.out).mono ?_
      rintro r w3 ⟨rfl, rfl⟩
      go_wp2_with (fail)
      refine (non_Peek v w3 HN.out).mono ?_
      rintro r w4 ⟨rfl, rfl⟩
      go_wp2_with (fail)
      refine (non_Put v a b c w4 HN.out).mono ?_
      rintro r w5 ⟨rfl, rfl⟩
      go_wp2_with (fail)
      refine (non_Len v w5 HN.out).mono ?_
      rintro r w6 ⟨rfl, rfl⟩
      go_wp2_with (fail)
      refine (non_Of v a w6 HN.out).mono ?_
      rintro r w7 ⟨rfl, rfl⟩
      go_wp2_with (fail)
      refine (non_Clients v w7 HN.out).mono ?_
      rintro r w8 ⟨rfl, rfl⟩
      go_wp2_with (fail)
      refine (non_Drop v a w8 HN.out).mono ?_
      rintro r w9 ⟨rfl, rfl⟩
      go_wp2_with (fail)
      go_round
      case rel => exact ⟨k + 1, by omega, by go_num⟩
      case measure => simp [intOf]; omega
    · obtain rfl : k = 2 := by omega
      go_wp2_with (fail)
      refine (awake_calls w2).mono ?_
      rintro r w' ⟨rfl, hf⟩
      go_wp2_with (fail)
      go_ret
      exact ⟨rfl, HF.out.trans hf⟩
end Go.Proofs.Ytcpejmnmbioinaa
