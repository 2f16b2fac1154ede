/-
  package cache: Get, all inputs.
-/
import Derived.Test.YtlbhfnjhhpcphaaCX
namespace Go.Proofs.Ytlbhfnjhhpcphaa
open Go.RowKit
set_option maxRecDepth 100000 in
set_option maxHeartbeats 8000000 in
theorem get_bad_calls (D : Nat → Prop) (w : World) (c bl mp : Nat) (E : List ElC) (st : Ca) (n : Bs) (kind rank now : Int) (hC : CI D w c bl mp E st) (hn : n.length ≤ 100000) (hok : ¬ ((labels n).2 = 0 ∧ timeOk now)) :
    Calls Try.prog 15 #[.pointer (some ⟨c, 0, none⟩), .string (mk n), .int .i64 kind, .int .i64 rank, .int .i64 now] w fun r w' => r = .returned (fdV Fd.zero none 0) ∧ Fr nob w w' := by
  have hf := (Fr.refl nob w).alloc (.cells #[.int .i64 0, .string ⟨#[]⟩, .int .i64 0, .int .i64 0, .int .i64 0, .slice none 0 0, .int .i64 0] 42)
  have hfb := blk_new w (.cells #[.int .i64 0, .string ⟨#[]⟩, .int .i64 0, .int .i64 0, .int .i64 0, .slice none 0 0, .int .i64 0] 42)
  have hC1 := hC.fr hf (fun _ _ h => h) (fun _ _ _ _ h => h)
  have HAB := Ho.mk (absent_calls c bl _ hC1.cells.2.2.1)
  have HCK := Ho.mk (Check_calls n (w.alloc (.cells #[.int .i64 0, .string ⟨#[]⟩, .int .i64 0, .int .i64 0, .int .i64 0, .slice none 0 0, .int .i64 0] 42)) hn)
  have HF := Ho.mk hf; have HFB := Ho.mk hfb; have HOK := Ho.mk hok
  have hbd := run_found_zero
  clear hf hfb hC1 hC hok hn
  go_enter Try.func15, Try.ntmps15
  go_wp2_with (fail)
  refine HAB.out.mono ?_
  clear HAB
  rintro r w1 ⟨rfl, rfl⟩
  go_wp2_with (fail)
  refine HCK.out.mono ?_
  clear HCK
  rintro r w2 ⟨rfl, f2⟩
  have HF2 := Ho.mk (HF.out.trans f2); have HB2 := Ho.mk (f2.block _ _ HFB.out (fun h => h))
  clear f2 HF HFB
  generalize hbx : w.heap.size = fb at *
  have HFBX := Ho.mk hbx
  have f0 := blk_cell HB2.out 0; have f1 := blk_cell HB2.out 1; have f2 := blk_cell HB2.out 2; have f3 := blk_cell HB2.out 3; have f4 := blk_cell HB2.out 4; have f5 := blk_cell HB2.out 5; have f6 := blk_cell HB2.out 6
  have z0 := blk_free HB2.out 0; have z1 := blk_free HB2.out 1; have z2 := blk_free HB2.out 2; have z3 := blk_free HB2.out 3; have z4 := blk_free HB2.out 4; have z5 := blk_free HB2.out 5; have z6 := blk_free HB2.out 6
  clear hbx
  by_cases h1 : (labels n).2 = 0
  case' pos =>
    have hw6 := within_calls now w2
    rw [decide_eq_false (fun h => HOK.out ⟨h1, h⟩)] at hw6
    have HW6 := Ho.mk hw6
    rw [h1]
    clear hw6 h1
    go_wp2_with (first | (go_at_call 35; refine HW6.out.mono ?_; rintro r w3 ⟨rfl, rfl⟩))
  case' neg =>
    have q1 : ((labels n).2 != 0) = true := by simpa using h1
    generalize (labels n).2 = e at *
    clear h1
    go_wp2_with (fail)
  all_goals
    generalize h5 : World.setCell _ ⟨fb, 6, none⟩ (.int .i64 0) = w11
    have h5 : set7 w2 fb (.int .i64 0) (.string ⟨#[]⟩) (.int .i64 0) (.int .i64 0) (.int .i64 0) (.slice none 0 0) (.int .i64 0) = w11 := h5
    have hb5 := set7_blk HB2.out (.int .i64 0) (.string ⟨#[]⟩) (.int .i64 0) (.int .i64 0) (.int .i64 0) (.slice none 0 0) (.int .i64 0)
    have hf5 := set7_fr w2 fb (.int .i64 0) (.string ⟨#[]⟩) (.int .i64 0) (.int .i64 0) (.int .i64 0) (.slice none 0 0) (.int .i64 0)
    rw [h5] at hb5 hf5
    refine bodyPost_ret (res_c rfl _ _ fb 42 _ (0, 0) _ rfl hb5 Try.underlying42 rfl (by kernel_rfl)) rfl ?_
    exact ⟨rfl, HF2.out.call hf5 (fun i _ h => .inl (by rw [h, HFBX.out]; exact Nat.le_refl _))⟩
theorem live_mem {c : Ca} {n : Bs} {k : Int} {t : Th} (h : c.live n k = some t) : t ∈ c.L ∧ t.key = (n, k) ∧ c.now < t.fin := by
  unfold Ca.live Ca.find at h
  rw [Option.filter_eq_some_iff] at h
  obtain ⟨h1, h2⟩ := h
  exact ⟨List.mem_of_find?_eq_some h1, isK_iff.1 (List.find?_some h1), by simpa using h2⟩
theorem Ca.wf.get {c : Ca} (h : c.wf) (n : Bs) (kind rank now : Int) : (c.get n kind rank now).1.wf := by
  by_cases hok : (labels n).2 = 0 ∧ timeOk now
  · have hto := h.to hok.2
    cases h1 : ((c.to now).live (low n) kind).filter (·.serves rank) with
    | some t =>
      rw [Option.filter_eq_some_iff] at h1
      rw [get_first hok h1.1 h1.2]
      exact hto.use (live_mem h1.1).1
    | none =>
      cases h2 : (c.to now).live (low n) 0 with
      | some t => rw [get_zero hok h1 h2]; exact hto.use (live_mem h2).1
      | none => rw [get_none hok h1 h2]; exact hto
  · unfold Ca.get; rw [if_pos hok]; exact h
/-- GET. -/
theorem Get_calls (D : Nat → Prop) (w : World) (c : Nat) (st : Ca) (n : Bs) (kind rank now : Int) (h : QC D w c st) (hn : n.length ≤ 100000) :
    Calls Try.prog 15 #[.pointer (some ⟨c, 0, none⟩), .string (mk n), .int .i64 kind, .int .i64 rank, .int .i64 now] w fun r w' => ∃ ao cap, r = .returned (fdV (st.get n kind rank now).2 ao cap) ∧
      w'.ownsRow w.heap.size 9 1 (.slice ao (st.get n kind rank now).2.set.data.length cap) (st.get n kind rank now).2.set.data.length ((st.get n kind rank now).2.set.data.map str) ∧
      QC D w' c (st.get n kind rank now).1 ∧ Fr D w w' := by
  obtain ⟨hw, bl, mp, E, hC, hO⟩ := h
  by_cases hok : (labels n).2 = 0 ∧ timeOk now
  · refine (get_good_calls D w c bl mp E st n kind rank now hw hC hn hok).mono ?_
    rintro r w' ⟨ao, cap, rfl, ho, ⟨E', h1, h2⟩, hf⟩
    exact ⟨ao, cap, rfl, ho, ⟨hw.get n kind rank now, bl, mp, E', h1, fun k hk => hO k (h2 k hk)⟩, hf.mono fun k _ hk => hO k hk⟩
  · have e : st.get n kind rank now = (st, Fd.zero) := by unfold Ca.get; rw [if_pos hok]
    rw [e]
    refine (get_bad_calls D w c bl mp E st n kind rank now hC hn hok).mono ?_
    rintro r w' ⟨rfl, hf⟩
    exact ⟨none, 0, rfl, World.ownsRow_nil _ _ _ _, QC.fr ⟨hw, bl, mp, E, hC, hO⟩ hf (fun _ _ h => h), hf.mono (fun _ _ h => h.elim)⟩
end Go.Proofs.Ytlbhfnjhhpcphaa
