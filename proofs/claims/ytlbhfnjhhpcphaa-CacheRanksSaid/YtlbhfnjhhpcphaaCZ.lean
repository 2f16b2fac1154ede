/-
  package cache: New, Len, Has.
-/
import Derived.Test.YtlbhfnjhhpcphaaCY
namespace Go.Proofs.Ytlbhfnjhhpcphaa
open Go.RowKit
theorem Ca.wf.new {most : Int} (h : 1 ≤ most ∧ most ≤ 4096) : (Ca.new most).wf :=
  ⟨h, by simp [Ca.new], by simp [Ca.new]; omega, by simp [Ca.new], by simp [Ca.new]⟩
set_option maxRecDepth 100000 in
set_option maxHeartbeats 4000000 in
theorem New_calls (D : Nat → Prop) (w : World) (most : Int) (h : 1 ≤ most ∧ most ≤ 4096) (hD : ∀ k, w.heap.size ≤ k → D k) :
    Calls Try.prog 19 #[.int .i64 most] w fun r w' => ∃ c, r = .returned (.tuple #[Pt c, .int .i64 0]) ∧ w.heap.size ≤ c ∧ QC D w' c (Ca.new most) ∧ Fr nob w w' := by
  have d1 : decide (most < 1) = false := decide_eq_false (by omega)
  have d2 : decide (4096 < most) = false := decide_eq_false (by omega)
  have HWF := Ho.mk (Ca.wf.new h); have HD := Ho.mk hD
  clear h hD
  have hcall := chain_new_calls w
  go_enter Try.func19, Try.ntmps19
  go_wp2_with (fail)
  refine hcall.mono ?_
  clear hcall
  rintro r w1 ⟨bl, hbl, rfl, h1, f1⟩
  unfold Pt
  have hmk := @run_makeMap Try.prog
  have hbl1 : bl < w1.heap.size := h1.lt (.inl rfl)
  have H1 := Ho.mk h1; have F1 := Ho.mk f1; have HBL := Ho.mk hbl; have HBL1 := Ho.mk hbl1
  clear h1 f1 hbl hbl1
  go_wp2_with (fail)
  go_ret2
  have hm2 := MapF.new (kv := ckey) w1
  have hf2 := (Fr.refl nob w1).alloc (.map #[] 0)
  have h2 := H1.out.same hf2
  generalize hw2 : w1.alloc (.map #[] 0) = w2 at *
  have hsz2 : w2.heap.size = w1.heap.size + 1 := by rw [← hw2]; simp
  have hb3 := blk_new w2 (.cells (headC (Ca.new most) bl w1.heap.size) 34)
  have hf3 := (Fr.refl nob w2).alloc (.cells (headC (Ca.new most) bl w1.heap.size) 34)
  have h3 := h2.same hf3
  have hm3 := hm2.fr hf3 (fun h => h)
  have hs1 := F1.out.size
  have hs2 := hf2.size
  refine ⟨w2.heap.size, by rw [hsz2]; rfl, by omega, ⟨HWF.out, bl, w1.heap.size, [], ⟨hb3, h3, hm3, by simp, rfl⟩, ?_⟩, (F1.out.trans hf2).trans hf3⟩
  intro k hk
  apply HD.out
  rcases hk with rfl | rfl | hk
  · omega
  · exact hs1
  · rcases hk with rfl | hk
    · exact Nat.le_of_eq HBL.out
    · simp at hk
theorem New_bad_calls (w : World) (most : Int) (h : ¬ (1 ≤ most ∧ most ≤ 4096)) :
    Calls Try.prog 19 #[.int .i64 most] w fun r w' => r = .returned (.tuple #[.pointer none, .int .i64 2]) ∧ w' = w := by
  by_cases h1 : most < 1
  case' pos =>
    have d1 : decide (most < 1) = true := decide_eq_true h1
  case' neg =>
    have d1 : decide (most < 1) = false := decide_eq_false h1
    have d2 : decide (4096 < most) = true := decide_eq_true (by omega)
  all_goals
    clear h h1
    go_enter Try.func19, Try.ntmps19
    go_wp2_with (fail)
    go_ret2
    exact ⟨rfl, rfl⟩
theorem CI.len {D : Nat → Prop} {w : World} {c bl mp : Nat} {E : List ElC} {st : Ca} (hw : st.wf) (h : CI D w c bl mp E st) : ∃ es clk, w.heap[mp]? = some (.map es clk) ∧ es.size = st.L.length := by
  obtain ⟨es, clk, h1, h2⟩ := mapC_size (keysE hw h.st) h.map
  exact ⟨es, clk, h1, by rw [h2, h.st, List.length_map]⟩
set_option maxRecDepth 100000 in
theorem Len_calls (D : Nat → Prop) (w : World) (c : Nat) (st : Ca) (h : QC D w c st) :
    Calls Try.prog 17 #[.pointer (some ⟨c, 0, none⟩)] w fun r w' => r = .returned (.int .i64 st.L.length) ∧ w' = w := by
  obtain ⟨hw, bl, mp, E, hC, _⟩ := h
  obtain ⟨c0, c1, c2, c3⟩ := hC.cells
  have hcall := absent_calls c bl w c2
  obtain ⟨es, clk, hes, hsz⟩ := hC.len hw
  have hl := run_len_map (P := Try.prog) w 32 3 mp es clk Try.underlying32 hes
  rw [hsz] at hl
  clear hC hes hsz hw
  go_enter Try.func17, Try.ntmps17
  go_wp2_with (fail)
  refine hcall.mono ?_
  clear hcall
  rintro r w' ⟨rfl, rfl⟩
  go_wp2_with (fail)
  go_ret
  exact ⟨rfl, rfl⟩
set_option maxRecDepth 100000 in
set_option maxHeartbeats 4000000 in
theorem Has_calls (D : Nat → Prop) (w : World) (c : Nat) (st : Ca) (n : Bs) (kind : Int) (h : QC D w c st) (hn : n.length ≤ 100000) :
    Calls Try.prog 18 #[.pointer (some ⟨c, 0, none⟩), .string (mk n), .int .i64 kind] w fun r w' => r = .returned (.bool (st.has n kind)) ∧ Fr nob w w' := by
  obtain ⟨hw, bl, mp, E, hC, _⟩ := h
  obtain ⟨c0, c1, c2, c3⟩ := hC.cells
  have hcall := absent_calls c bl w c2
  have hfind := find_th hC.st (low n) kind
  have hhas : (atC E (low n, kind)).isSome = st.has n kind := by
    unfold Ca.has; rw [hfind]; unfold atC; simp
  have HLK : Ho (∀ W, Fr nob w W → (Instr.lookup 32 (.map (some mp)) (.agg #[.string (mk (low n)), .int .i64 kind]) true).run Try.prog W = .ok (.tuple #[(atC E (low n, kind)).getD (.pointer none), .bool (st.has n kind)]) W) := Ho.mk fun W hW => by
    have := lookC (hC.map.fr hW (fun h => h)) (low n) kind
    rw [hhas] at this; exact this
  have HLN := Ho.mk hn
  have hbk : ∀ (a : ByteArray) (W : World), (Instr.build 77 #[(0, .string a), (1, .int .i64 kind)]).run Try.prog W = .ok (.agg #[.string a, .int .i64 kind]) W := fun a W => by kernel_rfl
  generalize (atC E (low n, kind)).getD (.pointer none) = el at *
  generalize st.has n kind = hv at *
  clear hC hw hfind hhas c0 c1 hn
  go_enter Try.func18, Try.ntmps18
  go_wp2_with (fail)
  refine hcall.mono ?_
  clear hcall
  rintro r w' ⟨rfl, rfl⟩
  go_wp2_with (fail)
  have hd : Fr nob w w.drew := (Fr.refl nob w).drew
  go_region_held3 (fun W => W.cell? ⟨c, 3, none⟩ = some (.map (some mp)) ∧ Fr nob w W) (first | exact ⟨by assumption, by assumption⟩ | assumption)
    (first
      | (go_at_call 36; refine (Lower_calls n w.drew (by have := HLN.out; omega)).mono ?_; rintro r w4 ⟨rfl, f4⟩; have hf4 := hd.trans f4; have hc4 := hf4.cell (fun h => h) c3; have hlk4 := HLK.out _ hf4; clear f4))
  go_wp2_with (fail)
  go_ret
  exact ⟨rfl, hf4⟩
end Go.Proofs.Ytlbhfnjhhpcphaa
