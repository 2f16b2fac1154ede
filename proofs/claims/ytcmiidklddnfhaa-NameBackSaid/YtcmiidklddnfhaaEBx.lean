/-
  NameBack: the walk where the name may be.
-/
import Derived.Test.YtcmiidklddnfhaaEBw
namespace Go.Proofs.Ytcmiidklddnfhaa
open Go.RowKit
/-- What the first half asks. -/
structure BackA (w : World) (tn tt te : ByteArray) (ll : List Bs) (q : Nat) : Prop where
  ck : ∀ W, Fr nob w W → Calls Try.prog 16 #[.string tn] W (fun r w' => r = .returned (.int .i64 0) ∧ Fr nob w w')
  tx : ∀ W, Fr nob w W → Calls Try.prog 33 #[.string tn] W (fun r w' => r = .returned (.tuple #[.string tt, .int .i64 0]) ∧ Fr nob w w')
  pt : ∀ W, Fr nob w W → Calls Try.prog 34 #[.string tt] W (fun r w' => r = .returned (.tuple #[.string tn, .agg #[.int .i64 0, .int .i64 0]]) ∧ Fr nob w w')
  lb : ∀ W, Calls Try.prog 11 #[.string tn] W (fun r w' => ∃ a cap, r = .returned (.tuple #[.slice a ll.length cap, .int .i64 0]) ∧ IsStrs w' (.slice a ll.length cap) ll ∧ Fr nob W w')
  jn : ∀ W x, IsStrs W x ll → Calls Try.prog 13 #[x] W (fun r w' => r = .returned (.tuple #[.string tn, .int .i64 0]) ∧ Fr nob W w')
  cn : ∀ W, Calls Try.prog 18 #[.string tn] W (fun r w' => r = .returned (.int .i64 (ll.length : Nat)) ∧ Fr nob W w')
  pe : ll ≠ [] → ∀ W, Calls Try.prog 34 #[.string te] W (fun r w' => r = .returned (.tuple #[.string tn, .agg #[.int .i64 0, .int .i64 0]]) ∧ Fr nob W w')
  sz : tt.size = q + 1 ∧ tt.size ≤ 100000 ∧ ll.length ≤ 100000
  ex : tt.extract 0 q = te
  at_ : ∀ h : q < tt.size, tt[q] = 46
theorem backA (n : Bs) (w : World) (hn : n.length ≤ 100000) (h : (labels n).2 = 0) : ∃ tt te ll q, BackA w (mk n) tt te ll q := by
  obtain ⟨hg, hne, hl⟩ := labels_spec n h
  obtain ⟨t, ht⟩ := textN_last (ls := (labels n).1)
  have htl := textN_len h
  rw [ht, List.length_append] at htl
  simp only [List.length_cons, List.length_nil] at htl
  refine ⟨mk (t ++ [46]), mk t, (labels n).1, t.length, ?_⟩
  constructor
  · intro W hf; exact (Check_calls n W hn).mono fun r w' k => ⟨by rw [k.1, h], hf.trans k.2⟩
  · intro W hf
    have hx := Text_calls n W hn
    unfold TextPost textP at hx
    rw [if_pos h, ht] at hx
    exact hx.mono fun r w' k => ⟨k.1, hf.trans k.2⟩
  · intro W hf
    have hq := Parse_calls (t ++ [46]) W (by simp; omega)
    unfold ParsePost FaultV at hq
    rw [← ht, parse_text h] at hq
    rw [← ht]
    exact hq.mono fun r w' k => ⟨k.1, hf.trans k.2⟩
  · intro W
    have hx := Labels_calls n W hn
    unfold LabPost at hx
    refine hx.mono fun r w' k => ?_
    obtain ⟨v, h1, h2, _, h3⟩ := k
    obtain ⟨a, cap, rfl⟩ := own_shape h2
    exact ⟨a, cap, by rw [h1, h], own_strs h2, h3⟩
  · intro W x hx
    have hj := Join_calls x (labels n).1 W hx (by have := labels_len n; omega)
    unfold JoinPost at hj
    rw [joinP_good hg (by rw [← hne]; exact hl), ← hne] at hj
    exact hj
  · intro W; exact Count_calls n W hn
  · intro hll W
    have hq := Parse_calls t W (by omega)
    unfold ParsePost FaultV at hq
    have hpe := parse_text_end h hll
    rw [ht, List.dropLast_concat] at hpe
    rw [hpe] at hq
    exact hq
  · exact ⟨by rw [mk_size]; simp, by rw [mk_size]; simp; omega, by have := labels_len n; omega⟩
  · apply Go.WideShapes.bytes_inj
    rw [Lib.extract_data, mk_toList]
    simp
    try rfl
  · intro hh
    have : (t ++ [46])[t.length]'(by simp) = 46 := by simp
    exact this
set_option maxHeartbeats 8000000 in
set_option maxRecDepth 100000 in
theorem back_some (tn ts tm tt2 tt te : ByteArray) (ll : List Bs) (q : Nat) (e a : Int) (w : World) (F : BackB w ts tm tt2 e a) (G : BackA w tn tt te ll q) (hn : tn.size ≤ 400) (hs : ts.size ≤ 1200) :
    Calls Try.prog 7 #[.string tn, .string ts] w (BoolPost w true) := by
  have hw : Fr nob w w := Fr.refl _ _
  obtain ⟨z1, z2, z3⟩ := G.sz
  have k1 : decide ((400 : Int) < (tn.size : Int)) = false := decide_eq_false (by omega)
  have k1' : decide (400 < tn.size) = false := decide_eq_false (by omega)
  have k2 : decide ((1200 : Int) < (ts.size : Int)) = false := decide_eq_false (by omega)
  have k2' : decide (1200 < ts.size) = false := decide_eq_false (by omega)
  have hqt : q < tt.size := by omega
  have hat := G.at_ hqt
  have hex := G.ex
  have hq1 : (tt.size : Int) - 1 = (q : Int) := by omega
  have hq0 : ((tt.size : Int) == 0) = false := by rw [beq_eq_false_iff_ne]; omega
  have en1 : (tn.toList == tn.toList) = true := by simp
  have HA := Ho.mk (fun W (hf : Fr nob w W) => (awake_calls W).mono (R' := fun e w' => e = .returned (.bool true) ∧ Fr nob w w') fun e w' k => ⟨k.1, hf.trans k.2⟩)
  have HC := Ho.mk G.ck; have HP := Ho.mk F.p; have HTX := Ho.mk G.tx; have HPT := Ho.mk G.pt; have HLB := Ho.mk G.lb; have HJN := Ho.mk G.jn; have HCN := Ho.mk G.cn; have HPE := Ho.mk G.pe
  obtain ⟨ln, hln⟩ : ∃ m, ll.length = m := ⟨_, rfl⟩
  rw [hln] at HLB HCN
  have HLN := Ho.mk hln
  have elen : ((ln : Int) == (ln : Int)) = true := by simp
  clear G z1 z3 hln
  go_enter Try.func7, Try.ntmps7
  go_wp2_with (fail)
  refine (HA.out _ hw).mono ?_
  rintro r w1 ⟨rfl, f1⟩
  go_wp2_with (fail)
  refine (HC.out _ f1).mono ?_
  rintro r w2 ⟨rfl, f2⟩
  go_wp2_with (fail)
  refine (HTX.out _ f2).mono ?_
  rintro r w3 ⟨rfl, f3⟩
  go_wp2_with (fail)
  refine (HPT.out _ f3).mono ?_
  rintro r w4 ⟨rfl, f4⟩
  go_wp2_with (fail)
  obtain ⟨f, hf⟩ : ∃ f, w4.heap.size = f := ⟨_, rfl⟩
  have hb0 := blk_new w4 (.cells #[.int .i64 0, .int .i64 0] 45)
  have f5 := f4.alloc (.cells #[.int .i64 0, .int .i64 0] 45)
  have HFW := Ho.mk (show w.heap.size ≤ f by rw [← hf]; exact f4.size)
  rw [hf] at hb0 ⊢
  generalize w4.alloc (.cells #[.int .i64 0, .int .i64 0] 45) = w5 at *
  have HB0 := Ho.mk hb0
  clear hb0 hf f1 f2 f3 f4
  refine (HLB.out _).mono ?_
  rintro r w6 ⟨la, lcap, rfl, hls, f6⟩
  have HLS := Ho.mk hls; have HB6 := Ho.mk (f6.block _ _ HB0.out (fun h => h)); have f60 := f5.trans f6
  clear hls f6 f5 HB0
  go_wp2_with (fail)
  refine (HJN.out _ _ HLS.out).mono ?_
  rintro r w7 ⟨rfl, f7⟩
  have HB7 := Ho.mk (f7.block _ _ HB6.out (fun h => h)); have f70 := f60.trans f7
  have c7 : w7.cell? ⟨f, 0, none⟩ = some (.int .i64 0) := blk_cell HB7.out 0
  clear f7 f60 HB6
  go_wp2_with (fail)
  refine (HCN.out _).mono ?_
  rintro r w8 ⟨rfl, f8⟩
  have HB8 := Ho.mk (f8.block _ _ HB7.out (fun h => h)); have f80 := f70.trans f8
  have c8 : w8.cell? ⟨f, 0, none⟩ = some (.int .i64 0) := blk_cell HB8.out 0
  have c81 : w8.cell? ⟨f, 1, none⟩ = some (.int .i64 0) := blk_cell HB8.out 1
  have r8 : w8.frozen? ⟨f, 0, none⟩ = false := blk_free HB8.out 0
  have r81 : w8.frozen? ⟨f, 1, none⟩ = false := blk_free HB8.out 1
  clear f8 f70 HB7 c7
  by_cases hl0 : ln = 0
  · have q5 : decide ((0 : Int) < (ln : Int)) = false := decide_eq_false (by omega)
    have q5' : decide (0 < ln) = false := decide_eq_false (by omega)
    clear hl0 c8 c81 r8 r81
    have c8' : w8.cell? ⟨f, 0, none⟩ = some (.int .i64 0) := blk_cell HB8.out 0
    go_wp2_with (fail)
    back_b
  · have q5 : decide ((0 : Int) < (ln : Int)) = true := decide_eq_true (by omega)
    have q5' : decide (0 < ln) = true := decide_eq_true (by omega)
    have HPE2 := Ho.mk (HPE.out (by intro h; apply hl0; rw [← HLN.out, h]; rfl))
    clear hl0
    go_wp2_with (fail)
    refine (HPE2.out _).mono ?_
    rintro r w9 ⟨rfl, f9⟩
    have HB9 := Ho.mk (f9.block _ _ HB8.out (fun h => h)); have f90 := f80.trans f9
    have c9 : w9.cell? ⟨f, 0, none⟩ = some (.int .i64 0) := blk_cell HB9.out 0
    have c91 : w9.cell? ⟨f, 1, none⟩ = some (.int .i64 0) := blk_cell HB9.out 1
    have r9 : w9.frozen? ⟨f, 0, none⟩ = false := blk_free HB9.out 0
    have r91 : w9.frozen? ⟨f, 1, none⟩ = false := blk_free HB9.out 1
    clear f9 f80 c8 c81 r8 r81
    go_wp2_with (fail)
    have f100 := (f90.set (p := ⟨f, 0, none⟩) (.inl HFW.out) (.int .i64 0)).set (p := ⟨f, 1, none⟩) (.inl HFW.out) (.int .i64 0)
    generalize (w9.setCell ⟨f, 0, none⟩ (.int .i64 0)).setCell ⟨f, 1, none⟩ (.int .i64 0) = w10 at *
    clear c9 c91 r9 r91 f90
    back_b
set_option maxHeartbeats 4000000 in
set_option maxRecDepth 100000 in
theorem NameBack_walk (n s : Bs) (w : World) (hn : n.length ≤ maxLen) (hs : s.length ≤ maxLen) :
    Calls Try.prog 7 #[.string (mk n), .string (mk s)] w (BoolPost w true) := by
  unfold maxLen at hn hs
  by_cases g1 : n.length ≤ 400
  case neg =>
    have k1 : decide ((400 : Int) < ((mk n).size : Int)) = true := decide_eq_true (by rw [mk_size]; omega)
    have k1' : decide (400 < (mk n).size) = true := decide_eq_true (by rw [mk_size]; omega)
    clear g1 hn hs
    go_enter Try.func7, Try.ntmps7
    go_wp2_with (fail)
    refine (awake_calls w).mono ?_
    rintro r w1 ⟨rfl, f1⟩
    go_wp2_with (fail)
    go_ret
    exact ⟨rfl, f1⟩
  by_cases g2 : s.length ≤ 1200
  case neg =>
    have k1 : decide ((400 : Int) < ((mk n).size : Int)) = false := decide_eq_false (by rw [mk_size]; omega)
    have k1' : decide (400 < (mk n).size) = false := decide_eq_false (by rw [mk_size]; omega)
    have k2 : decide ((1200 : Int) < ((mk s).size : Int)) = true := decide_eq_true (by rw [mk_size]; omega)
    have k2' : decide (1200 < (mk s).size) = true := decide_eq_true (by rw [mk_size]; omega)
    clear g1 g2 hn hs
    go_enter Try.func7, Try.ntmps7
    go_wp2_with (fail)
    refine (awake_calls w).mono ?_
    rintro r w1 ⟨rfl, f1⟩
    go_wp2_with (fail)
    go_ret
    exact ⟨rfl, f1⟩
  obtain ⟨tm, tt2, e, a, F⟩ := backB s w (by omega)
  by_cases h : (labels n).2 = 0
  · obtain ⟨tt, te, ll, q, G⟩ := backA n w (by omega) h
    exact back_some _ _ tm tt2 tt te ll q e a w F G (by rw [mk_size]; exact g1) (by rw [mk_size]; exact g2)
  · exact back_none _ _ tm tt2 _ e a w F (by rw [mk_size]; exact g1) (by rw [mk_size]; exact g2) h (fun W hf => (Check_calls n W (by omega)).mono fun r w' k => ⟨k.1, hf.trans k.2⟩)
end Go.Proofs.Ytcmiidklddnfhaa
