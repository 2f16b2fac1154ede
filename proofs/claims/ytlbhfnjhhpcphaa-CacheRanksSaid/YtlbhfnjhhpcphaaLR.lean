/-
  CacheRanks: the walk.
-/
import Derived.Test.YtlbhfnjhhpcphaaLP
namespace Go.Proofs.Ytlbhfnjhhpcphaa
open Go.RowKit
/-- PutSet, for a law: the cache's blocks are bounded. -/
theorem PutSet_calls2 (D : Nat → Prop) (w : World) (c : Nat) (st : Ca) (s : CSet) (ao : Option Addr) (cap : Nat) (rank now : Int) (h : QC D w c st) (hn : s.name.length ≤ 100000) (hd : IsStrs w (.slice ao s.data.length cap) s.data) (hdn : ∀ k, (Value.slice ao s.data.length cap).ownBlock = some k → ¬ D k ∧ k < w.heap.size) :
    Calls Try.prog 12 #[.pointer (some ⟨c, 0, none⟩), setV s ao cap, .int .i64 rank, .int .i64 now] w fun r w' => r = .returned (.tuple #[.bool (st.putSet s rank now).2.1, .int .i64 (st.putSet s rank now).2.2]) ∧ (∃ D', QC D' w' c (st.putSet s rank now).1 ∧ (∀ k, D' k → D k ∨ w.heap.size ≤ k) ∧ ∀ k, D' k → k < w'.heap.size) ∧ Fr D w w' := by
  refine (PutSet_calls (fun k => D k ∨ w.heap.size ≤ k) w c st s ao cap rank now (h.weak (fun _ _ hk => .inl hk)) (fun k hk => .inr hk) hn hd (fun k hk h => h.elim (hdn k hk).1 (fun h => by have := (hdn k hk).2; omega))).mono ?_
  rintro r w' ⟨rfl, hq, hf⟩
  exact ⟨rfl, ⟨_, hq.freeze, fun k hk => hk.1, fun k hk => hk.2⟩, hf.mono (fun k hk h => h.elim id (fun h => by omega))⟩
theorem own_one {w : World} {B : Nat} {ao : Option Addr} {cap : Nat} {d : Bs} (h : w.ownsRow B 9 1 (.slice ao 1 cap) 1 [str d]) : ∃ g, ao = some ⟨g, 0, none⟩ ∧ B ≤ g ∧ w.cell? ⟨g, 0, none⟩ = some (.string (mk d)) := by
  rcases h.2 with ⟨_, h0⟩ | ⟨g, c, cur, hv, hB, hh, _, _, _, h4⟩
  · omega
  · injection hv with e1 _ _
    refine ⟨g, e1, hB, ?_⟩
    rw [blk_cell hh 0]
    cases hcl : cur.toList with
    | nil => rw [hcl] at h4; simp at h4
    | cons x l =>
      rw [hcl] at h4
      have h5 : x = str d := by simpa using h4
      rw [← Array.getElem?_toList, hcl, h5]; rfl
set_option maxRecDepth 100000 in
set_option maxHeartbeats 2000000 in
theorem CacheRanks_walk (a0 a1 a2 a3 a4 a5 : Int) (w : World) :
    Calls Try.prog 6 #[.int .i64 a0, .int .i64 a1, .int .i64 a2, .int .i64 a3, .int .i64 a4, .int .i64 a5] w fun r w' => r = .returned (.bool true) ∧ Fr nob w w' := by
  obtain ⟨q0, hq0⟩ : ∃ q, pick a0 3 = q := ⟨_, rfl⟩
  have l0 := pick_lo a0 3; have u0 := pick_hi a0 3 (by decide)
  have p0 := fun W => Pick_calls a0 3 W (by decide)
  rw [hq0] at l0 u0 p0
  obtain ⟨q1, hq1⟩ : ∃ q, pick a1 3 = q := ⟨_, rfl⟩
  have l1 := pick_lo a1 3; have u1 := pick_hi a1 3 (by decide)
  have p1 := fun W => Pick_calls a1 3 W (by decide)
  rw [hq1] at l1 u1 p1
  obtain ⟨q2, hq2⟩ : ∃ q, pick a2 1000 = q := ⟨_, rfl⟩
  have l2 := pick_lo a2 1000; have u2 := pick_hi a2 1000 (by decide)
  have p2 := fun W => Pick_calls a2 1000 W (by decide)
  rw [hq2] at l2 u2 p2
  obtain ⟨q3, hq3⟩ : ∃ q, pick a3 1000 = q := ⟨_, rfl⟩
  have l3 := pick_lo a3 1000; have u3 := pick_hi a3 1000 (by decide)
  have p3 := fun W => Pick_calls a3 1000 W (by decide)
  rw [hq3] at l3 u3 p3
  obtain ⟨q4, hq4⟩ : ∃ q, pick a4 1001 = q := ⟨_, rfl⟩
  have l4 := pick_lo a4 1001; have u4 := pick_hi a4 1001 (by decide)
  have p4 := fun W => Pick_calls a4 1001 W (by decide)
  rw [hq4] at l4 u4 p4
  obtain ⟨fi, hfi⟩ : ∃ n, 1 + q0 = n := ⟨_, rfl⟩
  have wfi : IntKind.i64.wrap (1 + q0) = fi := by rw [IntKind.wrap_i64]; omega
  obtain ⟨se, hse⟩ : ∃ n, 1 + q1 = n := ⟨_, rfl⟩
  have wse : IntKind.i64.wrap (1 + q1) = se := by rw [IntKind.wrap_i64]; omega
  obtain ⟨ttl, httl⟩ : ∃ n, 1 + q2 = n := ⟨_, rfl⟩
  have wttl : IntKind.i64.wrap (1 + q2) = ttl := by rw [IntKind.wrap_i64]; omega
  obtain ⟨ot, hot⟩ : ∃ n, 1 + q3 = n := ⟨_, rfl⟩
  have wot : IntKind.i64.wrap (1 + q3) = ot := by rw [IntKind.wrap_i64]; omega
  obtain ⟨nb, hnb⟩ : ∃ n, 50 + q4 = n := ⟨_, rfl⟩
  have wnb : IntKind.i64.wrap (50 + q4) = nb := by rw [IntKind.wrap_i64]; omega
  have HB := Ho.mk (show (fi = 1 + q0 ∧ se = 1 + q1 ∧ ttl = 1 + q2 ∧ ot = 1 + q3 ∧ nb = 50 + q4) ∧ (0 ≤ q0 ∧ q0 < 3) ∧ (0 ≤ q1 ∧ q1 < 3) ∧ (0 ≤ q2 ∧ q2 < 1000) ∧ (0 ≤ q3 ∧ q3 < 1000) ∧ (0 ≤ q4 ∧ q4 < 1001) by omega)
  have haw := awake_calls w
  clear hq0 hq1 hq2 hq3 hq4 l0 l1 l2 l3 l4 u0 u1 u2 u3 u4 hfi hse httl hot hnb
  go_enter Try.func6, Try.ntmps6
  go_wp2_with (fail)
  refine haw.mono ?_
  clear haw
  rintro r w1 ⟨rfl, f1⟩
  go_wp2_with (fail)
  refine (p0 _).mono ?_
  clear p0
  rintro r w1' ⟨rfl, rfl⟩
  go_wp2_with (fail)
  refine (p1 _).mono ?_
  clear p1
  rintro r w1'' ⟨rfl, rfl⟩
  go_wp2_with (fail)
  refine (p2 _).mono ?_
  clear p2
  rintro r w1''' ⟨rfl, rfl⟩
  go_wp2_with (fail)
  refine (p3 _).mono ?_
  clear p3
  rintro r w1'''' ⟨rfl, rfl⟩
  go_wp2_with (fail)
  refine (p4 _).mono ?_
  clear p4
  rintro r w1''''' ⟨rfl, rfl⟩
  have hnew := New_calls (fun k => w1.heap.size ≤ k) w1 3 (by decide) (fun k hk => hk)
  go_wp2_with (fail)
  refine hnew.mono ?_
  clear hnew
  rintro r w2 ⟨c, rfl, hcw, hq2, f2⟩
  unfold Pt
  have hq2 := hq2.freeze
  have hss := set_calls ttl w2
  go_wp2_with (fail)
  refine hss.mono ?_
  clear hss
  rintro r w3 ⟨g, hg, rfl, hgb, f3⟩
  have hb := HB.out
  have hp := PutSet_calls2 _ w3 c _ (setD ttl [120]) (some ⟨g, 0, none⟩) 1 fi 50 (hq2.fr f3 (fun _ _ h => h)) (by show aN.length ≤ 100000; decide) (one_strs hgb) (fun k hk => by injection hk with hk; exact ⟨fun h => by have h2 : k < w2.heap.size := h.2; have hk : g = k := hk; omega, by have := lt_of_blk hgb; have hk : g = k := hk; omega⟩)
  rw [put_new (by omega) (by decide) (by omega)] at hp
  have HP := Ho.mk hp; have HF3 := Ho.mk ((f1.trans f2).trans f3); have HS1 := Ho.mk f1.size
  clear hp hq2 hgb hg f1 f2 f3 hcw hb
  go_wp2_with (fail)
  refine HP.out.mono ?_
  clear HP
  rintro r w4 ⟨rfl, ⟨D4, hq4, hd4, hs4⟩, f4⟩
  have HF4 := Ho.mk (HF3.out.call f4 (fun k _ h => .inl (Nat.le_trans HS1.out h.1)))
  have HD4 : Ho (∀ k, D4 k → w.heap.size ≤ k) := Ho.mk (fun k h => (hd4 k h).elim (fun h => Nat.le_trans HS1.out h.1) (fun h => Nat.le_trans HF3.out.size h))
  have HQ4 := Ho.mk hq4; have HS4 := Ho.mk hs4
  clear hq4 hd4 hs4 f4 HF3 HS1
  have hss := set_calls ot w4
  go_wp2_with (fail)
  refine hss.mono ?_
  clear hss
  rintro r w5 ⟨g5, hg5, rfl, hgb5, f5⟩
  have hv5 : setV (setS ot) (some ⟨g5, 0, none⟩) 1 = .agg #[.string (mk aN), .int .i64 1, .int .i64 1, .int .i64 ot, .slice (some ⟨g5, 0, none⟩) 1 1] := rfl
  rw [hv5]
  have hfa := (f5.alloc (.cells #[.string (mk aN), .int .i64 1, .int .i64 1, .int .i64 ot, .slice (some ⟨g5, 0, none⟩) 1 1] 24))
  have hbs := blk_new w5 (.cells #[.string (mk aN), .int .i64 1, .int .i64 1, .int .i64 ot, .slice (some ⟨g5, 0, none⟩) 1 1] 24)
  have HFA := Ho.mk hfa; have HBS := Ho.mk hbs; have H45 := Ho.mk f5.size
  clear hv5 hfa hbs f5 hgb5 hg5
  go_upto_region 9 with (fail)
  generalize w5.alloc (.cells #[.string (mk aN), .int .i64 1, .int .i64 1, .int .i64 ot, .slice (some ⟨g5, 0, none⟩) 1 1] 24) = w6 at *
  generalize hbs6 : w5.heap.size = bs at *
  clear hbs6
  have s4 : w6.cell? ⟨bs, 4, none⟩ = some (.slice (some ⟨g5, 0, none⟩) 1 1) := blk_cell HBS.out 4
  have z4 : w6.frozen? ⟨bs, 4, none⟩ = false := blk_free HBS.out 4
  have hal := (Fr.refl nob w6).alloc (.cells #[.string ⟨#[121]⟩] 9)
  have hbg := blk_new w6 (.cells #[.string ⟨#[121]⟩] 9)
  have hbs6 := hal.block _ _ HBS.out (fun h => h)
  have s4' := blk_cell hbs6 4
  have z4' := blk_free hbs6 4
  have hlt6 := lt_of_blk HBS.out
  have HBG := Ho.mk hbg; have HBS6 := Ho.mk hbs6; have HAL := Ho.mk hal; have HLT6 := Ho.mk hlt6
  clear hal hbg hbs6 hlt6
  go_upto_region 10 with (fail)
  have hst := setFr (w6.alloc (.cells #[.string ⟨#[121]⟩] 9)) bs 4 (.slice (some ⟨w6.heap.size, 0, none⟩) 1 1)
  have hb7 : ((w6.alloc (.cells #[.string ⟨#[121]⟩] 9)).setCell ⟨bs, 4, none⟩ (.slice (some ⟨w6.heap.size, 0, none⟩) 1 1)).heap[bs]? = some (.cells #[.string (mk aN), .int .i64 1, .int .i64 1, .int .i64 ot, .slice (some ⟨w6.heap.size, 0, none⟩) 1 1] 24 (0, 0)) := blk_set HBS6.out 4 _
  have hg7 := hst.block _ _ HBG.out (fun e => by have := HLT6.out; omega)
  have HB7 := Ho.mk hb7; have HG7 := Ho.mk hg7; have HF7 := Ho.mk (HF4.out.trans ((HFA.out.trans HAL.out).call hst (fun k _ h => .inl (by have := H45.out; omega))))
  have HQ7 := Ho.mk ((HQ4.out.fr (HFA.out.trans HAL.out) (fun _ _ h => h)).fr hst (fun k hk e => by have := HS4.out k hk; have := H45.out; omega))
  have HN7 : Ho (¬ D4 w6.heap.size) := Ho.mk (fun h => by have := HS4.out _ h; have := H45.out; have := HLT6.out; omega)
  clear hst hb7 hg7 s4 z4 s4' z4' HBS HBG HBS6 HAL HLT6 HFA H45 HF4 HQ4 HS4
  generalize (w6.alloc (.cells #[.string ⟨#[121]⟩] 9)).setCell ⟨bs, 4, none⟩ (.slice (some ⟨w6.heap.size, 0, none⟩) 1 1) = w7 at *
  generalize w6.heap.size = g7 at *
  have x0 := blk_cell HB7.out 0; have x1 := blk_cell HB7.out 1; have x2 := blk_cell HB7.out 2; have x3 := blk_cell HB7.out 3; have x4 := blk_cell HB7.out 4
  have HP2 := Ho.mk (PutSet_calls2 D4 w7 c _ (setD ot [121]) (some ⟨g7, 0, none⟩) 1 se nb HQ7.out (by show aN.length ≤ 100000; decide) (one_strs HG7.out) (fun k hk => by injection hk with hk; have hk : g7 = k := hk; rw [← hk]; exact ⟨HN7.out, lt_of_blk HG7.out⟩))
  have hb := HB.out
  clear hq2 wfi wse wttl wot
  by_cases h1 : ttl ≤ q4
  · have d1 : decide (ttl ≤ q4) = true := decide_eq_true h1
    have hpe : (⟨3, 50, [⟨aN, 1, 50 + ttl, some (setD ttl [120], fi)⟩]⟩ : Ca).putSet (setD ot [121]) se nb = (⟨3, nb, [⟨aN, 1, nb + ot, some (setD ot [121], se)⟩]⟩, true, 0) := by
      rw [put_on (by omega) (by decide) (by omega) (by omega) (by unfold timeOk; omega) (by omega), if_neg (by omega)]
    have hlt : nb < (nb + ot) := by omega
    have hp2 := HP2.out
    rw [hpe] at hp2
    have HP3 := Ho.mk hp2; have HLT := Ho.mk hlt; have HTI := Ho.mk (show timeOk nb by unfold timeOk; omega)
    clear hb hp2 hpe hlt HP2 h1
    go_wp2_with (fail)
    refine HP3.out.mono ?_
    clear HP3
    rintro r w8 ⟨rfl, ⟨D8, hq8, hd8, hs8⟩, f8⟩
    have HF8 := Ho.mk (HF7.out.call f8 (fun k _ h => .inl (HD4.out k h)))
    have HD8 : Ho (∀ k, D8 k → w.heap.size ≤ k) := Ho.mk (fun k h => (hd8 k h).elim (HD4.out k) (fun h => Nat.le_trans HF7.out.size h))
    have HQ8 := Ho.mk hq8; have HS8 := Ho.mk hs8
    clear hq8 hd8 hs8 f8 HF7 HD4
    have hca := a_calls w8
    have hg8 := Get_calls D8 w8 c _ aN 1 a5 nb HQ8.out (by decide)
    rw [get_one HTI.out HLT.out] at hg8
    by_cases h3 : a5 ≤ se
    · have d3 : decide (a5 ≤ se) = true := decide_eq_true h3
      rw [if_pos h3] at hg8
      have HG8 := Ho.mk hg8
      clear hg8 h3
      go_wp2_with (fail)
      refine hca.mono ?_
      clear hca
      rintro r w8' ⟨rfl, rfl⟩
      go_wp2_with (fail)
      refine HG8.out.mono ?_
      clear HG8
      rintro r w9 ⟨ao9, cap9, rfl, ho9, hq9, f9⟩
      have HF9 := Ho.mk (HF8.out.call f9 (fun k _ h => .inl (HD8.out k h)))
      obtain ⟨lf, hlf⟩ : ∃ n, (nb + ot) - nb = n := ⟨_, rfl⟩
      have hfv : fdV ⟨1, { setD ot [121] with ttl := (nb + ot) - nb }, (nb + ot) - nb⟩ ao9 cap9 = .agg #[.int .i64 1, .string (mk aN), .int .i64 1, .int .i64 1, .int .i64 lf, .slice ao9 1 cap9, .int .i64 lf] := by rw [hlf]; rfl
      rw [hfv]
      obtain ⟨g9, rfl, hg9, hc9⟩ := own_one (d := [121]) ho9
      have hf10 := (Fr.refl nob w9).alloc (.cells #[.int .i64 1, .string (mk aN), .int .i64 1, .int .i64 1, .int .i64 lf, .slice (some ⟨g9, 0, none⟩) 1 cap9, .int .i64 lf] 42)
      have hb10 := blk_new w9 (.cells #[.int .i64 1, .string (mk aN), .int .i64 1, .int .i64 1, .int .i64 lf, .slice (some ⟨g9, 0, none⟩) 1 cap9, .int .i64 lf] 42)
      have HF10 := Ho.mk (HF9.out.trans hf10)
      have x0 := blk_cell hb10 0
      have x5 := blk_cell hb10 5
      have y0 := hf10.cell (fun h => h) hc9
      have e1 : ((mk [121]).toList == [121]) = true := by rw [Lib.toList_data]; rfl
      clear hc9 hg9 hlf
      clear hfv ho9 hq9 f9 hf10 hb10 HF9 HF8 HQ8 HD8 HS8
      go_upto_region 15 with (fail)
      generalize w9.alloc (.cells #[.int .i64 1, .string (mk aN), .int .i64 1, .int .i64 1, .int .i64 lf, .slice (some ⟨g9, 0, none⟩) 1 cap9, .int .i64 lf] 42) = w10 at *
      generalize w9.heap.size = b10 at *
      go_wp2_with (fail)
      go_ret
      exact ⟨rfl, HF10.out⟩
    · have d3 : decide (a5 ≤ se) = false := decide_eq_false h3
      rw [if_neg h3] at hg8
      have HG8 := Ho.mk hg8
      clear hg8 h3
      go_wp2_with (fail)
      refine hca.mono ?_
      clear hca
      rintro r w8' ⟨rfl, rfl⟩
      go_wp2_with (fail)
      refine HG8.out.mono ?_
      clear HG8
      rintro r w9 ⟨ao9, cap9, rfl, ho9, hq9, f9⟩
      have HF9 := Ho.mk (HF8.out.call f9 (fun k _ h => .inl (HD8.out k h)))
      have hfv : fdV Fd.zero ao9 cap9 = .agg #[.int .i64 0, .string ⟨#[]⟩, .int .i64 0, .int .i64 0, .int .i64 0, .slice ao9 0 cap9, .int .i64 0] := rfl
      rw [hfv]
      have hf10 := (Fr.refl nob w9).alloc (.cells #[.int .i64 0, .string ⟨#[]⟩, .int .i64 0, .int .i64 0, .int .i64 0, .slice ao9 0 cap9, .int .i64 0] 42)
      have hb10 := blk_new w9 (.cells #[.int .i64 0, .string ⟨#[]⟩, .int .i64 0, .int .i64 0, .int .i64 0, .slice ao9 0 cap9, .int .i64 0] 42)
      have HF10 := Ho.mk (HF9.out.trans hf10)
      have x0 := blk_cell hb10 0
      have x5 := blk_cell hb10 5
      clear hfv ho9 hq9 f9 hf10 hb10 HF9 HF8 HQ8 HD8 HS8
      go_upto_region 15 with (fail)
      generalize w9.alloc (.cells #[.int .i64 0, .string ⟨#[]⟩, .int .i64 0, .int .i64 0, .int .i64 0, .slice ao9 0 cap9, .int .i64 0] 42) = w10 at *
      generalize w9.heap.size = b10 at *
      go_wp2_with (fail)
      go_ret
      exact ⟨rfl, HF10.out⟩
  · by_cases h2 : fi ≤ se
    · have d1 : decide (ttl ≤ q4) = false := decide_eq_false h1
      have d2 : decide (fi ≤ se) = true := decide_eq_true h2
      have hpe : (⟨3, 50, [⟨aN, 1, 50 + ttl, some (setD ttl [120], fi)⟩]⟩ : Ca).putSet (setD ot [121]) se nb = (⟨3, nb, [⟨aN, 1, nb + ot, some (setD ot [121], se)⟩]⟩, true, 0) := by
        rw [put_on (by omega) (by decide) (by omega) (by omega) (by unfold timeOk; omega) (by omega), if_neg (by omega)]
      have hlt : nb < (nb + ot) := by omega
      have hp2 := HP2.out
      rw [hpe] at hp2
      have HP3 := Ho.mk hp2; have HLT := Ho.mk hlt; have HTI := Ho.mk (show timeOk nb by unfold timeOk; omega)
      clear hb hp2 hpe hlt HP2 h1 h2
      go_wp2_with (fail)
      refine HP3.out.mono ?_
      clear HP3
      rintro r w8 ⟨rfl, ⟨D8, hq8, hd8, hs8⟩, f8⟩
      have HF8 := Ho.mk (HF7.out.call f8 (fun k _ h => .inl (HD4.out k h)))
      have HD8 : Ho (∀ k, D8 k → w.heap.size ≤ k) := Ho.mk (fun k h => (hd8 k h).elim (HD4.out k) (fun h => Nat.le_trans HF7.out.size h))
      have HQ8 := Ho.mk hq8; have HS8 := Ho.mk hs8
      clear hq8 hd8 hs8 f8 HF7 HD4
      have hca := a_calls w8
      have hg8 := Get_calls D8 w8 c _ aN 1 a5 nb HQ8.out (by decide)
      rw [get_one HTI.out HLT.out] at hg8
      by_cases h3 : a5 ≤ se
      · have d3 : decide (a5 ≤ se) = true := decide_eq_true h3
        rw [if_pos h3] at hg8
        have HG8 := Ho.mk hg8
        clear hg8 h3
        go_wp2_with (fail)
        refine hca.mono ?_
        clear hca
        rintro r w8' ⟨rfl, rfl⟩
        go_wp2_with (fail)
        refine HG8.out.mono ?_
        clear HG8
        rintro r w9 ⟨ao9, cap9, rfl, ho9, hq9, f9⟩
        have HF9 := Ho.mk (HF8.out.call f9 (fun k _ h => .inl (HD8.out k h)))
        obtain ⟨lf, hlf⟩ : ∃ n, (nb + ot) - nb = n := ⟨_, rfl⟩
        have hfv : fdV ⟨1, { setD ot [121] with ttl := (nb + ot) - nb }, (nb + ot) - nb⟩ ao9 cap9 = .agg #[.int .i64 1, .string (mk aN), .int .i64 1, .int .i64 1, .int .i64 lf, .slice ao9 1 cap9, .int .i64 lf] := by rw [hlf]; rfl
        rw [hfv]
        obtain ⟨g9, rfl, hg9, hc9⟩ := own_one (d := [121]) ho9
        have hf10 := (Fr.refl nob w9).alloc (.cells #[.int .i64 1, .string (mk aN), .int .i64 1, .int .i64 1, .int .i64 lf, .slice (some ⟨g9, 0, none⟩) 1 cap9, .int .i64 lf] 42)
        have hb10 := blk_new w9 (.cells #[.int .i64 1, .string (mk aN), .int .i64 1, .int .i64 1, .int .i64 lf, .slice (some ⟨g9, 0, none⟩) 1 cap9, .int .i64 lf] 42)
        have HF10 := Ho.mk (HF9.out.trans hf10)
        have x0 := blk_cell hb10 0
        have x5 := blk_cell hb10 5
        have y0 := hf10.cell (fun h => h) hc9
        have e1 : ((mk [121]).toList == [121]) = true := by rw [Lib.toList_data]; rfl
        clear hc9 hg9 hlf
        clear hfv ho9 hq9 f9 hf10 hb10 HF9 HF8 HQ8 HD8 HS8
        go_upto_region 15 with (fail)
        generalize w9.alloc (.cells #[.int .i64 1, .string (mk aN), .int .i64 1, .int .i64 1, .int .i64 lf, .slice (some ⟨g9, 0, none⟩) 1 cap9, .int .i64 lf] 42) = w10 at *
        generalize w9.heap.size = b10 at *
        go_wp2_with (fail)
        go_ret
        exact ⟨rfl, HF10.out⟩
      · have d3 : decide (a5 ≤ se) = false := decide_eq_false h3
        rw [if_neg h3] at hg8
        have HG8 := Ho.mk hg8
        clear hg8 h3
        go_wp2_with (fail)
        refine hca.mono ?_
        clear hca
        rintro r w8' ⟨rfl, rfl⟩
        go_wp2_with (fail)
        refine HG8.out.mono ?_
        clear HG8
        rintro r w9 ⟨ao9, cap9, rfl, ho9, hq9, f9⟩
        have HF9 := Ho.mk (HF8.out.call f9 (fun k _ h => .inl (HD8.out k h)))
        have hfv : fdV Fd.zero ao9 cap9 = .agg #[.int .i64 0, .string ⟨#[]⟩, .int .i64 0, .int .i64 0, .int .i64 0, .slice ao9 0 cap9, .int .i64 0] := rfl
        rw [hfv]
        have hf10 := (Fr.refl nob w9).alloc (.cells #[.int .i64 0, .string ⟨#[]⟩, .int .i64 0, .int .i64 0, .int .i64 0, .slice ao9 0 cap9, .int .i64 0] 42)
        have hb10 := blk_new w9 (.cells #[.int .i64 0, .string ⟨#[]⟩, .int .i64 0, .int .i64 0, .int .i64 0, .slice ao9 0 cap9, .int .i64 0] 42)
        have HF10 := Ho.mk (HF9.out.trans hf10)
        have x0 := blk_cell hb10 0
        have x5 := blk_cell hb10 5
        clear hfv ho9 hq9 f9 hf10 hb10 HF9 HF8 HQ8 HD8 HS8
        go_upto_region 15 with (fail)
        generalize w9.alloc (.cells #[.int .i64 0, .string ⟨#[]⟩, .int .i64 0, .int .i64 0, .int .i64 0, .slice ao9 0 cap9, .int .i64 0] 42) = w10 at *
        generalize w9.heap.size = b10 at *
        go_wp2_with (fail)
        go_ret
        exact ⟨rfl, HF10.out⟩
    · have d1 : decide (ttl ≤ q4) = false := decide_eq_false h1
      have d2 : decide (fi ≤ se) = false := decide_eq_false h2
      have hpe : (⟨3, 50, [⟨aN, 1, 50 + ttl, some (setD ttl [120], fi)⟩]⟩ : Ca).putSet (setD ot [121]) se nb = (⟨3, nb, [⟨aN, 1, 50 + ttl, some (setD ttl [120], fi)⟩]⟩, false, 0) := by
        rw [put_on (by omega) (by decide) (by omega) (by omega) (by unfold timeOk; omega) (by omega), if_pos (by omega)]
      have hlt : nb < (50 + ttl) := by omega
      have hp2 := HP2.out
      rw [hpe] at hp2
      have HP3 := Ho.mk hp2; have HLT := Ho.mk hlt; have HTI := Ho.mk (show timeOk nb by unfold timeOk; omega)
      clear hb hp2 hpe hlt HP2 h1 h2
      go_wp2_with (fail)
      refine HP3.out.mono ?_
      clear HP3
      rintro r w8 ⟨rfl, ⟨D8, hq8, hd8, hs8⟩, f8⟩
      have HF8 := Ho.mk (HF7.out.call f8 (fun k _ h => .inl (HD4.out k h)))
      have HD8 : Ho (∀ k, D8 k → w.heap.size ≤ k) := Ho.mk (fun k h => (hd8 k h).elim (HD4.out k) (fun h => Nat.le_trans HF7.out.size h))
      have HQ8 := Ho.mk hq8; have HS8 := Ho.mk hs8
      clear hq8 hd8 hs8 f8 HF7 HD4
      have hca := a_calls w8
      have hg8 := Get_calls D8 w8 c _ aN 1 a5 nb HQ8.out (by decide)
      rw [get_one HTI.out HLT.out] at hg8
      by_cases h3 : a5 ≤ fi
      · have d3 : decide (a5 ≤ fi) = true := decide_eq_true h3
        rw [if_pos h3] at hg8
        have HG8 := Ho.mk hg8
        clear hg8 h3
        go_wp2_with (fail)
        refine hca.mono ?_
        clear hca
        rintro r w8' ⟨rfl, rfl⟩
        go_wp2_with (fail)
        refine HG8.out.mono ?_
        clear HG8
        rintro r w9 ⟨ao9, cap9, rfl, ho9, hq9, f9⟩
        have HF9 := Ho.mk (HF8.out.call f9 (fun k _ h => .inl (HD8.out k h)))
        obtain ⟨lf, hlf⟩ : ∃ n, (50 + ttl) - nb = n := ⟨_, rfl⟩
        have hfv : fdV ⟨1, { setD ttl [120] with ttl := (50 + ttl) - nb }, (50 + ttl) - nb⟩ ao9 cap9 = .agg #[.int .i64 1, .string (mk aN), .int .i64 1, .int .i64 1, .int .i64 lf, .slice ao9 1 cap9, .int .i64 lf] := by rw [hlf]; rfl
        rw [hfv]
        obtain ⟨g9, rfl, hg9, hc9⟩ := own_one (d := [120]) ho9
        have hf10 := (Fr.refl nob w9).alloc (.cells #[.int .i64 1, .string (mk aN), .int .i64 1, .int .i64 1, .int .i64 lf, .slice (some ⟨g9, 0, none⟩) 1 cap9, .int .i64 lf] 42)
        have hb10 := blk_new w9 (.cells #[.int .i64 1, .string (mk aN), .int .i64 1, .int .i64 1, .int .i64 lf, .slice (some ⟨g9, 0, none⟩) 1 cap9, .int .i64 lf] 42)
        have HF10 := Ho.mk (HF9.out.trans hf10)
        have x0 := blk_cell hb10 0
        have x5 := blk_cell hb10 5
        have y0 := hf10.cell (fun h => h) hc9
        have e1 : ((mk [120]).toList == [121]) = false := by rw [Lib.toList_data]; rfl
        clear hc9 hg9 hlf
        clear hfv ho9 hq9 f9 hf10 hb10 HF9 HF8 HQ8 HD8 HS8
        go_upto_region 15 with (fail)
        generalize w9.alloc (.cells #[.int .i64 1, .string (mk aN), .int .i64 1, .int .i64 1, .int .i64 lf, .slice (some ⟨g9, 0, none⟩) 1 cap9, .int .i64 lf] 42) = w10 at *
        generalize w9.heap.size = b10 at *
        go_wp2_with (fail)
        go_ret
        exact ⟨rfl, HF10.out⟩
      · have d3 : decide (a5 ≤ fi) = false := decide_eq_false h3
        rw [if_neg h3] at hg8
        have HG8 := Ho.mk hg8
        clear hg8 h3
        go_wp2_with (fail)
        refine hca.mono ?_
        clear hca
        rintro r w8' ⟨rfl, rfl⟩
        go_wp2_with (fail)
        refine HG8.out.mono ?_
        clear HG8
        rintro r w9 ⟨ao9, cap9, rfl, ho9, hq9, f9⟩
        have HF9 := Ho.mk (HF8.out.call f9 (fun k _ h => .inl (HD8.out k h)))
        have hfv : fdV Fd.zero ao9 cap9 = .agg #[.int .i64 0, .string ⟨#[]⟩, .int .i64 0, .int .i64 0, .int .i64 0, .slice ao9 0 cap9, .int .i64 0] := rfl
        rw [hfv]
        have hf10 := (Fr.refl nob w9).alloc (.cells #[.int .i64 0, .string ⟨#[]⟩, .int .i64 0, .int .i64 0, .int .i64 0, .slice ao9 0 cap9, .int .i64 0] 42)
        have hb10 := blk_new w9 (.cells #[.int .i64 0, .string ⟨#[]⟩, .int .i64 0, .int .i64 0, .int .i64 0, .slice ao9 0 cap9, .int .i64 0] 42)
        have HF10 := Ho.mk (HF9.out.trans hf10)
        have x0 := blk_cell hb10 0
        have x5 := blk_cell hb10 5
        clear hfv ho9 hq9 f9 hf10 hb10 HF9 HF8 HQ8 HD8 HS8
        go_upto_region 15 with (fail)
        generalize w9.alloc (.cells #[.int .i64 0, .string ⟨#[]⟩, .int .i64 0, .int .i64 0, .int .i64 0, .slice ao9 0 cap9, .int .i64 0] 42) = w10 at *
        generalize w9.heap.size = b10 at *
        go_wp2_with (fail)
        go_ret
        exact ⟨rfl, HF10.out⟩
end Go.Proofs.Ytlbhfnjhhpcphaa
