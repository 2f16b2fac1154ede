/-
  statements about the cache: sameFound, awake.
-/
import Derived.Test.YtlbhfnjhhpcphaaLA
namespace Go.Proofs.Ytlbhfnjhhpcphaa
open Go.RowKit
deriving instance DecidableEq for Fd
theorem setS_ok (ttl : Int) (h : 0 ≤ ttl ∧ ttl < 2147483648) : (setS ttl).ok :=
  ⟨show (labels aN).2 = 0 by decide, show (0 : Int) ≤ 1 ∧ (1 : Int) ≤ 65535 by decide, show (0 : Int) ≤ 1 ∧ (1 : Int) ≤ 65535 by decide, h, show 1 ≤ [([120] : Bs)].length ∧ [([120] : Bs)].length ≤ 64 by decide, show ∀ d ∈ [([120] : Bs)], d.length ≤ 65535 by decide, show [([120] : Bs)].Nodup by decide⟩
theorem setS_put (ttl rank now : Int) (h : 0 ≤ ttl ∧ ttl < 2147483648) (hr : 1 ≤ rank ∧ rank ≤ 3) (hn : timeOk now) : putOk (setS ttl) rank now :=
  ⟨setS_ok ttl h, rfl, show (1 : Int) ≠ 0 by decide, hr, hn⟩
theorem awake1 : (Ca.new 2).putSet (setS 10) 3 100 = (⟨2, 100, [⟨aN, 1, 110, some (setS 10, 3)⟩]⟩, true, 0) := by
  rw [putSet_ok (setS_put 10 3 100 (by decide) (by decide) (by decide))]; rfl
theorem awake2 : (⟨2, 100, [⟨aN, 1, 110, some (setS 10, 3)⟩]⟩ : Ca).get bigN 1 3 104 = (⟨2, 104, [⟨aN, 1, 110, some (setS 10, 3)⟩]⟩, ⟨1, setS 6, 6⟩) := by rfl
theorem awake3 : (⟨2, 104, [⟨aN, 1, 110, some (setS 10, 3)⟩]⟩ : Ca).get aN 1 3 110 = (⟨2, 110, [⟨aN, 1, 110, some (setS 10, 3)⟩]⟩, Fd.zero) := by rfl
/-- A cache goes on while a set is made that is handed in: its block is none of the cache's. -/
theorem QC.but {D : Nat → Prop} {w w' : World} {c : Nat} {st : Ca} {g : Nat} (h : QC D w c st) (hg : w.heap.size ≤ g) (hf : Fr nob w w') : QC (fun k => D k ∧ k ≠ g) w' c st :=
  (h.weak (D' := fun k => D k ∧ k ≠ g) (fun k hk hd => ⟨hd, by omega⟩)).fr hf (fun _ _ h => h)
theorem QC.freeze {D : Nat → Prop} {w : World} {c : Nat} {st : Ca} (h : QC D w c st) : QC (fun k => D k ∧ k < w.heap.size) w c st :=
  h.weak (fun _ hk hd => ⟨hd, hk⟩)
set_option maxRecDepth 100000 in
set_option maxHeartbeats 8000000 in
theorem awake_calls (w : World) : Calls Try.prog 11 #[] w fun r w' => r = .returned (.bool true) ∧ Fr nob w w' := by
  have hc1 := New_calls (fun k => w.heap.size ≤ k) w 2 (by decide) (fun k hk => hk)
  go_enter Try.func11, Try.ntmps11
  go_wp2_with (fail)
  refine hc1.mono ?_
  clear hc1
  rintro r w1 ⟨c, rfl, hcw, hq1, f1⟩
  unfold Pt
  have hss := set_calls 10 w1
  go_wp2_with (fail)
  refine hss.mono ?_
  clear hss
  rintro r w2 ⟨g, hg, rfl, hgb, f2⟩
  have hq2 := hq1.but hg f2
  have hgl := lt_of_blk hgb
  have hp := PutSet_calls _ w2 c _ (setS 10) (some ⟨g, 0, none⟩) 1 3 100 hq2 (fun k hk => ⟨Nat.le_trans (f1.trans f2).size hk, by omega⟩) (by decide) (one_strs hgb) (fun k hk h => h.2 (by injection hk with hk; exact hk.symm))
  have hfr2 := f1.trans f2
  rw [awake1] at hp
  have HP := Ho.mk hp; have HF2 := Ho.mk hfr2
  clear hp hq2 hq1 hgb hgl hg f1 f2 hcw hfr2
  unfold setV
  go_wp2_with (fail)
  refine HP.out.mono ?_
  clear HP
  rintro r w3 ⟨rfl, hq3, f3⟩
  have hbig := big_calls w3
  have hg3 := Get_calls _ w3 c _ bigN 1 3 104 hq3.freeze (by decide)
  rw [awake2] at hg3
  have HG3 := Ho.mk hg3
  have HF3 := Ho.mk (HF2.out.call f3 (fun k _ h => .inl h.1))
  clear hg3 hq3 f3 HF2
  go_wp2_with (fail)
  refine hbig.mono ?_
  clear hbig
  rintro r w3' ⟨rfl, rfl⟩
  go_wp2_with (fail)
  refine HG3.out.mono ?_
  clear HG3
  rintro r w4 ⟨ao4, cap4, rfl, ho4, hq4, f4⟩
  have hF4 := HF3.out.call f4 (fun k _ h => .inl h.1.1)
  have h34 := f4.size
  have hfv : fdV ⟨1, setS 6, 6⟩ ao4 cap4 = .agg #[.int .i64 1, .string (mk aN), .int .i64 1, .int .i64 1, .int .i64 6, .slice ao4 1 cap4, .int .i64 6] := rfl
  rw [hfv]
  have hf5 := (Fr.refl nob w4).alloc (.cells #[.int .i64 1, .string (mk aN), .int .i64 1, .int .i64 1, .int .i64 6, .slice ao4 1 cap4, .int .i64 6] 42)
  have hb5 := blk_new w4 (.cells #[.int .i64 1, .string (mk aN), .int .i64 1, .int .i64 1, .int .i64 6, .slice ao4 1 cap4, .int .i64 6] 42)
  have hq5 := hq4.fr hf5 (fun _ _ h => h)
  have HO5 := Ho.mk (row_fr ho4 hf5 (fun _ _ _ h _ _ => h)); have H34 := Ho.mk h34; have HF5 := Ho.mk (hF4.trans hf5); have HB5 := Ho.mk hb5; have HQ5 := Ho.mk hq5
  have HD5 : Ho (w.heap.size ≤ w4.heap.size) := Ho.mk hF4.size
  clear hfv ho4 hq4 h34 hq5 f4 HF3 hF4 hf5 hb5
  go_upto_region 6 with (fail)
  generalize w4.alloc (.cells #[.int .i64 1, .string (mk aN), .int .i64 1, .int .i64 1, .int .i64 6, .slice ao4 1 cap4, .int .i64 6] 42) = w5 at *
  generalize w4.heap.size = b5 at *
  have hca := a_calls w5
  have hg5 := Get_calls _ w5 c _ aN 1 3 110 HQ5.out (by decide)
  rw [awake3] at hg5
  have HG5 := Ho.mk hg5
  clear hg5
  go_wp2_with (fail)
  refine hca.mono ?_
  clear hca
  rintro r w5' ⟨rfl, rfl⟩
  go_wp2_with (fail)
  refine HG5.out.mono ?_
  clear HG5
  rintro r w6 ⟨ao6, cap6, rfl, _, _, f6⟩
  have hF6 := HF5.out.call f6 (fun k _ h => .inl h.1.1)
  have hb6 := f6.block _ _ HB5.out (fun h => by have := H34.out; omega)
  have ho6 := row_fr HO5.out f6 (fun k _ _ h h2 _ => by omega)
  have hfv : fdV Fd.zero ao6 cap6 = .agg #[.int .i64 0, .string ⟨#[]⟩, .int .i64 0, .int .i64 0, .int .i64 0, .slice ao6 0 cap6, .int .i64 0] := rfl
  rw [hfv]
  have hf7 := (Fr.refl nob w6).alloc (.cells #[.int .i64 0, .string ⟨#[]⟩, .int .i64 0, .int .i64 0, .int .i64 0, .slice ao6 0 cap6, .int .i64 0] 42)
  have hb7 := blk_new w6 (.cells #[.int .i64 0, .string ⟨#[]⟩, .int .i64 0, .int .i64 0, .int .i64 0, .slice ao6 0 cap6, .int .i64 0] 42)
  have HF7 := Ho.mk (hF6.trans hf7); have HB7 := Ho.mk (hf7.block _ _ hb6 (fun h => h)); have HO7 := Ho.mk (row_fr ho6 hf7 (fun _ _ _ h _ _ => h)); have HE7 := Ho.mk hb7
  clear hF6 hb6 ho6 hfv hf7 hb7 f6 HB5 HO5 HQ5 HF5 HD5 H34
  go_upto_region 7 with (fail)
  generalize w6.alloc (.cells #[.int .i64 0, .string ⟨#[]⟩, .int .i64 0, .int .i64 0, .int .i64 0, .slice ao6 0 cap6, .int .i64 0] 42) = w7 at *
  generalize w6.heap.size = b6 at *
  have HCK : Ho (∀ W, Fr nob w7 W → W.cell? ⟨b5, 0, none⟩ = some (.int .i64 1) ∧ W.cell? ⟨b5, 1, none⟩ = some (.string (mk aN)) ∧ W.cell? ⟨b5, 2, none⟩ = some (.int .i64 1) ∧ W.cell? ⟨b5, 3, none⟩ = some (.int .i64 1) ∧ W.cell? ⟨b5, 4, none⟩ = some (.int .i64 6) ∧ W.cell? ⟨b5, 5, none⟩ = some (.slice ao4 1 cap4) ∧ W.cell? ⟨b5, 6, none⟩ = some (.int .i64 6) ∧ W.cell? ⟨b6, 0, none⟩ = some (.int .i64 0) ∧ Fr nob w7 W) := Ho.mk fun W hW => by
    have h1 := hW.block _ _ HB7.out (fun h => h)
    have h2 := hW.block _ _ HE7.out (fun h => h)
    exact ⟨blk_cell h1 0, blk_cell h1 1, blk_cell h1 2, blk_cell h1 3, blk_cell h1 4, blk_cell h1 5, blk_cell h1 6, blk_cell h2 0, hW⟩
  have hd7 : Fr nob w7 w7.drew := (Fr.refl nob w7).drew
  obtain ⟨x0, x1, x2, x3, x4, x5, x6, x7, _⟩ := HCK.out _ hd7
  go_region_held3 (fun W => W.cell? ⟨b5, 0, none⟩ = some (.int .i64 1) ∧ W.cell? ⟨b5, 1, none⟩ = some (.string (mk aN)) ∧ W.cell? ⟨b5, 2, none⟩ = some (.int .i64 1) ∧ W.cell? ⟨b5, 3, none⟩ = some (.int .i64 1) ∧ W.cell? ⟨b5, 4, none⟩ = some (.int .i64 6) ∧ W.cell? ⟨b5, 5, none⟩ = some (.slice ao4 1 cap4) ∧ W.cell? ⟨b5, 6, none⟩ = some (.int .i64 6) ∧ W.cell? ⟨b6, 0, none⟩ = some (.int .i64 0) ∧ Fr nob w7 W)
    (first | exact HCK.out _ hd7 | exact HCK.out _ hf9 | exact HCK.out _ hf8)
    (first
      | (go_at_call 22; refine (set_calls 6 _).mono ?_; rintro r w8 ⟨g8, hg8, rfl, hgb8, f8⟩; have hf8 := hd7.trans f8; clear f8 hg8; unfold setV)
      | (go_at_call 29; refine (SameSet_calls (setS 6) (setS 6) ao4 cap4 (some ⟨g8, 0, none⟩) 1 w8 (own_strs (row_fr HO7.out hf8 (fun _ _ _ h _ _ => h))) (one_strs hgb8) (by decide) (by decide)).mono ?_; rintro r w9 ⟨rfl, f9⟩; have hf9 := hf8.trans f9; rw [decide_eq_true (rfl : setS 6 = setS 6)]; clear f9))
  go_wp2_with (fail)
  go_ret
  exact ⟨rfl, HF7.out.trans hf9⟩
end Go.Proofs.Ytlbhfnjhhpcphaa
