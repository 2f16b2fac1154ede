/-
  package cache: use.
-/
import Derived.Test.YtlbhfnjhhpcphaaCU
namespace Go.Proofs.Ytlbhfnjhhpcphaa
open Go.RowKit
theorem res_c {P : Program} {fn : Func} {p : Tmp} {ty : TypeId} (h : fn.results = #[.cell p ty]) (tmps : Array Value) (w : World) (g : Nat) (t : TypeId) (cs : Array Value) (fr : Nat × Nat) (d : TypeDesc)
    (hp : tmps[p]?.getD undef = .pointer (some ⟨g, 0, none⟩)) (hg : w.heap[g]? = some (.cells cs t fr))
    (hu : P.underlying ty = some d) (hd : (match d with | .struct _ | .array _ _ => true | _ => false) = true) (hi : (P.info? ty).map (·.size) = some cs.size) :
    (results fn tmps).run P w = .ok (.agg cs) w := by
  have hr := run_loadVar_row w g t ty cs fr d hg hu hd hi
  simp [results, h, hp, asAddr, hr]
theorem own_weak1 {w : World} {B B' : Nat} {e : TypeId} {s n : Nat} {v : Value} {xs : List Value} (h : w.ownsRow B e s v n xs) (hB : B' ≤ B) : w.ownsRow B' e s v n xs := by
  obtain ⟨h0, h1⟩ := h
  refine ⟨h0, ?_⟩
  rcases h1 with h1 | ⟨g, cap, cur, hv, hg, r⟩
  · exact .inl h1
  · exact .inr ⟨g, cap, cur, hv, Nat.le_trans hB hg, r⟩
def set7 (w : World) (k : Nat) (v0 v1 v2 v3 v4 v5 v6 : Value) : World :=
  ((((((w.setCell ⟨k, 0, none⟩ v0).setCell ⟨k, 1, none⟩ v1).setCell ⟨k, 2, none⟩ v2).setCell ⟨k, 3, none⟩ v3).setCell ⟨k, 4, none⟩ v4).setCell ⟨k, 5, none⟩ v5).setCell ⟨k, 6, none⟩ v6
theorem set7_blk {w : World} {k : Nat} {a0 a1 a2 a3 a4 a5 a6 : Value} {t : TypeId} {fr : Nat × Nat} (h : w.heap[k]? = some (.cells #[a0, a1, a2, a3, a4, a5, a6] t fr)) (v0 v1 v2 v3 v4 v5 v6 : Value) :
    (set7 w k v0 v1 v2 v3 v4 v5 v6).heap[k]? = some (.cells #[v0, v1, v2, v3, v4, v5, v6] t fr) := by
  have h := (show _ = some (Obj.cells #[v0, a1, a2, a3, a4, a5, a6] t fr) from blk_set h 0 v0)
  have h := (show _ = some (Obj.cells #[v0, v1, a2, a3, a4, a5, a6] t fr) from blk_set h 1 v1)
  have h := (show _ = some (Obj.cells #[v0, v1, v2, a3, a4, a5, a6] t fr) from blk_set h 2 v2)
  have h := (show _ = some (Obj.cells #[v0, v1, v2, v3, a4, a5, a6] t fr) from blk_set h 3 v3)
  have h := (show _ = some (Obj.cells #[v0, v1, v2, v3, v4, a5, a6] t fr) from blk_set h 4 v4)
  have h := (show _ = some (Obj.cells #[v0, v1, v2, v3, v4, v5, a6] t fr) from blk_set h 5 v5)
  exact (show _ = some (Obj.cells #[v0, v1, v2, v3, v4, v5, v6] t fr) from blk_set h 6 v6)
theorem set7_fr (w : World) (k : Nat) (v0 v1 v2 v3 v4 v5 v6 : Value) : Fr (fun i => i = k) w (set7 w k v0 v1 v2 v3 v4 v5 v6) :=
  ((((((setFr w k 0 v0).trans (setFr _ k 1 v1)).trans (setFr _ k 2 v2)).trans (setFr _ k 3 v3)).trans (setFr _ k 4 v4)).trans (setFr _ k 5 v5)).trans (setFr _ k 6 v6)
set_option maxRecDepth 100000 in
set_option maxHeartbeats 8000000 in
theorem use_none_calls (D : Nat → Prop) (w : World) (c bl mp : Nat) (A B : List ElC) (x : ElC) (st : Ca) (hw : st.wf) (h : CI D w c bl mp (A ++ x :: B) st) (hA : ∀ y ∈ A, y.th.key ≠ x.th.key) (hB : ∀ y ∈ B, y.th.key ≠ x.th.key) (hst : x.th.st = none) :
    Calls Try.prog 46 #[.pointer (some ⟨c, 0, none⟩), .agg #[.string (mk x.th.name), .int .i64 x.th.kind], .iface 82 (.agg #[.int .i64 x.th.fin])] w fun r w' => ∃ ao cap, r = .returned (fdV (x.th.found st.now) ao cap) ∧
      w'.ownsRow w.heap.size 9 1 (.slice ao (x.th.found st.now).set.data.length cap) (x.th.found st.now).set.data.length ((x.th.found st.now).set.data.map str) ∧
      CI D w' c bl mp (A ++ B ++ [x]) { st with L := outL st.L x.th.name x.th.kind ++ [x.th] } ∧ Fr (RingB bl ((A ++ x :: B).map valC)) w w' := by
  suffices H : ∀ Q : Ending → World → Prop, (∀ r w', (∃ ao cap, r = .returned (fdV (x.th.found st.now) ao cap) ∧
      w'.ownsRow w.heap.size 9 1 (.slice ao (x.th.found st.now).set.data.length cap) (x.th.found st.now).set.data.length ((x.th.found st.now).set.data.map str) ∧
      CI D w' c bl mp (A ++ B ++ [x]) { st with L := outL st.L x.th.name x.th.kind ++ [x.th] } ∧ Fr (RingB bl ((A ++ x :: B).map valC)) w w') → Q r w') → Calls Try.prog 46 #[.pointer (some ⟨c, 0, none⟩), .agg #[.string (mk x.th.name), .int .i64 x.th.kind], .iface 82 (.agg #[.int .i64 x.th.fin])] w Q from H _ fun _ _ h => h
  intro Q hQ
  have hkey := h.key hw
  have hmem := hw.each x.th (h.mem (by simp))
  have hnow := hw.now
  have hf1 := (Fr.refl nob w).alloc (.cells #[.string (mk x.th.name), .int .i64 x.th.kind] 77)
  have hf2 := hf1.alloc (.cells #[.int .i64 0, .string ⟨#[]⟩, .int .i64 0, .int .i64 0, .int .i64 0, .slice none 0 0, .int .i64 0] 42)
  have hbk := blk_old (blk_new w (.cells #[.string (mk x.th.name), .int .i64 x.th.kind] 77)) (.cells #[.int .i64 0, .string ⟨#[]⟩, .int .i64 0, .int .i64 0, .int .i64 0, .slice none 0 0, .int .i64 0] 42)
  have hbf := blk_new (w.alloc (.cells #[.string (mk x.th.name), .int .i64 x.th.kind] 77)) (.cells #[.int .i64 0, .string ⟨#[]⟩, .int .i64 0, .int .i64 0, .int .i64 0, .slice none 0 0, .int .i64 0] 42)
  have hsz : (w.alloc (.cells #[.string (mk x.th.name), .int .i64 x.th.kind] 77)).heap.size = w.heap.size + 1 := by simp
  rw [hsz] at hbf
  have hC1 := h.fr hf2 (fun _ _ h => h) (fun _ _ _ _ h => h)
  obtain ⟨left, hleft, hwr⟩ : ∃ n, x.th.fin - st.now = n ∧ IntKind.i64.wrap (x.th.fin - st.now) = n := ⟨_, rfl, by have := hmem.fin; rw [IntKind.wrap_i64]; omega⟩
  have hfd : x.th.found st.now = ⟨if x.th.kind = 0 then 3 else 2, CSet.zero, left⟩ := by unfold Th.found; rw [hst, ← hleft]
  rw [hfd] at hQ
  have HA := Ho.mk hA; have HB := Ho.mk hB; have HKEY := Ho.mk hkey; have HBK := Ho.mk hbk; have HBF := Ho.mk hbf; have HF2 := Ho.mk hf2; have HC1 := Ho.mk hC1; have HQ := Ho.mk hQ
  generalize hw1 : (w.alloc (.cells #[.string (mk x.th.name), .int .i64 x.th.kind] 77)).alloc (.cells #[.int .i64 0, .string ⟨#[]⟩, .int .i64 0, .int .i64 0, .int .i64 0, .slice none 0 0, .int .i64 0] 42) = w1 at *
  obtain ⟨c0, c1, c2, c3⟩ := hC1.cells
  have k0 : w1.cell? ⟨w.heap.size, 0, none⟩ = some (.string (mk x.th.name)) := blk_cell hbk 0
  have k1 : w1.cell? ⟨w.heap.size, 1, none⟩ = some (.int .i64 x.th.kind) := blk_cell hbk 1
  have hlk : (Instr.lookup 32 (.map (some mp)) (.agg #[.string (mk x.th.name), .int .i64 x.th.kind]) false).run Try.prog w1.drew = .ok (.pointer (some ⟨x.e, 0, none⟩)) w1.drew := by
    have h1 := MapF.look1 (t := 32) ckeys Try.underlying32 zeroE (hC1.map.fr ((Fr.refl nob w1).drew) (fun h => h)) (x.th.name, x.th.kind)
    have h2 : atC (A ++ x :: B) (x.th.name, x.th.kind) = some (Pt x.e) := (atC_mid hA hB).1
    rw [h2] at h1; exact h1
  have hmid : (A ++ x :: B).map valC = A.map valC ++ valC x :: B.map valC := by simp
  have hr1 := hC1.ring.fr ((Fr.refl nob w1).drew) (fun _ _ h => h)
  rw [hmid] at hr1
  have HMV := Ho.mk (chain_move_calls bl x.e (valC x).2 (A.map valC) (B.map valC) w1.drew hr1 (by have := hkey; simpa using this))
  have HMID := Ho.mk hmid
  have hw1' := Ho.mk hw1
  clear h hA hB hmem hnow hf1 hf2 hbk hbf hC1 hw hleft hst hfd hkey hmid hr1 c0 hsz hw1 hQ
  go_enter Try.func46, Try.ntmps46
  go_wp2_with (fail)
  rw [hw1'.out]
  go_still_tail 10, (by kernel_rfl)
  clear hlk c2 c3 k0 k1
  go_wp2_with (fail)
  refine HMV.out.mono ?_
  clear HMV
  rintro r w2 ⟨rfl, hr2, f2⟩
  have hfr2 : Fr (RingB bl ((A ++ x :: B).map valC)) w1 w2 := ((Fr.refl _ w1).drew).trans (by rw [HMID.out]; exact f2)
  have hC2 := HC1.out.move hfr2 (fun _ h => h) hr2 HA.out HB.out
  have hbk2 := hfr2.block _ _ HBK.out (fun hk => HC1.out.typeNot HBK.out (by decide) (by decide) (by decide) (.inr (.inr hk)))
  have hbf2 := hfr2.block _ _ HBF.out (fun hk => HC1.out.typeNot HBF.out (by decide) (by decide) (by decide) (.inr (.inr hk)))
  have HC2 := Ho.mk hC2; have HBK2 := Ho.mk hbk2; have HBF2 := Ho.mk hbf2; have HF12 := Ho.mk ((HF2.out.mono (S' := RingB bl ((A ++ x :: B).map valC)) (fun _ _ h => h.elim)).trans hfr2)
  have c1 : w2.cell? ⟨c, 1, none⟩ = some (.int .i64 st.now) := hC2.cells.2.1
  have hum := run_until_none x.th.fin
  have hfd2 : Fr nob w2 w2.drew := (Fr.refl nob w2).drew
  clear hr2 f2 hfr2 hC2 hbk2 hbf2 HC1 HBK HBF HF2 hw1'
  generalize hkb : w.heap.size = kb at *
  have HKB := Ho.mk hkb
  clear hkb
  go_wp2_with (fail)
  go_region_held3 (fun W => W.cell? ⟨c, 1, none⟩ = some (.int .i64 st.now) ∧ Fr nob w2 W) (first | exact ⟨by assumption, by assumption⟩ | assumption)
    (first
      | (go_at_call 87; refine (until_none_calls _ _).mono ?_; rintro r w4 ⟨rfl, f4⟩; have hf4 := hfd2.trans f4; have hc4 := hf4.cell (fun h => h) c1; clear f4))
  have HC4 := Ho.mk (HC2.out.fr hf4 (fun _ _ h => h) (fun _ _ _ _ h => h)); have HBK4 := Ho.mk (hf4.block _ _ HBK2.out (fun h => h)); have HBF4 := Ho.mk (hf4.block _ _ HBF2.out (fun h => h)); have HF4 := Ho.mk (HF12.out.trans (hf4.mono (fun _ _ h => h.elim)))
  clear hf4 hc4 hfd2 c1 hum HC2 HBK2 HBF2 HF12 hwr
  have a1 := run_as_known_none (.agg #[.int .i64 x.th.fin])
  have k1 : w4.cell? ⟨kb, 1, none⟩ = some (.int .i64 x.th.kind) := blk_cell HBK4.out 1
  have f0 := blk_cell HBF4.out 0
  have f1 := blk_cell HBF4.out 1
  have f2 := blk_cell HBF4.out 2
  have f3 := blk_cell HBF4.out 3
  have f4 := blk_cell HBF4.out 4
  have f5 := blk_cell HBF4.out 5
  have f6 := blk_cell HBF4.out 6
  have z0 := blk_free HBF4.out 0
  have z1 := blk_free HBF4.out 1
  have z2 := blk_free HBF4.out 2
  have z3 := blk_free HBF4.out 3
  have z4 := blk_free HBF4.out 4
  have z5 := blk_free HBF4.out 5
  have z6 := blk_free HBF4.out 6
  have b3 := run_found_none 3 left
  have b2 := run_found_none 2 left
  go_wp2_with (fail)
  · generalize h5 : World.setCell _ ⟨kb + 1, 6, none⟩ (.int .i64 left) = w5
    have h5 : set7 w4 (kb + 1) (.int .i64 3) (.string ⟨#[]⟩) (.int .i64 0) (.int .i64 0) (.int .i64 0) (.slice none 0 0) (.int .i64 left) = w5 := h5
    have hb5 := set7_blk HBF4.out (.int .i64 3) (.string ⟨#[]⟩) (.int .i64 0) (.int .i64 0) (.int .i64 0) (.slice none 0 0) (.int .i64 left)
    have hf5 := set7_fr w4 (kb + 1) (.int .i64 3) (.string ⟨#[]⟩) (.int .i64 0) (.int .i64 0) (.int .i64 0) (.slice none 0 0) (.int .i64 left)
    rw [h5] at hb5 hf5
    refine bodyPost_ret (res_c rfl _ _ (kb + 1) 42 _ (0, 0) _ rfl hb5 Try.underlying42 rfl (by kernel_rfl)) rfl ?_
    refine HQ.out _ _ ⟨none, 0, ?_, World.ownsRow_nil _ _ _ _, HC4.out.fr hf5 (fun k hk e => by subst e; exact HC4.out.typeNot HBF4.out (by decide) (by decide) (by decide) hk) (fun k cur _ hc e => by subst e; rw [HBF4.out] at hc; simp at hc), HF4.out.call hf5 (fun i _ h => .inl (by rw [h, HKB.out]; exact Nat.le_succ kb))⟩
    simp_all [fdV, CSet.zero, mk]
  · generalize h5 : World.setCell _ ⟨kb + 1, 6, none⟩ (.int .i64 left) = w5
    have h5 : set7 w4 (kb + 1) (.int .i64 2) (.string ⟨#[]⟩) (.int .i64 0) (.int .i64 0) (.int .i64 0) (.slice none 0 0) (.int .i64 left) = w5 := h5
    have hb5 := set7_blk HBF4.out (.int .i64 2) (.string ⟨#[]⟩) (.int .i64 0) (.int .i64 0) (.int .i64 0) (.slice none 0 0) (.int .i64 left)
    have hf5 := set7_fr w4 (kb + 1) (.int .i64 2) (.string ⟨#[]⟩) (.int .i64 0) (.int .i64 0) (.int .i64 0) (.slice none 0 0) (.int .i64 left)
    rw [h5] at hb5 hf5
    refine bodyPost_ret (res_c rfl _ _ (kb + 1) 42 _ (0, 0) _ rfl hb5 Try.underlying42 rfl (by kernel_rfl)) rfl ?_
    refine HQ.out _ _ ⟨none, 0, ?_, World.ownsRow_nil _ _ _ _, HC4.out.fr hf5 (fun k hk e => by subst e; exact HC4.out.typeNot HBF4.out (by decide) (by decide) (by decide) hk) (fun k cur _ hc e => by subst e; rw [HBF4.out] at hc; simp at hc), HF4.out.call hf5 (fun i _ h => .inl (by rw [h, HKB.out]; exact Nat.le_succ kb))⟩
    simp_all [fdV, CSet.zero, mk]
set_option maxRecDepth 100000 in
set_option maxHeartbeats 8000000 in
theorem use_known_calls (D : Nat → Prop) (w : World) (c bl mp : Nat) (A B : List ElC) (x : ElC) (st : Ca) (hw : st.wf) (h : CI D w c bl mp (A ++ x :: B) st) (hA : ∀ y ∈ A, y.th.key ≠ x.th.key) (hB : ∀ y ∈ B, y.th.key ≠ x.th.key) (s0 : CSet) (r0 : Int) (hst : x.th.st = some (s0, r0)) :
    Calls Try.prog 46 #[.pointer (some ⟨c, 0, none⟩), .agg #[.string (mk x.th.name), .int .i64 x.th.kind], .iface 84 (.agg #[.string (mk s0.name), .int .i64 s0.typ, .int .i64 s0.cls, .int .i64 s0.ttl, .slice x.ao s0.data.length x.cap, .int .i64 r0, .int .i64 x.th.fin])] w fun r w' => ∃ ao cap, r = .returned (fdV (x.th.found st.now) ao cap) ∧
      w'.ownsRow w.heap.size 9 1 (.slice ao (x.th.found st.now).set.data.length cap) (x.th.found st.now).set.data.length ((x.th.found st.now).set.data.map str) ∧
      CI D w' c bl mp (A ++ B ++ [x]) { st with L := outL st.L x.th.name x.th.kind ++ [x.th] } ∧ Fr (RingB bl ((A ++ x :: B).map valC)) w w' := by
  suffices H : ∀ Q : Ending → World → Prop, (∀ r w', (∃ ao cap, r = .returned (fdV (x.th.found st.now) ao cap) ∧
      w'.ownsRow w.heap.size 9 1 (.slice ao (x.th.found st.now).set.data.length cap) (x.th.found st.now).set.data.length ((x.th.found st.now).set.data.map str) ∧
      CI D w' c bl mp (A ++ B ++ [x]) { st with L := outL st.L x.th.name x.th.kind ++ [x.th] } ∧ Fr (RingB bl ((A ++ x :: B).map valC)) w w') → Q r w') → Calls Try.prog 46 #[.pointer (some ⟨c, 0, none⟩), .agg #[.string (mk x.th.name), .int .i64 x.th.kind], .iface 84 (.agg #[.string (mk s0.name), .int .i64 s0.typ, .int .i64 s0.cls, .int .i64 s0.ttl, .slice x.ao s0.data.length x.cap, .int .i64 r0, .int .i64 x.th.fin])] w Q from H _ fun _ _ h => h
  intro Q hQ
  have hkey := h.key hw
  have hmem := hw.each x.th (h.mem (by simp))
  have hnow := hw.now
  have hf1 := (Fr.refl nob w).alloc (.cells #[.string (mk x.th.name), .int .i64 x.th.kind] 77)
  have hf2 := hf1.alloc (.cells #[.int .i64 0, .string ⟨#[]⟩, .int .i64 0, .int .i64 0, .int .i64 0, .slice none 0 0, .int .i64 0] 42)
  have hbk := blk_old (blk_new w (.cells #[.string (mk x.th.name), .int .i64 x.th.kind] 77)) (.cells #[.int .i64 0, .string ⟨#[]⟩, .int .i64 0, .int .i64 0, .int .i64 0, .slice none 0 0, .int .i64 0] 42)
  have hbf := blk_new (w.alloc (.cells #[.string (mk x.th.name), .int .i64 x.th.kind] 77)) (.cells #[.int .i64 0, .string ⟨#[]⟩, .int .i64 0, .int .i64 0, .int .i64 0, .slice none 0 0, .int .i64 0] 42)
  have hsz : (w.alloc (.cells #[.string (mk x.th.name), .int .i64 x.th.kind] 77)).heap.size = w.heap.size + 1 := by simp
  rw [hsz] at hbf
  have hC1 := h.fr hf2 (fun _ _ h => h) (fun _ _ _ _ h => h)
  obtain ⟨left, hleft, hwr⟩ : ∃ n, x.th.fin - st.now = n ∧ IntKind.i64.wrap (x.th.fin - st.now) = n := ⟨_, rfl, by have := hmem.fin; rw [IntKind.wrap_i64]; omega⟩
  have hfd : x.th.found st.now = ⟨1, { s0 with ttl := left }, left⟩ := by unfold Th.found; rw [hst, ← hleft]
  rw [hfd] at hQ
  have HA := Ho.mk hA; have HB := Ho.mk hB; have HKEY := Ho.mk hkey; have HBK := Ho.mk hbk; have HBF := Ho.mk hbf; have HF2 := Ho.mk hf2; have HC1 := Ho.mk hC1; have HQ := Ho.mk hQ
  have HST := Ho.mk hst; have HLN := Ho.mk (hmem.set s0 r0 hst).1
  generalize hw1 : (w.alloc (.cells #[.string (mk x.th.name), .int .i64 x.th.kind] 77)).alloc (.cells #[.int .i64 0, .string ⟨#[]⟩, .int .i64 0, .int .i64 0, .int .i64 0, .slice none 0 0, .int .i64 0] 42) = w1 at *
  obtain ⟨c0, c1, c2, c3⟩ := hC1.cells
  have k0 : w1.cell? ⟨w.heap.size, 0, none⟩ = some (.string (mk x.th.name)) := blk_cell hbk 0
  have k1 : w1.cell? ⟨w.heap.size, 1, none⟩ = some (.int .i64 x.th.kind) := blk_cell hbk 1
  have hlk : (Instr.lookup 32 (.map (some mp)) (.agg #[.string (mk x.th.name), .int .i64 x.th.kind]) false).run Try.prog w1.drew = .ok (.pointer (some ⟨x.e, 0, none⟩)) w1.drew := by
    have h1 := MapF.look1 (t := 32) ckeys Try.underlying32 zeroE (hC1.map.fr ((Fr.refl nob w1).drew) (fun h => h)) (x.th.name, x.th.kind)
    have h2 : atC (A ++ x :: B) (x.th.name, x.th.kind) = some (Pt x.e) := (atC_mid hA hB).1
    rw [h2] at h1; exact h1
  have hmid : (A ++ x :: B).map valC = A.map valC ++ valC x :: B.map valC := by simp
  have hr1 := hC1.ring.fr ((Fr.refl nob w1).drew) (fun _ _ h => h)
  rw [hmid] at hr1
  have HMV := Ho.mk (chain_move_calls bl x.e (valC x).2 (A.map valC) (B.map valC) w1.drew hr1 (by have := hkey; simpa using this))
  have HMID := Ho.mk hmid
  have hw1' := Ho.mk hw1
  clear h hA hB hmem hnow hf1 hf2 hbk hbf hC1 hw hleft hst hfd hkey hmid hr1 c0 hsz hw1 hQ
  go_enter Try.func46, Try.ntmps46
  go_wp2_with (fail)
  rw [hw1'.out]
  go_still_tail 10, (by kernel_rfl)
  clear hlk c2 c3 k0 k1
  go_wp2_with (fail)
  refine HMV.out.mono ?_
  clear HMV
  rintro r w2 ⟨rfl, hr2, f2⟩
  have hfr2 : Fr (RingB bl ((A ++ x :: B).map valC)) w1 w2 := ((Fr.refl _ w1).drew).trans (by rw [HMID.out]; exact f2)
  have hC2 := HC1.out.move hfr2 (fun _ h => h) hr2 HA.out HB.out
  have hbk2 := hfr2.block _ _ HBK.out (fun hk => HC1.out.typeNot HBK.out (by decide) (by decide) (by decide) (.inr (.inr hk)))
  have hbf2 := hfr2.block _ _ HBF.out (fun hk => HC1.out.typeNot HBF.out (by decide) (by decide) (by decide) (.inr (.inr hk)))
  have HC2 := Ho.mk hC2; have HBK2 := Ho.mk hbk2; have HBF2 := Ho.mk hbf2; have HF12 := Ho.mk ((HF2.out.mono (S' := RingB bl ((A ++ x :: B).map valC)) (fun _ _ h => h.elim)).trans hfr2)
  have c1 : w2.cell? ⟨c, 1, none⟩ = some (.int .i64 st.now) := hC2.cells.2.1
  have hum := run_until_known (#[.string (mk s0.name), .int .i64 s0.typ, .int .i64 s0.cls, .int .i64 s0.ttl, .slice x.ao s0.data.length x.cap, .int .i64 r0, .int .i64 x.th.fin])
  have hfd2 : Fr nob w2 w2.drew := (Fr.refl nob w2).drew
  clear hr2 f2 hfr2 hC2 hbk2 hbf2 HC1 HBK HBF HF2 hw1'
  generalize hkb : w.heap.size = kb at *
  have HKB := Ho.mk hkb
  clear hkb
  go_wp2_with (fail)
  go_region_held3 (fun W => W.cell? ⟨c, 1, none⟩ = some (.int .i64 st.now) ∧ Fr nob w2 W) (first | exact ⟨by assumption, by assumption⟩ | assumption)
    (first
      | (go_at_call 88; refine (until_known_calls _ _ _ _ _ _ _ _ _ rfl (by simp [Value.oneCell'])).mono ?_; rintro r w4 ⟨rfl, f4⟩; have hf4 := hfd2.trans f4; have hc4 := hf4.cell (fun h => h) c1; clear f4))
  have HC4 := Ho.mk (HC2.out.fr hf4 (fun _ _ h => h) (fun _ _ _ _ h => h)); have HBK4 := Ho.mk (hf4.block _ _ HBK2.out (fun h => h)); have HBF4 := Ho.mk (hf4.block _ _ HBF2.out (fun h => h)); have HF4 := Ho.mk (HF12.out.trans (hf4.mono (fun _ _ h => h.elim)))
  clear hf4 hc4 hfd2 c1 hum HC2 HBK2 HBF2 HF12 hwr
  have a1 := run_as_known_known (.agg #[.string (mk s0.name), .int .i64 s0.typ, .int .i64 s0.cls, .int .i64 s0.ttl, .slice x.ao s0.data.length x.cap, .int .i64 r0, .int .i64 x.th.fin])
  clear HBK4
  have hft := ((Fr.refl nob w4).alloc (.cells #[.string (mk s0.name), .int .i64 s0.typ, .int .i64 s0.cls, .int .i64 s0.ttl, .slice x.ao s0.data.length x.cap, .int .i64 r0, .int .i64 x.th.fin] 84)).alloc (.cells #[.string (mk s0.name), .int .i64 s0.typ, .int .i64 s0.cls, .int .i64 s0.ttl, .slice x.ao s0.data.length x.cap] 24)
  have hbs := blk_new (w4.alloc (.cells #[.string (mk s0.name), .int .i64 s0.typ, .int .i64 s0.cls, .int .i64 s0.ttl, .slice x.ao s0.data.length x.cap, .int .i64 r0, .int .i64 x.th.fin] 84)) (.cells #[.string (mk s0.name), .int .i64 s0.typ, .int .i64 s0.cls, .int .i64 s0.ttl, .slice x.ao s0.data.length x.cap] 24)
  have hsz : (w4.alloc (.cells #[.string (mk s0.name), .int .i64 s0.typ, .int .i64 s0.cls, .int .i64 s0.ttl, .slice x.ao s0.data.length x.cap, .int .i64 r0, .int .i64 x.th.fin] 84)).heap.size = w4.heap.size + 1 := by simp
  rw [hsz] at hbs
  have HC5 := Ho.mk (HC4.out.fr hft (fun _ _ h => h) (fun _ _ _ _ h => h)); have HBF5 := Ho.mk (hft.block _ _ HBF4.out (fun h => h)); have HF5 := Ho.mk (HF4.out.trans (hft.mono (fun _ _ h => h.elim)))
  have HKS : Ho (w.heap.size ≤ w4.heap.size + 1) := Ho.mk (Nat.le_succ_of_le HF4.out.size)
  have HBS := Ho.mk hbs
  clear HC4 HBF4 HF4 hft hbs hsz
  go_wp2_with (fail)
  generalize (w4.alloc (.cells #[.string (mk s0.name), .int .i64 s0.typ, .int .i64 s0.cls, .int .i64 s0.ttl, .slice x.ao s0.data.length x.cap, .int .i64 r0, .int .i64 x.th.fin] 84)).alloc (.cells #[.string (mk s0.name), .int .i64 s0.typ, .int .i64 s0.cls, .int .i64 s0.ttl, .slice x.ao s0.data.length x.cap] 24) = w5 at *
  generalize w4.heap.size + 1 = ks at *
  have hds := ((HC5.out.data x (by simp) s0 r0 HST.out).1).strs x.cap
  have hcl := Clone_calls x.ao x.cap s0.data w5 hds (by have := HLN.out.len.2; omega)
  obtain ⟨ld, hld⟩ : ∃ n, s0.data.length = n := ⟨_, rfl⟩
  rw [hld] at hcl HBS ⊢
  have HLD := Ho.mk hld
  clear hld hds
  refine hcl.mono ?_
  clear hcl
  rintro r w9 ⟨ao9, cap9, rfl, ho9, f9⟩
  have HC9 := Ho.mk (HC5.out.fr f9 (fun _ _ h => h) (fun _ _ _ _ h => h)); have HBF9 := Ho.mk (f9.block _ _ HBF5.out (fun h => h)); have HF9 := Ho.mk (HF5.out.trans (f9.mono (S' := RingB bl ((A ++ x :: B).map valC)) (fun _ _ h => h.elim)))
  have HBS9 := Ho.mk (f9.block _ _ HBS.out (fun h => h))
  have HO9 := Ho.mk ho9; have HS5 := Ho.mk (HF5.out.size)
  clear f9 ho9 HC5 HBF5 HF5 HBS
  have g3 := blk_cell HBS9.out 3
  have g4 := blk_cell HBS9.out 4
  have z3 := blk_free HBS9.out 3
  have z4 := blk_free HBS9.out 4
  go_upto_region 12 with (fail)
  have hst10 := (setFr w9 ks 3 (.int .i64 left)).trans (setFr _ ks 4 (.slice ao9 ld cap9))
  have hb10 : ((w9.setCell ⟨ks, 3, none⟩ (.int .i64 left)).setCell ⟨ks, 4, none⟩ (.slice ao9 ld cap9)).heap[ks]? = some (.cells #[.string (mk s0.name), .int .i64 s0.typ, .int .i64 s0.cls, .int .i64 left, .slice ao9 ld cap9] 24 (0, 0)) := blk_set (blk_set HBS9.out 3 _) 4 _
  have hne : kb + 1 ≠ ks := fun e => by have h1 := HBF9.out; rw [e, HBS9.out] at h1; simp at h1
  have hsn : ¬ OwnC c bl mp (A ++ B ++ [x]) ks := HC9.out.typeNot HBS9.out (by decide) (by decide) (by decide)
  have HC10 := Ho.mk (HC9.out.fr hst10 (fun k hk e => by subst e; exact hsn hk) (fun k cur _ hc e => by subst e; rw [HBS9.out] at hc; simp at hc))
  have HBF10 := Ho.mk (hst10.block _ _ HBF9.out hne)
  have HF10 := Ho.mk (HF9.out.call hst10 (fun k _ h => .inl (by subst h; exact HKS.out)))
  have HO10 := Ho.mk (row_set (row_set HO9.out HBS9.out (by decide : 24 ≠ 9) 3 (.int .i64 left)) (blk_set HBS9.out 3 (.int .i64 left)) (by decide : 24 ≠ 9) 4 (.slice ao9 ld cap9))
  have HBS10 := Ho.mk hb10
  clear g3 g4 z3 z4 hst10 hb10 hne hsn HC9 HBF9 HF9 HO9 HBS9
  generalize (w9.setCell ⟨ks, 3, none⟩ (.int .i64 left)).setCell ⟨ks, 4, none⟩ (.slice ao9 ld cap9) = w10 at *
  have g0 : w10.cell? ⟨ks, 0, none⟩ = some (.string (mk s0.name)) := blk_cell HBS10.out 0
  have g1 : w10.cell? ⟨ks, 1, none⟩ = some (.int .i64 s0.typ) := blk_cell HBS10.out 1
  have g2 : w10.cell? ⟨ks, 2, none⟩ = some (.int .i64 s0.cls) := blk_cell HBS10.out 2
  have g3 : w10.cell? ⟨ks, 3, none⟩ = some (.int .i64 left) := blk_cell HBS10.out 3
  have g4 : w10.cell? ⟨ks, 4, none⟩ = some (.slice ao9 ld cap9) := blk_cell HBS10.out 4
  have f0 := blk_cell HBF10.out 0
  have f1 := blk_cell HBF10.out 1
  have f2 := blk_cell HBF10.out 2
  have f3 := blk_cell HBF10.out 3
  have f4 := blk_cell HBF10.out 4
  have f5 := blk_cell HBF10.out 5
  have f6 := blk_cell HBF10.out 6
  have z0 := blk_free HBF10.out 0
  have z1 := blk_free HBF10.out 1
  have z2 := blk_free HBF10.out 2
  have z3 := blk_free HBF10.out 3
  have z4 := blk_free HBF10.out 4
  have z5 := blk_free HBF10.out 5
  have z6 := blk_free HBF10.out 6
  have b1 := run_found_set (mk s0.name) s0.typ s0.cls left ao9 ld cap9 left
  go_wp2_with (fail)
  generalize h5 : World.setCell _ ⟨kb + 1, 6, none⟩ (.int .i64 left) = w11
  have h5 : set7 w10 (kb + 1) (.int .i64 1) (.string (mk s0.name)) (.int .i64 s0.typ) (.int .i64 s0.cls) (.int .i64 left) (.slice ao9 ld cap9) (.int .i64 left) = w11 := h5
  have hb5 := set7_blk HBF10.out (.int .i64 1) (.string (mk s0.name)) (.int .i64 s0.typ) (.int .i64 s0.cls) (.int .i64 left) (.slice ao9 ld cap9) (.int .i64 left)
  have hf5 := set7_fr w10 (kb + 1) (.int .i64 1) (.string (mk s0.name)) (.int .i64 s0.typ) (.int .i64 s0.cls) (.int .i64 left) (.slice ao9 ld cap9) (.int .i64 left)
  rw [h5] at hb5 hf5
  refine bodyPost_ret (res_c rfl _ _ (kb + 1) 42 _ (0, 0) _ rfl hb5 Try.underlying42 rfl (by kernel_rfl)) rfl ?_
  refine HQ.out _ _ ⟨ao9, cap9, ?_, ?_, HC10.out.fr hf5 (fun k hk e => by subst e; exact HC10.out.typeNot HBF10.out (by decide) (by decide) (by decide) hk) (fun k cur _ hc e => by subst e; rw [HBF10.out] at hc; simp at hc), HF10.out.call hf5 (fun i _ h => .inl (by rw [h, HKB.out]; exact Nat.le_succ kb))⟩
  · rw [← HLD.out]; rfl
  · rw [HLD.out]
    exact row_fr (own_weak1 HO10.out (by have := HS5.out; have := HKB.out; omega)) hf5 (fun k cur fz e _ hc => by subst e; rw [HBF10.out] at hc; simp at hc)
end Go.Proofs.Ytlbhfnjhhpcphaa
