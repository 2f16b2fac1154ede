/-
  package cache: put.
-/
import Derived.Test.YtlbhfnjhhpcphaaCO
namespace Go.Proofs.Ytlbhfnjhhpcphaa
open Go.RowKit
theorem atC_some {E : List ElC} (hk : (E.map fun x => x.th.key).Nodup) {y : Bs × Int} {v : Value} : atC E y = some v ↔ ∃ x ∈ E, x.th.key = y ∧ v = Pt x.e := by
  unfold atC
  rw [Option.map_eq_some_iff]
  constructor
  · rintro ⟨x, hx, rfl⟩
    exact ⟨x, List.mem_of_find?_eq_some hx, isK_iff.1 (List.find?_some (p := fun x : ElC => isK y.1 y.2 x.th) hx), rfl⟩
  · rintro ⟨x, hx, he, rfl⟩
    obtain ⟨A, B, rfl⟩ := List.append_of_mem hx
    refine ⟨x, ?_, rfl⟩
    rw [List.map_append, List.map_cons, List.nodup_append, List.nodup_cons] at hk
    have hA : A.find? (fun x => isK y.1 y.2 x.th) = none := List.find?_eq_none.2 fun z hz hzk => hk.2.2 _ (List.mem_map_of_mem hz) _ (List.mem_cons_self ..) ((isK_iff.1 hzk).trans he.symm)
    rw [List.find?_append, hA, List.find?_cons_of_pos (by rw [isK_iff, he])]; rfl
/-- How many entries the map has. -/
theorem mapC_size {w : World} {mp : Nat} {E : List ElC} (hk : (E.map fun x => x.th.key).Nodup) (h : MapF ckey w mp (atC E)) : ∃ es clk, w.heap[mp]? = some (.map es clk) ∧ es.size = E.length := by
  obtain ⟨es, clk, h1, h2, h3, h4⟩ := h
  refine ⟨es, clk, h1, ?_⟩
  have hp : (es.toList.map (·.key)).Perm (E.map fun x => ckey x.th.key) := by
    refine (List.perm_ext_iff_of_nodup h3 ?_).2 fun v => ?_
    · have : (E.map fun x => ckey x.th.key) = (E.map fun x => x.th.key).map ckey := by rw [List.map_map]; rfl
      rw [this]
      exact hk.map (f := ckey) (fun a b hne e => hne (ckey_inj e))
    · constructor
      · intro hv
        obtain ⟨e, he, rfl⟩ := List.mem_map.1 hv
        obtain ⟨y, hy⟩ := h2 e he
        obtain ⟨x, hx, hxy, _⟩ := (atC_some hk).1 ((h4 y e.val).2 ⟨e, he, hy, rfl⟩)
        exact List.mem_map.2 ⟨x, hx, by rw [hy, hxy]⟩
      · intro hv
        obtain ⟨x, hx, rfl⟩ := List.mem_map.1 hv
        obtain ⟨e, he, hke, _⟩ := (h4 x.th.key (Pt x.e)).1 ((atC_some hk).2 ⟨x, hx, rfl, rfl⟩)
        exact List.mem_map.2 ⟨e, he, hke⟩
  have := hp.length_eq
  simpa using this
theorem atC_snoc {E : List ElC} {x : ElC} (h : ∀ y ∈ E, y.th.key ≠ x.th.key) : atC (E ++ [x]) x.th.key = some (Pt x.e) ∧ ∀ y, y ≠ x.th.key → atC (E ++ [x]) y = atC E y := by
  have hne : E.find? (fun y => isK x.th.key.1 x.th.key.2 y.th) = none := List.find?_eq_none.2 fun y hy hk => h y hy (isK_iff.1 hk)
  refine ⟨?_, fun y hy => ?_⟩
  · unfold atC
    rw [List.find?_append, hne, List.find?_cons_of_pos (by simp [isK_iff, Th.key])]; rfl
  · unfold atC
    rw [List.find?_append, List.find?_cons_of_neg (by intro hk; exact hy (isK_iff.1 hk).symm)]
    simp
theorem outE_not {E : List ElC} {n : Bs} {k : Int} {x : ElC} (h : x ∈ outE E n k) : x ∈ E ∧ x.th.key ≠ (n, k) := by
  obtain ⟨h1, h2⟩ := List.mem_filter.1 h
  refine ⟨h1, fun e => ?_⟩
  rw [isK_iff.2 e] at h2; simp at h2
theorem run_build_entry (n : ByteArray) (k : Int) (T : TypeId) (v : Value) (w : World) : (Instr.build 93 #[(0, .agg #[.string n, .int .i64 k]), (1, .iface T v)]).run Try.prog w = .ok (.agg #[.string n, .int .i64 k, .iface T v]) w := by
  kernel_rfl
theorem OwnC.out {c bl mp : Nat} {E : List ElC} {n : Bs} {k : Int} {j : Nat} (h : OwnC c bl mp (outE E n k) j) : OwnC c bl mp E j := by
  rcases h with h | h | h | h
  · exact .inl h
  · exact .inr (.inl h)
  · exact .inr (.inr (.inl h))
  · obtain ⟨z, hz, rfl⟩ := List.mem_map.1 h
    obtain ⟨y, hy, rfl⟩ := List.mem_map.1 hz
    exact .inr (.inr (.inr (List.mem_map.2 ⟨valC y, List.mem_map_of_mem (outE_not hy).1, rfl⟩)))
theorem CI.conv {D : Nat → Prop} {w : World} {c bl mp : Nat} {E : List ElC} {st st' : Ca} (h : CI D w c bl mp E st) (hm : st'.most = st.most) (hn : st'.now = st.now) (hL : st'.L = E.map (·.th)) : CI D w c bl mp E st' :=
  ⟨by have h1 := h.head; unfold headC at h1 ⊢; rw [hm, hn]; exact h1, h.ring, h.map, h.data, hL⟩
set_option maxRecDepth 100000 in
set_option maxHeartbeats 4000000 in
theorem put_calls (D : Nat → Prop) (w : World) (c bl mp : Nat) (E : List ElC) (st : Ca) (x0 : ElC) (hw : st.wf) (h : CI D w c bl mp E st) (hx : DataAt D w x0) :
    Calls Try.prog 41 #[.pointer (some ⟨c, 0, none⟩), .agg #[.string (mk x0.th.name), .int .i64 x0.th.kind], thV x0] w fun r w' => r = .returned (.tuple #[]) ∧ ∃ E', CI D w' c bl mp E' (st.putT x0.th) ∧ (∀ k, OwnC c bl mp E' k → OwnC c bl mp E k ∨ w.heap.size ≤ k) ∧ Fr (fun k => k = mp ∨ RingB bl (E.map valC) k) w w' := by
  obtain ⟨T, v, hT⟩ := thV_shape x0
  rw [hT]
  have HT := Ho.mk hT
  have hnb := blk_new w (.cells #[.string (mk x0.th.name), .int .i64 x0.th.kind] 77)
  have hfb := (Fr.refl nob w).alloc (.cells #[.string (mk x0.th.name), .int .i64 x0.th.kind] 77)
  have HC := Ho.mk h; have HW := Ho.mk hw; have HX := Ho.mk hx; have HNB := Ho.mk hnb; have HFB := Ho.mk hfb
  have hcall := out_calls D (w.alloc (.cells #[.string (mk x0.th.name), .int .i64 x0.th.kind] 77)) c bl mp E st x0.th.name x0.th.kind (keysE hw h.st) (h.key hw) (h.fr hfb (fun _ _ h => h) (fun _ _ _ _ h => h))
  obtain ⟨res, hres⟩ : ∃ s, st.putT x0.th = s := ⟨_, rfl⟩
  rw [hres]
  have HRES := Ho.mk hres
  have k0 : (w.alloc (.cells #[.string (mk x0.th.name), .int .i64 x0.th.kind] 77)).cell? ⟨w.heap.size, 0, none⟩ = some (.string (mk x0.th.name)) := blk_cell hnb 0
  have k1 : (w.alloc (.cells #[.string (mk x0.th.name), .int .i64 x0.th.kind] 77)).cell? ⟨w.heap.size, 1, none⟩ = some (.int .i64 x0.th.kind) := blk_cell hnb 1
  clear hT h hw hx hnb hfb hres
  go_enter Try.func41, Try.ntmps41
  go_wp2_with (fail)
  refine hcall.mono ?_
  clear hcall k0 k1
  rintro r w1 ⟨rfl, h1, f1⟩
  have hkb1 := f1.block _ _ HNB.out (by
    rintro (h2 | h2)
    · have := HC.out.map.lt; omega
    · have := HC.out.ring.lt h2; omega)
  have HC1 := Ho.mk h1; have HF1 := Ho.mk ((HFB.out.mono (S' := fun k => k = mp ∨ RingB bl (E.map valC) k) (fun _ _ h => h.elim)).trans f1); have HKB := Ho.mk hkb1
  have hkbw : w.heap.size ≤ w.heap.size := Nat.le_refl _
  clear h1 f1 hkb1
  generalize hkb : w.heap.size = kb at *
  have HKW := Ho.mk hkb
  clear hkb hkbw HNB HFB
  obtain ⟨c0, c1, c2, c3⟩ := HC1.out.cells
  have k0 : w1.cell? ⟨kb, 0, none⟩ = some (.string (mk x0.th.name)) := blk_cell HKB.out 0
  have k1 : w1.cell? ⟨kb, 1, none⟩ = some (.int .i64 x0.th.kind) := blk_cell HKB.out 1
  obtain ⟨E1, hE1⟩ : ∃ E1, outE E x0.th.name x0.th.kind = E1 := ⟨_, rfl⟩
  have hnot : ∀ y ∈ E1, y.th.key ≠ x0.th.key := fun y hy => by rw [← hE1] at hy; exact (outE_not hy).2
  have hown1 : ∀ j, OwnC c bl mp E1 j → OwnC c bl mp E j := fun j hj => by rw [← hE1] at hj; exact hj.out
  have hc1 := HC1.out
  rw [hE1] at hc1
  have hl1 : E1.length < 2 ^ 40 := by
    have h1 := HC.out.key HW.out
    have h2 : E1.length ≤ E.length := by rw [← hE1]; exact List.length_filter_le _ _
    omega
  have hx1 : DataAt D w1 x0 := fun s r hs => ⟨((HX.out s r hs).1).fr HF1.out (fun k cur _ hc hS => HC.out.strNot hc (hS.elim (fun h => .inr (.inl h)) (fun h => .inr (.inr h)))), (HX.out s r hs).2⟩
  have hkbn : ¬ OwnC c bl mp E1 kb := fun hk => by
    have h2 := HC.out.lt (hown1 kb hk); rw [HKW.out] at h2; omega
  have hL1 : outL st.L x0.th.name x0.th.kind = E1.map (·.th) := by rw [outE_th HC.out.st, hE1]
  have HPUSH : Ho (∀ W, Fr nob w1 W → Calls Try.prog 60 #[.pointer (some ⟨bl, 0, none⟩), .iface 93 (.agg #[.string (mk x0.th.name), .int .i64 x0.th.kind, .iface T v])] W fun r w' => ∃ e, r = .returned (.pointer (some ⟨e, 0, none⟩)) ∧ w1.heap.size ≤ e ∧ Ring w' bl (E1.map valC ++ [(e, .iface 93 (.agg #[.string (mk x0.th.name), .int .i64 x0.th.kind, .iface T v]))]) ∧ Fr (RingB bl (E1.map valC)) w1 w') := Ho.mk fun W hW =>
    (chain_push_calls bl 93 _ _ W (hc1.ring.fr hW (fun _ _ h => h)) (by rw [List.length_map]; exact hl1)).mono fun r w' ⟨e, he, h1, h2, h3⟩ => ⟨e, he, Nat.le_trans hW.size h1, h2, (hW.mono (fun _ _ h => h.elim)).trans h3⟩
  have HAFT : Ho (∀ w3 e, w1.heap.size ≤ e → Ring w3 bl (E1.map valC ++ [(e, .iface 93 (.agg #[.string (mk x0.th.name), .int .i64 x0.th.kind, .iface T v]))]) → Fr (RingB bl (E1.map valC)) w1 w3 → ∃ o,
      (Instr.mapUpdate 32 (.map (some mp)) (.agg #[.string (mk x0.th.name), .int .i64 x0.th.kind]) (.pointer (some ⟨e, 0, none⟩))).run Try.prog w3 = .ok () { w3 with heap := w3.heap.setIfInBounds mp o } ∧
      (∀ W, (W = w3 ∨ W = { w3 with heap := w3.heap.setIfInBounds mp o }) → W.cell? ⟨c, 3, none⟩ = some (.map (some mp)) ∧ W.cell? ⟨c, 2, none⟩ = some (.pointer (some ⟨bl, 0, none⟩)) ∧ W.cell? ⟨kb, 0, none⟩ = some (.string (mk x0.th.name)) ∧ W.cell? ⟨kb, 1, none⟩ = some (.int .i64 x0.th.kind)) ∧
      CI D { w3 with heap := w3.heap.setIfInBounds mp o } c bl mp (E1 ++ [(⟨e, x0.th, x0.ao, x0.cap⟩ : ElC)]) { st with L := outL st.L x0.th.name x0.th.kind ++ [x0.th] } ∧ Fr (fun k => k = mp ∨ RingB bl (E1.map valC) k) w1 { w3 with heap := w3.heap.setIfInBounds mp o }) := Ho.mk fun w3 e he hr hf => by
    obtain ⟨o, hU, hm⟩ := MapF.update (t := 32) ckeys Try.underlying32 (hc1.map.fr hf hc1.mR) (x0.th.name, x0.th.kind) (.pointer (some ⟨e, 0, none⟩))
    have hf4 : Fr (fun k => k = mp) w3 { w3 with heap := w3.heap.setIfInBounds mp o } := (Fr.refl (fun k => k = mp) w3).setObj (.inr rfl) o
    have hfr : Fr (fun k => k = mp ∨ RingB bl (E1.map valC) k) w1 { w3 with heap := w3.heap.setIfInBounds mp o } := (hf.mono (fun _ _ h => .inr h)).trans (hf4.mono (fun _ _ h => .inl h))
    have hc3' := hf.block _ _ hc1.head hc1.cR
    have hk3 := hf.block _ _ HKB.out (fun h => hkbn (.inr (.inr h)))
    have hc4 := hf4.block _ _ hc3' hc1.cm
    have hk4 := hf4.block _ _ hk3 (fun h => hkbn (.inr (.inl h)))
    refine ⟨o, hU, ?_, ?_, hfr⟩
    · rintro W (rfl | rfl)
      · exact ⟨blk_cell hc3' 3, blk_cell hc3' 2, blk_cell hk3 0, blk_cell hk3 1⟩
      · exact ⟨blk_cell hc4 3, blk_cell hc4 2, blk_cell hk4 0, blk_cell hk4 1⟩
    · obtain ⟨s1, s2⟩ := atC_snoc (E := E1) (x := ⟨e, x0.th, x0.ao, x0.cap⟩) hnot
      have hval : valC (⟨e, x0.th, x0.ao, x0.cap⟩ : ElC) = (e, .iface 93 (.agg #[.string (mk x0.th.name), .int .i64 x0.th.kind, .iface T v])) := by
        unfold valC entV
        have : thV (⟨e, x0.th, x0.ao, x0.cap⟩ : ElC) = thV x0 := rfl
        rw [this, HT.out]; rfl
      refine ⟨hc4, ?_, hm _ s1 s2, ?_, ?_⟩
      · rw [List.map_append, List.map_singleton, hval]
        refine hr.fr hf4 (fun k hk hm => ?_)
        subst hm
        rcases hk with h | h
        · exact hc1.mR (.inl h)
        · rw [List.map_append, List.mem_append] at h
          rcases h with h | h
          · exact hc1.mR (.inr h)
          · simp at h
            have := hc1.map.lt; omega
      · intro z hz s r hs
        have hstr : ∀ k cur, D k → w1.heap[k]? = some (.cells cur 9 (0, 0)) → ¬ (k = mp ∨ RingB bl (E1.map valC) k) := fun k cur _ hc hS => hc1.strNot hc (hS.elim (fun h => .inr (.inl h)) (fun h => .inr (.inr h)))
        rcases List.mem_append.1 hz with hz | hz
        · have h1 := hc1.data z hz s r hs; exact ⟨h1.1.fr hfr hstr, h1.2⟩
        · simp at hz; subst hz
          have h1 := hx1 s r hs; exact ⟨h1.1.fr hfr hstr, h1.2⟩
      · show outL st.L x0.th.name x0.th.kind ++ [x0.th] = _
        rw [hL1]; simp
  have hf1d : Fr nob w1 w1.drew := (Fr.refl nob w1).drew
  have hbe := run_build_entry (mk x0.th.name) x0.th.kind T v
  have HNOT := Ho.mk hnot; have HOWN1 := Ho.mk hown1; have HKBN := Ho.mk hkbn; have HL1 := Ho.mk hL1; have HLL := Ho.mk hl1
  clear hE1 hnot hown1 hc1 hl1 hx1 hkbn hL1 c0 c1
  go_wp2_with (fail)
  go_region_held3 (fun W => W.cell? ⟨c, 3, none⟩ = some (.map (some mp)) ∧ W.cell? ⟨c, 2, none⟩ = some (.pointer (some ⟨bl, 0, none⟩)) ∧ W.cell? ⟨kb, 0, none⟩ = some (.string (mk x0.th.name)) ∧ W.cell? ⟨kb, 1, none⟩ = some (.int .i64 x0.th.kind))
    (first | exact ⟨by assumption, by assumption, by assumption, by assumption⟩ | exact hS3 | exact hS4 | assumption)
    (first
      | (go_at_call 60; refine (HPUSH.out _ hf1d).mono ?_; rintro r w3 ⟨e, rfl, he3, hr3, hf3⟩; obtain ⟨o, hU, hS, hCI, hF4⟩ := HAFT.out w3 e he3 hr3 hf3; have hS3 := hS _ (.inl rfl); have hS4 := hS _ (.inr rfl); have HCI := Ho.mk hCI; have HF4 := Ho.mk hF4; have HE3 := Ho.mk he3; clear hr3 hf3 hS hCI hF4 he3))
  have HCI4 := HCI; have HF5 := Ho.mk (HF1.out.trans (HF4.out.mono (S' := fun k => k = mp ∨ RingB bl (E.map valC) k) (fun k _ hk => hk.elim .inl (fun h => by
    rcases HOWN1.out k (.inr (.inr h)) with h1 | h1 | h1
    · subst h1; exact absurd h (fun h => by
        have h2 := HC1.out.cR
        exact (HCI.out.cR (by
          rcases h with h | h
          · exact .inl h
          · exact .inr (by rw [List.map_append, List.map_append]; exact List.mem_append_left _ h))))
    · exact .inl h1
    · exact .inr h1))))
  clear hU hS3 hS4 HPUSH HAFT hbe hf1d c2 c3 k0 k1
  generalize ({ w3 with heap := w3.heap.setIfInBounds mp o } : World) = w4 at *
  have hkeys : ((E1 ++ [(⟨e, x0.th, x0.ao, x0.cap⟩ : ElC)]).map fun x => x.th.key).Nodup := by
    have h1 := keysE HW.out HC.out.st
    rw [List.map_append, List.nodup_append]
    refine ⟨?_, by simp, fun a ha b hb => ?_⟩
    · have h2 := outL_keys HW.out.keys x0.th.name x0.th.kind
      rw [HL1.out, List.map_map] at h2; exact h2
    · obtain ⟨y, hy, rfl⟩ := List.mem_map.1 ha
      simp at hb; subst hb
      exact HNOT.out y hy
  obtain ⟨es, clk, hes, hsz⟩ := mapC_size hkeys HCI4.out.map
  have hown4 : ∀ k, OwnC c bl mp (E1 ++ [(⟨e, x0.th, x0.ao, x0.cap⟩ : ElC)]) k → OwnC c bl mp E k ∨ w.heap.size ≤ k := fun k hk => by
    rcases hk with h | h | h | h
    · exact .inl (.inl h)
    · exact .inl (.inr (.inl h))
    · exact .inl (.inr (.inr (.inl h)))
    · rw [List.map_append, List.map_append, List.mem_append] at h
      rcases h with h | h
      · exact .inl (HOWN1.out k (.inr (.inr (.inr h))))
      · simp [valC] at h
        right
        have h1 := HE3.out; have h2 := HF1.out.size; omega
  have hlen4 : (E1 ++ [(⟨e, x0.th, x0.ao, x0.cap⟩ : ElC)]).length < 2 ^ 40 := by
    have h2 : E1.length ≤ 4096 := by
      have h3 := outL_len st.L x0.th.name x0.th.kind
      rw [HL1.out, List.length_map] at h3
      have h4 := HW.out.len; have h5 := HW.out.most.2; omega
    rw [List.length_append]; simp; omega
  have HKEYS := Ho.mk hkeys; have HSZ := Ho.mk hsz; have HOWN4 := Ho.mk hown4; have HLEN4 := Ho.mk hlen4
  obtain ⟨E2, hE2⟩ : ∃ E2, E1 ++ [(⟨e, x0.th, x0.ao, x0.cap⟩ : ElC)] = E2 := ⟨_, rfl⟩
  have hL2 : outL st.L x0.th.name x0.th.kind ++ [x0.th] = E2.map (·.th) := by rw [HL1.out, ← hE2]; simp
  have hne2 : E2 ≠ [] := by rw [← hE2]; simp
  rw [hE2] at HKEYS HSZ HOWN4 HLEN4 HCI4
  have HL2 := Ho.mk hL2
  clear hkeys hsz hown4 hlen4 hE2 HCI hL2 HE3 HNOT HOWN1 HKBN HL1 HLL HF4 HC1 HKB
  obtain ⟨m, hm⟩ : ∃ m, es.size = m := ⟨_, rfl⟩
  have hbig : ((if st.most < (m : Int) then (E2.map (·.th)).tail else E2.map (·.th)) = res.L) ∧ res.most = st.most ∧ res.now = st.now := by
    rw [← HRES.out]
    unfold Ca.putT
    rw [HL2.out, List.length_map, ← HSZ.out, hm]
    exact ⟨rfl, rfl, rfl⟩
  have HBIG := Ho.mk hbig
  have hlenm : ∀ W, Fr nob w4 W → (Builtin.len_ #[32] 3 #[.map (some mp)]).run Try.prog W = .ok (.int .i64 (m : Int)) W := fun W hW => by
    have h := run_len_map (P := Try.prog) W 32 3 mp es clk Try.underlying32 (hW.block _ _ hes (fun h => h))
    rw [← hm]; exact h
  clear hm hbig
  obtain ⟨c0, c1, c2, c3⟩ := HCI4.out.cells
  have hlen2 := fun n => hlenm (w4.drewN n) ((Fr.refl nob w4).drewN n)
  clear hes hlenm c1
  by_cases hgt : st.most < (m : Int)
  case neg =>
    have hd : decide (st.most < (m : Int)) = false := decide_eq_false hgt
    have HGT := Ho.mk hgt
    clear hgt
    go_wp2_with (fail)
    go_quiet (fail)
    have HF6 := Ho.mk (HF5.out.trans (((Fr.refl nob w4).drewN nq).mono (S' := fun k => k = mp ∨ RingB bl (E.map valC) k) (fun _ _ h => h.elim)))
    have HCI6 := Ho.mk ((HCI4.out.fr ((Fr.refl nob w4).drewN nq) (fun _ _ h => h) (fun _ _ _ _ h => h)).conv (st' := res) HBIG.out.2.1 HBIG.out.2.2 (by rw [← HBIG.out.1, if_neg (by have := HGT.out; omega)]))
    go_wp2_with (fail)
    go_end0
    exact ⟨rfl, E2, HCI6.out, HOWN4.out, HF6.out⟩
  case pos =>
    have hd : decide (st.most < (m : Int)) = true := decide_eq_true hgt
    have HGT := Ho.mk hgt
    clear hgt
    cases E2 with
    | nil => exact absurd rfl hne2
    | cons y R =>
      obtain ⟨T2, v2, hv2⟩ := thV_shape y
      go_wp2_with (fail)
      go_quiet (fail)
      have hf6 : Fr nob w4 (w4.drewN nq) := (Fr.refl nob w4).drewN nq
      have HF6 := Ho.mk (HF5.out.trans (hf6.mono (S' := fun k => k = mp ∨ RingB bl (E.map valC) k) (fun _ _ h => h.elim)))
      have HCI6 := Ho.mk (HCI4.out.fr hf6 (fun _ _ h => h) (fun _ _ _ _ h => h))
      clear hf6 hlen2 c0 c2 c3 HF5 HCI4
      generalize w4.drewN nq = w6 at *
      obtain ⟨c0, c1, c2, c3⟩ := HCI6.out.cells
      clear c0 c1 c3
      have hfront := chain_front_calls bl ((y :: R).map valC) w6 HCI6.out.ring
      obtain ⟨na, nb, hnode⟩ := HCI6.out.ring.node (valC y) (List.mem_map_of_mem (by simp))
      have hof := of_el y w6 na nb _ hnode
      unfold entV at hof
      rw [hv2] at hof
      have hek := run_entry_k (mk y.th.name) y.th.kind T2 v2
      have hout : Ho (∀ W, Fr nob w6 W → Calls Try.prog 39 #[.pointer (some ⟨c, 0, none⟩), .agg #[.string (mk y.th.name), .int .i64 y.th.kind]] W fun r w' => r = .returned (.tuple #[]) ∧ CI D w' c bl mp (outE (y :: R) y.th.name y.th.kind) { st with L := outL (outL st.L x0.th.name x0.th.kind ++ [x0.th]) y.th.name y.th.kind } ∧ Fr (fun k => k = mp ∨ RingB bl ((y :: R).map valC) k) W w') := Ho.mk fun W hW =>
        out_calls D W c bl mp (y :: R) _ y.th.name y.th.kind HKEYS.out HLEN4.out (HCI6.out.fr hW (fun _ _ h => h) (fun _ _ _ _ h => h))
      clear hnode hv2
      go_wp2_with (fail)
      refine hfront.mono ?_
      clear hfront
      rintro r w7 ⟨rfl, rfl⟩
      unfold PtHead
      simp only [List.map_cons, valC]
      unfold Pt
      go_wp2_with (fail)
      refine hof.mono ?_
      clear hof
      rintro r w8 ⟨rfl, f8⟩
      have HOUT2 := Ho.mk (hout.out w8 f8)
      have HF8 := Ho.mk (HF6.out.trans (f8.mono (S' := fun k => k = mp ∨ RingB bl (E.map valC) k) (fun _ _ h => h.elim)))
      have HSZ8 := Ho.mk f8.size
      clear f8 hout
      unfold str
      go_wp2_with (fail)
      refine HOUT2.out.mono ?_
      clear HOUT2
      rintro r w9 ⟨rfl, h9, f9⟩
      have HCI9 := Ho.mk h9; have F9 := Ho.mk f9
      clear h9 f9
      go_wp2_with (fail)
      go_end0
      have hnd := HKEYS.out
      rw [List.map_cons, List.nodup_cons] at hnd
      have hR : outE (y :: R) y.th.name y.th.kind = R := by
        have := outE_mid (A := []) (B := R) (x := y) (n := y.th.name) (k := y.th.kind) rfl (by simp) (fun z hz e => hnd.1 (by
          have : y.th.key = z.th.key := e.symm
          rw [this]; exact List.mem_map_of_mem (f := fun x : ElC => x.th.key) hz))
        exact this
      have hci := HCI9.out
      rw [hR] at hci
      refine ⟨rfl, R, hci.conv (st' := res) HBIG.out.2.1 HBIG.out.2.2 ?_, fun k hk => HOWN4.out k ?_, HF8.out.call F9.out (fun k hlt hk => ?_)⟩
      · rw [← HBIG.out.1, if_pos HGT.out]; rfl
      · rcases hk with h | h | h | h
        · exact .inl h
        · exact .inr (.inl h)
        · exact .inr (.inr (.inl h))
        · exact .inr (.inr (.inr (List.mem_cons_of_mem _ h)))
      · rcases hk with hk | hk
        · exact .inr (.inl hk)
        · rcases HOWN4.out k (.inr (.inr hk)) with (h | h | h) | h
          · subst h; exact absurd hk HCI6.out.cR
          · exact .inr (.inl h)
          · exact .inr (.inr h)
          · exact .inl h
end Go.Proofs.Ytlbhfnjhhpcphaa
