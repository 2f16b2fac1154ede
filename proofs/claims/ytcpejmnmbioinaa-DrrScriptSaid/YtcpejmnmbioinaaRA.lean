/-
  The reference ostiaryref21: Drop.
-/
import Derived.Test.YtcpejmnmbioinaaRS
import Derived.Test.YtcpejmnmbioinaaDL
import Derived.Deep.RegionLaw
namespace Go.Proofs.Ytcpejmnmbioinaa
open Go.RowKit
set_option maxRecDepth 100000 in
set_option maxHeartbeats 4000000 in
theorem rDrop_calls (D : Nat → Prop) (w : World) (r : Nat) (st : Qs) (n : Int) (hwf : st.wf) (h : RQ D w r st) (hD : ∀ k, w.heap.size ≤ k → D k) :
    Calls Try.prog 24 #[.pointer (some ⟨r, 0, none⟩), .int .i64 n] w fun e w' => ∃ ao cap, e = .returned (.slice ao (st.drop n).2.length cap) ∧
      w'.ownsRow w.heap.size 3 1 (.slice ao (st.drop n).2.length cap) (st.drop n).2.length (icells (st.drop n).2) ∧ RQ D w' r (st.drop n).1 ∧ Fr (fun k => k = r) w w' := by
  have HQ := Ho.mk h; have HD := Ho.mk hD; have HWF := Ho.mk hwf
  obtain ⟨v, R, hh, hrow, hd, hri, hDr, hst, hne⟩ := h
  have hl : R.length ≤ 1024 := by
    have h1 := hwf.len; have h2 := hwf.cl.2
    rw [hst, List.length_map] at h1; omega
  have hat := at_calls w r n _ _ _ _ v st.turn R hh hrow (by omega)
  obtain ⟨res, hres⟩ : ∃ x, st.drop n = x := ⟨_, rfl⟩
  rw [hres]
  have HRES := Ho.mk hres
  clear hres
  go_enter Try.func24, Try.ntmps24
  go_wp2_with (fail)
  refine hat.mono ?_
  clear hat
  rintro e w1 ⟨i, rfl, hat, hf⟩
  rcases hat with ⟨rfl, hall⟩ | ⟨A, x, B, hR, hx, hA, rfl⟩
  · have e1 : st.drop n = (st, []) := by
      unfold Qs.drop
      rw [hst, List.find?_map, List.find?_eq_none.2 (by intro x hx; simpa using hall x hx)]
      rfl
    have HE := Ho.mk (show res = (st, []) by rw [← HRES.out, e1])
    have HF := Ho.mk hf
    clear hh hrow hd hri hDr hst hne hall hf e1
    go_wp2_with (fail)
    go_ret
    rw [HE.out]
    exact ⟨none, 0, rfl, World.ownsRow_nil _ _ _ _, HQ.out.fr HF.out (fun _ _ h => h), HF.out.mono (fun _ _ h => h.elim)⟩
  · have hd0 : decide ((A.length : Int) < 0) = false := decide_eq_false (by omega)
    obtain ⟨ai, hai⟩ : ∃ m, A.length = m := ⟨_, rfl⟩
    have hki : ai < R.length := by rw [hR, ← hai]; simp
    have hxi : R[ai] = x := by subst hai; simp [hR]
    obtain ⟨g, cap, hv, l0, l1, l2, l3⟩ := row_line hrow ai hki
    rw [hxi] at l0 l1 l3
    subst hv
    have hrx := (hri x (by rw [hR]; simp)).1
    have hits : x.cl.its.length ≤ 64 := by
      have h1 := (hwf.its x.cl (by rw [hst, hR]; simp)).2.1; have h2 := hwf.it.2; omega
    obtain ⟨ln, hln⟩ : ∃ m, R.length = m := ⟨_, rfl⟩
    obtain ⟨q, hq⟩ : ∃ m, x.cl.its.length = m := ⟨_, rfl⟩
    rw [hln] at hki
    rw [hai] at hd0 ⊢
    have HRI := Ho.mk hri; have HDR := Ho.mk hDr; have HST := Ho.mk hst; have HH := Ho.mk hh; have HRW := Ho.mk hrow; have HR := Ho.mk hR; have HAI := Ho.mk hai; have HLN := Ho.mk hln; have HQL := Ho.mk hq; have HRX := Ho.mk hrx; have HF := Ho.mk hf; have HA := Ho.mk hA; have HX := Ho.mk hx; have HL3 := Ho.mk l3; have HITS := Ho.mk hits
    clear hh hrow hd hri hDr hst hne hR hai hln hq hrx hf hA hx l0 l1 l2 l3 hxi hits hwf
    have hl' : ln ≤ 1024 := by have := HLN.out; omega
    have hq64 : q ≤ 64 := by rw [← HQL.out]; exact HITS.out
    clear hl
    go_wp2_with (fail)
    go_loopw [6, 7] (fun so iv wr => ∃ (k : Nat) (ao' : Option Addr) (cap' : Nat), k ≤ q ∧ iv = .int .i64 (k : Int) ∧ so = .slice ao' k cap' ∧
        Ho (wr.ownsRow w.heap.size 3 1 (.slice ao' k cap') k (icells ((x.cl.its.take k).map (·.2)))) ∧ Ho (Fr nob w wr)) (fun _ iv _ => q - (intOf iv).toNat)
    case atStart => exact ⟨0, none, 0, by omega, rfl, rfl, Ho.mk (World.ownsRow_nil _ _ _ _), HF⟩
    case round =>
      obtain ⟨k, ao', cap', hk, rfl, rfl, HOW, HFr⟩ := hrel
      have hbr := HFr.out.block _ _ HH.out (fun h => h)
      have c4 : wr.cell? ⟨r, 4, none⟩ = some (.slice (some ⟨g, 0, none⟩) R.length cap) := blk_cell hbr 4
      rw [HLN.out] at c4
      have c3 := HFr.out.cell (fun h => h) HL3.out
      rw [HQL.out] at c3
      clear hbr
      by_cases hlt : k < q
      · have hlt' : decide ((k : Int) < (q : Int)) = true := decide_eq_true (by omega)
        have hlt'' : decide (k < q) = true := decide_eq_true hlt
        have hkx : k < x.cl.its.length := by rw [HQL.out]; exact hlt
        obtain ⟨b0, off, hao, _, _, i2⟩ := HRX.out.cells k hkx
        have i2 := HFr.out.cell (fun h => h) i2
        rw [hao] at c3
        have htk : x.cl.its.take (k + 1) = x.cl.its.take k ++ [x.cl.its[k]] := List.take_succ_eq_append_getElem hkx
        have hmn : min k x.cl.its.length = k := by omega
        generalize x.cl.its[k] = y at *
        have hnb := blk_new wr (.cells #[.int .i64 y.2] 3)
        have hnf := (Fr.refl nob wr).alloc (.cells #[.int .i64 y.2] 3)
        have hown := own_fr HOW.out hnf (fun _ _ h => h)
        have hcell : (wr.alloc (.cells #[.int .i64 y.2] 3)).cell? ⟨wr.heap.size, 0, none⟩ = some (.int .i64 y.2) := blk_cell hnb 0
        have hbase : w.heap.size ≤ (wr.alloc (.cells #[.int .i64 y.2] 3)).heap.size := Nat.le_trans HFr.out.size hnf.size
        have el : ((x.cl.its.take k).map (·.2)).length = k := by rw [List.length_map, List.length_take]; omega
        have HNF := Ho.mk hnf; have HOWN := Ho.mk hown; have HCELL := Ho.mk hcell; have HBASE := Ho.mk hbase; have HL := Ho.mk el; have HTK := Ho.mk htk
        clear hnb hnf hown hcell hbase el htk
        go_wp2_with (at_builtin; refine wpList_append_int rfl _ _ rfl w.heap.size (.slice ao' k cap') ((x.cl.its.take k).map (·.2)) rfl (by rw [HL.out]; exact HOWN.out) wr.heap.size y.2 rfl HCELL.out (by rw [HL.out]; omega) HBASE.out ?_)
        intro ao2 cap3 w5 hown5 hg5
        have hf5 : Fr nob w w5 := (HFr.out.trans HNF.out).grown hg5 (fun k hk => .inl (own_new HOWN.out hk))
        have HO5 := Ho.mk hown5; have HF5 := Ho.mk hf5
        clear hown5 hg5 hf5
        try rw [HL.out]
        go_wp2_with (fail)
        go_roundw
        case rel =>
          refine ⟨k + 1, ao2, cap3, by omega, by go_num, by first | rfl | rw [hmn], Ho.mk ?_, HF5⟩
          rw [HTK.out, List.map_append, List.map_take]
          have h5 := HO5.out
          try rw [hmn] at h5
          exact h5
        case measure => simp [intOf]; omega
      · obtain rfl : k = q := by omega
        have hlt' : decide ((k : Int) < (k : Int)) = false := decide_eq_false (by omega)
        have hall := HOW.out
        rw [List.take_of_length_le (by rw [HQL.out]; exact Nat.le_refl _)] at hall
        have HALL := Ho.mk hall
        clear hall HOW
        have hhr := HFr.out.block _ _ HH.out (fun h => h)
        have f4 : wr.frozen? ⟨r, 4, none⟩ = false := blk_free hhr 4
        have HHR := Ho.mk hhr
        clear hhr
        have hai : ai < ln := hki
        have hlc : ln ≤ cap := by have := HRW.out; obtain ⟨_, _, hv, h1, _⟩ := row_shape HRW.out; injection hv with _ _ hv; subst hv; rw [HLN.out] at h1; exact h1
        have s1 := line_hi (some ⟨g, 0, none⟩) ln cap ai (by omega)
        have s2 := line_lo (some ⟨g, 0, none⟩) ln cap (ai + 1) (by omega) hlc
        have e1 : (((ai + 1 : Nat) : Int)) = (ai : Int) + 1 := by omega
        rw [e1] at s2
        obtain ⟨X, hX⟩ : ∃ X, (if cap = ai + 1 then (some ⟨g, 0, none⟩ : Option Addr) else (some ⟨g, 0, none⟩ : Option Addr).map (·.add ((ai + 1) * 4))) = X := ⟨_, rfl⟩
        rw [hX] at s2
        have hw1 : IntKind.i64.wrap ((ai : Int) + 1) = (ai : Int) + 1 := IntWalk.i64_in _ (by omega)
        have hX1 : Src wr (some ⟨g, 0, none⟩) ai (rowC st.turn A) := by
          have h := src_take (HFr.out.row HRW.out) ai (by rw [HLN.out]; omega)
          have e := rowC_take st.turn A (x :: B)
          rw [HAI.out] at e
          rw [HR.out, e] at h
          exact h
        have hX2 : Src wr X (ln - (ai + 1)) (B.flatMap (lineC false)) := by
          have h := src_drop (HFr.out.row HRW.out) (ai + 1) (by rw [HLN.out]; omega)
          have e := rowC_drop st.turn (A ++ [x]) B (by simp)
          rw [List.length_append, List.length_singleton, HAI.out, List.append_assoc, List.singleton_append] at e
          rw [hX, HLN.out, HR.out, e] at h
          exact h
        have hlB : ln - (ai + 1) = B.length := by rw [← HLN.out, HR.out, ← HAI.out]; simp; omega
        have hlA : A.length = ai := HAI.out
        obtain ⟨b2, hb2⟩ : ∃ m, ln - (ai + 1) = m := ⟨_, rfl⟩
        rw [hb2] at s2 hlB hX2
        have hb2l : b2 ≤ 1024 := by omega
        have HS1 : Ho (∀ W, Fr nob wr W → Src W (some ⟨g, 0, none⟩) ai (rowC st.turn A)) := Ho.mk fun W hW => hX1.same hW
        have HS2 : Ho (∀ W, Fr nob wr W → Src W X b2 (B.flatMap (lineC false))) := Ho.mk fun W hW => hX2.same hW
        have HLB := Ho.mk hlB; have HLA := Ho.mk hlA
        obtain ⟨li, lz, hli, hlz, hls, hlzs, hlb⟩ := infoLine
        have hbb : (0 + ai) * li.bytes ≤ 140737488355328 := by rw [hlb]; omega
        have hbb2 : (0 + ai + b2) * li.bytes ≤ 140737488355328 := by rw [hlb]; omega
        have HBB := Ho.mk hbb; have HBB2 := Ho.mk hbb2
        have HLI := Ho.mk hli; have HLZ := Ho.mk hlz; have HLS := Ho.mk hls; have HLZS := Ho.mk hlzs
        have HXX := Ho.mk hX
        have hown0 : (wr.alloc (.cells #[] 75)).drew.ownsRow wr.heap.size 75 4 (.slice (some ⟨wr.heap.size, 0, none⟩) 0 0) 0 [] := (World.ownsRow_lit wr #[] 0 (Nat.le_refl _) (by decide) rfl).drew
        have hf0 : Fr nob wr (wr.alloc (.cells #[] 75)).drew := ((Fr.refl nob wr).alloc _).drew
        have HOWN0 := Ho.mk hown0
        have hf00 : Fr nob wr wr.drew := (Fr.refl nob wr).drew
        have hb0 := hf0.block _ _ HHR.out (fun h => h)
        have c40 : (wr.alloc (.cells #[] 75)).drew.cell? ⟨r, 4, none⟩ = some (.slice (some ⟨g, 0, none⟩) R.length cap) := blk_cell hb0 4
        rw [HLN.out] at c40
        have f40 : (wr.alloc (.cells #[] 75)).drew.frozen? ⟨r, 4, none⟩ = false := blk_free hb0 4
        clear hb0
        clear hown0 hli hlz hls hlzs hlb hbb hbb2 hlB hlA hX1 hX2 hb2 hX
        go_wp2_with (fail)
        have HHF := Ho.mk hf0
        have HG0 : Ho (∀ w5, (wr.alloc (.cells #[] 75)).drew.grownBy w5 (some wr.heap.size) → Fr nob wr w5) := Ho.mk fun w5 hg => hf0.grown hg (fun k hk => .inl (by injection hk with hk; omega))
        have HC : Ho (∀ W, Fr nob wr W → W.cell? ⟨r, 4, none⟩ = some (.slice (some ⟨g, 0, none⟩) ln cap) ∧ W.frozen? ⟨r, 4, none⟩ = false) := Ho.mk fun W hW => by
          have hb := hW.block _ _ HHR.out (fun h => h)
          refine ⟨?_, blk_free hb 4⟩
          rw [← HLN.out]; exact blk_cell hb 4
        have KEY : Ho (∀ w6 ao6 cap6, Fr nob wr w6 → w6.ownsRow wr.heap.size 75 4 (.slice ao6 (0 + ai + b2) cap6) (0 + ai + b2) ([] ++ rowC st.turn A ++ B.flatMap (lineC false)) →
            (w6.setCell ⟨r, 4, none⟩ (.slice ao6 (ai + b2) cap6)).ownsRow w.heap.size 3 1 (.slice ao' k cap') k (icells res.2) ∧
            RQ D (w6.setCell ⟨r, 4, none⟩ (.slice ao6 (ai + b2) cap6)) r res.1 ∧ Fr (fun k => k = r) w (w6.setCell ⟨r, 4, none⟩ (.slice ao6 (ai + b2) cap6)) ∧ res.2.length = k) := Ho.mk fun w6 ao6 cap6 hf6 ho6 => by
          have hrg : st.ring = A.map (·.cl) ++ x.cl :: B.map (·.cl) := by rw [HST.out, HR.out]; simp
          have hnd := HWF.out.nums
          rw [hrg, List.map_append, List.map_cons, List.nodup_append, List.nodup_cons] at hnd
          have h2 : ∀ a ∈ A.map (·.cl), a.n ≠ x.cl.n := fun a ha => by
            obtain ⟨y, hy, rfl⟩ := List.mem_map.1 ha
            rw [HX.out]; exact HA.out y hy
          have h3 : ∀ a ∈ B.map (·.cl), a.n ≠ x.cl.n := fun a ha e => hnd.2.1.1 (e ▸ List.mem_map_of_mem ha)
          have h4 : st.ring.find? (fun y => y.n == x.cl.n) = some x.cl := by
            rw [hrg, List.find?_append, List.find?_eq_none.2 (by intro y hy; simpa using h2 y hy)]
            simp
          have hd := drop_mid hrg h2 h3 h4
          rw [HX.out, HRES.out, turnOf_map] at hd
          have hlen : 0 + ai + b2 = (A ++ B).length := by rw [List.length_append, HLA.out, HLB.out]; omega
          have hf6w := HFr.out.trans hf6
          have hb6 := hf6w.block _ _ HH.out (fun h => h)
          have e5 : ai + b2 = 0 + ai + b2 := by omega
          rw [e5]
          have hrlt : r < wr.heap.size := lt_of_blk HHR.out
          have ho6' : w6.ownsRow wr.heap.size 75 4 (.slice ao6 (0 + ai + b2) cap6) (A ++ B).length (rowC (turnOf A st.turn) (A ++ B)) := by
            rw [rowC_append, ← hlen]; exact ho6
          refine ⟨?_, ?_, (hf6w.mono (fun _ _ h => h.elim)).trans (setCellFr w6 r 4 _), ?_⟩
          · rw [hd]
            exact own_fr (own_fr HALL.out hf6 (fun _ _ h => h)) (setCellFr w6 r 4 _) (fun k hk e => by have := own_new HALL.out hk; have := lt_of_blk HH.out; omega)
          · rw [hd]
            refine RQ.ring (R := A ++ B) hb6 rfl rfl rfl rfl HDR.out (own_weak ho6') (fun k hk => HD.out k (Nat.le_trans HFr.out.size (own_newS ho6' hk))) (fun y hy => ⟨(HRI.out y ?_).1.fr hf6w (fun _ _ _ _ h => h), (HRI.out y ?_).2⟩) (by simp) ?_
            · rw [HR.out]; simp at hy ⊢; rcases hy with h | h <;> simp [h]
            · rw [HR.out]; simp at hy ⊢; rcases hy with h | h <;> simp [h]
            · intro h
              have : A = [] := by cases A with | nil => rfl | cons a A => simp at h
              subst this; rfl
          · rw [hd]; simp [HQL.out]
        go_region_law
          (first
            | (refine step_append_src (by rfl) _ _ _ (by rfl) wr.heap.size 75 li _ 4 Try.underlying70 HLI.out HLZ.out HLS.out HLZS.out (by omega) (.slice (some ⟨wr.heap.size, 0, none⟩) 0 0) 0 [] (by rfl) HOWN0.out (some ⟨g, 0, none⟩) ai cap (rowC st.turn A) (by rfl) (by rw [rowC_len, HLA.out]) (HS1.out _ (by assumption)) (rowC_one _ _) (by simp only [maxLen]; omega) HBB.out (by simp) ?_; intro v5 w5 hown5 hg5 hat5; have hf5 := HG0.out w5 hg5; have hc5 := (HC.out w5 hf5).1; have hz5 := (HC.out w5 hf5).2; have HO5 := Ho.mk hown5; clear hown5 hg5 hat5)
            | (refine step_append_src (by rfl) _ _ _ (by rfl) wr.heap.size 75 li _ 4 Try.underlying70 HLI.out HLZ.out HLS.out HLZS.out (by omega) v5 (0 + ai) ([] ++ rowC st.turn A) (by rfl) HO5.out X b2 (cap - (ai + 1)) (B.flatMap (lineC false)) (by rfl) (by rw [flat4_len, HLB.out]) (HS2.out _ (by assumption)) (by rw [← rowC_false]; exact rowC_one _ _) (by simp only [maxLen]; omega) HBB2.out hf5.size ?_; intro v6 w6 hown6 hg6 hat6; obtain ⟨ao6, cap6, rfl⟩ := own_shapeS hown6; have hf6 := hf5.grown hg6 (fun k hk => .inl (own_newS HO5.out hk)); have hc6 := (HC.out w6 hf6).1; have hz6 := (HC.out w6 hf6).2; have HO6 := Ho.mk hown6; clear hown6 hg6 hat6))
        all_goals
          obtain ⟨k1, k2, k3, k4⟩ := KEY.out w6 ao6 cap6 hf6 HO6.out
          have K1 := Ho.mk k1; have K2 := Ho.mk k2; have K3 := Ho.mk k3; have K4 := Ho.mk k4
          clear k1 k2 k3 k4 hf5 hc5 hz5 HO5 hf6 hc6 hz6 HO6
          go_wp2_with (fail)
          go_ret
          rw [K4.out]
          exact ⟨ao', cap', rfl, K1.out, K2.out, K3.out⟩
end Go.Proofs.Ytcpejmnmbioinaa
