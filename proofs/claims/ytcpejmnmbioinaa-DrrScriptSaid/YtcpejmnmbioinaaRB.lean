/-
  The reference ostiaryref21: Put.
-/
import Derived.Test.YtcpejmnmbioinaaRA
namespace Go.Proofs.Ytcpejmnmbioinaa
open Go.RowKit
theorem rowLine : RowT 70 75 4 := by
  obtain ⟨i, z, h1, h2, h3, h4, h5⟩ := infoLine
  exact ⟨Try.underlying70, ⟨i, z, h1, h2, h3, h4, by omega⟩, by omega⟩
theorem rowItem : RowT 73 77 2 := by
  obtain ⟨i, z, h1, h2, h3, h4, h5⟩ := infoRItem
  exact ⟨Try.underlying73, ⟨i, z, h1, h2, h3, h4, by omega⟩, by omega⟩
theorem rfind_none {st : Qs} {R : List RL} {n : Int} (hst : st.ring = R.map (·.cl)) (h : ∀ x ∈ R, x.cl.n ≠ n) : st.ring.find? (fun c => c.n == n) = none := by
  rw [hst, List.find?_map, List.find?_eq_none.2 (by intro x hx; simpa using h x hx)]; rfl
theorem rfind_some {st : Qs} {A B : List RL} {x : RL} {n : Int} (hst : st.ring = (A ++ x :: B).map (·.cl)) (hA : ∀ y ∈ A, y.cl.n ≠ n) (hx : x.cl.n = n) : st.ring.find? (fun c => c.n == n) = some x.cl := by
  rw [hst, List.map_append, List.map_cons, List.find?_append, List.find?_eq_none.2 (by intro y hy; obtain ⟨z, hz, rfl⟩ := List.mem_map.1 hy; simpa using hA z hz)]
  simp [hx]
theorem rowC_set (t : Bool) (A B : List RL) (x x' : RL) (hn : x'.cl.n = x.cl.n) (hc : x'.cl.credit = x.cl.credit) : rowC t (A ++ x' :: B) = (rowC t (A ++ x :: B)).set (A.length * 4 + 3) (.slice x'.ao x'.cl.its.length x'.cap) := by
  cases A with
  | nil => show lineC t x' ++ _ = (lineC t x ++ _).set (0 * 4 + 3) _; simp [lineC, hn, hc]
  | cons a A =>
    rw [rowC_full t (a :: A) _ (by simp), rowC_full t (a :: A) _ (by simp), List.set_append_right _ _ (by rw [rowC_len]; omega), rowC_len]
    congr 1
    rw [Nat.add_sub_cancel_left, List.flatMap_cons, List.flatMap_cons]
    simp [lineC, hn, hc]
theorem RI.own {D : Nat → Prop} {w : World} {B : Nat} {ao : Option Addr} {cap : Nat} {its : List (Int × Int)} (h : w.ownsRow B 77 2 (.slice ao its.length cap) its.length (flat its)) (hD : ∀ k, B ≤ k → D k) : RI D w ao its := by
  intro j hj
  rcases h.2 with ⟨_, h0⟩ | ⟨g, cap', cur, hv, hB, hh, _, _, _, h4⟩
  · omega
  · injection hv with e1 _ _
    subst e1
    obtain ⟨f1, f2⟩ := flat_get its j its[j] (by simp [hj])
    rw [← h4, List.getElem?_take_of_lt (by omega)] at f1 f2
    exact ⟨g, 0, cur, rfl, hD g hB, hh, by rw [Nat.zero_add]; simpa using f1, by rw [Nat.zero_add]; simpa using f2⟩
/-- A block of items other than the row that is appended to. -/
theorem grown_item {w w' : World} {B : Nat} {e : TypeId} {s n : Nat} {v : Value} {xs : List Value} (_ : w.ownsRow B e s v n xs) (hg : w.grownBy w' v.ownBlock) {k : Nat} {o : Obj} (hk : w.heap[k]? = some o) (hne : some k ≠ v.ownBlock) : w'.heap[k]? = some o :=
  (hg.block k (lt_of_blk hk) hne).trans hk
theorem own_weak0 {w : World} {B B' : Nat} {e : TypeId} {s n : Nat} {v : Value} {xs : List Value} (h : w.ownsRow B e s v n xs) (hB : B' ≤ B := by simp) : w.ownsRow B' e s v n xs := by
  obtain ⟨h0, h1⟩ := h
  refine ⟨h0, ?_⟩
  rcases h1 with h1 | ⟨g, cap, cur, hv, hg, r⟩
  · exact .inl h1
  · exact .inr ⟨g, cap, cur, hv, Nat.le_trans hB hg, r⟩
set_option maxRecDepth 100000 in
set_option maxHeartbeats 4000000 in
theorem rPut_calls (D : Nat → Prop) (w : World) (r : Nat) (st : Qs) (n cost y : Int) (hwf : st.wf) (h : RQ D w r st) (hD : ∀ k, w.heap.size ≤ k → D k) :
    Calls Try.prog 25 #[.pointer (some ⟨r, 0, none⟩), .int .i64 n, .int .i64 cost, .int .i64 y] w fun e w' => e = .returned (.int .i64 (st.put n cost y).2) ∧ RQ D w' r (st.put n cost y).1 ∧ Fr D w w' := by
  have HQ := Ho.mk h; have HD := Ho.mk hD; have HWF := Ho.mk hwf
  obtain ⟨v, R, hh, hrow, hd, hri, hDr, hst, hne⟩ := h
  have hl : R.length ≤ 1024 := by
    have h1 := hwf.len; have h2 := hwf.cl.2
    rw [hst, List.length_map] at h1; omega
  have hat := fun W (hW : Fr nob w W) => at_calls W r n _ _ _ _ v st.turn R (hW.block _ _ hh (fun h => h)) (hW.row hrow) (by omega)
  have c3 : w.cell? ⟨r, 3, none⟩ = some (.int .i64 st.most) := blk_cell hh 3
  have HAT := Ho.mk hat
  have hwi := fun W => within_calls W cost st.most
  obtain ⟨res, hres⟩ : ∃ x, st.put n cost y = x := ⟨_, rfl⟩
  rw [hres]
  have HRES := Ho.mk hres
  clear hres hat
  by_cases hc : 1 ≤ cost ∧ cost ≤ st.most
  case neg =>
    rw [decide_eq_false hc] at hwi
    have HE := Ho.mk (show res = (st, 5) by
      rw [← HRES.out]; unfold Qs.put; rw [if_pos (by omega)])
    have HWI := Ho.mk hwi
    clear hh hrow hd hri hDr hst hne hl hwi hc hwf hD
    go_enter Try.func25, Try.ntmps25
    go_wp2_with (fail)
    refine (HWI.out _).mono ?_
    rintro e w1 ⟨rfl, rfl⟩
    go_wp2_with (fail)
    go_ret
    rw [HE.out]
    exact ⟨rfl, HQ.out, Fr.refl _ _⟩
  rw [decide_eq_true hc] at hwi
  have HC := Ho.mk hc
  have HWI := Ho.mk hwi
  clear hwi hc
  go_enter Try.func25, Try.ntmps25
  go_wp2_with (fail)
  refine (HWI.out _).mono ?_
  rintro e w1 ⟨rfl, rfl⟩
  obtain ⟨w, rfl⟩ : ∃ w : World, w = w1 := ⟨_, rfl⟩
  go_wp2_with (fail)
  refine (HAT.out w (Fr.refl _ _)).mono ?_
  rintro e w1 ⟨i, rfl, hat, hf⟩
  rcases hat with ⟨rfl, hall⟩ | ⟨A, x, B, hR, hx, hA, rfl⟩
  · obtain ⟨ao, cap, rfl, hc1, hc2⟩ := row_shape hrow
    have hb1 := hf.block _ _ hh (fun h => h)
    have c0 : w1.cell? ⟨r, 0, none⟩ = some (.int .i64 st.clients) := blk_cell hb1 0
    have c4 : w1.cell? ⟨r, 4, none⟩ = some (.slice ao R.length cap) := blk_cell hb1 4
    have hfn := rfind_none hst hall
    have hsl : st.ring.length = R.length := by rw [hst, List.length_map]
    obtain ⟨ln, hln⟩ : ∃ m, R.length = m := ⟨_, rfl⟩
    rw [hln] at c4 hl hc1 hsl
    have HH := Ho.mk hh; have HB1 := Ho.mk hb1; have HRW := Ho.mk hrow; have HLN := Ho.mk hln; have HF := Ho.mk hf; have HST := Ho.mk hst; have HNE := Ho.mk hne; have HRI := Ho.mk hri; have HDR := Ho.mk hDr; have HD0 := Ho.mk hd; have HFN := Ho.mk hfn; have HSL := Ho.mk hsl
    clear hh hb1 hrow hln hf hst hne hri hDr hall c3 hd hfn hsl hwf
    by_cases hfull : st.clients ≤ (ln : Int)
    · have HE := Ho.mk (show res = (st, 8) by
        rw [← HRES.out]; unfold Qs.put; have := HC.out
        rw [if_neg (by omega), HFN.out]
        show (if st.clients ≤ (st.ring.length : Int) then _ else _) = _
        rw [HSL.out, if_pos hfull])
      have d1 : decide (st.clients ≤ (ln : Int)) = true := decide_eq_true hfull
      go_wp2_with (fail)
      go_quiet (fail)
      go_wp2_with (fail)
      go_ret
      rw [HE.out]
      exact ⟨rfl, HQ.out.fr (HF.out.drewN _) (fun _ _ h => h), (HF.out.drewN _).mono (fun _ _ h => h.elim)⟩
    · have HE := Ho.mk (show res = ({ st with ring := st.ring ++ [⟨n, 0, [(cost, y)]⟩] }, 0) by
        rw [← HRES.out]; unfold Qs.put; have := HC.out
        rw [if_neg (by omega), HFN.out]
        show (if st.clients ≤ (st.ring.length : Int) then _ else _) = _
        rw [HSL.out, if_neg hfull])
      have d1 : decide (st.clients ≤ (ln : Int)) = false := decide_eq_false hfull
      clear hfull
      go_wp2_with (fail)
      go_quiet (fail)
      have HF2 := Ho.mk (HF.out.drewN nq)
      have HB2 := Ho.mk ((HF.out.drewN nq).block _ _ HH.out (fun h => h))
      generalize w1.drewN nq = w2 at *
      have hs0 := own_empty w2 75 4
      have hf0 := (Fr.refl nob w2).alloc (.cells #[] 75)
      have c42 : (w2.alloc (.cells #[] 75)).cell? ⟨r, 4, none⟩ = some (.slice ao R.length cap) := blk_cell (hf0.block _ _ HB2.out (fun h => h)) 4
      rw [HLN.out] at c42
      have hsrc : Src (w2.alloc (.cells #[] 75)) ao ln (rowC st.turn R) := by
        have h := src_take (hf0.row (HF2.out.row HRW.out)) ln (by rw [HLN.out]; exact Nat.le_refl _)
        rwa [List.take_of_length_le (by rw [rowC_len, HLN.out]; exact Nat.le_refl _)] at h
      have HS0 := Ho.mk hs0; have HF0 := Ho.mk hf0; have HSRC := Ho.mk hsrc
      clear hs0 hf0 hsrc c0 c4
      go_wp2_with (at_builtin; refine wpList_append_row rowLine rfl _ _ rfl w2.heap.size (.slice (some ⟨w2.heap.size, 0, none⟩) 0 0) 0 [] rfl HS0.out ao ln cap (rowC st.turn R) rfl (by rw [rowC_len, HLN.out]) HSRC.out (rowC_one _ _) (by omega) (by simp) ?_)
      intro ao5 cap5 w5 hown5 hf5 _
      have hf5 := hf5 w2 HF0.out (Nat.le_refl _)
      have HO5 := Ho.mk hown5; have HF5 := Ho.mk hf5
      clear hown5 hf5 c42
      have hb6 := blk_new w5 (.cells #[.int .i64 cost, .int .i64 y] 77)
      have hf6 := (Fr.refl nob w5).alloc (.cells #[.int .i64 cost, .int .i64 y] 77)
      have hs6 : (w5.alloc (.cells #[.int .i64 cost, .int .i64 y] 77)).heap.size = w5.heap.size + 1 := by simp
      have hb7 := blk_new (w5.alloc (.cells #[.int .i64 cost, .int .i64 y] 77)) (.cells #[.int .i64 n, .int .i64 0, .bool false, .slice (some ⟨w5.heap.size, 0, none⟩) 1 1] 75)
      rw [hs6] at hb7
      have hf7 := hf6.alloc (.cells #[.int .i64 n, .int .i64 0, .bool false, .slice (some ⟨w5.heap.size, 0, none⟩) 1 1] 75)
      have hbi := ((Fr.refl nob _).alloc (.cells #[.int .i64 n, .int .i64 0, .bool false, .slice (some ⟨w5.heap.size, 0, none⟩) 1 1] 75)).block _ _ hb6 (fun h => h)
      have HB7 := Ho.mk hb7; have HF7 := Ho.mk hf7; have HBI := Ho.mk hbi
      clear hb6 hf6 hs6 hb7 hf7 hbi
      go_wp2_with (at_builtin; refine wpList_append_row rowLine rfl _ _ rfl w2.heap.size (.slice ao5 ln cap5) ln (rowC st.turn R) rfl (HF7.out.row HO5.out) (some ⟨w5.heap.size + 1, 0, none⟩) 1 1 [.int .i64 n, .int .i64 0, .bool false, .slice (some ⟨w5.heap.size, 0, none⟩) 1 1] rfl rfl (src_block HB7.out 1) (by simp [Value.oneCell']) (by omega) (Nat.le_trans HF5.out.size HF7.out.size) ?_)
      intro ao8 cap8 w8 hown8 hf8 hg8
      have hf8 := hf8 w2 (HF5.out.trans HF7.out) (Nat.le_refl _)
      have hbr := hf8.block _ _ HB2.out (fun h => h)
      have c48 : w8.cell? ⟨r, 4, none⟩ = some (.slice ao R.length cap) := blk_cell hbr 4
      have f48 := blk_free hbr 4
      have hbi : w8.heap[w5.heap.size]? = some (.cells #[.int .i64 cost, .int .i64 y] 77 (0, 0)) := grown_other (HF7.out.row HO5.out) hg8 HBI.out (by decide)
      have hk := RQ.ring (D := D) (st := { st with ring := st.ring ++ [⟨n, 0, [(cost, y)]⟩] }) (R := R ++ [(⟨⟨n, 0, [(cost, y)]⟩, some ⟨w5.heap.size, 0, none⟩, 1⟩ : RL)]) (v := .slice ao8 (ln + 1) cap8) hbr rfl rfl rfl rfl HDR.out (by
          rw [List.length_append, HLN.out]
          have e : rowC st.turn (R ++ [(⟨⟨n, 0, [(cost, y)]⟩, some ⟨w5.heap.size, 0, none⟩, 1⟩ : RL)]) = rowC st.turn R ++ [.int .i64 n, .int .i64 0, .bool false, .slice (some ⟨w5.heap.size, 0, none⟩) 1 1] := by
            have h1 := rowC_append st.turn R [(⟨⟨n, 0, [(cost, y)]⟩, some ⟨w5.heap.size, 0, none⟩, 1⟩ : RL)]
            have h2 : turnOf R st.turn = st.turn := by
              cases hR : R with
              | nil => rw [HNE.out hR]; rfl
              | cons a b => rfl
            rw [h2] at h1
            rw [h1]; rfl
          show w8.ownsRow 0 75 4 _ _ (rowC st.turn _)
          rw [e]
          exact own_weak hown8)
        (fun k hk => HD.out k (Nat.le_trans HF2.out.size (own_newS hown8 hk)))
        (fun x hx => by
          rcases List.mem_append.1 hx with hx | hx
          · exact ⟨(HRI.out x hx).1.fr (HF2.out.trans hf8) (fun _ _ _ _ h => h), (HRI.out x hx).2⟩
          · simp at hx; subst hx
            refine ⟨fun j hj => ?_, Nat.le_refl _⟩
            have : j = 0 := by simp at hj; omega
            subst this
            exact ⟨_, _, _, rfl, HD.out _ (Nat.le_trans HF2.out.size HF5.out.size), hbi, rfl, rfl⟩)
        (by rw [HST.out]; simp) (by simp)
      have HK := Ho.mk hk
      have HF9 := Ho.mk (((HF2.out.trans hf8).mono (S' := fun k => k = r) (fun _ _ h => h.elim)).trans (setCellFr w8 r 4 (.slice ao8 (ln + 1) cap8)))
      clear hown8 hf8 hbr hbi hk
      go_wp2_with (fail)
      go_ret
      rw [HE.out]
      exact ⟨rfl, HK.out, HF9.out.mono (fun k _ h => by subst h; exact HDR.out)⟩
  · have hd0 : decide ((A.length : Int) < 0) = false := decide_eq_false (by omega)
    obtain ⟨ai, hai⟩ : ∃ m, A.length = m := ⟨_, rfl⟩
    have hki : ai < R.length := by rw [hR, ← hai]; simp
    have hxi : R[ai] = x := by subst hai; simp [hR]
    obtain ⟨g, cap, hv, l0, l1, l2, l3⟩ := row_line hrow ai hki
    rw [hxi] at l0 l1 l3
    subst hv
    have hrx := (hri x (by rw [hR]; simp)).1
    have hits : x.cl.its.length ≤ 64 := by
      have h1 := (hwf.its x.cl (by rw [hst, hR]; simp)).2.1; have h2 := hwf.it.2; omega
    have hfn := rfind_some (A := A) (B := B) (x := x) (n := n) (by rw [hst, hR]) hA hx
    have hgr : g ≠ r := line_not hrow hh rfl
    obtain ⟨ln, hln⟩ : ∃ m, R.length = m := ⟨_, rfl⟩
    obtain ⟨q, hq⟩ : ∃ m, x.cl.its.length = m := ⟨_, rfl⟩
    have hq64 : q ≤ 64 := by rw [← hq]; exact hits
    have hl' : ln ≤ 1024 := by omega
    have hb1 := hf.block _ _ hh (fun h => h)
    have c1 : w1.cell? ⟨r, 1, none⟩ = some (.int .i64 st.items) := blk_cell hb1 1
    have c4 : w1.cell? ⟨r, 4, none⟩ = some (.slice (some ⟨g, 0, none⟩) R.length cap) := blk_cell hb1 4
    have l3 := hf.cell (fun h => h) l3
    have hrow1 := hf.row hrow
    rw [hln] at hki c4
    rw [hq] at l3
    rw [hai] at hd0 ⊢
    have HRI := Ho.mk hri; have HDR := Ho.mk hDr; have HST := Ho.mk hst; have HH := Ho.mk hb1; have HRW := Ho.mk hrow1; have HR := Ho.mk hR; have HAI := Ho.mk hai; have HLN := Ho.mk hln; have HQL := Ho.mk hq; have HRX := Ho.mk hrx; have HF := Ho.mk hf; have HA := Ho.mk hA; have HX := Ho.mk hx; have HFN := Ho.mk hfn; have HGR := Ho.mk hgr; have HD0 := Ho.mk hd
    clear hh hrow hd hri hDr hst hne hR hai hln hq hrx hf hA hx l0 l1 l2 hxi hits hwf hfn hgr hb1 hrow1 c3 hl
    by_cases hfull : st.items ≤ (q : Int)
    · have HE := Ho.mk (show res = (st, 8) by
        rw [← HRES.out]; unfold Qs.put; have := HC.out
        rw [if_neg (by omega), HFN.out]
        show (if st.items ≤ (x.cl.its.length : Int) then _ else _) = _
        rw [HQL.out, if_pos hfull])
      have d1 : decide (st.items ≤ (q : Int)) = true := decide_eq_true hfull
      go_wp2_with (fail)
      go_quiet (fail)
      go_wp2_with (fail)
      go_ret
      rw [HE.out]
      exact ⟨rfl, HQ.out.fr (HF.out.drewN _) (fun _ _ h => h), (HF.out.drewN _).mono (fun _ _ h => h.elim)⟩
    · have HE := Ho.mk (show res = ({ st with ring := st.ring.map fun c => if c.n = n then { c with its := c.its ++ [(cost, y)] } else c }, 0) by
        rw [← HRES.out]; unfold Qs.put; have := HC.out
        rw [if_neg (by omega), HFN.out]
        show (if st.items ≤ (x.cl.its.length : Int) then _ else _) = _
        rw [HQL.out, if_neg hfull])
      have d1 : decide (st.items ≤ (q : Int)) = false := decide_eq_false hfull
      clear hfull
      go_wp2_with (fail)
      go_quiet (fail)
      have HF2 := Ho.mk (HF.out.drewN nq)
      have HB2 := Ho.mk (((Fr.refl nob w1).drewN nq).block _ _ HH.out (fun h => h))
      have HRW2 := Ho.mk (((Fr.refl nob w1).drewN nq).row HRW.out)
      have l32 : (w1.drewN nq).cell? ⟨g, ai * 4 + 3, none⟩ = some (.slice x.ao q x.cap) := l3
      clear c1 c4 l3 HRW HH HF
      generalize w1.drewN nq = wr at *
      have HC4 : Ho (∀ W, Fr nob wr W → W.cell? ⟨r, 4, none⟩ = some (.slice (some ⟨g, 0, none⟩) ln cap)) := Ho.mk fun W hW => by
        rw [← HLN.out]; exact blk_cell (hW.block _ _ HB2.out (fun h => h)) 4
      have HG3 : Ho (∀ W, Fr nob wr W → W.cell? ⟨g, ai * 4 + 3, none⟩ = some (.slice x.ao q x.cap)) := Ho.mk fun W hW => hW.cell (fun h => h) l32
      have HZ3 : Ho (∀ W, Fr nob wr W → W.frozen? ⟨g, ai * 4 + 3, none⟩ = false) := Ho.mk fun W hW => by
        rcases (hW.row HRW2.out).2 with ⟨hv, _⟩ | ⟨g', cap', cur, hv, _, hh, _⟩
        · cases hv
        · injection hv with e1 _ _
          injection e1 with e1
          injection e1 with e1
          subst e1
          exact blk_free hh _
      have HSR : Ho (∀ W, Fr nob wr W → Src W x.ao q (flat x.cl.its)) := Ho.mk fun W hW => by
        by_cases h0 : q = 0
        · exact .inl h0
        · obtain ⟨g', off, cur, ha, _⟩ := HRX.out 0 (by rw [HQL.out]; omega)
          refine .inr ⟨_, ha, fun j u hj => ?_⟩
          rw [addr_add0]
          have hjl := (List.getElem?_eq_some_iff.1 hj).1
          rw [flat_len, HQL.out] at hjl
          have hj2 : j / 2 < x.cl.its.length := by rw [HQL.out]; omega
          obtain ⟨g2, off2, cur2, ha2, _, hb2, k1, k2⟩ := HRX.out (j / 2) hj2
          rw [ha] at ha2
          injection ha2 with ha2
          injection ha2 with e1 e2 _
          subst e1 e2
          have hbw := (HF2.out.trans hW).block _ _ hb2 (fun h => h)
          rw [blk_cell hbw]
          obtain ⟨f1, f2⟩ := flat_get x.cl.its (j / 2) x.cl.its[j / 2] (by simp)
          by_cases hp : j % 2 = 0
          · have ej : j = j / 2 * 2 := by omega
            rw [ej] at hj ⊢
            rw [f1] at hj; rw [← hj]; exact k1
          · have ej : j = j / 2 * 2 + 1 := by omega
            rw [ej] at hj ⊢
            rw [f2] at hj; rw [← hj, ← Nat.add_assoc]; exact k2
      have FE : Fr nob wr (wr.alloc (.cells #[] 77)).drew := ((Fr.refl nob wr).alloc _).drew
      have FI : Fr nob wr (wr.alloc (.cells #[.int .i64 cost, .int .i64 y] 77)).drew := ((Fr.refl nob wr).alloc _).drew
      have FEI : Fr nob wr ((wr.alloc (.cells #[] 77)).alloc (.cells #[.int .i64 cost, .int .i64 y] 77)).drew := (((Fr.refl nob wr).alloc _).alloc _).drew
      have FIE : Fr nob wr ((wr.alloc (.cells #[.int .i64 cost, .int .i64 y] 77)).alloc (.cells #[] 77)).drew := (((Fr.refl nob wr).alloc _).alloc _).drew
      have c0 := HC4.out _ (Fr.refl nob wr).drew; have cE := HC4.out _ FE; have cI := HC4.out _ FI; have cEI := HC4.out _ FEI; have cIE := HC4.out _ FIE
      have d0 := HG3.out _ (Fr.refl nob wr).drew; have dE := HG3.out _ FE; have dI := HG3.out _ FI; have dEI := HG3.out _ FEI; have dIE := HG3.out _ FIE
      have HOE := Ho.mk ((own_empty wr 77 2).drew)
      have HOEI := Ho.mk (((own_empty wr 77 2).alloc (.cells #[.int .i64 cost, .int .i64 y] 77)).drew)
      have HOIE : Ho (World.ownsRow ((wr.alloc (.cells #[.int .i64 cost, .int .i64 y] 77)).alloc (.cells #[] 77)).drew (wr.heap.size + 1) 77 2 (.slice (some ⟨wr.heap.size + 1, 0, none⟩) 0 0) 0 []) := Ho.mk (by
        have h := own_empty (wr.alloc (.cells #[.int .i64 cost, .int .i64 y] 77)) 77 2
        have e : (wr.alloc (.cells #[.int .i64 cost, .int .i64 y] 77)).heap.size = wr.heap.size + 1 := by simp
        rw [e] at h; exact h.drew)
      have HBI : Ho (∀ (W0 : World), (W0.alloc (Obj.cells #[.int .i64 cost, .int .i64 y] 77)).heap[W0.heap.size]? = some (Obj.cells #[.int .i64 cost, .int .i64 y] 77)) := Ho.mk fun W0 => blk_new W0 _
      have HBEI : Ho ((World.heap ((wr.alloc (.cells #[] 77)).alloc (.cells #[.int .i64 cost, .int .i64 y] 77)).drew)[wr.heap.size + 1]? = some (Obj.cells #[.int .i64 cost, .int .i64 y] 77)) := Ho.mk (by
        have h := blk_new (wr.alloc (.cells #[] 77)) (Obj.cells #[.int .i64 cost, .int .i64 y] 77)
        have e : (wr.alloc (.cells #[] 77)).heap.size = wr.heap.size + 1 := by simp
        rw [e] at h; exact h)
      have HBIE : Ho ((World.heap ((wr.alloc (.cells #[.int .i64 cost, .int .i64 y] 77)).alloc (.cells #[] 77)).drew)[wr.heap.size]? = some (Obj.cells #[.int .i64 cost, .int .i64 y] 77)) := Ho.mk (blk_old (blk_new wr (Obj.cells #[.int .i64 cost, .int .i64 y] 77)) (.cells #[] 77))
      have G0 : Fr (fun k => k = g) wr wr.drew := (Fr.refl _ wr).drew
      have GE : Fr (fun k => k = g) wr (wr.alloc (.cells #[] 77)).drew := FE.mono (fun _ _ h => h.elim)
      have GI : Fr (fun k => k = g) wr (wr.alloc (.cells #[.int .i64 cost, .int .i64 y] 77)).drew := FI.mono (fun _ _ h => h.elim)
      have GEI : Fr (fun k => k = g) wr ((wr.alloc (.cells #[] 77)).alloc (.cells #[.int .i64 cost, .int .i64 y] 77)).drew := FEI.mono (fun _ _ h => h.elim)
      have GIE : Fr (fun k => k = g) wr ((wr.alloc (.cells #[.int .i64 cost, .int .i64 y] 77)).alloc (.cells #[] 77)).drew := FIE.mono (fun _ _ h => h.elim)
      have HFE := Ho.mk FE; have HFI := Ho.mk FI; have HFEI := Ho.mk FEI; have HFIE := Ho.mk FIE
      clear FE FI FEI FIE
      have KEY : Ho (∀ w6 ao6 cap6, Fr nob wr w6 → w6.ownsRow wr.heap.size 77 2 (.slice ao6 (q + 1) cap6) (q + 1) (flat x.cl.its ++ [.int .i64 cost, .int .i64 y]) →
          RQ D (w6.setCell ⟨g, ai * 4 + 3, none⟩ (.slice ao6 (q + 1) cap6)) r res.1 ∧ Fr D w (w6.setCell ⟨g, ai * 4 + 3, none⟩ (.slice ao6 (q + 1) cap6)) ∧
          (w6.setCell ⟨g, ai * 4 + 3, none⟩ (.slice ao6 (q + 1) cap6)).cell? ⟨r, 4, none⟩ = some (.slice (some ⟨g, 0, none⟩) ln cap) ∧ Fr (fun k => k = g) wr (w6.setCell ⟨g, ai * 4 + 3, none⟩ (.slice ao6 (q + 1) cap6))) := Ho.mk fun w6 ao6 cap6 hf6 ho6 => by
        have hrow6 := hf6.row HRW2.out
        have hst6 := setCellFr w6 g (ai * 4 + 3) (.slice ao6 (q + 1) cap6)
        have hr6 := hf6.block _ _ HB2.out (fun h => h)
        have hset := own_set hrow6 (ai * 4 + 3) (by rw [HLN.out]; omega) (.slice ao6 (q + 1) cap6)
        have hnot : ∀ k cur, w6.heap[k]? = some (.cells cur 77 (0, 0)) → k ≠ g := by
          rintro k cur hk rfl
          rcases hrow6.2 with ⟨hv, _⟩ | ⟨g', cap', cur', hv, _, hh, _⟩
          · cases hv
          · injection hv with e1 _ _
            injection e1 with e1
            injection e1 with e1
            subst e1
            rw [hk] at hh; simp at hh
        have hb9 := blk_far hr6 ⟨g, ai * 4 + 3, none⟩ (fun h => HGR.out h.symm) (.slice ao6 (q + 1) cap6)
        have hit : RI D w6 ao6 (x.cl.its ++ [(cost, y)]) := RI.own (B := wr.heap.size) (cap := cap6) (by rw [List.length_append, HQL.out, flat_append]; exact ho6) (fun k hk => HD.out k (Nat.le_trans HF2.out.size hk))
        refine ⟨?_, ?_, ?_, ?_⟩
        · rw [HE.out]
          refine ⟨_, A ++ (⟨{ x.cl with its := x.cl.its ++ [(cost, y)] }, ao6, cap6⟩ : RL) :: B, hb9, ?_, HD0.out, ?_, HDR.out, ?_, ?_⟩
          · have e := rowC_set st.turn A B x ⟨{ x.cl with its := x.cl.its ++ [(cost, y)] }, ao6, cap6⟩ rfl rfl
            have el : (A ++ (⟨{ x.cl with its := x.cl.its ++ [(cost, y)] }, ao6, cap6⟩ : RL) :: B).length = R.length := by rw [HR.out]; simp
            show World.ownsRow _ 0 75 4 _ _ (rowC st.turn _)
            rw [el, e, ← HR.out, HAI.out]
            have e6 : (x.cl.its ++ [(cost, y)]).length = q + 1 := by rw [List.length_append, HQL.out]; rfl
            rw [e6]
            exact hset
          · intro z hz
            rcases List.mem_append.1 hz with hz | hz
            · have hz := HRI.out z (by rw [HR.out]; simp [hz])
              exact ⟨(hz.1.fr (HF2.out.trans hf6) (fun _ _ _ _ h => h)).fr hst6 (fun k cur _ hc => hnot k cur hc), hz.2⟩
            · rcases List.mem_cons.1 hz with rfl | hz
              · exact ⟨hit.fr hst6 (fun k cur _ hc => hnot k cur hc), by rw [List.length_append, HQL.out]; exact own_le ho6⟩
              · have hz := HRI.out z (by rw [HR.out]; simp [hz])
                exact ⟨(hz.1.fr (HF2.out.trans hf6) (fun _ _ _ _ h => h)).fr hst6 (fun k cur _ hc => hnot k cur hc), hz.2⟩
          · have hnd := HWF.out.nums
            have hrg : st.ring = A.map (·.cl) ++ x.cl :: B.map (·.cl) := by rw [HST.out, HR.out]; simp
            rw [hrg, List.map_append, List.map_cons, List.nodup_append, List.nodup_cons] at hnd
            show st.ring.map _ = _
            rw [hrg, List.map_append, List.map_cons, List.map_append, List.map_cons, if_pos HX.out]
            congr 1
            · rw [List.map_map]
              refine (List.map_congr_left fun a ha => ?_)
              show (if a.cl.n = n then _ else _) = _
              rw [if_neg (HA.out a ha)]
            · congr 1
              rw [List.map_map]
              refine (List.map_congr_left fun a ha => ?_)
              show (if a.cl.n = n then _ else _) = _
              rw [if_neg (fun e => hnd.2.1.1 (by rw [HX.out, ← e]; exact List.mem_map_of_mem (List.mem_map_of_mem ha)))]
          · intro h; simp at h
        · exact (((HF2.out.trans hf6).mono (S' := D) (fun _ _ h => h.elim))).trans (hst6.mono (fun k _ h => by subst h; exact HD0.out k rfl))
        · rw [← HLN.out]; exact blk_cell hb9 4
        · exact (hf6.mono (fun _ _ h => h.elim)).trans hst6
      go_wp2_with (fail)
      refine wp_region_held_drew (S := fun W => W.cell? ⟨r, 4, none⟩ = some (.slice (some ⟨g, 0, none⟩) ln cap) ∧ Fr (fun k => k = g) wr W) (by kernel_rfl) (by exact ⟨by assumption, by assumption⟩) (fun hHeld => ?_)
      refine wpAnyH_take (i := 0) (oi := _) (v := ?v1) rfl (by kernel_rfl) (by kernel_rfl) (by kernel_rfl) (fun _ _ _ h => h) (Or.inl ⟨by rfl, ?hy1⟩) (by assumption) ?rest1
      case hy1 => (intro w hSw; (try dsimp only at hSw); go_simp; try (with_reducible rfl))
      try simp only [List.getElem_toArray, List.getElem_cons_zero, List.getElem_cons_succ, Act.put, List.setIfInBounds_toArray, List.set_cons_zero, List.set_cons_succ]
      refine wpAnyH_take (i := 1) (oi := _) (v := ?v2) rfl (by kernel_rfl) (by kernel_rfl) (by kernel_rfl) (fun _ _ _ h => h) (Or.inl ⟨by rfl, ?hy2⟩) (by assumption) ?rest2
      case hy2 => (intro w hSw; (try dsimp only at hSw); go_simp; try (with_reducible rfl))
      try simp only [List.getElem_toArray, List.getElem_cons_zero, List.getElem_cons_succ, Act.put, List.setIfInBounds_toArray, List.set_cons_zero, List.set_cons_succ]
      refine wpAnyH_take (i := 2) (oi := _) (v := ?v3) rfl (by kernel_rfl) (by kernel_rfl) (by kernel_rfl) (fun _ _ _ h => h) (Or.inl ⟨by rfl, ?hy3⟩) (by assumption) ?rest3
      case hy3 => (intro w hSw; (try dsimp only at hSw); go_simp; try (with_reducible rfl))
      try simp only [List.getElem_toArray, List.getElem_cons_zero, List.getElem_cons_succ, Act.put, List.setIfInBounds_toArray, List.set_cons_zero, List.set_cons_succ]
      refine wpAnyH_take (i := 3) (oi := _) (v := ?v4) rfl (by kernel_rfl) (by kernel_rfl) (by kernel_rfl) (fun _ _ _ h => h) (Or.inl ⟨by rfl, ?hy4⟩) (by assumption) ?rest4
      case hy4 => (intro w hSw; (try dsimp only at hSw); go_simp; try (with_reducible rfl))
      try simp only [List.getElem_toArray, List.getElem_cons_zero, List.getElem_cons_succ, Act.put, List.setIfInBounds_toArray, List.set_cons_zero, List.set_cons_succ]
      refine wpAnyH_take (i := 4) (oi := _) (v := ?v5) rfl (by kernel_rfl) (by kernel_rfl) (by kernel_rfl) (fun _ _ _ h => h) (Or.inl ⟨by rfl, ?hy5⟩) (by assumption) ?rest5
      case hy5 => (intro w hSw; (try dsimp only at hSw); go_simp; try (with_reducible rfl))
      try simp only [List.getElem_toArray, List.getElem_cons_zero, List.getElem_cons_succ, Act.put, List.setIfInBounds_toArray, List.set_cons_zero, List.set_cons_succ]
      refine wpAnyH_take (i := 6) (oi := _) (v := ?v6) rfl (by kernel_rfl) (by kernel_rfl) (by kernel_rfl) (fun _ _ _ h => h) (Or.inl ⟨by rfl, ?hy6⟩) (by assumption) ?rest6
      case hy6 => (intro w hSw; (try dsimp only at hSw); go_simp; try (with_reducible rfl))
      try simp only [List.getElem_toArray, List.getElem_cons_zero, List.getElem_cons_succ, Act.put, List.setIfInBounds_toArray, List.set_cons_zero, List.set_cons_succ]
      refine wpAnyH_take (i := 7) (oi := _) (v := ?v7) rfl (by kernel_rfl) (by kernel_rfl) (by kernel_rfl) (fun _ _ _ h => h) (Or.inl ⟨by rfl, ?hy7⟩) (by assumption) ?rest7
      case hy7 => (intro w hSw; (try dsimp only at hSw); go_simp; try (with_reducible rfl))
      try simp only [List.getElem_toArray, List.getElem_cons_zero, List.getElem_cons_succ, Act.put, List.setIfInBounds_toArray, List.set_cons_zero, List.set_cons_succ]
      refine wpAnyH_take (i := 8) (oi := _) (v := ?v8) rfl (by kernel_rfl) (by kernel_rfl) (by kernel_rfl) (fun _ _ _ h => h) (Or.inl ⟨by rfl, ?hy8⟩) (by assumption) ?rest8
      case hy8 => (intro w hSw; (try dsimp only at hSw); go_simp; try (with_reducible rfl))
      try simp only [List.getElem_toArray, List.getElem_cons_zero, List.getElem_cons_succ, Act.put, List.setIfInBounds_toArray, List.set_cons_zero, List.set_cons_succ]
      refine wpAnyH_take (i := 9) (oi := _) (v := ?v9) rfl (by kernel_rfl) (by kernel_rfl) (by kernel_rfl) (fun _ _ _ h => h) (Or.inl ⟨by rfl, ?hy9⟩) (by assumption) ?rest9
      case hy9 => (intro w hSw; (try dsimp only at hSw); go_simp; try (with_reducible rfl))
      try simp only [List.getElem_toArray, List.getElem_cons_zero, List.getElem_cons_succ, Act.put, List.setIfInBounds_toArray, List.set_cons_zero, List.set_cons_succ]
      refine wpAnyH_take (i := 10) (oi := _) (v := ?v10) rfl (by kernel_rfl) (by kernel_rfl) (by kernel_rfl) (fun _ _ _ h => h) (Or.inl ⟨by rfl, ?hy10⟩) (by assumption) ?rest10
      case hy10 => (intro w hSw; (try dsimp only at hSw); go_simp; try (with_reducible rfl))
      try simp only [List.getElem_toArray, List.getElem_cons_zero, List.getElem_cons_succ, Act.put, List.setIfInBounds_toArray, List.set_cons_zero, List.set_cons_succ]
      refine wpAnyH_take (i := 11) (oi := _) (v := ?v11) rfl (by kernel_rfl) (by kernel_rfl) (by kernel_rfl) (fun _ _ _ h => h) (Or.inl ⟨by rfl, ?hy11⟩) (by assumption) ?rest11
      case hy11 => (intro w hSw; (try dsimp only at hSw); go_simp; try (with_reducible rfl))
      try simp only [List.getElem_toArray, List.getElem_cons_zero, List.getElem_cons_succ, Act.put, List.setIfInBounds_toArray, List.set_cons_zero, List.set_cons_succ]
      refine wpAnyH_take (i := 12) (oi := _) (v := ?v12) rfl (by kernel_rfl) (by kernel_rfl) (by kernel_rfl) (fun _ _ _ h => h) (Or.inl ⟨by rfl, ?hy12⟩) (by assumption) ?rest12
      case hy12 => (intro w hSw; (try dsimp only at hSw); go_simp; try (with_reducible rfl))
      try simp only [List.getElem_toArray, List.getElem_cons_zero, List.getElem_cons_succ, Act.put, List.setIfInBounds_toArray, List.set_cons_zero, List.set_cons_succ]
      refine wpAnyH_take (i := 15) (oi := _) (v := ?v13) rfl (by kernel_rfl) (by kernel_rfl) (by kernel_rfl) (fun _ _ _ h => h) (Or.inl ⟨by rfl, ?hy13⟩) (by assumption) ?rest13
      case hy13 => (intro w hSw; (try dsimp only at hSw); go_simp; try (with_reducible rfl))
      try simp only [List.getElem_toArray, List.getElem_cons_zero, List.getElem_cons_succ, Act.put, List.setIfInBounds_toArray, List.set_cons_zero, List.set_cons_succ]
      refine wpAnyH_take (i := 16) (oi := _) (v := ?v14) rfl (by kernel_rfl) (by kernel_rfl) (by kernel_rfl) (fun _ _ _ h => h) (Or.inl ⟨by rfl, ?hy14⟩) (by assumption) ?rest14
      case hy14 => (intro w hSw; (try dsimp only at hSw); go_simp; try (with_reducible rfl))
      try simp only [List.getElem_toArray, List.getElem_cons_zero, List.getElem_cons_succ, Act.put, List.setIfInBounds_toArray, List.set_cons_zero, List.set_cons_succ]
      refine wpAnyH_take (i := 17) (oi := _) (v := ?v15) rfl (by kernel_rfl) (by kernel_rfl) (by kernel_rfl) (fun _ _ _ h => h) (Or.inl ⟨by rfl, ?hy15⟩) (by assumption) ?rest15
      case hy15 => (intro w hSw; (try dsimp only at hSw); go_simp; try (with_reducible rfl))
      try simp only [List.getElem_toArray, List.getElem_cons_zero, List.getElem_cons_succ, Act.put, List.setIfInBounds_toArray, List.set_cons_zero, List.set_cons_succ]
      refine wpAnyH_ready (rs := [5, 13, 18]) (by kernel_rfl) (by simp) ?_
      refine AllReadyH.cons (o := _) rfl (fun K hK => ?_) ?_
      · go_simp
        refine hK.out _ _ (by exact ⟨by assumption, by assumption⟩) (fun hHeld => ?_)
        clear hK K
        try simp only [List.getElem_toArray, List.getElem_cons_zero, List.getElem_cons_succ, Act.put, List.setIfInBounds_toArray, List.set_cons_zero, List.set_cons_succ]
        refine wpAnyH_ready (rs := [13, 18]) (by kernel_rfl) (by simp) ?_
        refine AllReadyH.cons (o := _) rfl (fun K hK => ?_) ?_
        · go_simp
          refine hK.out _ _ (by exact ⟨by assumption, by assumption⟩) (fun hHeld => ?_)
          clear hK K
          try simp only [List.getElem_toArray, List.getElem_cons_zero, List.getElem_cons_succ, Act.put, List.setIfInBounds_toArray, List.set_cons_zero, List.set_cons_succ]
          refine wpAnyH_ready (rs := [14, 18]) (by kernel_rfl) (by simp) ?_
          refine AllReadyH.cons (o := _) rfl (fun K hK => ?_) ?_
          · first
              | (refine step_append_row rowItem (by rfl) _ _ (by rfl) _ _ 0 [] (by rfl) HOE.out x.ao q x.cap (flat x.cl.its) (by rfl) (by rw [flat_len, HQL.out]) (HSR.out _ HFE.out) (flat_one _) (by omega) (by simp <;> omega) ?_; intro ao5 cap5 w5 hown5 hf5 hg5; have hf5 := hf5 wr HFE.out (by simp); have hg5' := hf5.mono (S' := fun k => k = g) (fun _ _ h => h.elim); have hc5 := HC4.out w5 hf5; have HF5 := Ho.mk hf5; have hown5 := own_weak0 (B' := wr.heap.size) hown5; rw [Nat.zero_add, List.nil_append] at hown5; simp only [Nat.zero_add]; have HO5 := Ho.mk hown5; have hf5I := hf5.alloc (Obj.cells #[.int .i64 cost, .int .i64 y] 77); have hg5I := hf5I.mono (S' := fun k => k = g) (fun _ _ h => h.elim); have hc5I := HC4.out _ hf5I; have HF5I := Ho.mk hf5I; clear hf5I hown5 hf5 hg5)
              | (refine step_append_row rowItem (by rfl) _ _ (by rfl) _ _ 0 [] (by rfl) HOEI.out x.ao q x.cap (flat x.cl.its) (by rfl) (by rw [flat_len, HQL.out]) (HSR.out _ HFEI.out) (flat_one _) (by omega) (by simp <;> omega) ?_; intro ao5 cap5 w5 hown5 hf5 hg5; have hf5 := hf5 wr HFEI.out (by simp); have hg5' := hf5.mono (S' := fun k => k = g) (fun _ _ h => h.elim); have hc5 := HC4.out w5 hf5; have hb5 := grown_item HOEI.out hg5 HBEI.out (by simp [Value.ownBlock]); have HB5 := Ho.mk hb5; clear hb5; have HF5 := Ho.mk hf5; have hown5 := own_weak0 (B' := wr.heap.size) hown5; rw [Nat.zero_add, List.nil_append] at hown5; simp only [Nat.zero_add]; have HO5 := Ho.mk hown5; have hf5I := hf5.alloc (Obj.cells #[.int .i64 cost, .int .i64 y] 77); have hg5I := hf5I.mono (S' := fun k => k = g) (fun _ _ h => h.elim); have hc5I := HC4.out _ hf5I; have HF5I := Ho.mk hf5I; clear hf5I hown5 hf5 hg5)
              | (refine step_append_row rowItem (by rfl) _ _ (by rfl) _ _ 0 [] (by rfl) HOIE.out x.ao q x.cap (flat x.cl.its) (by rfl) (by rw [flat_len, HQL.out]) (HSR.out _ HFIE.out) (flat_one _) (by omega) (by simp <;> omega) ?_; intro ao5 cap5 w5 hown5 hf5 hg5; have hf5 := hf5 wr HFIE.out (by omega); have hg5' := hf5.mono (S' := fun k => k = g) (fun _ _ h => h.elim); have hc5 := HC4.out w5 hf5; have hb5 := grown_item HOIE.out hg5 HBIE.out (by simp [Value.ownBlock]); have HB5 := Ho.mk hb5; clear hb5; have HF5 := Ho.mk hf5; have hown5 := own_weak0 (B' := wr.heap.size) hown5; rw [Nat.zero_add, List.nil_append] at hown5; simp only [Nat.zero_add]; have HO5 := Ho.mk hown5; have hf5I := hf5.alloc (Obj.cells #[.int .i64 cost, .int .i64 y] 77); have hg5I := hf5I.mono (S' := fun k => k = g) (fun _ _ h => h.elim); have hc5I := HC4.out _ hf5I; have HF5I := Ho.mk hf5I; clear hf5I hown5 hf5 hg5)
            refine hK.out _ _ (by exact ⟨by assumption, by assumption⟩) (fun hHeld => ?_)
            clear hK K
            try simp only [List.getElem_toArray, List.getElem_cons_zero, List.getElem_cons_succ, Act.put, List.setIfInBounds_toArray, List.set_cons_zero, List.set_cons_succ]
            refine wpAnyH_ready (rs := [18]) (by kernel_rfl) (by simp) ?_
            refine AllReadyH.cons (o := _) rfl (fun K hK => ?_) ?_
            · go_simp
              refine hK.out _ _ (by exact ⟨by assumption, by assumption⟩) (fun hHeld => ?_)
              clear hK K
              try simp only [List.getElem_toArray, List.getElem_cons_zero, List.getElem_cons_succ, Act.put, List.setIfInBounds_toArray, List.set_cons_zero, List.set_cons_succ]
              refine wpAnyH_ready (rs := [19]) (by kernel_rfl) (by simp) ?_
              refine AllReadyH.cons (o := _) rfl (fun K hK => ?_) ?_
              · first
                  | (refine step_append_row rowItem (by rfl) _ _ (by rfl) wr.heap.size (.slice ao5 q cap5) q (flat x.cl.its) (by rfl) (HO5.out) (some ⟨wr.heap.size + 1, 0, none⟩) 1 1 [.int .i64 cost, .int .i64 y] (by rfl) (by rfl) (src_block HB5.out 1) (by simp [Value.oneCell']) (by omega) (Nat.le_trans (by simp) HF5.out.size) ?_; intro ao6 cap6 w6 hown6 hf6 hg6; have hf6 := hf6 wr HF5.out (by simp); have hc6 := HC4.out w6 hf6; have hq6 := hf6.mono (S' := fun k => k = g) (fun _ _ h => h.elim); have hz6 := HZ3.out w6 hf6; have hd6 := HG3.out w6 hf6; obtain ⟨k1, k2, k3, k4⟩ := KEY.out w6 ao6 cap6 hf6 (own_weak0 hown6); have K1 := Ho.mk k1; have K2 := Ho.mk k2; clear k1 k2 hf6 hown6 hg6)
                  | (refine step_append_row rowItem (by rfl) _ _ (by rfl) wr.heap.size (.slice ao5 q cap5) q (flat x.cl.its) (by rfl) (HO5.out) (some ⟨wr.heap.size, 0, none⟩) 1 1 [.int .i64 cost, .int .i64 y] (by rfl) (by rfl) (src_block HB5.out 1) (by simp [Value.oneCell']) (by omega) (Nat.le_trans (by simp) HF5.out.size) ?_; intro ao6 cap6 w6 hown6 hf6 hg6; have hf6 := hf6 wr HF5.out (by simp); have hc6 := HC4.out w6 hf6; have hq6 := hf6.mono (S' := fun k => k = g) (fun _ _ h => h.elim); have hz6 := HZ3.out w6 hf6; have hd6 := HG3.out w6 hf6; obtain ⟨k1, k2, k3, k4⟩ := KEY.out w6 ao6 cap6 hf6 (own_weak0 hown6); have K1 := Ho.mk k1; have K2 := Ho.mk k2; clear k1 k2 hf6 hown6 hg6)
                  | (refine step_append_row rowItem (by rfl) _ _ (by rfl) wr.heap.size (.slice ao5 q cap5) q (flat x.cl.its) (by rfl) (HO5.out.alloc _) (some ⟨w5.heap.size, 0, none⟩) 1 1 [.int .i64 cost, .int .i64 y] (by rfl) (by rfl) (src_block (HBI.out w5) 1) (by simp [Value.oneCell']) (by omega) (Nat.le_trans (by simp) HF5I.out.size) ?_; intro ao6 cap6 w6 hown6 hf6 hg6; have hf6 := hf6 wr HF5I.out (by simp); have hc6 := HC4.out w6 hf6; have hq6 := hf6.mono (S' := fun k => k = g) (fun _ _ h => h.elim); have hz6 := HZ3.out w6 hf6; have hd6 := HG3.out w6 hf6; obtain ⟨k1, k2, k3, k4⟩ := KEY.out w6 ao6 cap6 hf6 (own_weak0 hown6); have K1 := Ho.mk k1; have K2 := Ho.mk k2; clear k1 k2 hf6 hown6 hg6)
                refine hK.out _ _ (by exact ⟨by assumption, by assumption⟩) (fun hHeld => ?_)
                clear hK K
                try simp only [List.getElem_toArray, List.getElem_cons_zero, List.getElem_cons_succ, Act.put, List.setIfInBounds_toArray, List.set_cons_zero, List.set_cons_succ]
                refine wpAnyH_take (i := 20) (oi := _) (v := ?v16) rfl (by kernel_rfl) (by kernel_rfl) (by kernel_rfl) (fun _ _ _ h => h) (Or.inl ⟨by rfl, ?hy16⟩) (by assumption) ?rest16
                case hy16 => (intro w hSw; (try dsimp only at hSw); go_simp; try (with_reducible rfl))
                try simp only [List.getElem_toArray, List.getElem_cons_zero, List.getElem_cons_succ, Act.put, List.setIfInBounds_toArray, List.set_cons_zero, List.set_cons_succ]
                refine wpAnyH_take (i := 21) (oi := _) (v := ?v17) rfl (by kernel_rfl) (by kernel_rfl) (by kernel_rfl) (fun _ _ _ h => h) (Or.inl ⟨by rfl, ?hy17⟩) (by assumption) ?rest17
                case hy17 => (intro w hSw; (try dsimp only at hSw); go_simp; try (with_reducible rfl))
                try simp only [List.getElem_toArray, List.getElem_cons_zero, List.getElem_cons_succ, Act.put, List.setIfInBounds_toArray, List.set_cons_zero, List.set_cons_succ]
                refine wpAnyH_ready (rs := [22]) (by kernel_rfl) (by simp) ?_
                refine AllReadyH.cons (o := _) rfl (fun K hK => ?_) ?_
                · go_simp
                  refine hK.out _ _ (by exact ⟨by assumption, by assumption⟩) (fun hHeld => ?_)
                  clear hK K
                  try simp only [List.getElem_toArray, List.getElem_cons_zero, List.getElem_cons_succ, Act.put, List.setIfInBounds_toArray, List.set_cons_zero, List.set_cons_succ]
                  refine wpAnyH_done (by kernel_rfl) ?_ _
                  go_wp2_with (fail)
                  go_ret
                  rw [HE.out] at *
                  exact ⟨rfl, K1.out, K2.out⟩
                exact AllReadyH.nil
              exact AllReadyH.nil
            exact AllReadyH.nil
          refine AllReadyH.cons (o := _) rfl (fun K hK => ?_) ?_
          · go_simp
            refine hK.out _ _ (by exact ⟨by assumption, by assumption⟩) (fun hHeld => ?_)
            clear hK K
            try simp only [List.getElem_toArray, List.getElem_cons_zero, List.getElem_cons_succ, Act.put, List.setIfInBounds_toArray, List.set_cons_zero, List.set_cons_succ]
            refine wpAnyH_ready (rs := [14]) (by kernel_rfl) (by simp) ?_
            refine AllReadyH.cons (o := _) rfl (fun K hK => ?_) ?_
            · first
                | (refine step_append_row rowItem (by rfl) _ _ (by rfl) _ _ 0 [] (by rfl) HOE.out x.ao q x.cap (flat x.cl.its) (by rfl) (by rw [flat_len, HQL.out]) (HSR.out _ HFE.out) (flat_one _) (by omega) (by simp <;> omega) ?_; intro ao5 cap5 w5 hown5 hf5 hg5; have hf5 := hf5 wr HFE.out (by simp); have hg5' := hf5.mono (S' := fun k => k = g) (fun _ _ h => h.elim); have hc5 := HC4.out w5 hf5; have HF5 := Ho.mk hf5; have hown5 := own_weak0 (B' := wr.heap.size) hown5; rw [Nat.zero_add, List.nil_append] at hown5; simp only [Nat.zero_add]; have HO5 := Ho.mk hown5; have hf5I := hf5.alloc (Obj.cells #[.int .i64 cost, .int .i64 y] 77); have hg5I := hf5I.mono (S' := fun k => k = g) (fun _ _ h => h.elim); have hc5I := HC4.out _ hf5I; have HF5I := Ho.mk hf5I; clear hf5I hown5 hf5 hg5)
                | (refine step_append_row rowItem (by rfl) _ _ (by rfl) _ _ 0 [] (by rfl) HOEI.out x.ao q x.cap (flat x.cl.its) (by rfl) (by rw [flat_len, HQL.out]) (HSR.out _ HFEI.out) (flat_one _) (by omega) (by simp <;> omega) ?_; intro ao5 cap5 w5 hown5 hf5 hg5; have hf5 := hf5 wr HFEI.out (by simp); have hg5' := hf5.mono (S' := fun k => k = g) (fun _ _ h => h.elim); have hc5 := HC4.out w5 hf5; have hb5 := grown_item HOEI.out hg5 HBEI.out (by simp [Value.ownBlock]); have HB5 := Ho.mk hb5; clear hb5; have HF5 := Ho.mk hf5; have hown5 := own_weak0 (B' := wr.heap.size) hown5; rw [Nat.zero_add, List.nil_append] at hown5; simp only [Nat.zero_add]; have HO5 := Ho.mk hown5; have hf5I := hf5.alloc (Obj.cells #[.int .i64 cost, .int .i64 y] 77); have hg5I := hf5I.mono (S' := fun k => k = g) (fun _ _ h => h.elim); have hc5I := HC4.out _ hf5I; have HF5I := Ho.mk hf5I; clear hf5I hown5 hf5 hg5)
                | (refine step_append_row rowItem (by rfl) _ _ (by rfl) _ _ 0 [] (by rfl) HOIE.out x.ao q x.cap (flat x.cl.its) (by rfl) (by rw [flat_len, HQL.out]) (HSR.out _ HFIE.out) (flat_one _) (by omega) (by simp <;> omega) ?_; intro ao5 cap5 w5 hown5 hf5 hg5; have hf5 := hf5 wr HFIE.out (by omega); have hg5' := hf5.mono (S' := fun k => k = g) (fun _ _ h => h.elim); have hc5 := HC4.out w5 hf5; have hb5 := grown_item HOIE.out hg5 HBIE.out (by simp [Value.ownBlock]); have HB5 := Ho.mk hb5; clear hb5; have HF5 := Ho.mk hf5; have hown5 := own_weak0 (B' := wr.heap.size) hown5; rw [Nat.zero_add, List.nil_append] at hown5; simp only [Nat.zero_add]; have HO5 := Ho.mk hown5; have hf5I := hf5.alloc (Obj.cells #[.int .i64 cost, .int .i64 y] 77); have hg5I := hf5I.mono (S' := fun k => k = g) (fun _ _ h => h.elim); have hc5I := HC4.out _ hf5I; have HF5I := Ho.mk hf5I; clear hf5I hown5 hf5 hg5)
              refine hK.out _ _ (by exact ⟨by assumption, by assumption⟩) (fun hHeld => ?_)
              clear hK K
              try simp only [List.getElem_toArray, List.getElem_cons_zero, List.getElem_cons_succ, Act.put, List.setIfInBounds_toArray, List.set_cons_zero, List.set_cons_succ]
              refine wpAnyH_ready (rs := [19]) (by kernel_rfl) (by simp) ?_
              refine AllReadyH.cons (o := _) rfl (fun K hK => ?_) ?_
              · first
                  | (refine step_append_row rowItem (by rfl) _ _ (by rfl) wr.heap.size (.slice ao5 q cap5) q (flat x.cl.its) (by rfl) (HO5.out) (some ⟨wr.heap.size + 1, 0, none⟩) 1 1 [.int .i64 cost, .int .i64 y] (by rfl) (by rfl) (src_block HB5.out 1) (by simp [Value.oneCell']) (by omega) (Nat.le_trans (by simp) HF5.out.size) ?_; intro ao6 cap6 w6 hown6 hf6 hg6; have hf6 := hf6 wr HF5.out (by simp); have hc6 := HC4.out w6 hf6; have hq6 := hf6.mono (S' := fun k => k = g) (fun _ _ h => h.elim); have hz6 := HZ3.out w6 hf6; have hd6 := HG3.out w6 hf6; obtain ⟨k1, k2, k3, k4⟩ := KEY.out w6 ao6 cap6 hf6 (own_weak0 hown6); have K1 := Ho.mk k1; have K2 := Ho.mk k2; clear k1 k2 hf6 hown6 hg6)
                  | (refine step_append_row rowItem (by rfl) _ _ (by rfl) wr.heap.size (.slice ao5 q cap5) q (flat x.cl.its) (by rfl) (HO5.out) (some ⟨wr.heap.size, 0, none⟩) 1 1 [.int .i64 cost, .int .i64 y] (by rfl) (by rfl) (src_block HB5.out 1) (by simp [Value.oneCell']) (by omega) (Nat.le_trans (by simp) HF5.out.size) ?_; intro ao6 cap6 w6 hown6 hf6 hg6; have hf6 := hf6 wr HF5.out (by simp); have hc6 := HC4.out w6 hf6; have hq6 := hf6.mono (S' := fun k => k = g) (fun _ _ h => h.elim); have hz6 := HZ3.out w6 hf6; have hd6 := HG3.out w6 hf6; obtain ⟨k1, k2, k3, k4⟩ := KEY.out w6 ao6 cap6 hf6 (own_weak0 hown6); have K1 := Ho.mk k1; have K2 := Ho.mk k2; clear k1 k2 hf6 hown6 hg6)
                  | (refine step_append_row rowItem (by rfl) _ _ (by rfl) wr.heap.size (.slice ao5 q cap5) q (flat x.cl.its) (by rfl) (HO5.out.alloc _) (some ⟨w5.heap.size, 0, none⟩) 1 1 [.int .i64 cost, .int .i64 y] (by rfl) (by rfl) (src_block (HBI.out w5) 1) (by simp [Value.oneCell']) (by omega) (Nat.le_trans (by simp) HF5I.out.size) ?_; intro ao6 cap6 w6 hown6 hf6 hg6; have hf6 := hf6 wr HF5I.out (by simp); have hc6 := HC4.out w6 hf6; have hq6 := hf6.mono (S' := fun k => k = g) (fun _ _ h => h.elim); have hz6 := HZ3.out w6 hf6; have hd6 := HG3.out w6 hf6; obtain ⟨k1, k2, k3, k4⟩ := KEY.out w6 ao6 cap6 hf6 (own_weak0 hown6); have K1 := Ho.mk k1; have K2 := Ho.mk k2; clear k1 k2 hf6 hown6 hg6)
                refine hK.out _ _ (by exact ⟨by assumption, by assumption⟩) (fun hHeld => ?_)
                clear hK K
                try simp only [List.getElem_toArray, List.getElem_cons_zero, List.getElem_cons_succ, Act.put, List.setIfInBounds_toArray, List.set_cons_zero, List.set_cons_succ]
                refine wpAnyH_take (i := 20) (oi := _) (v := ?v18) rfl (by kernel_rfl) (by kernel_rfl) (by kernel_rfl) (fun _ _ _ h => h) (Or.inl ⟨by rfl, ?hy18⟩) (by assumption) ?rest18
                case hy18 => (intro w hSw; (try dsimp only at hSw); go_simp; try (with_reducible rfl))
                try simp only [List.getElem_toArray, List.getElem_cons_zero, List.getElem_cons_succ, Act.put, List.setIfInBounds_toArray, List.set_cons_zero, List.set_cons_succ]
                refine wpAnyH_take (i := 21) (oi := _) (v := ?v19) rfl (by kernel_rfl) (by kernel_rfl) (by kernel_rfl) (fun _ _ _ h => h) (Or.inl ⟨by rfl, ?hy19⟩) (by assumption) ?rest19
                case hy19 => (intro w hSw; (try dsimp only at hSw); go_simp; try (with_reducible rfl))
                try simp only [List.getElem_toArray, List.getElem_cons_zero, List.getElem_cons_succ, Act.put, List.setIfInBounds_toArray, List.set_cons_zero, List.set_cons_succ]
                refine wpAnyH_ready (rs := [22]) (by kernel_rfl) (by simp) ?_
                refine AllReadyH.cons (o := _) rfl (fun K hK => ?_) ?_
                · go_simp
                  refine hK.out _ _ (by exact ⟨by assumption, by assumption⟩) (fun hHeld => ?_)
                  clear hK K
                  try simp only [List.getElem_toArray, List.getElem_cons_zero, List.getElem_cons_succ, Act.put, List.setIfInBounds_toArray, List.set_cons_zero, List.set_cons_succ]
                  refine wpAnyH_done (by kernel_rfl) ?_ _
                  go_wp2_with (fail)
                  go_ret
                  rw [HE.out] at *
                  exact ⟨rfl, K1.out, K2.out⟩
                exact AllReadyH.nil
              exact AllReadyH.nil
            exact AllReadyH.nil
          exact AllReadyH.nil
        refine AllReadyH.cons (o := _) rfl (fun K hK => ?_) ?_
        · go_simp
          refine hK.out _ _ (by exact ⟨by assumption, by assumption⟩) (fun hHeld => ?_)
          clear hK K
          try simp only [List.getElem_toArray, List.getElem_cons_zero, List.getElem_cons_succ, Act.put, List.setIfInBounds_toArray, List.set_cons_zero, List.set_cons_succ]
          refine wpAnyH_ready (rs := [13]) (by kernel_rfl) (by simp) ?_
          refine AllReadyH.cons (o := _) rfl (fun K hK => ?_) ?_
          · go_simp
            refine hK.out _ _ (by exact ⟨by assumption, by assumption⟩) (fun hHeld => ?_)
            clear hK K
            try simp only [List.getElem_toArray, List.getElem_cons_zero, List.getElem_cons_succ, Act.put, List.setIfInBounds_toArray, List.set_cons_zero, List.set_cons_succ]
            refine wpAnyH_ready (rs := [14]) (by kernel_rfl) (by simp) ?_
            refine AllReadyH.cons (o := _) rfl (fun K hK => ?_) ?_
            · first
                | (refine step_append_row rowItem (by rfl) _ _ (by rfl) _ _ 0 [] (by rfl) HOE.out x.ao q x.cap (flat x.cl.its) (by rfl) (by rw [flat_len, HQL.out]) (HSR.out _ HFE.out) (flat_one _) (by omega) (by simp <;> omega) ?_; intro ao5 cap5 w5 hown5 hf5 hg5; have hf5 := hf5 wr HFE.out (by simp); have hg5' := hf5.mono (S' := fun k => k = g) (fun _ _ h => h.elim); have hc5 := HC4.out w5 hf5; have HF5 := Ho.mk hf5; have hown5 := own_weak0 (B' := wr.heap.size) hown5; rw [Nat.zero_add, List.nil_append] at hown5; simp only [Nat.zero_add]; have HO5 := Ho.mk hown5; have hf5I := hf5.alloc (Obj.cells #[.int .i64 cost, .int .i64 y] 77); have hg5I := hf5I.mono (S' := fun k => k = g) (fun _ _ h => h.elim); have hc5I := HC4.out _ hf5I; have HF5I := Ho.mk hf5I; clear hf5I hown5 hf5 hg5)
                | (refine step_append_row rowItem (by rfl) _ _ (by rfl) _ _ 0 [] (by rfl) HOEI.out x.ao q x.cap (flat x.cl.its) (by rfl) (by rw [flat_len, HQL.out]) (HSR.out _ HFEI.out) (flat_one _) (by omega) (by simp <;> omega) ?_; intro ao5 cap5 w5 hown5 hf5 hg5; have hf5 := hf5 wr HFEI.out (by simp); have hg5' := hf5.mono (S' := fun k => k = g) (fun _ _ h => h.elim); have hc5 := HC4.out w5 hf5; have hb5 := grown_item HOEI.out hg5 HBEI.out (by simp [Value.ownBlock]); have HB5 := Ho.mk hb5; clear hb5; have HF5 := Ho.mk hf5; have hown5 := own_weak0 (B' := wr.heap.size) hown5; rw [Nat.zero_add, List.nil_append] at hown5; simp only [Nat.zero_add]; have HO5 := Ho.mk hown5; have hf5I := hf5.alloc (Obj.cells #[.int .i64 cost, .int .i64 y] 77); have hg5I := hf5I.mono (S' := fun k => k = g) (fun _ _ h => h.elim); have hc5I := HC4.out _ hf5I; have HF5I := Ho.mk hf5I; clear hf5I hown5 hf5 hg5)
                | (refine step_append_row rowItem (by rfl) _ _ (by rfl) _ _ 0 [] (by rfl) HOIE.out x.ao q x.cap (flat x.cl.its) (by rfl) (by rw [flat_len, HQL.out]) (HSR.out _ HFIE.out) (flat_one _) (by omega) (by simp <;> omega) ?_; intro ao5 cap5 w5 hown5 hf5 hg5; have hf5 := hf5 wr HFIE.out (by omega); have hg5' := hf5.mono (S' := fun k => k = g) (fun _ _ h => h.elim); have hc5 := HC4.out w5 hf5; have hb5 := grown_item HOIE.out hg5 HBIE.out (by simp [Value.ownBlock]); have HB5 := Ho.mk hb5; clear hb5; have HF5 := Ho.mk hf5; have hown5 := own_weak0 (B' := wr.heap.size) hown5; rw [Nat.zero_add, List.nil_append] at hown5; simp only [Nat.zero_add]; have HO5 := Ho.mk hown5; have hf5I := hf5.alloc (Obj.cells #[.int .i64 cost, .int .i64 y] 77); have hg5I := hf5I.mono (S' := fun k => k = g) (fun _ _ h => h.elim); have hc5I := HC4.out _ hf5I; have HF5I := Ho.mk hf5I; clear hf5I hown5 hf5 hg5)
              refine hK.out _ _ (by exact ⟨by assumption, by assumption⟩) (fun hHeld => ?_)
              clear hK K
              try simp only [List.getElem_toArray, List.getElem_cons_zero, List.getElem_cons_succ, Act.put, List.setIfInBounds_toArray, List.set_cons_zero, List.set_cons_succ]
              refine wpAnyH_ready (rs := [19]) (by kernel_rfl) (by simp) ?_
              refine AllReadyH.cons (o := _) rfl (fun K hK => ?_) ?_
              · first
                  | (refine step_append_row rowItem (by rfl) _ _ (by rfl) wr.heap.size (.slice ao5 q cap5) q (flat x.cl.its) (by rfl) (HO5.out) (some ⟨wr.heap.size + 1, 0, none⟩) 1 1 [.int .i64 cost, .int .i64 y] (by rfl) (by rfl) (src_block HB5.out 1) (by simp [Value.oneCell']) (by omega) (Nat.le_trans (by simp) HF5.out.size) ?_; intro ao6 cap6 w6 hown6 hf6 hg6; have hf6 := hf6 wr HF5.out (by simp); have hc6 := HC4.out w6 hf6; have hq6 := hf6.mono (S' := fun k => k = g) (fun _ _ h => h.elim); have hz6 := HZ3.out w6 hf6; have hd6 := HG3.out w6 hf6; obtain ⟨k1, k2, k3, k4⟩ := KEY.out w6 ao6 cap6 hf6 (own_weak0 hown6); have K1 := Ho.mk k1; have K2 := Ho.mk k2; clear k1 k2 hf6 hown6 hg6)
                  | (refine step_append_row rowItem (by rfl) _ _ (by rfl) wr.heap.size (.slice ao5 q cap5) q (flat x.cl.its) (by rfl) (HO5.out) (some ⟨wr.heap.size, 0, none⟩) 1 1 [.int .i64 cost, .int .i64 y] (by rfl) (by rfl) (src_block HB5.out 1) (by simp [Value.oneCell']) (by omega) (Nat.le_trans (by simp) HF5.out.size) ?_; intro ao6 cap6 w6 hown6 hf6 hg6; have hf6 := hf6 wr HF5.out (by simp); have hc6 := HC4.out w6 hf6; have hq6 := hf6.mono (S' := fun k => k = g) (fun _ _ h => h.elim); have hz6 := HZ3.out w6 hf6; have hd6 := HG3.out w6 hf6; obtain ⟨k1, k2, k3, k4⟩ := KEY.out w6 ao6 cap6 hf6 (own_weak0 hown6); have K1 := Ho.mk k1; have K2 := Ho.mk k2; clear k1 k2 hf6 hown6 hg6)
                  | (refine step_append_row rowItem (by rfl) _ _ (by rfl) wr.heap.size (.slice ao5 q cap5) q (flat x.cl.its) (by rfl) (HO5.out.alloc _) (some ⟨w5.heap.size, 0, none⟩) 1 1 [.int .i64 cost, .int .i64 y] (by rfl) (by rfl) (src_block (HBI.out w5) 1) (by simp [Value.oneCell']) (by omega) (Nat.le_trans (by simp) HF5I.out.size) ?_; intro ao6 cap6 w6 hown6 hf6 hg6; have hf6 := hf6 wr HF5I.out (by simp); have hc6 := HC4.out w6 hf6; have hq6 := hf6.mono (S' := fun k => k = g) (fun _ _ h => h.elim); have hz6 := HZ3.out w6 hf6; have hd6 := HG3.out w6 hf6; obtain ⟨k1, k2, k3, k4⟩ := KEY.out w6 ao6 cap6 hf6 (own_weak0 hown6); have K1 := Ho.mk k1; have K2 := Ho.mk k2; clear k1 k2 hf6 hown6 hg6)
                refine hK.out _ _ (by exact ⟨by assumption, by assumption⟩) (fun hHeld => ?_)
                clear hK K
                try simp only [List.getElem_toArray, List.getElem_cons_zero, List.getElem_cons_succ, Act.put, List.setIfInBounds_toArray, List.set_cons_zero, List.set_cons_succ]
                refine wpAnyH_take (i := 20) (oi := _) (v := ?v20) rfl (by kernel_rfl) (by kernel_rfl) (by kernel_rfl) (fun _ _ _ h => h) (Or.inl ⟨by rfl, ?hy20⟩) (by assumption) ?rest20
                case hy20 => (intro w hSw; (try dsimp only at hSw); go_simp; try (with_reducible rfl))
                try simp only [List.getElem_toArray, List.getElem_cons_zero, List.getElem_cons_succ, Act.put, List.setIfInBounds_toArray, List.set_cons_zero, List.set_cons_succ]
                refine wpAnyH_take (i := 21) (oi := _) (v := ?v21) rfl (by kernel_rfl) (by kernel_rfl) (by kernel_rfl) (fun _ _ _ h => h) (Or.inl ⟨by rfl, ?hy21⟩) (by assumption) ?rest21
                case hy21 => (intro w hSw; (try dsimp only at hSw); go_simp; try (with_reducible rfl))
                try simp only [List.getElem_toArray, List.getElem_cons_zero, List.getElem_cons_succ, Act.put, List.setIfInBounds_toArray, List.set_cons_zero, List.set_cons_succ]
                refine wpAnyH_ready (rs := [22]) (by kernel_rfl) (by simp) ?_
                refine AllReadyH.cons (o := _) rfl (fun K hK => ?_) ?_
                · go_simp
                  refine hK.out _ _ (by exact ⟨by assumption, by assumption⟩) (fun hHeld => ?_)
                  clear hK K
                  try simp only [List.getElem_toArray, List.getElem_cons_zero, List.getElem_cons_succ, Act.put, List.setIfInBounds_toArray, List.set_cons_zero, List.set_cons_succ]
                  refine wpAnyH_done (by kernel_rfl) ?_ _
                  go_wp2_with (fail)
                  go_ret
                  rw [HE.out] at *
                  exact ⟨rfl, K1.out, K2.out⟩
                exact AllReadyH.nil
              exact AllReadyH.nil
            exact AllReadyH.nil
          exact AllReadyH.nil
        exact AllReadyH.nil
      refine AllReadyH.cons (o := _) rfl (fun K hK => ?_) ?_
      · go_simp
        refine hK.out _ _ (by exact ⟨by assumption, by assumption⟩) (fun hHeld => ?_)
        clear hK K
        try simp only [List.getElem_toArray, List.getElem_cons_zero, List.getElem_cons_succ, Act.put, List.setIfInBounds_toArray, List.set_cons_zero, List.set_cons_succ]
        refine wpAnyH_ready (rs := [5, 18]) (by kernel_rfl) (by simp) ?_
        refine AllReadyH.cons (o := _) rfl (fun K hK => ?_) ?_
        · go_simp
          refine hK.out _ _ (by exact ⟨by assumption, by assumption⟩) (fun hHeld => ?_)
          clear hK K
          try simp only [List.getElem_toArray, List.getElem_cons_zero, List.getElem_cons_succ, Act.put, List.setIfInBounds_toArray, List.set_cons_zero, List.set_cons_succ]
          refine wpAnyH_ready (rs := [14, 18]) (by kernel_rfl) (by simp) ?_
          refine AllReadyH.cons (o := _) rfl (fun K hK => ?_) ?_
          · first
              | (refine step_append_row rowItem (by rfl) _ _ (by rfl) _ _ 0 [] (by rfl) HOE.out x.ao q x.cap (flat x.cl.its) (by rfl) (by rw [flat_len, HQL.out]) (HSR.out _ HFE.out) (flat_one _) (by omega) (by simp <;> omega) ?_; intro ao5 cap5 w5 hown5 hf5 hg5; have hf5 := hf5 wr HFE.out (by simp); have hg5' := hf5.mono (S' := fun k => k = g) (fun _ _ h => h.elim); have hc5 := HC4.out w5 hf5; have HF5 := Ho.mk hf5; have hown5 := own_weak0 (B' := wr.heap.size) hown5; rw [Nat.zero_add, List.nil_append] at hown5; simp only [Nat.zero_add]; have HO5 := Ho.mk hown5; have hf5I := hf5.alloc (Obj.cells #[.int .i64 cost, .int .i64 y] 77); have hg5I := hf5I.mono (S' := fun k => k = g) (fun _ _ h => h.elim); have hc5I := HC4.out _ hf5I; have HF5I := Ho.mk hf5I; clear hf5I hown5 hf5 hg5)
              | (refine step_append_row rowItem (by rfl) _ _ (by rfl) _ _ 0 [] (by rfl) HOEI.out x.ao q x.cap (flat x.cl.its) (by rfl) (by rw [flat_len, HQL.out]) (HSR.out _ HFEI.out) (flat_one _) (by omega) (by simp <;> omega) ?_; intro ao5 cap5 w5 hown5 hf5 hg5; have hf5 := hf5 wr HFEI.out (by simp); have hg5' := hf5.mono (S' := fun k => k = g) (fun _ _ h => h.elim); have hc5 := HC4.out w5 hf5; have hb5 := grown_item HOEI.out hg5 HBEI.out (by simp [Value.ownBlock]); have HB5 := Ho.mk hb5; clear hb5; have HF5 := Ho.mk hf5; have hown5 := own_weak0 (B' := wr.heap.size) hown5; rw [Nat.zero_add, List.nil_append] at hown5; simp only [Nat.zero_add]; have HO5 := Ho.mk hown5; have hf5I := hf5.alloc (Obj.cells #[.int .i64 cost, .int .i64 y] 77); have hg5I := hf5I.mono (S' := fun k => k = g) (fun _ _ h => h.elim); have hc5I := HC4.out _ hf5I; have HF5I := Ho.mk hf5I; clear hf5I hown5 hf5 hg5)
              | (refine step_append_row rowItem (by rfl) _ _ (by rfl) _ _ 0 [] (by rfl) HOIE.out x.ao q x.cap (flat x.cl.its) (by rfl) (by rw [flat_len, HQL.out]) (HSR.out _ HFIE.out) (flat_one _) (by omega) (by simp <;> omega) ?_; intro ao5 cap5 w5 hown5 hf5 hg5; have hf5 := hf5 wr HFIE.out (by omega); have hg5' := hf5.mono (S' := fun k => k = g) (fun _ _ h => h.elim); have hc5 := HC4.out w5 hf5; have hb5 := grown_item HOIE.out hg5 HBIE.out (by simp [Value.ownBlock]); have HB5 := Ho.mk hb5; clear hb5; have HF5 := Ho.mk hf5; have hown5 := own_weak0 (B' := wr.heap.size) hown5; rw [Nat.zero_add, List.nil_append] at hown5; simp only [Nat.zero_add]; have HO5 := Ho.mk hown5; have hf5I := hf5.alloc (Obj.cells #[.int .i64 cost, .int .i64 y] 77); have hg5I := hf5I.mono (S' := fun k => k = g) (fun _ _ h => h.elim); have hc5I := HC4.out _ hf5I; have HF5I := Ho.mk hf5I; clear hf5I hown5 hf5 hg5)
            refine hK.out _ _ (by exact ⟨by assumption, by assumption⟩) (fun hHeld => ?_)
            clear hK K
            try simp only [List.getElem_toArray, List.getElem_cons_zero, List.getElem_cons_succ, Act.put, List.setIfInBounds_toArray, List.set_cons_zero, List.set_cons_succ]
            refine wpAnyH_ready (rs := [18]) (by kernel_rfl) (by simp) ?_
            refine AllReadyH.cons (o := _) rfl (fun K hK => ?_) ?_
            · go_simp
              refine hK.out _ _ (by exact ⟨by assumption, by assumption⟩) (fun hHeld => ?_)
              clear hK K
              try simp only [List.getElem_toArray, List.getElem_cons_zero, List.getElem_cons_succ, Act.put, List.setIfInBounds_toArray, List.set_cons_zero, List.set_cons_succ]
              refine wpAnyH_ready (rs := [19]) (by kernel_rfl) (by simp) ?_
              refine AllReadyH.cons (o := _) rfl (fun K hK => ?_) ?_
              · first
                  | (refine step_append_row rowItem (by rfl) _ _ (by rfl) wr.heap.size (.slice ao5 q cap5) q (flat x.cl.its) (by rfl) (HO5.out) (some ⟨wr.heap.size + 1, 0, none⟩) 1 1 [.int .i64 cost, .int .i64 y] (by rfl) (by rfl) (src_block HB5.out 1) (by simp [Value.oneCell']) (by omega) (Nat.le_trans (by simp) HF5.out.size) ?_; intro ao6 cap6 w6 hown6 hf6 hg6; have hf6 := hf6 wr HF5.out (by simp); have hc6 := HC4.out w6 hf6; have hq6 := hf6.mono (S' := fun k => k = g) (fun _ _ h => h.elim); have hz6 := HZ3.out w6 hf6; have hd6 := HG3.out w6 hf6; obtain ⟨k1, k2, k3, k4⟩ := KEY.out w6 ao6 cap6 hf6 (own_weak0 hown6); have K1 := Ho.mk k1; have K2 := Ho.mk k2; clear k1 k2 hf6 hown6 hg6)
                  | (refine step_append_row rowItem (by rfl) _ _ (by rfl) wr.heap.size (.slice ao5 q cap5) q (flat x.cl.its) (by rfl) (HO5.out) (some ⟨wr.heap.size, 0, none⟩) 1 1 [.int .i64 cost, .int .i64 y] (by rfl) (by rfl) (src_block HB5.out 1) (by simp [Value.oneCell']) (by omega) (Nat.le_trans (by simp) HF5.out.size) ?_; intro ao6 cap6 w6 hown6 hf6 hg6; have hf6 := hf6 wr HF5.out (by simp); have hc6 := HC4.out w6 hf6; have hq6 := hf6.mono (S' := fun k => k = g) (fun _ _ h => h.elim); have hz6 := HZ3.out w6 hf6; have hd6 := HG3.out w6 hf6; obtain ⟨k1, k2, k3, k4⟩ := KEY.out w6 ao6 cap6 hf6 (own_weak0 hown6); have K1 := Ho.mk k1; have K2 := Ho.mk k2; clear k1 k2 hf6 hown6 hg6)
                  | (refine step_append_row rowItem (by rfl) _ _ (by rfl) wr.heap.size (.slice ao5 q cap5) q (flat x.cl.its) (by rfl) (HO5.out.alloc _) (some ⟨w5.heap.size, 0, none⟩) 1 1 [.int .i64 cost, .int .i64 y] (by rfl) (by rfl) (src_block (HBI.out w5) 1) (by simp [Value.oneCell']) (by omega) (Nat.le_trans (by simp) HF5I.out.size) ?_; intro ao6 cap6 w6 hown6 hf6 hg6; have hf6 := hf6 wr HF5I.out (by simp); have hc6 := HC4.out w6 hf6; have hq6 := hf6.mono (S' := fun k => k = g) (fun _ _ h => h.elim); have hz6 := HZ3.out w6 hf6; have hd6 := HG3.out w6 hf6; obtain ⟨k1, k2, k3, k4⟩ := KEY.out w6 ao6 cap6 hf6 (own_weak0 hown6); have K1 := Ho.mk k1; have K2 := Ho.mk k2; clear k1 k2 hf6 hown6 hg6)
                refine hK.out _ _ (by exact ⟨by assumption, by assumption⟩) (fun hHeld => ?_)
                clear hK K
                try simp only [List.getElem_toArray, List.getElem_cons_zero, List.getElem_cons_succ, Act.put, List.setIfInBounds_toArray, List.set_cons_zero, List.set_cons_succ]
                refine wpAnyH_take (i := 20) (oi := _) (v := ?v22) rfl (by kernel_rfl) (by kernel_rfl) (by kernel_rfl) (fun _ _ _ h => h) (Or.inl ⟨by rfl, ?hy22⟩) (by assumption) ?rest22
                case hy22 => (intro w hSw; (try dsimp only at hSw); go_simp; try (with_reducible rfl))
                try simp only [List.getElem_toArray, List.getElem_cons_zero, List.getElem_cons_succ, Act.put, List.setIfInBounds_toArray, List.set_cons_zero, List.set_cons_succ]
                refine wpAnyH_take (i := 21) (oi := _) (v := ?v23) rfl (by kernel_rfl) (by kernel_rfl) (by kernel_rfl) (fun _ _ _ h => h) (Or.inl ⟨by rfl, ?hy23⟩) (by assumption) ?rest23
                case hy23 => (intro w hSw; (try dsimp only at hSw); go_simp; try (with_reducible rfl))
                try simp only [List.getElem_toArray, List.getElem_cons_zero, List.getElem_cons_succ, Act.put, List.setIfInBounds_toArray, List.set_cons_zero, List.set_cons_succ]
                refine wpAnyH_ready (rs := [22]) (by kernel_rfl) (by simp) ?_
                refine AllReadyH.cons (o := _) rfl (fun K hK => ?_) ?_
                · go_simp
                  refine hK.out _ _ (by exact ⟨by assumption, by assumption⟩) (fun hHeld => ?_)
                  clear hK K
                  try simp only [List.getElem_toArray, List.getElem_cons_zero, List.getElem_cons_succ, Act.put, List.setIfInBounds_toArray, List.set_cons_zero, List.set_cons_succ]
                  refine wpAnyH_done (by kernel_rfl) ?_ _
                  go_wp2_with (fail)
                  go_ret
                  rw [HE.out] at *
                  exact ⟨rfl, K1.out, K2.out⟩
                exact AllReadyH.nil
              exact AllReadyH.nil
            exact AllReadyH.nil
          refine AllReadyH.cons (o := _) rfl (fun K hK => ?_) ?_
          · go_simp
            refine hK.out _ _ (by exact ⟨by assumption, by assumption⟩) (fun hHeld => ?_)
            clear hK K
            try simp only [List.getElem_toArray, List.getElem_cons_zero, List.getElem_cons_succ, Act.put, List.setIfInBounds_toArray, List.set_cons_zero, List.set_cons_succ]
            refine wpAnyH_ready (rs := [14]) (by kernel_rfl) (by simp) ?_
            refine AllReadyH.cons (o := _) rfl (fun K hK => ?_) ?_
            · first
                | (refine step_append_row rowItem (by rfl) _ _ (by rfl) _ _ 0 [] (by rfl) HOE.out x.ao q x.cap (flat x.cl.its) (by rfl) (by rw [flat_len, HQL.out]) (HSR.out _ HFE.out) (flat_one _) (by omega) (by simp <;> omega) ?_; intro ao5 cap5 w5 hown5 hf5 hg5; have hf5 := hf5 wr HFE.out (by simp); have hg5' := hf5.mono (S' := fun k => k = g) (fun _ _ h => h.elim); have hc5 := HC4.out w5 hf5; have HF5 := Ho.mk hf5; have hown5 := own_weak0 (B' := wr.heap.size) hown5; rw [Nat.zero_add, List.nil_append] at hown5; simp only [Nat.zero_add]; have HO5 := Ho.mk hown5; have hf5I := hf5.alloc (Obj.cells #[.int .i64 cost, .int .i64 y] 77); have hg5I := hf5I.mono (S' := fun k => k = g) (fun _ _ h => h.elim); have hc5I := HC4.out _ hf5I; have HF5I := Ho.mk hf5I; clear hf5I hown5 hf5 hg5)
                | (refine step_append_row rowItem (by rfl) _ _ (by rfl) _ _ 0 [] (by rfl) HOEI.out x.ao q x.cap (flat x.cl.its) (by rfl) (by rw [flat_len, HQL.out]) (HSR.out _ HFEI.out) (flat_one _) (by omega) (by simp <;> omega) ?_; intro ao5 cap5 w5 hown5 hf5 hg5; have hf5 := hf5 wr HFEI.out (by simp); have hg5' := hf5.mono (S' := fun k => k = g) (fun _ _ h => h.elim); have hc5 := HC4.out w5 hf5; have hb5 := grown_item HOEI.out hg5 HBEI.out (by simp [Value.ownBlock]); have HB5 := Ho.mk hb5; clear hb5; have HF5 := Ho.mk hf5; have hown5 := own_weak0 (B' := wr.heap.size) hown5; rw [Nat.zero_add, List.nil_append] at hown5; simp only [Nat.zero_add]; have HO5 := Ho.mk hown5; have hf5I := hf5.alloc (Obj.cells #[.int .i64 cost, .int .i64 y] 77); have hg5I := hf5I.mono (S' := fun k => k = g) (fun _ _ h => h.elim); have hc5I := HC4.out _ hf5I; have HF5I := Ho.mk hf5I; clear hf5I hown5 hf5 hg5)
                | (refine step_append_row rowItem (by rfl) _ _ (by rfl) _ _ 0 [] (by rfl) HOIE.out x.ao q x.cap (flat x.cl.its) (by rfl) (by rw [flat_len, HQL.out]) (HSR.out _ HFIE.out) (flat_one _) (by omega) (by simp <;> omega) ?_; intro ao5 cap5 w5 hown5 hf5 hg5; have hf5 := hf5 wr HFIE.out (by omega); have hg5' := hf5.mono (S' := fun k => k = g) (fun _ _ h => h.elim); have hc5 := HC4.out w5 hf5; have hb5 := grown_item HOIE.out hg5 HBIE.out (by simp [Value.ownBlock]); have HB5 := Ho.mk hb5; clear hb5; have HF5 := Ho.mk hf5; have hown5 := own_weak0 (B' := wr.heap.size) hown5; rw [Nat.zero_add, List.nil_append] at hown5; simp only [Nat.zero_add]; have HO5 := Ho.mk hown5; have hf5I := hf5.alloc (Obj.cells #[.int .i64 cost, .int .i64 y] 77); have hg5I := hf5I.mono (S' := fun k => k = g) (fun _ _ h => h.elim); have hc5I := HC4.out _ hf5I; have HF5I := Ho.mk hf5I; clear hf5I hown5 hf5 hg5)
              refine hK.out _ _ (by exact ⟨by assumption, by assumption⟩) (fun hHeld => ?_)
              clear hK K
              try simp only [List.getElem_toArray, List.getElem_cons_zero, List.getElem_cons_succ, Act.put, List.setIfInBounds_toArray, List.set_cons_zero, List.set_cons_succ]
              refine wpAnyH_ready (rs := [19]) (by kernel_rfl) (by simp) ?_
              refine AllReadyH.cons (o := _) rfl (fun K hK => ?_) ?_
              · first
                  | (refine step_append_row rowItem (by rfl) _ _ (by rfl) wr.heap.size (.slice ao5 q cap5) q (flat x.cl.its) (by rfl) (HO5.out) (some ⟨wr.heap.size + 1, 0, none⟩) 1 1 [.int .i64 cost, .int .i64 y] (by rfl) (by rfl) (src_block HB5.out 1) (by simp [Value.oneCell']) (by omega) (Nat.le_trans (by simp) HF5.out.size) ?_; intro ao6 cap6 w6 hown6 hf6 hg6; have hf6 := hf6 wr HF5.out (by simp); have hc6 := HC4.out w6 hf6; have hq6 := hf6.mono (S' := fun k => k = g) (fun _ _ h => h.elim); have hz6 := HZ3.out w6 hf6; have hd6 := HG3.out w6 hf6; obtain ⟨k1, k2, k3, k4⟩ := KEY.out w6 ao6 cap6 hf6 (own_weak0 hown6); have K1 := Ho.mk k1; have K2 := Ho.mk k2; clear k1 k2 hf6 hown6 hg6)
                  | (refine step_append_row rowItem (by rfl) _ _ (by rfl) wr.heap.size (.slice ao5 q cap5) q (flat x.cl.its) (by rfl) (HO5.out) (some ⟨wr.heap.size, 0, none⟩) 1 1 [.int .i64 cost, .int .i64 y] (by rfl) (by rfl) (src_block HB5.out 1) (by simp [Value.oneCell']) (by omega) (Nat.le_trans (by simp) HF5.out.size) ?_; intro ao6 cap6 w6 hown6 hf6 hg6; have hf6 := hf6 wr HF5.out (by simp); have hc6 := HC4.out w6 hf6; have hq6 := hf6.mono (S' := fun k => k = g) (fun _ _ h => h.elim); have hz6 := HZ3.out w6 hf6; have hd6 := HG3.out w6 hf6; obtain ⟨k1, k2, k3, k4⟩ := KEY.out w6 ao6 cap6 hf6 (own_weak0 hown6); have K1 := Ho.mk k1; have K2 := Ho.mk k2; clear k1 k2 hf6 hown6 hg6)
                  | (refine step_append_row rowItem (by rfl) _ _ (by rfl) wr.heap.size (.slice ao5 q cap5) q (flat x.cl.its) (by rfl) (HO5.out.alloc _) (some ⟨w5.heap.size, 0, none⟩) 1 1 [.int .i64 cost, .int .i64 y] (by rfl) (by rfl) (src_block (HBI.out w5) 1) (by simp [Value.oneCell']) (by omega) (Nat.le_trans (by simp) HF5I.out.size) ?_; intro ao6 cap6 w6 hown6 hf6 hg6; have hf6 := hf6 wr HF5I.out (by simp); have hc6 := HC4.out w6 hf6; have hq6 := hf6.mono (S' := fun k => k = g) (fun _ _ h => h.elim); have hz6 := HZ3.out w6 hf6; have hd6 := HG3.out w6 hf6; obtain ⟨k1, k2, k3, k4⟩ := KEY.out w6 ao6 cap6 hf6 (own_weak0 hown6); have K1 := Ho.mk k1; have K2 := Ho.mk k2; clear k1 k2 hf6 hown6 hg6)
                refine hK.out _ _ (by exact ⟨by assumption, by assumption⟩) (fun hHeld => ?_)
                clear hK K
                try simp only [List.getElem_toArray, List.getElem_cons_zero, List.getElem_cons_succ, Act.put, List.setIfInBounds_toArray, List.set_cons_zero, List.set_cons_succ]
                refine wpAnyH_take (i := 20) (oi := _) (v := ?v24) rfl (by kernel_rfl) (by kernel_rfl) (by kernel_rfl) (fun _ _ _ h => h) (Or.inl ⟨by rfl, ?hy24⟩) (by assumption) ?rest24
                case hy24 => (intro w hSw; (try dsimp only at hSw); go_simp; try (with_reducible rfl))
                try simp only [List.getElem_toArray, List.getElem_cons_zero, List.getElem_cons_succ, Act.put, List.setIfInBounds_toArray, List.set_cons_zero, List.set_cons_succ]
                refine wpAnyH_take (i := 21) (oi := _) (v := ?v25) rfl (by kernel_rfl) (by kernel_rfl) (by kernel_rfl) (fun _ _ _ h => h) (Or.inl ⟨by rfl, ?hy25⟩) (by assumption) ?rest25
                case hy25 => (intro w hSw; (try dsimp only at hSw); go_simp; try (with_reducible rfl))
                try simp only [List.getElem_toArray, List.getElem_cons_zero, List.getElem_cons_succ, Act.put, List.setIfInBounds_toArray, List.set_cons_zero, List.set_cons_succ]
                refine wpAnyH_ready (rs := [22]) (by kernel_rfl) (by simp) ?_
                refine AllReadyH.cons (o := _) rfl (fun K hK => ?_) ?_
                · go_simp
                  refine hK.out _ _ (by exact ⟨by assumption, by assumption⟩) (fun hHeld => ?_)
                  clear hK K
                  try simp only [List.getElem_toArray, List.getElem_cons_zero, List.getElem_cons_succ, Act.put, List.setIfInBounds_toArray, List.set_cons_zero, List.set_cons_succ]
                  refine wpAnyH_done (by kernel_rfl) ?_ _
                  go_wp2_with (fail)
                  go_ret
                  rw [HE.out] at *
                  exact ⟨rfl, K1.out, K2.out⟩
                exact AllReadyH.nil
              exact AllReadyH.nil
            exact AllReadyH.nil
          exact AllReadyH.nil
        refine AllReadyH.cons (o := _) rfl (fun K hK => ?_) ?_
        · go_simp
          refine hK.out _ _ (by exact ⟨by assumption, by assumption⟩) (fun hHeld => ?_)
          clear hK K
          try simp only [List.getElem_toArray, List.getElem_cons_zero, List.getElem_cons_succ, Act.put, List.setIfInBounds_toArray, List.set_cons_zero, List.set_cons_succ]
          refine wpAnyH_ready (rs := [5]) (by kernel_rfl) (by simp) ?_
          refine AllReadyH.cons (o := _) rfl (fun K hK => ?_) ?_
          · go_simp
            refine hK.out _ _ (by exact ⟨by assumption, by assumption⟩) (fun hHeld => ?_)
            clear hK K
            try simp only [List.getElem_toArray, List.getElem_cons_zero, List.getElem_cons_succ, Act.put, List.setIfInBounds_toArray, List.set_cons_zero, List.set_cons_succ]
            refine wpAnyH_ready (rs := [14]) (by kernel_rfl) (by simp) ?_
            refine AllReadyH.cons (o := _) rfl (fun K hK => ?_) ?_
            · first
                | (refine step_append_row rowItem (by rfl) _ _ (by rfl) _ _ 0 [] (by rfl) HOE.out x.ao q x.cap (flat x.cl.its) (by rfl) (by rw [flat_len, HQL.out]) (HSR.out _ HFE.out) (flat_one _) (by omega) (by simp <;> omega) ?_; intro ao5 cap5 w5 hown5 hf5 hg5; have hf5 := hf5 wr HFE.out (by simp); have hg5' := hf5.mono (S' := fun k => k = g) (fun _ _ h => h.elim); have hc5 := HC4.out w5 hf5; have HF5 := Ho.mk hf5; have hown5 := own_weak0 (B' := wr.heap.size) hown5; rw [Nat.zero_add, List.nil_append] at hown5; simp only [Nat.zero_add]; have HO5 := Ho.mk hown5; have hf5I := hf5.alloc (Obj.cells #[.int .i64 cost, .int .i64 y] 77); have hg5I := hf5I.mono (S' := fun k => k = g) (fun _ _ h => h.elim); have hc5I := HC4.out _ hf5I; have HF5I := Ho.mk hf5I; clear hf5I hown5 hf5 hg5)
                | (refine step_append_row rowItem (by rfl) _ _ (by rfl) _ _ 0 [] (by rfl) HOEI.out x.ao q x.cap (flat x.cl.its) (by rfl) (by rw [flat_len, HQL.out]) (HSR.out _ HFEI.out) (flat_one _) (by omega) (by simp <;> omega) ?_; intro ao5 cap5 w5 hown5 hf5 hg5; have hf5 := hf5 wr HFEI.out (by simp); have hg5' := hf5.mono (S' := fun k => k = g) (fun _ _ h => h.elim); have hc5 := HC4.out w5 hf5; have hb5 := grown_item HOEI.out hg5 HBEI.out (by simp [Value.ownBlock]); have HB5 := Ho.mk hb5; clear hb5; have HF5 := Ho.mk hf5; have hown5 := own_weak0 (B' := wr.heap.size) hown5; rw [Nat.zero_add, List.nil_append] at hown5; simp only [Nat.zero_add]; have HO5 := Ho.mk hown5; have hf5I := hf5.alloc (Obj.cells #[.int .i64 cost, .int .i64 y] 77); have hg5I := hf5I.mono (S' := fun k => k = g) (fun _ _ h => h.elim); have hc5I := HC4.out _ hf5I; have HF5I := Ho.mk hf5I; clear hf5I hown5 hf5 hg5)
                | (refine step_append_row rowItem (by rfl) _ _ (by rfl) _ _ 0 [] (by rfl) HOIE.out x.ao q x.cap (flat x.cl.its) (by rfl) (by rw [flat_len, HQL.out]) (HSR.out _ HFIE.out) (flat_one _) (by omega) (by simp <;> omega) ?_; intro ao5 cap5 w5 hown5 hf5 hg5; have hf5 := hf5 wr HFIE.out (by omega); have hg5' := hf5.mono (S' := fun k => k = g) (fun _ _ h => h.elim); have hc5 := HC4.out w5 hf5; have hb5 := grown_item HOIE.out hg5 HBIE.out (by simp [Value.ownBlock]); have HB5 := Ho.mk hb5; clear hb5; have HF5 := Ho.mk hf5; have hown5 := own_weak0 (B' := wr.heap.size) hown5; rw [Nat.zero_add, List.nil_append] at hown5; simp only [Nat.zero_add]; have HO5 := Ho.mk hown5; have hf5I := hf5.alloc (Obj.cells #[.int .i64 cost, .int .i64 y] 77); have hg5I := hf5I.mono (S' := fun k => k = g) (fun _ _ h => h.elim); have hc5I := HC4.out _ hf5I; have HF5I := Ho.mk hf5I; clear hf5I hown5 hf5 hg5)
              refine hK.out _ _ (by exact ⟨by assumption, by assumption⟩) (fun hHeld => ?_)
              clear hK K
              try simp only [List.getElem_toArray, List.getElem_cons_zero, List.getElem_cons_succ, Act.put, List.setIfInBounds_toArray, List.set_cons_zero, List.set_cons_succ]
              refine wpAnyH_ready (rs := [19]) (by kernel_rfl) (by simp) ?_
              refine AllReadyH.cons (o := _) rfl (fun K hK => ?_) ?_
              · first
                  | (refine step_append_row rowItem (by rfl) _ _ (by rfl) wr.heap.size (.slice ao5 q cap5) q (flat x.cl.its) (by rfl) (HO5.out) (some ⟨wr.heap.size + 1, 0, none⟩) 1 1 [.int .i64 cost, .int .i64 y] (by rfl) (by rfl) (src_block HB5.out 1) (by simp [Value.oneCell']) (by omega) (Nat.le_trans (by simp) HF5.out.size) ?_; intro ao6 cap6 w6 hown6 hf6 hg6; have hf6 := hf6 wr HF5.out (by simp); have hc6 := HC4.out w6 hf6; have hq6 := hf6.mono (S' := fun k => k = g) (fun _ _ h => h.elim); have hz6 := HZ3.out w6 hf6; have hd6 := HG3.out w6 hf6; obtain ⟨k1, k2, k3, k4⟩ := KEY.out w6 ao6 cap6 hf6 (own_weak0 hown6); have K1 := Ho.mk k1; have K2 := Ho.mk k2; clear k1 k2 hf6 hown6 hg6)
                  | (refine step_append_row rowItem (by rfl) _ _ (by rfl) wr.heap.size (.slice ao5 q cap5) q (flat x.cl.its) (by rfl) (HO5.out) (some ⟨wr.heap.size, 0, none⟩) 1 1 [.int .i64 cost, .int .i64 y] (by rfl) (by rfl) (src_block HB5.out 1) (by simp [Value.oneCell']) (by omega) (Nat.le_trans (by simp) HF5.out.size) ?_; intro ao6 cap6 w6 hown6 hf6 hg6; have hf6 := hf6 wr HF5.out (by simp); have hc6 := HC4.out w6 hf6; have hq6 := hf6.mono (S' := fun k => k = g) (fun _ _ h => h.elim); have hz6 := HZ3.out w6 hf6; have hd6 := HG3.out w6 hf6; obtain ⟨k1, k2, k3, k4⟩ := KEY.out w6 ao6 cap6 hf6 (own_weak0 hown6); have K1 := Ho.mk k1; have K2 := Ho.mk k2; clear k1 k2 hf6 hown6 hg6)
                  | (refine step_append_row rowItem (by rfl) _ _ (by rfl) wr.heap.size (.slice ao5 q cap5) q (flat x.cl.its) (by rfl) (HO5.out.alloc _) (some ⟨w5.heap.size, 0, none⟩) 1 1 [.int .i64 cost, .int .i64 y] (by rfl) (by rfl) (src_block (HBI.out w5) 1) (by simp [Value.oneCell']) (by omega) (Nat.le_trans (by simp) HF5I.out.size) ?_; intro ao6 cap6 w6 hown6 hf6 hg6; have hf6 := hf6 wr HF5I.out (by simp); have hc6 := HC4.out w6 hf6; have hq6 := hf6.mono (S' := fun k => k = g) (fun _ _ h => h.elim); have hz6 := HZ3.out w6 hf6; have hd6 := HG3.out w6 hf6; obtain ⟨k1, k2, k3, k4⟩ := KEY.out w6 ao6 cap6 hf6 (own_weak0 hown6); have K1 := Ho.mk k1; have K2 := Ho.mk k2; clear k1 k2 hf6 hown6 hg6)
                refine hK.out _ _ (by exact ⟨by assumption, by assumption⟩) (fun hHeld => ?_)
                clear hK K
                try simp only [List.getElem_toArray, List.getElem_cons_zero, List.getElem_cons_succ, Act.put, List.setIfInBounds_toArray, List.set_cons_zero, List.set_cons_succ]
                refine wpAnyH_take (i := 20) (oi := _) (v := ?v26) rfl (by kernel_rfl) (by kernel_rfl) (by kernel_rfl) (fun _ _ _ h => h) (Or.inl ⟨by rfl, ?hy26⟩) (by assumption) ?rest26
                case hy26 => (intro w hSw; (try dsimp only at hSw); go_simp; try (with_reducible rfl))
                try simp only [List.getElem_toArray, List.getElem_cons_zero, List.getElem_cons_succ, Act.put, List.setIfInBounds_toArray, List.set_cons_zero, List.set_cons_succ]
                refine wpAnyH_take (i := 21) (oi := _) (v := ?v27) rfl (by kernel_rfl) (by kernel_rfl) (by kernel_rfl) (fun _ _ _ h => h) (Or.inl ⟨by rfl, ?hy27⟩) (by assumption) ?rest27
                case hy27 => (intro w hSw; (try dsimp only at hSw); go_simp; try (with_reducible rfl))
                try simp only [List.getElem_toArray, List.getElem_cons_zero, List.getElem_cons_succ, Act.put, List.setIfInBounds_toArray, List.set_cons_zero, List.set_cons_succ]
                refine wpAnyH_ready (rs := [22]) (by kernel_rfl) (by simp) ?_
                refine AllReadyH.cons (o := _) rfl (fun K hK => ?_) ?_
                · go_simp
                  refine hK.out _ _ (by exact ⟨by assumption, by assumption⟩) (fun hHeld => ?_)
                  clear hK K
                  try simp only [List.getElem_toArray, List.getElem_cons_zero, List.getElem_cons_succ, Act.put, List.setIfInBounds_toArray, List.set_cons_zero, List.set_cons_succ]
                  refine wpAnyH_done (by kernel_rfl) ?_ _
                  go_wp2_with (fail)
                  go_ret
                  rw [HE.out] at *
                  exact ⟨rfl, K1.out, K2.out⟩
                exact AllReadyH.nil
              exact AllReadyH.nil
            exact AllReadyH.nil
          exact AllReadyH.nil
        exact AllReadyH.nil
      refine AllReadyH.cons (o := _) rfl (fun K hK => ?_) ?_
      · go_simp
        refine hK.out _ _ (by exact ⟨by assumption, by assumption⟩) (fun hHeld => ?_)
        clear hK K
        try simp only [List.getElem_toArray, List.getElem_cons_zero, List.getElem_cons_succ, Act.put, List.setIfInBounds_toArray, List.set_cons_zero, List.set_cons_succ]
        refine wpAnyH_ready (rs := [5, 13]) (by kernel_rfl) (by simp) ?_
        refine AllReadyH.cons (o := _) rfl (fun K hK => ?_) ?_
        · go_simp
          refine hK.out _ _ (by exact ⟨by assumption, by assumption⟩) (fun hHeld => ?_)
          clear hK K
          try simp only [List.getElem_toArray, List.getElem_cons_zero, List.getElem_cons_succ, Act.put, List.setIfInBounds_toArray, List.set_cons_zero, List.set_cons_succ]
          refine wpAnyH_ready (rs := [13]) (by kernel_rfl) (by simp) ?_
          refine AllReadyH.cons (o := _) rfl (fun K hK => ?_) ?_
          · go_simp
            refine hK.out _ _ (by exact ⟨by assumption, by assumption⟩) (fun hHeld => ?_)
            clear hK K
            try simp only [List.getElem_toArray, List.getElem_cons_zero, List.getElem_cons_succ, Act.put, List.setIfInBounds_toArray, List.set_cons_zero, List.set_cons_succ]
            refine wpAnyH_ready (rs := [14]) (by kernel_rfl) (by simp) ?_
            refine AllReadyH.cons (o := _) rfl (fun K hK => ?_) ?_
            · first
                | (refine step_append_row rowItem (by rfl) _ _ (by rfl) _ _ 0 [] (by rfl) HOE.out x.ao q x.cap (flat x.cl.its) (by rfl) (by rw [flat_len, HQL.out]) (HSR.out _ HFE.out) (flat_one _) (by omega) (by simp <;> omega) ?_; intro ao5 cap5 w5 hown5 hf5 hg5; have hf5 := hf5 wr HFE.out (by simp); have hg5' := hf5.mono (S' := fun k => k = g) (fun _ _ h => h.elim); have hc5 := HC4.out w5 hf5; have HF5 := Ho.mk hf5; have hown5 := own_weak0 (B' := wr.heap.size) hown5; rw [Nat.zero_add, List.nil_append] at hown5; simp only [Nat.zero_add]; have HO5 := Ho.mk hown5; have hf5I := hf5.alloc (Obj.cells #[.int .i64 cost, .int .i64 y] 77); have hg5I := hf5I.mono (S' := fun k => k = g) (fun _ _ h => h.elim); have hc5I := HC4.out _ hf5I; have HF5I := Ho.mk hf5I; clear hf5I hown5 hf5 hg5)
                | (refine step_append_row rowItem (by rfl) _ _ (by rfl) _ _ 0 [] (by rfl) HOEI.out x.ao q x.cap (flat x.cl.its) (by rfl) (by rw [flat_len, HQL.out]) (HSR.out _ HFEI.out) (flat_one _) (by omega) (by simp <;> omega) ?_; intro ao5 cap5 w5 hown5 hf5 hg5; have hf5 := hf5 wr HFEI.out (by simp); have hg5' := hf5.mono (S' := fun k => k = g) (fun _ _ h => h.elim); have hc5 := HC4.out w5 hf5; have hb5 := grown_item HOEI.out hg5 HBEI.out (by simp [Value.ownBlock]); have HB5 := Ho.mk hb5; clear hb5; have HF5 := Ho.mk hf5; have hown5 := own_weak0 (B' := wr.heap.size) hown5; rw [Nat.zero_add, List.nil_append] at hown5; simp only [Nat.zero_add]; have HO5 := Ho.mk hown5; have hf5I := hf5.alloc (Obj.cells #[.int .i64 cost, .int .i64 y] 77); have hg5I := hf5I.mono (S' := fun k => k = g) (fun _ _ h => h.elim); have hc5I := HC4.out _ hf5I; have HF5I := Ho.mk hf5I; clear hf5I hown5 hf5 hg5)
                | (refine step_append_row rowItem (by rfl) _ _ (by rfl) _ _ 0 [] (by rfl) HOIE.out x.ao q x.cap (flat x.cl.its) (by rfl) (by rw [flat_len, HQL.out]) (HSR.out _ HFIE.out) (flat_one _) (by omega) (by simp <;> omega) ?_; intro ao5 cap5 w5 hown5 hf5 hg5; have hf5 := hf5 wr HFIE.out (by omega); have hg5' := hf5.mono (S' := fun k => k = g) (fun _ _ h => h.elim); have hc5 := HC4.out w5 hf5; have hb5 := grown_item HOIE.out hg5 HBIE.out (by simp [Value.ownBlock]); have HB5 := Ho.mk hb5; clear hb5; have HF5 := Ho.mk hf5; have hown5 := own_weak0 (B' := wr.heap.size) hown5; rw [Nat.zero_add, List.nil_append] at hown5; simp only [Nat.zero_add]; have HO5 := Ho.mk hown5; have hf5I := hf5.alloc (Obj.cells #[.int .i64 cost, .int .i64 y] 77); have hg5I := hf5I.mono (S' := fun k => k = g) (fun _ _ h => h.elim); have hc5I := HC4.out _ hf5I; have HF5I := Ho.mk hf5I; clear hf5I hown5 hf5 hg5)
              refine hK.out _ _ (by exact ⟨by assumption, by assumption⟩) (fun hHeld => ?_)
              clear hK K
              try simp only [List.getElem_toArray, List.getElem_cons_zero, List.getElem_cons_succ, Act.put, List.setIfInBounds_toArray, List.set_cons_zero, List.set_cons_succ]
              refine wpAnyH_ready (rs := [19]) (by kernel_rfl) (by simp) ?_
              refine AllReadyH.cons (o := _) rfl (fun K hK => ?_) ?_
              · first
                  | (refine step_append_row rowItem (by rfl) _ _ (by rfl) wr.heap.size (.slice ao5 q cap5) q (flat x.cl.its) (by rfl) (HO5.out) (some ⟨wr.heap.size + 1, 0, none⟩) 1 1 [.int .i64 cost, .int .i64 y] (by rfl) (by rfl) (src_block HB5.out 1) (by simp [Value.oneCell']) (by omega) (Nat.le_trans (by simp) HF5.out.size) ?_; intro ao6 cap6 w6 hown6 hf6 hg6; have hf6 := hf6 wr HF5.out (by simp); have hc6 := HC4.out w6 hf6; have hq6 := hf6.mono (S' := fun k => k = g) (fun _ _ h => h.elim); have hz6 := HZ3.out w6 hf6; have hd6 := HG3.out w6 hf6; obtain ⟨k1, k2, k3, k4⟩ := KEY.out w6 ao6 cap6 hf6 (own_weak0 hown6); have K1 := Ho.mk k1; have K2 := Ho.mk k2; clear k1 k2 hf6 hown6 hg6)
                  | (refine step_append_row rowItem (by rfl) _ _ (by rfl) wr.heap.size (.slice ao5 q cap5) q (flat x.cl.its) (by rfl) (HO5.out) (some ⟨wr.heap.size, 0, none⟩) 1 1 [.int .i64 cost, .int .i64 y] (by rfl) (by rfl) (src_block HB5.out 1) (by simp [Value.oneCell']) (by omega) (Nat.le_trans (by simp) HF5.out.size) ?_; intro ao6 cap6 w6 hown6 hf6 hg6; have hf6 := hf6 wr HF5.out (by simp); have hc6 := HC4.out w6 hf6; have hq6 := hf6.mono (S' := fun k => k = g) (fun _ _ h => h.elim); have hz6 := HZ3.out w6 hf6; have hd6 := HG3.out w6 hf6; obtain ⟨k1, k2, k3, k4⟩ := KEY.out w6 ao6 cap6 hf6 (own_weak0 hown6); have K1 := Ho.mk k1; have K2 := Ho.mk k2; clear k1 k2 hf6 hown6 hg6)
                  | (refine step_append_row rowItem (by rfl) _ _ (by rfl) wr.heap.size (.slice ao5 q cap5) q (flat x.cl.its) (by rfl) (HO5.out.alloc _) (some ⟨w5.heap.size, 0, none⟩) 1 1 [.int .i64 cost, .int .i64 y] (by rfl) (by rfl) (src_block (HBI.out w5) 1) (by simp [Value.oneCell']) (by omega) (Nat.le_trans (by simp) HF5I.out.size) ?_; intro ao6 cap6 w6 hown6 hf6 hg6; have hf6 := hf6 wr HF5I.out (by simp); have hc6 := HC4.out w6 hf6; have hq6 := hf6.mono (S' := fun k => k = g) (fun _ _ h => h.elim); have hz6 := HZ3.out w6 hf6; have hd6 := HG3.out w6 hf6; obtain ⟨k1, k2, k3, k4⟩ := KEY.out w6 ao6 cap6 hf6 (own_weak0 hown6); have K1 := Ho.mk k1; have K2 := Ho.mk k2; clear k1 k2 hf6 hown6 hg6)
                refine hK.out _ _ (by exact ⟨by assumption, by assumption⟩) (fun hHeld => ?_)
                clear hK K
                try simp only [List.getElem_toArray, List.getElem_cons_zero, List.getElem_cons_succ, Act.put, List.setIfInBounds_toArray, List.set_cons_zero, List.set_cons_succ]
                refine wpAnyH_take (i := 20) (oi := _) (v := ?v28) rfl (by kernel_rfl) (by kernel_rfl) (by kernel_rfl) (fun _ _ _ h => h) (Or.inl ⟨by rfl, ?hy28⟩) (by assumption) ?rest28
                case hy28 => (intro w hSw; (try dsimp only at hSw); go_simp; try (with_reducible rfl))
                try simp only [List.getElem_toArray, List.getElem_cons_zero, List.getElem_cons_succ, Act.put, List.setIfInBounds_toArray, List.set_cons_zero, List.set_cons_succ]
                refine wpAnyH_take (i := 21) (oi := _) (v := ?v29) rfl (by kernel_rfl) (by kernel_rfl) (by kernel_rfl) (fun _ _ _ h => h) (Or.inl ⟨by rfl, ?hy29⟩) (by assumption) ?rest29
                case hy29 => (intro w hSw; (try dsimp only at hSw); go_simp; try (with_reducible rfl))
                try simp only [List.getElem_toArray, List.getElem_cons_zero, List.getElem_cons_succ, Act.put, List.setIfInBounds_toArray, List.set_cons_zero, List.set_cons_succ]
                refine wpAnyH_ready (rs := [22]) (by kernel_rfl) (by simp) ?_
                refine AllReadyH.cons (o := _) rfl (fun K hK => ?_) ?_
                · go_simp
                  refine hK.out _ _ (by exact ⟨by assumption, by assumption⟩) (fun hHeld => ?_)
                  clear hK K
                  try simp only [List.getElem_toArray, List.getElem_cons_zero, List.getElem_cons_succ, Act.put, List.setIfInBounds_toArray, List.set_cons_zero, List.set_cons_succ]
                  refine wpAnyH_done (by kernel_rfl) ?_ _
                  go_wp2_with (fail)
                  go_ret
                  rw [HE.out] at *
                  exact ⟨rfl, K1.out, K2.out⟩
                exact AllReadyH.nil
              exact AllReadyH.nil
            exact AllReadyH.nil
          exact AllReadyH.nil
        refine AllReadyH.cons (o := _) rfl (fun K hK => ?_) ?_
        · go_simp
          refine hK.out _ _ (by exact ⟨by assumption, by assumption⟩) (fun hHeld => ?_)
          clear hK K
          try simp only [List.getElem_toArray, List.getElem_cons_zero, List.getElem_cons_succ, Act.put, List.setIfInBounds_toArray, List.set_cons_zero, List.set_cons_succ]
          refine wpAnyH_ready (rs := [5]) (by kernel_rfl) (by simp) ?_
          refine AllReadyH.cons (o := _) rfl (fun K hK => ?_) ?_
          · go_simp
            refine hK.out _ _ (by exact ⟨by assumption, by assumption⟩) (fun hHeld => ?_)
            clear hK K
            try simp only [List.getElem_toArray, List.getElem_cons_zero, List.getElem_cons_succ, Act.put, List.setIfInBounds_toArray, List.set_cons_zero, List.set_cons_succ]
            refine wpAnyH_ready (rs := [14]) (by kernel_rfl) (by simp) ?_
            refine AllReadyH.cons (o := _) rfl (fun K hK => ?_) ?_
            · first
                | (refine step_append_row rowItem (by rfl) _ _ (by rfl) _ _ 0 [] (by rfl) HOE.out x.ao q x.cap (flat x.cl.its) (by rfl) (by rw [flat_len, HQL.out]) (HSR.out _ HFE.out) (flat_one _) (by omega) (by simp <;> omega) ?_; intro ao5 cap5 w5 hown5 hf5 hg5; have hf5 := hf5 wr HFE.out (by simp); have hg5' := hf5.mono (S' := fun k => k = g) (fun _ _ h => h.elim); have hc5 := HC4.out w5 hf5; have HF5 := Ho.mk hf5; have hown5 := own_weak0 (B' := wr.heap.size) hown5; rw [Nat.zero_add, List.nil_append] at hown5; simp only [Nat.zero_add]; have HO5 := Ho.mk hown5; have hf5I := hf5.alloc (Obj.cells #[.int .i64 cost, .int .i64 y] 77); have hg5I := hf5I.mono (S' := fun k => k = g) (fun _ _ h => h.elim); have hc5I := HC4.out _ hf5I; have HF5I := Ho.mk hf5I; clear hf5I hown5 hf5 hg5)
                | (refine step_append_row rowItem (by rfl) _ _ (by rfl) _ _ 0 [] (by rfl) HOEI.out x.ao q x.cap (flat x.cl.its) (by rfl) (by rw [flat_len, HQL.out]) (HSR.out _ HFEI.out) (flat_one _) (by omega) (by simp <;> omega) ?_; intro ao5 cap5 w5 hown5 hf5 hg5; have hf5 := hf5 wr HFEI.out (by simp); have hg5' := hf5.mono (S' := fun k => k = g) (fun _ _ h => h.elim); have hc5 := HC4.out w5 hf5; have hb5 := grown_item HOEI.out hg5 HBEI.out (by simp [Value.ownBlock]); have HB5 := Ho.mk hb5; clear hb5; have HF5 := Ho.mk hf5; have hown5 := own_weak0 (B' := wr.heap.size) hown5; rw [Nat.zero_add, List.nil_append] at hown5; simp only [Nat.zero_add]; have HO5 := Ho.mk hown5; have hf5I := hf5.alloc (Obj.cells #[.int .i64 cost, .int .i64 y] 77); have hg5I := hf5I.mono (S' := fun k => k = g) (fun _ _ h => h.elim); have hc5I := HC4.out _ hf5I; have HF5I := Ho.mk hf5I; clear hf5I hown5 hf5 hg5)
                | (refine step_append_row rowItem (by rfl) _ _ (by rfl) _ _ 0 [] (by rfl) HOIE.out x.ao q x.cap (flat x.cl.its) (by rfl) (by rw [flat_len, HQL.out]) (HSR.out _ HFIE.out) (flat_one _) (by omega) (by simp <;> omega) ?_; intro ao5 cap5 w5 hown5 hf5 hg5; have hf5 := hf5 wr HFIE.out (by omega); have hg5' := hf5.mono (S' := fun k => k = g) (fun _ _ h => h.elim); have hc5 := HC4.out w5 hf5; have hb5 := grown_item HOIE.out hg5 HBIE.out (by simp [Value.ownBlock]); have HB5 := Ho.mk hb5; clear hb5; have HF5 := Ho.mk hf5; have hown5 := own_weak0 (B' := wr.heap.size) hown5; rw [Nat.zero_add, List.nil_append] at hown5; simp only [Nat.zero_add]; have HO5 := Ho.mk hown5; have hf5I := hf5.alloc (Obj.cells #[.int .i64 cost, .int .i64 y] 77); have hg5I := hf5I.mono (S' := fun k => k = g) (fun _ _ h => h.elim); have hc5I := HC4.out _ hf5I; have HF5I := Ho.mk hf5I; clear hf5I hown5 hf5 hg5)
              refine hK.out _ _ (by exact ⟨by assumption, by assumption⟩) (fun hHeld => ?_)
              clear hK K
              try simp only [List.getElem_toArray, List.getElem_cons_zero, List.getElem_cons_succ, Act.put, List.setIfInBounds_toArray, List.set_cons_zero, List.set_cons_succ]
              refine wpAnyH_ready (rs := [19]) (by kernel_rfl) (by simp) ?_
              refine AllReadyH.cons (o := _) rfl (fun K hK => ?_) ?_
              · first
                  | (refine step_append_row rowItem (by rfl) _ _ (by rfl) wr.heap.size (.slice ao5 q cap5) q (flat x.cl.its) (by rfl) (HO5.out) (some ⟨wr.heap.size + 1, 0, none⟩) 1 1 [.int .i64 cost, .int .i64 y] (by rfl) (by rfl) (src_block HB5.out 1) (by simp [Value.oneCell']) (by omega) (Nat.le_trans (by simp) HF5.out.size) ?_; intro ao6 cap6 w6 hown6 hf6 hg6; have hf6 := hf6 wr HF5.out (by simp); have hc6 := HC4.out w6 hf6; have hq6 := hf6.mono (S' := fun k => k = g) (fun _ _ h => h.elim); have hz6 := HZ3.out w6 hf6; have hd6 := HG3.out w6 hf6; obtain ⟨k1, k2, k3, k4⟩ := KEY.out w6 ao6 cap6 hf6 (own_weak0 hown6); have K1 := Ho.mk k1; have K2 := Ho.mk k2; clear k1 k2 hf6 hown6 hg6)
                  | (refine step_append_row rowItem (by rfl) _ _ (by rfl) wr.heap.size (.slice ao5 q cap5) q (flat x.cl.its) (by rfl) (HO5.out) (some ⟨wr.heap.size, 0, none⟩) 1 1 [.int .i64 cost, .int .i64 y] (by rfl) (by rfl) (src_block HB5.out 1) (by simp [Value.oneCell']) (by omega) (Nat.le_trans (by simp) HF5.out.size) ?_; intro ao6 cap6 w6 hown6 hf6 hg6; have hf6 := hf6 wr HF5.out (by simp); have hc6 := HC4.out w6 hf6; have hq6 := hf6.mono (S' := fun k => k = g) (fun _ _ h => h.elim); have hz6 := HZ3.out w6 hf6; have hd6 := HG3.out w6 hf6; obtain ⟨k1, k2, k3, k4⟩ := KEY.out w6 ao6 cap6 hf6 (own_weak0 hown6); have K1 := Ho.mk k1; have K2 := Ho.mk k2; clear k1 k2 hf6 hown6 hg6)
                  | (refine step_append_row rowItem (by rfl) _ _ (by rfl) wr.heap.size (.slice ao5 q cap5) q (flat x.cl.its) (by rfl) (HO5.out.alloc _) (some ⟨w5.heap.size, 0, none⟩) 1 1 [.int .i64 cost, .int .i64 y] (by rfl) (by rfl) (src_block (HBI.out w5) 1) (by simp [Value.oneCell']) (by omega) (Nat.le_trans (by simp) HF5I.out.size) ?_; intro ao6 cap6 w6 hown6 hf6 hg6; have hf6 := hf6 wr HF5I.out (by simp); have hc6 := HC4.out w6 hf6; have hq6 := hf6.mono (S' := fun k => k = g) (fun _ _ h => h.elim); have hz6 := HZ3.out w6 hf6; have hd6 := HG3.out w6 hf6; obtain ⟨k1, k2, k3, k4⟩ := KEY.out w6 ao6 cap6 hf6 (own_weak0 hown6); have K1 := Ho.mk k1; have K2 := Ho.mk k2; clear k1 k2 hf6 hown6 hg6)
                refine hK.out _ _ (by exact ⟨by assumption, by assumption⟩) (fun hHeld => ?_)
                clear hK K
                try simp only [List.getElem_toArray, List.getElem_cons_zero, List.getElem_cons_succ, Act.put, List.setIfInBounds_toArray, List.set_cons_zero, List.set_cons_succ]
                refine wpAnyH_take (i := 20) (oi := _) (v := ?v30) rfl (by kernel_rfl) (by kernel_rfl) (by kernel_rfl) (fun _ _ _ h => h) (Or.inl ⟨by rfl, ?hy30⟩) (by assumption) ?rest30
                case hy30 => (intro w hSw; (try dsimp only at hSw); go_simp; try (with_reducible rfl))
                try simp only [List.getElem_toArray, List.getElem_cons_zero, List.getElem_cons_succ, Act.put, List.setIfInBounds_toArray, List.set_cons_zero, List.set_cons_succ]
                refine wpAnyH_take (i := 21) (oi := _) (v := ?v31) rfl (by kernel_rfl) (by kernel_rfl) (by kernel_rfl) (fun _ _ _ h => h) (Or.inl ⟨by rfl, ?hy31⟩) (by assumption) ?rest31
                case hy31 => (intro w hSw; (try dsimp only at hSw); go_simp; try (with_reducible rfl))
                try simp only [List.getElem_toArray, List.getElem_cons_zero, List.getElem_cons_succ, Act.put, List.setIfInBounds_toArray, List.set_cons_zero, List.set_cons_succ]
                refine wpAnyH_ready (rs := [22]) (by kernel_rfl) (by simp) ?_
                refine AllReadyH.cons (o := _) rfl (fun K hK => ?_) ?_
                · go_simp
                  refine hK.out _ _ (by exact ⟨by assumption, by assumption⟩) (fun hHeld => ?_)
                  clear hK K
                  try simp only [List.getElem_toArray, List.getElem_cons_zero, List.getElem_cons_succ, Act.put, List.setIfInBounds_toArray, List.set_cons_zero, List.set_cons_succ]
                  refine wpAnyH_done (by kernel_rfl) ?_ _
                  go_wp2_with (fail)
                  go_ret
                  rw [HE.out] at *
                  exact ⟨rfl, K1.out, K2.out⟩
                exact AllReadyH.nil
              exact AllReadyH.nil
            exact AllReadyH.nil
          exact AllReadyH.nil
        exact AllReadyH.nil
      exact AllReadyH.nil
end Go.Proofs.Ytcpejmnmbioinaa
