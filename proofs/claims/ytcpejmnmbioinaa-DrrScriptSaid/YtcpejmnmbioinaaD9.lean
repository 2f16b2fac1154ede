/-
  package drr: Next.
-/
import Derived.Test.YtcpejmnmbioinaaD8
import Derived.LoopTactic
namespace Go.Proofs.Ytcpejmnmbioinaa
open Go.RowKit
theorem slice_from1 (ao : Option Addr) (len cap : Nat) (h : 1 ≤ len) (W : World) :
    (Instr.slice 61 (.slice ao len cap) (some (.int .i64 1)) none none).run Try.prog W = .ok (.slice (if cap = 1 then ao else ao.map (·.add (1 * 2))) (len - 1) (cap - 1)) W := by
  obtain ⟨i, h2, h3, h4, h5⟩ := infoItem
  have hb := run_sliceBound (P := Try.prog) (w := W) .i64 1 len .sliceB (by omega) (by omega)
  simp [Instr.slice, Instr.sliceBounds, hb, go_sem, run_underlying Try.underlying61, sizeOf, typeInfo, h2, h4]
set_option maxRecDepth 100000 in
set_option maxHeartbeats 4000000 in
theorem next_calls (D : Nat → Prop) (w : World) (q : Nat) (st : Qs) (h : QS D w q st) (hD : ∀ k, w.heap.size ≤ k → D k) :
    Calls Try.prog 13 #[.pointer (some ⟨q, 0, none⟩)] w fun r w' => r = .returned (.tuple #[.int .i64 st.next.2.1, .int .i64 st.next.2.2.1, .bool st.next.2.2.2]) ∧ QS D w' q st.next.1 ∧ Fr D w w' := by
  have hcall : Calls Try.prog 31 #[.pointer (some ⟨q, 0, none⟩)] w fun r w' => r = .returned (.bool false) ∧ w' = w := by
    obtain ⟨_, bl, mp, E, hQ, _⟩ := h
    exact none_calls q bl w hQ.cells.2.2.2.2.1
  have HQ := Ho.mk h; have HD := Ho.mk hD
  clear h hD
  obtain ⟨res, hres⟩ : ∃ x, st.next = x := ⟨_, rfl⟩
  rw [hres]
  have HRES := Ho.mk hres; clear hres
  go_enter Try.func13, Try.ntmps13
  go_wp2_with (fail)
  refine hcall.mono ?_
  clear hcall
  rintro r w' ⟨rfl, rfl⟩
  obtain ⟨w, rfl⟩ : ∃ w : World, w = w' := ⟨_, rfl⟩
  go_wp2_with (fail)
  go_loopg [] 1 (fun gk wr => ∃ st1 : Qs, Ho (QS D wr q st1) ∧ Ho (st1.next = res) ∧ Ho (gk = 0 → st1.turn = false) ∧ Fr D w wr)
  case atStart => exact ⟨st, HQ, HRES, Ho.mk (fun h => by cases h), Fr.refl _ _⟩
  case round =>
    obtain ⟨st1, HQ1, HN1, HG, hF⟩ := hrel
    obtain ⟨hwf, bl, mp, E, hQ, hO⟩ := HQ1.out
    obtain ⟨q0, q1, q2, q3, q4, q5, q6, q7⟩ := hQ.cells
    have hlen := chain_len_calls bl _ wr hQ.ring
    rw [List.length_map] at hlen
    cases E with
    | nil =>
      have hd : decide ((0 : Int) < ((0 : Nat) : Int)) = false := by decide
      simp only [List.length_nil] at hlen
      have hn : st1.next = (st1, 0, 0, false) := by unfold Qs.next; rw [hQ.st]; rfl
      have hr : res = (st1, 0, 0, false) := by rw [← HN1.out, hn]
      have HR := Ho.mk hr
      clear hQ hwf hO hn hr
      go_wp2_with (fail)
      refine hlen.mono ?_
      clear hlen
      rintro r w' ⟨rfl, rfl⟩
      go_wp2_with (fail)
      go_ret3
      rw [HR.out]
      exact ⟨rfl, HQ1.out, hF⟩
    | cons x E =>
      obtain ⟨n, hn⟩ : ∃ n, (x :: E).length = n := ⟨_, rfl⟩
      have hd : decide ((0 : Int) < (n : Int)) = true := decide_eq_true (by rw [← hn, List.length_cons]; omega)
      have hd' : decide (0 < n) = true := decide_eq_true (by rw [← hn, List.length_cons]; omega)
      rw [hn] at hlen
      have hring : st1.ring = x.cl :: E.map (·.cl) := hQ.st
      have hmem : x.cl ∈ st1.ring := by rw [hring]; simp
      have hfront := chain_front_calls bl _ wr hQ.ring
      obtain ⟨na, nb, hnode⟩ := hQ.ring.node (valE x) (List.mem_map_of_mem (by simp))
      have hof := of_calls x.e x.c wr na nb _ hnode
      have hcl := hQ.cls x (by simp)
      have c1 : wr.cell? ⟨x.c, 1, none⟩ = some (.int .i64 x.cl.credit) := blk_cell hcl.1 1
      have fc1 := blk_free hcl.1 1
      have fq6 := blk_free hQ.head 6
      have hqc := hQ.qc (x := x) (by simp)
      have hcq : x.c ≠ q := fun h => hqc h.symm
      obtain ⟨i, t, hit⟩ : ∃ i t, x.cl.its = i :: t := by
        cases hi : x.cl.its with
        | nil => exact absurd hi (hwf.its _ hmem).1
        | cons i t => exact ⟨i, t, rfl⟩
      have hi1 := (hwf.its _ hmem).2.2 i (by rw [hit]; simp)
      have hlow := hwf.low _ hmem
      have hhigh := hwf.high _ hmem
      have hqu := hwf.qu
      have hmo := hwf.mo
      have hrest := hwf.rest
      have hp : (x.cl :: E.map (·.cl)).Perm st1.ring := by rw [hring]
      have hnext : st1.next = if st1.turn = false then st1.serve x.cl (x.cl.credit + st1.quantum) (E.map (·.cl)) else if firstCost x.cl ≤ x.cl.credit then st1.serve x.cl x.cl.credit (E.map (·.cl)) else st1.next := by
        conv => lhs; unfold Qs.next
        rw [hring]
        simp only
        split
        · rfl
        · split
          · rfl
          · rename_i h1 h2
            unfold Qs.next
            rw [hring]
            simp only [if_neg h1, if_neg h2]
      have htot : ∀ cr : Int, total ({ x.cl with credit := cr } :: E.map (·.cl)) = total st1.ring := fun cr => by rw [hring, total_cons, total_cons]
      have hkey : (st1.turn = false ∧ IntKind.i64.wrap (x.cl.credit + st1.quantum) = x.cl.credit + st1.quantum) ∨ (st1.turn = true ∧ i.1 ≤ x.cl.credit) ∨ (st1.turn = true ∧ ¬ i.1 ≤ x.cl.credit) := by
        by_cases h1 : st1.turn = false
        · exact .inl ⟨h1, by rw [IntKind.wrap_i64]; omega⟩
        · have h1 : st1.turn = true := by simpa using h1
          by_cases h2 : i.1 ≤ x.cl.credit
          · exact .inr (.inl ⟨h1, h2⟩)
          · exact .inr (.inr ⟨h1, h2⟩)
      have hserve : ∀ cr, ((st1.turn = false ∧ cr = x.cl.credit + st1.quantum) ∨ (st1.turn = true ∧ i.1 ≤ x.cl.credit ∧ cr = x.cl.credit)) → i.1 ≤ cr ∧ 0 ≤ cr ∧ cr ≤ 100000 ∧ res = st1.serve x.cl cr (E.map (·.cl)) ∧
          ({ st1 with ring := if t = [] then E.map (·.cl) else { x.cl with credit := cr - i.1, its := t } :: E.map (·.cl), turn := !t.isEmpty } : Qs).wf := by
        rintro cr (⟨h1, rfl⟩ | ⟨h1, h2, rfl⟩)
        · have hr1 : ∀ y ∈ E.map (·.cl), y.credit ≤ st1.most - 1 := by
            rw [h1, hring] at hrest
            exact fun y hy => hrest y (by simpa using Or.inr hy)
          have hc0 : x.cl.credit ≤ st1.most - 1 := by
            rw [h1, hring] at hrest
            exact hrest x.cl (by simp)
          refine ⟨by omega, by omega, by omega, ?_, hwf.serve hp hit (by omega) (by omega) hr1⟩
          rw [← HN1.out, hnext, if_pos h1]
        · have hr1 : ∀ y ∈ E.map (·.cl), y.credit ≤ st1.most - 1 := by
            rw [h1, hring] at hrest
            exact fun y hy => hrest y (by simpa using hy)
          refine ⟨h2, by omega, by omega, ?_, hwf.serve hp hit h2 (by omega) hr1⟩
          rw [← HN1.out, hnext, if_neg (by rw [h1]; simp), if_pos (by rw [firstCost_cons hit]; exact h2)]
      have hfirst : firstCost x.cl = i.1 := firstCost_cons hit
      have hnum : ∀ y ∈ E, y.cl.n ≠ x.cl.n := by
        intro y hy e
        have h1 := hwf.nums
        rw [hring, List.map_cons, List.nodup_cons] at h1
        exact h1.1 (by rw [← e]; exact List.mem_map.2 ⟨y.cl, List.mem_map_of_mem hy, rfl⟩)
      have htl := hwf.total_lt
      have hlen40 : (x :: E).length < 2 ^ 40 := by
        have h1 := hwf.len; have h2 := hwf.cl.2
        rw [hQ.st, List.length_map] at h1; omega
      have HQI := Ho.mk hQ; have HIT := Ho.mk hit; have HC := Ho.mk hcl; have HO := Ho.mk hO; have HNODE := Ho.mk hnode; have HWF := Ho.mk hwf
      have HSV := Ho.mk hserve; have HRING := Ho.mk hring; have HTOT := Ho.mk htot; have HFI := Ho.mk hfirst; have HNUM := Ho.mk hnum; have HTL := Ho.mk htl; have HI1 := Ho.mk hi1; have HLEN := Ho.mk hlen40
      have hrot := hwf.rot hring
      rw [hfirst] at hrot
      have hnrot := Qs.next_rot hwf hring
      rw [hfirst] at hnrot
      have HROT := Ho.mk hrot; have HNROT := Ho.mk hnrot
      clear hQ hit hcl hO hnode hwf hi1 hrest hp hnext hlow hhigh hqu hmo hmem hring hn hserve htot hfirst hnum htl hlen40 hrot hnrot
      rcases hkey with ⟨hturn, hwrap⟩ | ⟨hturn, hle⟩ | ⟨hturn, hle⟩
      case' inl =>
        rw [hturn] at q6
        obtain ⟨k1, k2, k3, hr, hwf2⟩ := HSV.out _ (.inl ⟨hturn, rfl⟩)
        obtain ⟨cr, hcr⟩ : ∃ cr, x.cl.credit + st1.quantum = cr := ⟨_, rfl⟩
        replace hwrap := hwrap.trans hcr
        rw [hcr] at hr hwf2 k1 k2 k3
        have HW2 := Ho.mk hwf2; have HR := Ho.mk hr; have HK := Ho.mk (And.intro k1 (And.intro k2 k3)); have HTU := Ho.mk hturn
        clear hwf2 hr hcr k1 k2 k3 hturn HSV
        go_wp2_with (fail)
        refine hlen.mono ?_
        clear hlen
        rintro r w' ⟨rfl, rfl⟩
        go_wp2_with (fail)
        refine hfront.mono ?_
        clear hfront
        rintro r w' ⟨rfl, rfl⟩
        simp only [PtHead, List.map_cons, valE]
        unfold Pt
        go_wp2_with (fail)
        refine hof.mono ?_
        clear hof
        rintro r w' ⟨rfl, rfl⟩
        unfold Pt
        go_wp2_with (fail)
        go_region
        go_upto_region 9 with (fail)
        have hf1 : Fr (fun k => k = q ∨ k = x.c ∨ inB x.ao k) w' ((w'.setCell ⟨x.c, 1, none⟩ (.int .i64 cr)).setCell ⟨q, 6, none⟩ (.bool true)).drew :=
          (((Fr.refl (fun k => k = q ∨ k = x.c ∨ inB x.ao k) w').set (p := ⟨x.c, 1, none⟩) (.inr (.inr (.inl rfl))) _).set (p := ⟨q, 6, none⟩) (.inr (.inl rfl)) _).drew
        have hc9 := blk_far (blk_set HC.out.1 1 (.int .i64 cr)) ⟨q, 6, none⟩ hcq (.bool true)
        have hq9 := blk_set (blk_far HQI.out.head ⟨x.c, 1, none⟩ hqc (.int .i64 cr)) 6 (.bool true)
        have hI9 : IR ((w'.setCell ⟨x.c, 1, none⟩ (.int .i64 cr)).setCell ⟨q, 6, none⟩ (.bool true)).drew x.ao x.cap x.cl.its := by
          refine HC.out.2.fr (S := fun k => k = q ∨ k = x.c) ((((Fr.refl (fun k => k = q ∨ k = x.c) w').set (p := ⟨x.c, 1, none⟩) (.inr (.inr rfl)) _).set (p := ⟨q, 6, none⟩) (.inr (.inl rfl)) _).drew) ?_
          rintro k hk (rfl | rfl)
          · exact HQI.out.qi (x := x) (by simp) hk
          · exact HQI.out.ci (x := x) (y := x) (by simp) (by simp) hk
        have hQ2 : QI ((w'.setCell ⟨x.c, 1, none⟩ (.int .i64 cr)).setCell ⟨q, 6, none⟩ (.bool true)).drew q bl mp (⟨x.e, x.c, x.ao, x.cap, { x.cl with credit := cr }⟩ :: E) { st1 with ring := { x.cl with credit := cr } :: E.map (·.cl), turn := true } := by
          refine QI.mid (A := []) (B := E) (x := x) (x' := ⟨x.e, x.c, x.ao, x.cap, { x.cl with credit := cr }⟩) HQI.out hf1 (fun _ h => h) rfl rfl rfl ⟨hc9, hI9⟩ (fun _ h => .inl h) ?_ rfl
          simp only [HTOT.out]
          exact hq9
        have hF1 : Fr D w ((w'.setCell ⟨x.c, 1, none⟩ (.int .i64 cr)).setCell ⟨q, 6, none⟩ (.bool true)).drew := hF.trans (hf1.mono (fun k _ hk => HO.out k (by
          rcases hk with h | h | h
          · exact .inl h
          · exact .inr (.inr (.inr ⟨x, by simp, .inl h⟩))
          · exact .inr (.inr (.inr ⟨x, by simp, .inr h⟩)))))
        have hO2 : ∀ k, Own q bl mp (⟨x.e, x.c, x.ao, x.cap, { x.cl with credit := cr }⟩ :: E) k → D k := fun k hk => by
          rcases Own.mid (A := []) (B := E) (x := x) (x' := ⟨x.e, x.c, x.ao, x.cap, { x.cl with credit := cr }⟩) rfl rfl hk with h | h
          · exact HO.out k h
          · exact HO.out k (.inr (.inr (.inr ⟨x, by simp, .inr h⟩)))
        clear hf1 hc9 hq9 hI9 hF q0 q1 q2 q3 q4 q5 q6 q7 c1 fc1 fq6
        generalize ((w'.setCell ⟨x.c, 1, none⟩ (.int .i64 cr)).setCell ⟨q, 6, none⟩ (.bool true)).drew = w1 at *
      case' inr.inl =>
        rw [hturn] at q6
        obtain ⟨k1, k2, k3, hr, hwf2⟩ := HSV.out _ (.inr ⟨hturn, hle, rfl⟩)
        obtain ⟨cr, hcr⟩ : ∃ cr, x.cl.credit = cr := ⟨_, rfl⟩
        rw [hcr] at hr hwf2 k1 k2 k3
        have HW2 := Ho.mk hwf2; have HR := Ho.mk hr; have HK := Ho.mk (And.intro k1 (And.intro k2 k3)); have HTU := Ho.mk hturn; have HCR := Ho.mk hcr
        clear hwf2 hr hcr k1 k2 k3 hturn HSV hle
        go_wp2_with (fail)
        refine hlen.mono ?_
        clear hlen
        rintro r w' ⟨rfl, rfl⟩
        go_wp2_with (fail)
        refine hfront.mono ?_
        clear hfront
        rintro r w' ⟨rfl, rfl⟩
        simp only [PtHead, List.map_cons, valE]
        unfold Pt
        go_wp2_with (fail)
        refine hof.mono ?_
        clear hof
        rintro r w' ⟨rfl, rfl⟩
        unfold Pt
        go_upto_region 9 with (fail)
        have hQ2 : QI w' q bl mp (⟨x.e, x.c, x.ao, x.cap, { x.cl with credit := cr }⟩ :: E) { st1 with ring := { x.cl with credit := cr } :: E.map (·.cl), turn := true } := by
          have h1 : { x.cl with credit := cr } = x.cl := by rw [← HCR.out]
          have h2 : ({ st1 with ring := x.cl :: E.map (·.cl), turn := true } : Qs) = st1 := by rw [← HRING.out, ← HTU.out]
          rw [h1, h2]; exact HQI.out
        have hF1 : Fr D w w' := hF
        have hO2 : ∀ k, Own q bl mp (⟨x.e, x.c, x.ao, x.cap, { x.cl with credit := cr }⟩ :: E) k → D k := fun k hk => by
          rcases Own.mid (A := []) (B := E) (x := x) (x' := ⟨x.e, x.c, x.ao, x.cap, { x.cl with credit := cr }⟩) rfl rfl hk with h | h
          · exact HO.out k h
          · exact HO.out k (.inr (.inr (.inr ⟨x, by simp, .inr h⟩)))
        clear hF q0 q1 q2 q3 q4 q5 q6 q7 c1 fc1 fq6
        obtain ⟨w1, hw1⟩ : ∃ w1, w1 = w' := ⟨w', rfl⟩
        subst hw1
      case inr.inr =>
        rw [hturn] at q6
        obtain ⟨gm, hgm⟩ : ∃ m, gk = m + 1 := by
          cases gk with
          | zero => have := HG.out rfl; rw [hturn] at this; cases this
          | succ m => exact ⟨m, rfl⟩
        subst hgm
        have hR := HROT.out hturn hle
        have hN := HNROT.out hturn hle
        have HR := Ho.mk hR; have HN := Ho.mk hN; have HTU := Ho.mk hturn
        obtain ⟨_, hcapm, ⟨_, hcap0⟩ | ⟨g, off, cur, hao, hgb, hsz, hcur⟩⟩ := id HC.out.2
        · have := HIT.out; have h2 := HC.out.2.1; have h3 : x.cap = 0 := hcap0; simp only [this, List.length_cons] at h2; omega
        have hlen1 : x.cl.its.length = t.length + 1 := by rw [HIT.out, List.length_cons]
        have c2 : wr.cell? ⟨x.c, 2, none⟩ = some (.slice x.ao x.cl.its.length x.cap) := blk_cell HC.out.1 2
        rw [hlen1, hao] at c2
        have g0 : wr.cell? ⟨g, off, none⟩ = some (.int .i64 i.1) := by
          rw [blk_cell hgb]; exact hcur 0 _ (by simp only [HIT.out]; rw [flat_cons]; rfl)
        have g1 : wr.cell? ⟨g, off + 1, none⟩ = some (.int .i64 i.2) := by
          rw [blk_cell hgb]; exact hcur 1 _ (by simp only [HIT.out]; rw [flat_cons]; rfl)
        have hd3 : decide (x.cl.credit < i.1) = true := decide_eq_true (by omega)
        obtain ⟨i1, hi1'⟩ : ∃ v, i.1 = v := ⟨_, rfl⟩
        obtain ⟨i2, hi2'⟩ : ∃ v, i.2 = v := ⟨_, rfl⟩
        rw [hi1'] at g0 hd3
        rw [hi2'] at g1
        have hqw : q < wr.heap.size := lt_of_blk HQI.out.head
        have hcw : x.c < wr.heap.size := lt_of_blk HC.out.1
        have HQW := Ho.mk hqw; have HCW := Ho.mk hcw
        clear hR hN hturn hle hcapm hao hgb hsz hcur hlen1 hi1' hi2' HSV hqw hcw
        go_wp2_with (fail)
        refine hlen.mono ?_
        clear hlen
        rintro r w' ⟨rfl, rfl⟩
        go_wp2_with (fail)
        refine hfront.mono ?_
        clear hfront
        rintro r w' ⟨rfl, rfl⟩
        simp only [PtHead, List.map_cons, valE]
        unfold Pt
        go_wp2_with (fail)
        refine hof.mono ?_
        clear hof
        rintro r w' ⟨rfl, rfl⟩
        unfold Pt
        go_wp2_with (fail)
        have hff := (Fr.refl nob w').alloc (.cells #[.int .i64 i1, .int .i64 i2] 66)
        have hfb := blk_new w' (.cells #[.int .i64 i1, .int .i64 i2] 66)
        obtain ⟨f, hf⟩ : ∃ f, w'.heap.size = f := ⟨_, rfl⟩
        have hqf : q ≠ f := by have := HQW.out; omega
        have hcf : x.c ≠ f := by have := HCW.out; omega
        have hfq : f ≠ q := fun h => hqf h.symm
        have hfc : f ≠ x.c := fun h => hcf h.symm
        rw [hf] at hfb
        try rw [hf]
        generalize w'.alloc (.cells #[.int .i64 i1, .int .i64 i2] 66) = w4 at *
        have hQ4 : QI w4 q bl mp (x :: E) st1 := HQI.out.fr hff (fun _ _ h => h)
        have e0 : w4.cell? ⟨f, 0, none⟩ = some (.int .i64 i1) := blk_cell hfb 0
        have d1 : w4.cell? ⟨x.c, 1, none⟩ = some (.int .i64 x.cl.credit) := blk_cell (hQ4.cls x (by simp)).1 1
        have d6 : w4.cell? ⟨q, 6, none⟩ = some (.bool st1.turn) := hQ4.cells.2.2.2.2.2.2.1
        have d4 : w4.cell? ⟨q, 4, none⟩ = some (.pointer (some ⟨bl, 0, none⟩)) := hQ4.cells.2.2.2.2.1
        have fd6 := blk_free hQ4.head 6
        have HQ4 := Ho.mk hQ4; have HFF := Ho.mk hff
        clear hQ4 hff hfb hf g0 g1 c1 c2 q0 q1 q2 q3 q4 q5 q6 q7 fc1 fq6
        go_quiet (fail)
        go_wp2_with (fail)
        have hf5 : Fr (fun k => k = q) w4 ((w4.drewN nq).setCell ⟨q, 6, none⟩ (.bool false)) := ((Fr.refl (fun k => k = q) w4).drewN nq).set (p := ⟨q, 6, none⟩) (.inr rfl) _
        have hh5 : ((w4.drewN nq).setCell ⟨q, 6, none⟩ (.bool false)).heap[q]? = some (.cells (headCells (st1.rot x.cl (E.map (·.cl))) bl mp (total st1.ring : Nat)) 52 (0, 0)) := blk_set (w := w4.drewN nq) HQ4.out.head 6 (.bool false)
        generalize (w4.drewN nq).setCell ⟨q, 6, none⟩ (.bool false) = w5 at *
        have hr5 : Ring w5 bl ((x :: E).map valE) := HQ4.out.ring.fr hf5 (fun k hk h => HQ4.out.qR (h ▸ hk))
        have hcall := chain_move_calls bl x.e _ [] (E.map valE) w5 hr5 (by have := HLEN.out; simpa using this)
        refine hcall.mono ?_
        clear hcall
        rintro r w6 ⟨rfl, h6, f6⟩
        have hh6 := f6.block q _ hh5 HQ4.out.qR
        have hf46 : Fr (fun k => k = q ∨ RingB bl ((x :: E).map valE) k) w4 w6 := (hf5.mono (fun _ _ h => .inl h)).trans (f6.mono (fun _ _ h => .inr h))
        have hQ6 : QI w6 q bl mp (E ++ [x]) (st1.rot x.cl (E.map (·.cl))) := HQ4.out.rotate hf46 (fun _ h => h) HNUM.out (by rw [List.map_append]; exact h6) hh6
        have hperm : (E ++ [x]).Perm (x :: E) := List.perm_append_singleton x E
        have HQ6 := Ho.mk (show QS D w6 q (st1.rot x.cl (E.map (·.cl))) from ⟨HR.out, bl, mp, _, hQ6, fun k hk => HO.out k (own_perm hperm hk)⟩)
        have hF6 : Fr D w w6 := (hF.trans (HFF.out.mono (fun _ _ h => h.elim))).trans (hf46.mono (fun k _ hk => HO.out k (by
          rcases hk with h | h
          · exact .inl h
          · exact .inr (.inr (.inl h)))))
        have HN6 := Ho.mk (HN.out.trans HN1.out)
        have HG6 : Ho (gm = 0 → (st1.rot x.cl (E.map (·.cl))).turn = false) := Ho.mk (fun _ => rfl)
        clear hf5 hh5 hr5 h6 f6 hh6 hf46 hQ6 hperm e0 d1 d6 d4 fd6 hF
        go_wp2_with (fail)
        go_roundg gm
        case rel => exact ⟨_, HQ6, HN6, HG6, hF6⟩
        case measure => omega
      all_goals

        have HQ2 := Ho.mk hQ2; have HF1 := Ho.mk hF1; have HO2 := Ho.mk hO2
        obtain ⟨q0, q1, q2, q3, q4, q5, q6, q7⟩ := hQ2.cells
        obtain ⟨hc1, hI1⟩ := hQ2.cls ⟨x.e, x.c, x.ao, x.cap, { x.cl with credit := cr }⟩ (by simp)
        have hqh := hQ2.head
        simp only [HTOT.out] at q7 hqh
        clear q0 q1 q2 q3 q5 q6 hQ2 hF1 hO2
        obtain ⟨_, hcapm, ⟨_, hcap0⟩ | ⟨g, off, cur, hao, hgb, hsz, hcur⟩⟩ := id hI1
        · have := HIT.out; have h2 := hI1.1; have h3 : x.cap = 0 := hcap0; simp only [this, List.length_cons] at h2; omega
        have hlen1 : x.cl.its.length = t.length + 1 := by rw [HIT.out, List.length_cons]
        have c0 : w1.cell? ⟨x.c, 0, none⟩ = some (.int .i64 x.cl.n) := blk_cell hc1 0
        have c1 : w1.cell? ⟨x.c, 1, none⟩ = some (.int .i64 cr) := blk_cell hc1 1
        have c2 : w1.cell? ⟨x.c, 2, none⟩ = some (.slice x.ao x.cl.its.length x.cap) := blk_cell hc1 2
        rw [hlen1, hao] at c2
        have g0 : w1.cell? ⟨g, off, none⟩ = some (.int .i64 i.1) := by
          rw [blk_cell hgb]; exact hcur 0 _ (by simp only [HIT.out]; rw [flat_cons]; rfl)
        have g1 : w1.cell? ⟨g, off + 1, none⟩ = some (.int .i64 i.2) := by
          rw [blk_cell hgb]; exact hcur 1 _ (by simp only [HIT.out]; rw [flat_cons]; rfl)
        have hsl := fun W => slice_from1 (some ⟨g, off, none⟩) (t.length + 1) x.cap (by omega) W
        rw [Nat.add_sub_cancel] at hsl
        obtain ⟨ao2, hao2⟩ : ∃ a, (if x.cap = 1 then (some ⟨g, off, none⟩ : Option Addr) else (some ⟨g, off, none⟩ : Option Addr).map (·.add (1 * 2))) = a := ⟨_, rfl⟩
        rw [hao2] at hsl
        have fc1 := blk_free hc1 1
        have fc2 := blk_free hc1 2
        have fq7 := blk_free hqh 7
        obtain ⟨k1, k2, k3⟩ := HK.out
        have hd3 : decide (cr < i.1) = false := decide_eq_false (by omega)
        have hi1 := HI1.out.1
        have hsub : IntKind.i64.wrap (cr - i.1) = cr - i.1 := by rw [IntKind.wrap_i64]; omega
        obtain ⟨tn, htn⟩ : ∃ n, total st1.ring = n := ⟨_, rfl⟩
        rw [htn] at q7 hqh
        have htl := HTL.out
        rw [htn] at htl
        obtain ⟨i1, hi1'⟩ : ∃ v, i.1 = v := ⟨_, rfl⟩
        obtain ⟨i2, hi2'⟩ : ∃ v, i.2 = v := ⟨_, rfl⟩
        rw [hi1'] at g0 hd3 hsub
        rw [hi2'] at g1
        obtain ⟨c3, hc3⟩ : ∃ c3, cr - i1 = c3 := ⟨_, rfl⟩
        replace hsub := hsub.trans hc3
        have HC1 := Ho.mk hc1; have HI9 := Ho.mk hI1; have HQH := Ho.mk hqh; have HCAP := Ho.mk hcapm; have HAO := Ho.mk hao; have HAO2 := Ho.mk hao2; have HTN := Ho.mk htn; have HTL2 := Ho.mk htl; have HI1' := Ho.mk hi1'; have HI2' := Ho.mk hi2'; have HC3 := Ho.mk hc3; have HLEN1 := Ho.mk hlen1; have HGB := Ho.mk hgb
        clear hc1 hI1 hqh hcapm hao hao2 htn hi1' hi2' hc3 hlen1 hgb hsz hcur k1 k2 k3 hi1
        go_wp2_with (fail)
        have hfb := blk_new w1 (.cells #[.int .i64 i1, .int .i64 i2] 66)
        have hff := (Fr.refl nob w1).alloc (.cells #[.int .i64 i1, .int .i64 i2] 66)
        obtain ⟨f, hf⟩ : ∃ f, w1.heap.size = f := ⟨_, rfl⟩
        have hxcf : x.c < f := hf ▸ lt_of_blk HC1.out
        have hqf : q < f := hf ▸ lt_of_blk HQH.out
        rw [hf] at hfb
        try rw [hf]
        have hc4 := hff.block x.c _ HC1.out (fun h => h)
        have hq4 := hff.block q _ HQH.out (fun h => h)
        generalize hw4 : w1.alloc (.cells #[.int .i64 i1, .int .i64 i2] 66) = w4 at *
        have e0 : w4.cell? ⟨f, 0, none⟩ = some (.int .i64 i1) := blk_cell hfb 0
        have e1 : w4.cell? ⟨f, 1, none⟩ = some (.int .i64 i2) := blk_cell hfb 1
        have d0 : w4.cell? ⟨x.c, 0, none⟩ = some (.int .i64 x.cl.n) := blk_cell hc4 0
        have d1 : w4.cell? ⟨x.c, 1, none⟩ = some (.int .i64 cr) := blk_cell hc4 1
        have d2 : w4.cell? ⟨x.c, 2, none⟩ = some (.slice (some ⟨g, off, none⟩) (t.length + 1) x.cap) := by
          rw [blk_cell hc4 2, ← HAO.out, ← HLEN1.out]; rfl
        have d7 : w4.cell? ⟨q, 7, none⟩ = some (.int .i64 (tn : Nat)) := blk_cell hq4 7
        have d4 : w4.cell? ⟨q, 4, none⟩ = some (.pointer (some ⟨bl, 0, none⟩)) := blk_cell hq4 4
        have fd1 := blk_free hc4 1
        have fd2 := blk_free hc4 2
        have fd7 := blk_free hq4 7
        have hfq : f ≠ q := by omega
        have hfc : f ≠ x.c := by omega
        have hqf' : q ≠ f := by omega
        have hcf' : x.c ≠ f := by omega
        have HC4 := Ho.mk hc4; have HQ4 := Ho.mk hq4; have HFF := Ho.mk hff; have HF := Ho.mk hf; have HW4 := Ho.mk hw4; have HFB := Ho.mk hfb
        clear hc4 hq4 hff hf hw4 hfb hxcf hqf c0 c1 c2 g0 g1 fc1 fc2 fq7 q4 q7
        go_quiet (fail)
        go_wp2_with (fail)
        have htn1 : 1 ≤ tn := by
          rw [← HTN.out, HRING.out, total_cons, HLEN1.out]; omega
        have htw : IntKind.i64.wrap ((tn : Int) - 1) = ((tn - 1 : Nat) : Int) := by
          have := HTL2.out
          rw [IntKind.wrap_i64]; omega
        obtain ⟨tm, htm⟩ : ∃ n, tn - 1 = n := ⟨_, rfl⟩
        rw [htm] at htw
        obtain ⟨tl, htl⟩ : ∃ n, t.length = n := ⟨_, rfl⟩
        rw [htl] at hsl d2
        have HTM := Ho.mk htm; have HTN1 := Ho.mk htn1; have HTL3 := Ho.mk htl
        clear htm htn1
        have hmid : ∀ (n5 : Nat) (sl : Value), sl = .slice ao2 t.length (x.cap - 1) → ∀ w8, w8 = ((((w4.drewN n5).setCell ⟨x.c, 1, none⟩ (.int .i64 c3)).setCell ⟨x.c, 2, none⟩ sl).setCell ⟨q, 7, none⟩ (.int .i64 (tm : Nat))) →
            QI w8 q bl mp (⟨x.e, x.c, ao2, x.cap - 1, ⟨x.cl.n, c3, t⟩⟩ :: E) { st1 with ring := ⟨x.cl.n, c3, t⟩ :: E.map (·.cl), turn := true } ∧ Fr (fun k => k = q ∨ k = x.c) w1 w8 ∧ w8.cell? ⟨f, 1, none⟩ = some (.int .i64 i2) ∧ w8.heap[f]? = some (.cells #[.int .i64 i1, .int .i64 i2] 66 (0, 0)) := by
          intro n5 sl hsl2 w8 hw8
          subst hsl2
          have hf8 : Fr (fun k => k = q ∨ k = x.c) w1 w8 := by
            rw [hw8]
            exact ((((HFF.out.mono (fun _ _ h => h.elim)).drewN n5).set (p := ⟨x.c, 1, none⟩) (.inr (.inr rfl)) _).set (p := ⟨x.c, 2, none⟩) (.inr (.inr rfl)) _).set (p := ⟨q, 7, none⟩) (.inr (.inl rfl)) _
          have hc8 : w8.heap[x.c]? = some (.cells #[.int .i64 x.cl.n, .int .i64 c3, .slice ao2 t.length (x.cap - 1)] 63 (0, 0)) := by
            rw [hw8]
            exact blk_far (blk_set (blk_set (w := w4.drewN n5) HC4.out 1 (.int .i64 c3)) 2 (.slice ao2 t.length (x.cap - 1))) ⟨q, 7, none⟩ hcq _
          have hq8 : w8.heap[q]? = some (.cells (headCells { st1 with turn := true } bl mp (tm : Nat)) 52 (0, 0)) := by
            rw [hw8]
            exact blk_set (blk_far (blk_far (w := w4.drewN n5) HQ4.out ⟨x.c, 1, none⟩ hqc _) ⟨x.c, 2, none⟩ hqc _) 7 (.int .i64 (tm : Nat))
          have hf8' : w8.heap[f]? = some (.cells #[.int .i64 i1, .int .i64 i2] 66 (0, 0)) := by
            rw [hw8]
            exact blk_far (blk_far (blk_far (w := w4.drewN n5) HFB.out ⟨x.c, 1, none⟩ hfc _) ⟨x.c, 2, none⟩ hfc _) ⟨q, 7, none⟩ hfq _
          refine ⟨served_mid HQ2.out HIT.out hf8 hc8 hq8 ?_ HRING.out ?_, hf8, blk_cell hf8' 1, hf8'⟩
          · have := HTM.out; have := HTN1.out; have := HTN.out; omega
          · rw [← HAO2.out, HAO.out]
        have hO3 : ∀ k, Own q bl mp (⟨x.e, x.c, ao2, x.cap - 1, ⟨x.cl.n, c3, t⟩⟩ :: E) k → D k := fun k hk => by
          rcases Own.mid (A := []) (B := E) (x := ⟨x.e, x.c, x.ao, x.cap, { x.cl with credit := cr }⟩) (x' := ⟨x.e, x.c, ao2, x.cap - 1, ⟨x.cl.n, c3, t⟩⟩) rfl rfl hk with h | h
          · exact HO2.out k h
          · refine HO2.out k (.inr (.inr (.inr ⟨⟨x.e, x.c, x.ao, x.cap, { x.cl with credit := cr }⟩, by simp, .inr ?_⟩)))
            have h' : inB ao2 k := h
            rw [← HAO2.out] at h'
            have h3 := IR.tail_in.1 h'
            show inB x.ao k
            rw [HAO.out]; exact h3
        have hDq : D q := HO2.out q (.inl rfl)
        have hDc : D x.c := HO2.out x.c (.inr (.inr (.inr ⟨⟨x.e, x.c, x.ao, x.cap, { x.cl with credit := cr }⟩, by simp, .inl rfl⟩)))
        have hFD : ∀ w8, Fr (fun k => k = q ∨ k = x.c) w1 w8 → Fr D w w8 := fun w8 h => HF1.out.trans (h.mono (fun k _ hk => by rcases hk with rfl | rfl; exact hDq; exact hDc))
        have hres : res = ({ st1 with ring := if t = [] then E.map (·.cl) else { x.cl with credit := cr - i.1, its := t } :: E.map (·.cl), turn := !t.isEmpty }, x.cl.n, i.2, true) := by
          rw [HR.out, Qs.serve_eq HIT.out]
        have HMID := Ho.mk hmid; have HO3 := Ho.mk hO3; have HFD := Ho.mk hFD; have HRES2 := Ho.mk hres
        clear hmid hO3 hDq hDc hFD hres
        by_cases ht : t = []
        · have htl0 : tl = 0 := by rw [← htl, ht]; rfl
          subst htl0
          have hz : (((0 : Nat) : Int) == 0) = true := by decide
          have HT := Ho.mk ht
          clear htl ht
          go_region
          go_wp2_with (fail)
          obtain ⟨w8, hw8⟩ : ∃ w8, w8 = ((((w4.drewN (nq + 1)).setCell ⟨x.c, 1, none⟩ (.int .i64 c3)).setCell ⟨x.c, 2, none⟩ (.slice ao2 0 (x.cap - 1))).setCell ⟨q, 7, none⟩ (.int .i64 (tm : Nat))) := ⟨_, rfl⟩
          obtain ⟨hQ8, hF8, e1', hfb8⟩ := HMID.out (nq + 1) (.slice ao2 0 (x.cap - 1)) (by rw [HTL3.out]) w8 hw8
          try rw [← hw8]
          have hx8 := (hQ8.cls ⟨x.e, x.c, ao2, x.cap - 1, ⟨x.cl.n, c3, t⟩⟩ (by simp)).1
          have hcall := leaves_calls w8 q bl mp [] E ⟨x.e, x.c, ao2, x.cap - 1, ⟨x.cl.n, c3, t⟩⟩ _ _ hQ8.head hQ8.ring hQ8.map HLEN.out (by simp) HNUM.out _ _ hx8
          have HQ8 := Ho.mk hQ8; have HF8 := Ho.mk hF8; have HFB8 := Ho.mk hfb8; have HW8 := Ho.mk hw8
          clear hQ8 hF8 hx8 hfb8 hw8 e1'
          refine hcall.mono ?_
          clear hcall
          rintro r w9 ⟨rfl, hh9, hr9, hm9, hf9⟩
          rw [if_pos rfl] at hh9
          have hl : ((total (⟨x.cl.n, c3, t⟩ :: E.map (·.cl)) : Nat) : Int) = (total (E.map (·.cl)) : Nat) := by
            rw [total_cons]; simp [HT.out]
          have hQ9 : QI w9 q bl mp E { st1 with ring := E.map (·.cl), turn := false } := QI.left (A := []) HQ8.out (st' := { st1 with ring := E.map (·.cl), turn := false }) hh9 hr9 hm9 hf9 rfl hl
          have d0' := blk_cell (HQ8.out.cls_fr hf9 (fun _ h => h) ⟨x.e, x.c, ao2, x.cap - 1, ⟨x.cl.n, c3, t⟩⟩ (by simp)).1 0
          have e1' := blk_cell (hf9.block f _ HFB8.out (HQ8.out.itemNot HFB8.out)) 1
          have d0' : w9.cell? ⟨x.c, 0, none⟩ = some (.int .i64 x.cl.n) := d0'
          have e1' : w9.cell? ⟨f, 1, none⟩ = some (.int .i64 i2) := e1'
          have hO9 : ∀ k, Own q bl mp E k → D k := fun k hk => HO3.out k (Own.left (A := []) hk)
          have hF9 : Fr D w w9 := (HFD.out _ HF8.out).trans (hf9.mono (fun k _ hk => HO3.out k (by
            rcases hk with h | h | h
            · exact .inl h
            · exact .inr (.inl h)
            · exact .inr (.inr (.inl h)))))
          have HQ9 := Ho.mk hQ9; have HO9 := Ho.mk hO9; have HF9 := Ho.mk hF9
          clear hh9 hr9 hm9 hf9 hl hQ9 hO9 hF9 e0 e1 d0 d1 d2 d7 d4 fd1 fd2 fd7
          go_wp2_with (fail)
          go_quiet (fail)
          go_wp2
          go_ret3
          have hst : res.1 = ({ st1 with ring := E.map (·.cl), turn := false } : Qs) := by
            rw [HRES2.out]; simp only [if_pos HT.out]; rw [HT.out]; rfl
          have hwf9 : res.1.wf := by rw [HRES2.out]; exact HW2.out
          refine ⟨by rw [HRES2.out]; simp [HI2'.out], ⟨hwf9, bl, mp, E, ?_, HO9.out⟩, HF9.out.drewN _⟩
          rw [hst]
          exact HQ9.out.fr ((Fr.refl nob w9).drewN _) (fun _ _ h => h)
        · have hz : ((tl : Int) == 0) = false := by
            rw [beq_eq_false_iff_ne]; intro h; exact ht (List.eq_nil_of_length_eq_zero (by omega))
          have hz' : (tl == 0) = false := by
            rw [beq_eq_false_iff_ne]; intro h; exact ht (List.eq_nil_of_length_eq_zero (by omega))
          have HT := Ho.mk ht
          clear htl ht
          go_region
          go_wp2_with (fail)
          obtain ⟨w8, hw8⟩ : ∃ w8, w8 = ((((w4.drewN (nq + 1)).setCell ⟨x.c, 1, none⟩ (.int .i64 c3)).setCell ⟨x.c, 2, none⟩ (.slice ao2 tl (x.cap - 1))).setCell ⟨q, 7, none⟩ (.int .i64 (tm : Nat))) := ⟨_, rfl⟩
          obtain ⟨hQ8, hF8, e1', _⟩ := HMID.out (nq + 1) (.slice ao2 tl (x.cap - 1)) (by rw [HTL3.out]) w8 hw8
          rw [← hw8]
          have hx8 := (hQ8.cls ⟨x.e, x.c, ao2, x.cap - 1, ⟨x.cl.n, c3, t⟩⟩ (by simp)).1
          have d0' : w8.cell? ⟨x.c, 0, none⟩ = some (.int .i64 x.cl.n) := blk_cell hx8 0
          have HQ8 := Ho.mk hQ8; have HF8 := Ho.mk hF8; have HW8 := Ho.mk hw8
          clear hQ8 hF8 hx8 hw8 e0 e1 d0 d1 d2 d7 d4 fd1 fd2 fd7
          go_quiet (fail)
          go_wp2
          go_ret3
          have hb : (!t.isEmpty) = true := by
            have := HT.out
            cases t with
            | nil => exact absurd rfl this
            | cons a b => rfl
          have hst : res.1 = ({ st1 with ring := ⟨x.cl.n, c3, t⟩ :: E.map (·.cl), turn := true } : Qs) := by
            rw [HRES2.out]; simp only [if_neg HT.out]; rw [hb, HI1'.out, HC3.out]
          have hwf9 : res.1.wf := by rw [HRES2.out]; exact HW2.out
          refine ⟨by rw [HRES2.out]; simp [HI2'.out], ⟨hwf9, bl, mp, _, ?_, HO3.out⟩, (HFD.out _ HF8.out).drewN _⟩
          rw [hst]
          exact HQ8.out.fr ((Fr.refl nob w8).drewN _) (fun _ _ h => h)
end Go.Proofs.Ytcpejmnmbioinaa
