/-
  The reference ostiaryref21: Next, Peek.
-/
import Derived.Test.YtcpejmnmbioinaaRB
namespace Go.Proofs.Ytcpejmnmbioinaa
open Go.RowKit
theorem line_lo1 (a : Option Addr) (n cap : Nat) (hk : 1 ≤ n) (hn : n ≤ cap) (W : World) : (Instr.slice 70 (.slice a n cap) (some (.int .i64 1)) none none).run Try.prog W = .ok (.slice (if cap = 1 then a else a.map (·.add (1 * 4))) (n - 1) (cap - 1)) W := line_lo a n cap 1 hk hn W
theorem item_lo1 (a : Option Addr) (n cap : Nat) (hk : 1 ≤ n) (hn : n ≤ cap) (W : World) : (Instr.slice 73 (.slice a n cap) (some (.int .i64 1)) none none).run Try.prog W = .ok (.slice (if cap = 1 then a else a.map (·.add (1 * 2))) (n - 1) (cap - 1)) W := by
  have hb := run_sliceBound (P := Try.prog) (w := W) .i64 1 n .sliceB (by omega) (by omega)
  obtain ⟨i, z, h2, _, h4, _⟩ := infoRItem
  cases a with
  | none => simp [Instr.slice, Instr.sliceBounds, hb, go_sem, run_underlying Try.underlying73, sizeOf, typeInfo, h2, h4]
  | some ad => simp [Instr.slice, Instr.sliceBounds, hb, go_sem, run_underlying Try.underlying73, sizeOf, typeInfo, h2, h4]
theorem row_head {w : World} {ao : Option Addr} {n cap : Nat} {t : Bool} {x : RL} {B : List RL} (h : w.ownsRow 0 75 4 (.slice ao n cap) n (rowC t (x :: B))) (hn : n = (x :: B).length) : ∃ g, ao = some ⟨g, 0, none⟩ ∧ n ≤ cap ∧ w.cell? ⟨g, 0, none⟩ = some (.int .i64 x.cl.n) ∧ w.cell? ⟨g, 1, none⟩ = some (.int .i64 x.cl.credit) ∧ w.cell? ⟨g, 2, none⟩ = some (.bool t) ∧ w.cell? ⟨g, 3, none⟩ = some (.slice x.ao x.cl.its.length x.cap) := by
  subst hn
  obtain ⟨g, cap', hv, l0, l1, l2, l3⟩ := row_line h 0 (by simp)
  obtain ⟨_, _, hv2, hc, _⟩ := row_shape h
  injection hv with e1 _ e3
  injection hv2 with _ _ e4
  subst e1 e4
  refine ⟨g, rfl, hc, by simpa using l0, by simpa using l1, by simpa using l2, by simpa using l3⟩
theorem RI.tail {D : Nat → Prop} {w : World} {g off cap : Nat} {i : Int × Int} {t : List (Int × Int)} {Y : Option Addr} (h : RI D w (some ⟨g, off, none⟩) (i :: t)) (hc : (i :: t).length ≤ cap)
    (hY : (if cap = 1 then (some ⟨g, off, none⟩ : Option Addr) else (some ⟨g, off, none⟩ : Option Addr).map (·.add (1 * 2))) = Y) : RI D w Y t := by
  intro j hj
  simp only [List.length_cons] at hc
  obtain ⟨g', off', cur, h1, h2, h3, h4, h5⟩ := h (j + 1) (by rw [List.length_cons]; omega)
  injection h1 with h1
  injection h1 with e1 e2 _
  subst e1 e2
  rw [if_neg (by omega)] at hY
  refine ⟨g, off + 2, cur, by rw [← hY]; exact congrArg some (addr_add0 g off (1 * 2)), h2, h3, ?_, ?_⟩
  · have e : off + 2 + j * 2 = off + (j + 1) * 2 := by omega
    rw [e]; simpa using h4
  · have e : off + 2 + j * 2 + 1 = off + (j + 1) * 2 + 1 := by omega
    rw [e]; simpa using h5
set_option maxRecDepth 100000 in
set_option maxHeartbeats 4000000 in
theorem rNext_calls (D : Nat → Prop) (w : World) (r : Nat) (st : Qs) (hwf : st.wf) (h : RQ D w r st) (hD : ∀ k, w.heap.size ≤ k → D k) :
    Calls Try.prog 21 #[.pointer (some ⟨r, 0, none⟩)] w fun e w' => e = .returned (.tuple #[.int .i64 st.next.2.1, .int .i64 st.next.2.2.1, .bool st.next.2.2.2]) ∧ RQ D w' r st.next.1 ∧ Fr (fun k => k = r) w w' := by
  have HQ := Ho.mk h; have HD := Ho.mk hD; have HWF := Ho.mk hwf
  clear h hD hwf
  obtain ⟨res, hres⟩ : ∃ x, st.next = x := ⟨_, rfl⟩
  rw [hres]
  have HRES := Ho.mk hres; clear hres
  go_enter Try.func21, Try.ntmps21
  go_wp2_with (fail)
  go_loopg [] 1 (fun gk wr => ∃ st1 : Qs, Ho st1.wf ∧ Ho (RQ D wr r st1) ∧ Ho (st1.next = res) ∧ Ho (gk = 0 → st1.turn = false) ∧ Ho (Fr (fun k => k = r) w wr))
  case atStart => exact ⟨st, HWF, HQ, HRES, Ho.mk (fun h => by cases h), Ho.mk (Fr.refl _ _)⟩
  case round =>
    obtain ⟨st1, HW1, HQ1, HN1, HG, HF⟩ := hrel
    clear HWF HQ HRES
    obtain ⟨v, R, hh, hrow, hd, hri, hDr, hst, hne⟩ := HQ1.out
    have hl : R.length ≤ 1024 := by
      have h1 := HW1.out.len; have h2 := HW1.out.cl.2
      rw [hst, List.length_map] at h1; omega
    obtain ⟨ao, cap, rfl, hc1, hc2⟩ := row_shape hrow
    have c4 : wr.cell? ⟨r, 4, none⟩ = some (.slice ao R.length cap) := blk_cell hh 4
    cases R with
    | nil =>
      have hd0 : decide ((0 : Int) < ((0 : Nat) : Int)) = false := by decide
      simp only [List.length_nil] at c4
      have hn : st1.next = (st1, 0, 0, false) := by unfold Qs.next; rw [hst]; rfl
      have hr : res = (st1, 0, 0, false) := by rw [← HN1.out, hn]
      have HR := Ho.mk hr
      clear hh hrow hd hri hDr hst hne hl hn hr
      go_wp2_with (fail)
      go_ret3
      rw [HR.out]
      exact ⟨rfl, HQ1.out, HF.out⟩
    | cons x B =>
      obtain ⟨n, hn⟩ : ∃ n, (x :: B).length = n := ⟨_, rfl⟩
      rw [hn] at hrow c4 hl hc1 hd
      obtain ⟨g, hao, hnc, l0, l1, l2, l3⟩ := row_head hrow hn.symm
      have hn1 : 1 ≤ n := by rw [← hn, List.length_cons]; omega
      have hd0 : decide ((0 : Int) < (n : Int)) = true := decide_eq_true (by omega)
      have hd0' : decide (0 < n) = true := decide_eq_true hn1
      have hring : st1.ring = x.cl :: B.map (·.cl) := hst
      have hmem : x.cl ∈ st1.ring := by rw [hring]; simp
      obtain ⟨i, t, hit⟩ : ∃ i t, x.cl.its = i :: t := by
        cases hi : x.cl.its with
        | nil => exact absurd hi (HW1.out.its _ hmem).1
        | cons i t => exact ⟨i, t, rfl⟩
      have hitl := (HW1.out.its _ hmem).2.1
      have hit64 := HW1.out.it.2
      have hi1 := (HW1.out.its _ hmem).2.2 i (by rw [hit]; simp)
      obtain ⟨ig, ioff, hia, hiD, k1, k2⟩ := (hri x (by simp)).1.cells 0 (by rw [hit]; simp)
      have hxc := (hri x (by simp)).2
      have hlow := HW1.out.low _ hmem
      have hhigh := HW1.out.high _ hmem
      have hqu := HW1.out.qu
      have hmo := HW1.out.mo
      obtain ⟨m, hm⟩ : ∃ m, x.cl.its.length = m := ⟨_, rfl⟩
      have hm1 : 1 ≤ m := by rw [← hm, hit]; simp
      have hm64 : m ≤ 64 := by omega
      simp only [hit, List.getElem_cons_zero, Nat.zero_mul, Nat.add_zero] at k1 k2
      rw [hm, hia] at l3
      rw [hm] at hxc
      subst hao
      have s1 := line_lo1 (some ⟨g, 0, none⟩) n cap hn1 hnc
      obtain ⟨X, hX⟩ : ∃ X, (if cap = 1 then (some ⟨g, 0, none⟩ : Option Addr) else (some ⟨g, 0, none⟩ : Option Addr).map (·.add (1 * 4))) = X := ⟨_, rfl⟩
      rw [hX] at s1
      have hsx : Src wr X (n - 1) (B.flatMap (lineC false)) := by
        have h := src_drop hrow 1 hn1
        rw [hX] at h
        have e := rowC_drop st1.turn [x] B (by simp)
        rw [List.length_singleton, List.singleton_append] at e
        rw [e] at h; exact h
      obtain ⟨b, hb⟩ : ∃ b, n - 1 = b := ⟨_, rfl⟩
      rw [hb] at s1 hsx
      have hbl : B.length = b := by rw [← hb, ← hn, List.length_cons]; omega
      have HH := Ho.mk hh; have HROW := Ho.mk hrow; have HDD := Ho.mk hd; have HRI := Ho.mk hri; have HDR := Ho.mk hDr; have HST := Ho.mk hst; have HNE := Ho.mk hne; have HN := Ho.mk hn; have HRING := Ho.mk hring; have HIT := Ho.mk hit; have HM := Ho.mk hm; have HX := Ho.mk hX; have HBL := Ho.mk hbl; have HIA := Ho.mk hia
      have b1024 : b ≤ 1024 := by omega
      obtain ⟨tn, htn⟩ : ∃ t, st1.turn = t := ⟨_, rfl⟩
      rw [htn] at l2
      have HTN := Ho.mk htn
      have hbox := blk_new wr (.cells #[.int .i64 x.cl.n, .int .i64 x.cl.credit, .bool tn, .slice (some ⟨ig, ioff, none⟩) m x.cap] 75)
      have hfb := (Fr.refl nob wr).alloc (.cells #[.int .i64 x.cl.n, .int .i64 x.cl.credit, .bool tn, .slice (some ⟨ig, ioff, none⟩) m x.cap] 75)
      have HBOX := Ho.mk hbox; have HFB := Ho.mk hfb
      clear hh hrow hd hri hDr hst hne hn hring hit hm hX hbl hmem hitl hit64 hia hb htn hbox hfb hiD hc2
      have hsz : (wr.alloc (.cells #[.int .i64 x.cl.n, .int .i64 x.cl.credit, .bool tn, .slice (some ⟨ig, ioff, none⟩) m x.cap] 75)).heap.size = wr.heap.size + 1 := by simp
      have hown0 := own_empty (wr.alloc (.cells #[.int .i64 x.cl.n, .int .i64 x.cl.credit, .bool tn, .slice (some ⟨ig, ioff, none⟩) m x.cap] 75)) 75 4
      rw [hsz] at hown0
      have hfe := HFB.out.alloc (.cells #[] 75)
      have c42 : ((wr.alloc (.cells #[.int .i64 x.cl.n, .int .i64 x.cl.credit, .bool tn, .slice (some ⟨ig, ioff, none⟩) m x.cap] 75)).alloc (.cells #[] 75)).cell? ⟨r, 4, none⟩ = some (.slice (some ⟨g, 0, none⟩) n cap) := hfe.cell (fun h => h) c4
      have hsx2 := hsx.same hfe
      have HOWN0 := Ho.mk hown0; have HFE := Ho.mk hfe; have HSX2 := Ho.mk hsx2; have HSZ := Ho.mk hsz
      have HFB1 := Ho.mk ((Fr.refl nob (wr.alloc (.cells #[.int .i64 x.cl.n, .int .i64 x.cl.credit, .bool tn, .slice (some ⟨ig, ioff, none⟩) m x.cap] 75))).alloc (.cells #[] 75))
      clear hown0 hfe hsx hsx2 hsz
      go_wp2_with (at_builtin; refine wpList_append_row rowLine rfl _ _ rfl (wr.heap.size + 1) (.slice (some ⟨wr.heap.size + 1, 0, none⟩) 0 0) 0 [] rfl HOWN0.out X b (cap - 1) (B.flatMap (lineC false)) rfl (by rw [flat4_len, HBL.out]) HSX2.out (by rw [← rowC_false]; exact rowC_one _ _) (by omega) (by simp) ?_)
      intro ao5 cap5 w5 hown5 hf5 _
      have hf5 := hf5 (wr.alloc (.cells #[.int .i64 x.cl.n, .int .i64 x.cl.credit, .bool tn, .slice (some ⟨ig, ioff, none⟩) m x.cap] 75)) HFB1.out (by rw [HSZ.out]; exact Nat.le_refl _)
      have hb5 := hf5.block _ _ HBOX.out (fun h => h)
      have hf5' := HFB.out.trans hf5
      have HO5 := Ho.mk hown5; have HB5 := Ho.mk hb5; have HF5 := Ho.mk hf5'
      clear hown5 hf5 hb5 hf5' c42 c4 l0 l1 l2 l3 HBOX HFB HOWN0 HFE HSX2 HSZ HFB1
      generalize hf : wr.heap.size = f at *
      have HFF := Ho.mk hf
      clear hf
      have e1 : w5.cell? ⟨f, 1, none⟩ = some (.int .i64 x.cl.credit) := blk_cell HB5.out 1
      have e2 : w5.cell? ⟨f, 2, none⟩ = some (.bool tn) := blk_cell HB5.out 2
      have f1 := blk_free HB5.out 1
      have f2 := blk_free HB5.out 2
      have c2 : w5.cell? ⟨r, 2, none⟩ = some (.int .i64 st1.quantum) := HF5.out.cell (fun h => h) (blk_cell HH.out 2)
      have hwr : IntKind.i64.wrap (x.cl.credit + st1.quantum) = x.cl.credit + st1.quantum := by rw [IntKind.wrap_i64]; omega
      have hkey : (tn = false ∧ i.1 ≤ x.cl.credit + st1.quantum ∧ res = st1.serve x.cl (x.cl.credit + st1.quantum) (B.map (·.cl))) ∨ (tn = true ∧ i.1 ≤ x.cl.credit ∧ res = st1.serve x.cl x.cl.credit (B.map (·.cl))) ∨
          (tn = true ∧ ¬ i.1 ≤ x.cl.credit ∧ (st1.rot x.cl (B.map (·.cl))).next = res ∧ (st1.rot x.cl (B.map (·.cl))).wf) := by
        have hfc : firstCost x.cl = i.1 := firstCost_cons HIT.out
        have hn := HN1.out
        have hu : st1.next = if st1.turn = false then st1.serve x.cl (x.cl.credit + st1.quantum) (B.map (·.cl)) else if firstCost x.cl ≤ x.cl.credit then st1.serve x.cl x.cl.credit (B.map (·.cl)) else st1.next := by
          conv => lhs; unfold Qs.next
          rw [HRING.out]
          simp only
          split
          · rfl
          · split
            · rfl
            · rename_i h1 h2
              unfold Qs.next
              rw [HRING.out]
              simp only [if_neg h1, if_neg h2]
        rw [HTN.out] at hu
        cases tn with
        | false =>
          rw [if_pos rfl] at hu
          exact .inl ⟨rfl, by omega, by rw [← hn, hu]⟩
        | true =>
          rw [if_neg (by simp), hfc] at hu
          by_cases h2 : i.1 ≤ x.cl.credit
          · rw [if_pos h2] at hu
            exact .inr (.inl ⟨rfl, h2, by rw [← hn, hu]⟩)
          · exact .inr (.inr ⟨rfl, h2, by rw [← hn]; exact Qs.next_rot HW1.out HRING.out HTN.out (by rw [hfc]; exact h2), HW1.out.rot HRING.out HTN.out (by rw [hfc]; exact h2)⟩)
      rcases hkey with ⟨rfl, hle, hres⟩ | ⟨rfl, hle, hres⟩ | ⟨rfl, hle, hres, hrw⟩
      case' inl =>
        have HLE := Ho.mk hle; have HRES := Ho.mk hres
        clear hle hres
        go_wp2_with (fail)
        go_region
        go_upto_region 7 with (fail)
        have HB7 := Ho.mk (show (((w5.setCell ⟨f, 1, none⟩ (.int .i64 (x.cl.credit + st1.quantum))).setCell ⟨f, 2, none⟩ (.bool true)).drew).heap[f]? = some (.cells #[.int .i64 x.cl.n, .int .i64 (x.cl.credit + st1.quantum), .bool true, .slice (some ⟨ig, ioff, none⟩) m x.cap] 75 (0, 0)) from blk_set (blk_set HB5.out 1 _) 2 _)
        have hfst : Fr (fun k => k = f) w5 (((w5.setCell ⟨f, 1, none⟩ (.int .i64 (x.cl.credit + st1.quantum))).setCell ⟨f, 2, none⟩ (.bool true)).drew) := ((setCellFr w5 f 1 _).trans (setCellFr _ f 2 _)).drew
        have HF7 := Ho.mk (show Fr nob wr (((w5.setCell ⟨f, 1, none⟩ (.int .i64 (x.cl.credit + st1.quantum))).setCell ⟨f, 2, none⟩ (.bool true)).drew) from HF5.out.call hfst (fun i _ h => .inl (by rw [HFF.out]; exact Nat.le_of_eq h.symm)))
        have HO7 := Ho.mk (row4_fr HO5.out hfst (fun k hk e => by have := own_newS HO5.out hk; omega))
        have hbd : 0 ≤ x.cl.credit + st1.quantum ∧ x.cl.credit + st1.quantum ≤ 100000 := by omega
        clear hfst hwr e1 e2 f1 f2 c2
        generalize ((w5.setCell ⟨f, 1, none⟩ (.int .i64 (x.cl.credit + st1.quantum))).setCell ⟨f, 2, none⟩ (.bool true)).drew = w7 at *
        generalize x.cl.credit + st1.quantum = cr at *
      case' inr.inl =>
        have HLE := Ho.mk hle; have HRES := Ho.mk hres
        clear hle hres
        go_upto_region 7 with (fail)
        have HB7 := HB5; have HF7 := HF5; have HO7 := HO5
        have hbd : 0 ≤ x.cl.credit ∧ x.cl.credit ≤ 100000 := by omega
        clear hwr e1 e2 f1 f2 c2
        generalize w5 = w7 at *
        generalize x.cl.credit = cr at *
      case inr.inr =>
        have hgk : ∃ gm, gk = gm + 1 := by
          cases gk with
          | zero => exact absurd (HG.out rfl) (by rw [HTN.out]; simp)
          | succ gm => exact ⟨gm, rfl⟩
        obtain ⟨gm, rfl⟩ := hgk
        have q1 := e1
        have q3 : w5.cell? ⟨f, 3, none⟩ = some (.slice (some ⟨ig, ioff, none⟩) m x.cap) := blk_cell HB5.out 3
        have k1 := HF5.out.cell (fun h => h) k1
        have k2 := HF5.out.cell (fun h => h) k2
        have hfI := (Fr.refl nob w5).alloc (.cells #[.int .i64 i.1, .int .i64 i.2] 77)
        have hbI := blk_new w5 (.cells #[.int .i64 i.1, .int .i64 i.2] 77)
        have hb8 := hfI.block _ _ HB5.out (fun h => h)
        have q18 : (w5.alloc (.cells #[.int .i64 i.1, .int .i64 i.2] 77)).cell? ⟨f, 1, none⟩ = some (.int .i64 x.cl.credit) := blk_cell hb8 1
        have q28 : (w5.alloc (.cells #[.int .i64 i.1, .int .i64 i.2] 77)).cell? ⟨f, 2, none⟩ = some (.bool true) := blk_cell hb8 2
        have z2 : (w5.alloc (.cells #[.int .i64 i.1, .int .i64 i.2] 77)).frozen? ⟨f, 2, none⟩ = false := blk_free hb8 2
        have p0 : (w5.alloc (.cells #[.int .i64 i.1, .int .i64 i.2] 77)).cell? ⟨w5.heap.size, 0, none⟩ = some (.int .i64 i.1) := blk_cell hbI 0
        have hfp : w5.heap.size ≠ f := by have := lt_of_blk HB5.out; omega
        have hgt : decide (x.cl.credit < i.1) = true := decide_eq_true (by omega)
        have HRN := Ho.mk hres; have HRW := Ho.mk hrw
        have hst : Fr (fun k => k = f) (w5.alloc (.cells #[.int .i64 i.1, .int .i64 i.2] 77)) ((w5.alloc (.cells #[.int .i64 i.1, .int .i64 i.2] 77)).setCell ⟨f, 2, none⟩ (.bool false)) := setCellFr _ f 2 _
        have HB9 := Ho.mk (show ((w5.alloc (.cells #[.int .i64 i.1, .int .i64 i.2] 77)).setCell ⟨f, 2, none⟩ (.bool false)).heap[f]? = some (.cells #[.int .i64 x.cl.n, .int .i64 x.cl.credit, .bool false, .slice (some ⟨ig, ioff, none⟩) m x.cap] 75 (0, 0)) from blk_set hb8 2 _)
        have HF9 := Ho.mk (show Fr nob wr ((w5.alloc (.cells #[.int .i64 i.1, .int .i64 i.2] 77)).setCell ⟨f, 2, none⟩ (.bool false)) from (HF5.out.trans hfI).call hst (fun k _ h => .inl (by rw [HFF.out]; exact Nat.le_of_eq h.symm)))
        have HO9 := Ho.mk (row4_fr (hfI.row HO5.out) hst (fun k hk e => by have := own_newS (hfI.row HO5.out) hk; omega))
        clear hle hres hrw hb8 hfI hbI hst f1 f2 c2 hwr
        go_upto_region 10 with (fail)
        clear q1 q3 q18 q28 z2 p0 k1 k2 hgt e1 e2 s1
        generalize (w5.alloc (.cells #[.int .i64 i.1, .int .i64 i.2] 77)).setCell ⟨f, 2, none⟩ (.bool false) = w9 at *
        have b0 : w9.cell? ⟨f, 0, none⟩ = some (.int .i64 x.cl.n) := blk_cell HB9.out 0
        have b1 : w9.cell? ⟨f, 1, none⟩ = some (.int .i64 x.cl.credit) := blk_cell HB9.out 1
        have b2 : w9.cell? ⟨f, 2, none⟩ = some (.bool false) := blk_cell HB9.out 2
        have b3 : w9.cell? ⟨f, 3, none⟩ = some (.slice (some ⟨ig, ioff, none⟩) m x.cap) := blk_cell HB9.out 3
        have hfa := (Fr.refl nob w9).alloc (.cells #[.int .i64 x.cl.n, .int .i64 x.cl.credit, .bool false, .slice (some ⟨ig, ioff, none⟩) m x.cap] 75)
        have hba := blk_new w9 (.cells #[.int .i64 x.cl.n, .int .i64 x.cl.credit, .bool false, .slice (some ⟨ig, ioff, none⟩) m x.cap] 75)
        have HFA := Ho.mk hfa; have HBA := Ho.mk hba
        clear hfa hba
        go_wp2_with (at_builtin; refine wpList_append_row rowLine rfl _ _ rfl (f + 1) (.slice ao5 b cap5) b (B.flatMap (lineC false)) rfl (HFA.out.row HO9.out) (some ⟨w9.heap.size, 0, none⟩) 1 1 #[.int .i64 x.cl.n, .int .i64 x.cl.credit, .bool false, .slice (some ⟨ig, ioff, none⟩) m x.cap].toList rfl rfl (src_block HBA.out 1) (by simp [Value.oneCell']) (by omega) (by have := HFF.out; have := lt_of_blk (HFA.out.block _ _ HB9.out (fun h => h)); omega) ?_)
        intro ao6 cap6 w6 hown6 hf6 _
        have hf6 := hf6 wr (HF9.out.trans HFA.out) (by have := HFF.out; omega)
        have hr6 := hf6.block _ _ HH.out (fun h => h)
        have c16 : w6.cell? ⟨r, 4, none⟩ = some (.slice (some ⟨g, 0, none⟩) (x :: B).length cap) := blk_cell hr6 4
        have z16 := blk_free hr6 4
        have hk := RQ.ring (D := D) (st := st1.rot x.cl (B.map (·.cl))) (R := B ++ [x]) (v := .slice ao6 (b + 1) cap6) hr6 rfl rfl rfl rfl HDR.out (by
            rw [List.length_append, HBL.out]
            show World.ownsRow _ 0 75 4 _ _ (rowC false (B ++ [x]))
            rw [rowC_false, List.flatMap_append]
            have e : [x].flatMap (lineC false) = #[.int .i64 x.cl.n, .int .i64 x.cl.credit, .bool false, .slice (some ⟨ig, ioff, none⟩) m x.cap].toList := by simp only [List.flatMap_cons, List.flatMap_nil, List.append_nil, lineC, HM.out, HIA.out]
            rw [e]
            exact own_weak hown6)
          (fun k hk => HD.out k (Nat.le_trans HF.out.size (by have := own_newS hown6 hk; have := HFF.out; omega)))
          (fun y hy => by
            have hy : y ∈ x :: B := by simp at hy ⊢; exact hy.symm
            exact ⟨(HRI.out y hy).1.fr hf6 (fun _ _ _ _ h => h), (HRI.out y hy).2⟩) (by simp [Qs.rot]) (fun h => by simp at h)
        have HK := Ho.mk hk
        have HFK := Ho.mk ((HF.out.trans (hf6.mono (fun _ _ h => h.elim))).trans (setCellFr w6 r 4 (.slice ao6 (b + 1) cap6)))
        have HG6 : Ho (gm = 0 → (st1.rot x.cl (B.map (·.cl))).turn = false) := Ho.mk (fun _ => rfl)
        clear hk hown6 hf6 hr6 b0 b1 b2 b3
        go_wp2_with (fail)
        go_roundg gm
        case rel => exact ⟨_, HRW, HK, HRN, HG6, HFK⟩
        case measure => omega
      all_goals
        have q1 : w7.cell? ⟨f, 1, none⟩ = some (.int .i64 cr) := blk_cell HB7.out 1
        have q3 : w7.cell? ⟨f, 3, none⟩ = some (.slice (some ⟨ig, ioff, none⟩) m x.cap) := blk_cell HB7.out 3
        have k1 := HF7.out.cell (fun h => h) k1
        have k2 := HF7.out.cell (fun h => h) k2
        have hfI := (Fr.refl nob w7).alloc (.cells #[.int .i64 i.1, .int .i64 i.2] 77)
        have hbI := blk_new w7 (.cells #[.int .i64 i.1, .int .i64 i.2] 77)
        have hb8 := hfI.block _ _ HB7.out (fun h => h)
        have q18 : (w7.alloc (.cells #[.int .i64 i.1, .int .i64 i.2] 77)).cell? ⟨f, 1, none⟩ = some (.int .i64 cr) := blk_cell hb8 1
        have q38 : (w7.alloc (.cells #[.int .i64 i.1, .int .i64 i.2] 77)).cell? ⟨f, 3, none⟩ = some (.slice (some ⟨ig, ioff, none⟩) m x.cap) := blk_cell hb8 3
        have z1 : (w7.alloc (.cells #[.int .i64 i.1, .int .i64 i.2] 77)).frozen? ⟨f, 1, none⟩ = false := blk_free hb8 1
        have z3 : (w7.alloc (.cells #[.int .i64 i.1, .int .i64 i.2] 77)).frozen? ⟨f, 3, none⟩ = false := blk_free hb8 3
        have p0 : (w7.alloc (.cells #[.int .i64 i.1, .int .i64 i.2] 77)).cell? ⟨w7.heap.size, 0, none⟩ = some (.int .i64 i.1) := blk_cell hbI 0
        have hfp : w7.heap.size ≠ f := by have := lt_of_blk HB7.out; omega
        have s2 := item_lo1 (some ⟨ig, ioff, none⟩) m x.cap hm1 hxc
        obtain ⟨Y, hY⟩ : ∃ Y, (if x.cap = 1 then (some ⟨ig, ioff, none⟩ : Option Addr) else (some ⟨ig, ioff, none⟩ : Option Addr).map (·.add (1 * 2))) = Y := ⟨_, rfl⟩
        obtain ⟨q2, hq2⟩ : ∃ q, m - 1 = q := ⟨_, rfl⟩
        rw [hY, hq2] at s2
        have hws : IntKind.i64.wrap (cr - i.1) = cr - i.1 := by have := HLE.out; rw [IntKind.wrap_i64]; omega
        have hgt : decide (cr < i.1) = false := decide_eq_false (by have := HLE.out; omega)
        have HB8 := Ho.mk hb8; have HY := Ho.mk hY; have HQ2 := Ho.mk hq2; have HFI := Ho.mk hfI; have HBI := Ho.mk hbI
        clear hb8 hY hq2 hfI hbI
        go_upto_region 13 with (fail)
        have hst : Fr (fun k => k = f) (w7.alloc (.cells #[.int .i64 i.1, .int .i64 i.2] 77)) (((w7.alloc (.cells #[.int .i64 i.1, .int .i64 i.2] 77)).setCell ⟨f, 1, none⟩ (.int .i64 (cr - i.1))).setCell ⟨f, 3, none⟩ (.slice Y q2 (x.cap - 1))) := (setCellFr _ f 1 _).trans (setCellFr _ f 3 _)
        have HB12 := Ho.mk (show (((w7.alloc (.cells #[.int .i64 i.1, .int .i64 i.2] 77)).setCell ⟨f, 1, none⟩ (.int .i64 (cr - i.1))).setCell ⟨f, 3, none⟩ (.slice Y q2 (x.cap - 1))).heap[f]? = some (.cells #[.int .i64 x.cl.n, .int .i64 (cr - i.1), .bool true, .slice Y q2 (x.cap - 1)] 75 (0, 0)) from blk_set (blk_set HB8.out 1 _) 3 _)
        have HI12 := Ho.mk (hst.block _ _ HBI.out hfp)
        have HF12 := Ho.mk (show Fr nob wr (((w7.alloc (.cells #[.int .i64 i.1, .int .i64 i.2] 77)).setCell ⟨f, 1, none⟩ (.int .i64 (cr - i.1))).setCell ⟨f, 3, none⟩ (.slice Y q2 (x.cap - 1))) from (HF7.out.trans HFI.out).call hst (fun k _ h => .inl (by rw [HFF.out]; exact Nat.le_of_eq h.symm)))
        have HO12 := Ho.mk (row4_fr (HFI.out.row HO7.out) hst (fun k hk e => by have := own_newS (HFI.out.row HO7.out) hk; omega))
        clear hst q1 q3 k1 k2 q18 q38 z1 z3 p0 s1 s2 hws hgt HB8 HFI HBI HB7 HF7 HO7
        generalize (((w7.alloc (.cells #[.int .i64 i.1, .int .i64 i.2] 77)).setCell ⟨f, 1, none⟩ (.int .i64 (cr - i.1))).setCell ⟨f, 3, none⟩ (.slice Y q2 (x.cap - 1))) = w12 at *
        generalize hp : w7.heap.size = p at *
        have hr12 := HF12.out.block _ _ HH.out (fun h => h)
        have hrf : r ≠ f := by have := lt_of_blk HH.out; have := HFF.out; omega
        have hrp : r ≠ p := by
          rintro rfl
          have h := HI12.out; rw [hr12] at h; simp at h
        have c12 : w12.cell? ⟨r, 4, none⟩ = some (.slice (some ⟨g, 0, none⟩) n cap) := by
          have h : w12.cell? ⟨r, 4, none⟩ = some (.slice (some ⟨g, 0, none⟩) (x :: B).length cap) := blk_cell hr12 4
          rw [h, HN.out]
        have z12 := blk_free hr12 4
        have b3 : w12.cell? ⟨f, 3, none⟩ = some (.slice Y q2 (x.cap - 1)) := blk_cell HB12.out 3
        have hserve := HRES.out
        rw [Qs.serve_eq HIT.out] at hserve
        have HSV := Ho.mk hserve
        have htl : t.length = q2 := by have h := HM.out; have h2 := HQ2.out; rw [HIT.out, List.length_cons] at h; omega
        have hbr : RI D w12 Y t := (RI.tail (by have h := (HRI.out x (by simp)).1; rw [HIA.out, HIT.out] at h; exact h.fr HF12.out (fun _ _ _ _ h => h)) (by rw [← HM.out, HIT.out] at hxc; exact hxc) HY.out)
        have hri12 : ∀ y ∈ B, RI D w12 y.ao y.cl.its ∧ y.cl.its.length ≤ y.cap := fun y hy => ⟨(HRI.out y (List.mem_cons_of_mem _ hy)).1.fr HF12.out (fun _ _ _ _ h => h), (HRI.out y (List.mem_cons_of_mem _ hy)).2⟩
        have hDn : ∀ k, wr.heap.size ≤ k → D k := fun k hk => HD.out k (Nat.le_trans HF.out.size hk)
        have HR12 := Ho.mk hr12; have HBR := Ho.mk hbr; have HRI12 := Ho.mk hri12; have HDN := Ho.mk hDn; have HTL := Ho.mk htl
        clear hserve hp hr12 hbr hri12 hDn htl
        by_cases ht : t = []
        · have hz : ((q2 : Int) == 0) = true := by have := HTL.out; rw [ht] at this; rw [← this]; rfl
          have hz' : (q2 == 0) = true := by have := HTL.out; rw [ht] at this; rw [← this]; rfl
          have g0 : (w12.setCell ⟨r, 4, none⟩ (.slice ao5 b cap5)).cell? ⟨f, 0, none⟩ = some (.int .i64 x.cl.n) := blk_cell (blk_far HB12.out ⟨r, 4, none⟩ hrf.symm _) 0
          have g1 : (w12.setCell ⟨r, 4, none⟩ (.slice ao5 b cap5)).cell? ⟨p, 1, none⟩ = some (.int .i64 i.2) := blk_cell (blk_far HI12.out ⟨r, 4, none⟩ hrp.symm _) 1
          have hk := RQ.ring (D := D) (st := { st1 with ring := B.map (·.cl), turn := false }) (R := B) (v := .slice ao5 b cap5) HR12.out rfl rfl rfl rfl HDR.out (by
              rw [HBL.out]; show World.ownsRow _ 0 75 4 _ _ (rowC false B); rw [rowC_false]; exact own_weak HO12.out)
            (fun k hk => HDN.out k (by have := own_newS HO12.out hk; have := HFF.out; omega)) HRI12.out rfl (fun _ => rfl)
          have HK := Ho.mk hk
          have HFK := Ho.mk ((HF.out.trans (HF12.out.mono (fun _ _ h => h.elim))).trans (setCellFr w12 r 4 (.slice ao5 b cap5)))
          have hrr : res = ({ st1 with ring := B.map (·.cl), turn := false }, x.cl.n, i.2, true) := by rw [HSV.out, if_pos ht, ht]; rfl
          have HRR := Ho.mk hrr
          clear hk hrr ht hrf hrp
          go_wp2_with (fail)
          go_quiet (fail)
          go_wp2_with (fail)
          go_ret3
          rw [HRR.out]
          exact ⟨rfl, HK.out.fr ((Fr.refl nob _).drewN _) (fun _ _ h => h), HFK.out.drewN _⟩
        · have ht0 : 1 ≤ q2 := by
            have := HTL.out
            cases t with
            | nil => exact absurd rfl ht
            | cons a b => simp at this; omega
          have hz : ((q2 : Int) == 0) = false := by rw [beq_eq_false_iff_ne]; omega
          have hz' : (q2 == 0) = false := by rw [beq_eq_false_iff_ne]; omega
          have b0 : w12.cell? ⟨f, 0, none⟩ = some (.int .i64 x.cl.n) := blk_cell HB12.out 0
          have b1 : w12.cell? ⟨f, 1, none⟩ = some (.int .i64 (cr - i.1)) := blk_cell HB12.out 1
          have b2 : w12.cell? ⟨f, 2, none⟩ = some (.bool true) := blk_cell HB12.out 2
          have hown : (w12.alloc (.cells #[.int .i64 x.cl.n, .int .i64 (cr - i.1), .bool true, .slice Y q2 (x.cap - 1)] 75)).ownsRow w12.heap.size 75 4 (.slice (some ⟨w12.heap.size, 0, none⟩) 1 1) 1 #[.int .i64 x.cl.n, .int .i64 (cr - i.1), .bool true, .slice Y q2 (x.cap - 1)].toList := World.ownsRow_lit w12 #[.int .i64 x.cl.n, .int .i64 (cr - i.1), .bool true, .slice Y q2 (x.cap - 1)] 1 (Nat.le_refl _) (by decide) rfl
          have hfa := (Fr.refl nob w12).alloc (.cells #[.int .i64 x.cl.n, .int .i64 (cr - i.1), .bool true, .slice Y q2 (x.cap - 1)] 75)
          have hsr : Src (w12.alloc (.cells #[.int .i64 x.cl.n, .int .i64 (cr - i.1), .bool true, .slice Y q2 (x.cap - 1)] 75)) ao5 b (B.flatMap (lineC false)) := by
            have h := src_take (hfa.row HO12.out) b (Nat.le_refl _)
            rwa [List.take_of_length_le (by rw [flat4_len, HBL.out]; exact Nat.le_refl _)] at h
          have HOWN := Ho.mk hown; have HFA := Ho.mk hfa; have HSR := Ho.mk hsr
          clear hown hfa hsr
          go_wp2_with (at_builtin; refine wpList_append_row rowLine rfl _ _ rfl w12.heap.size (.slice (some ⟨w12.heap.size, 0, none⟩) 1 1) 1 _ rfl HOWN.out ao5 b cap5 (B.flatMap (lineC false)) rfl (by rw [flat4_len, HBL.out]) HSR.out (by rw [← rowC_false]; exact rowC_one _ _) (by omega) (by simp) ?_)
          intro ao6 cap6 w6 hown6 hf6 _
          have hf6 := hf6 w12 HFA.out (Nat.le_refl _)
          have hr6 := hf6.block _ _ HR12.out (fun h => h)
          have c16 : w6.cell? ⟨r, 4, none⟩ = some (.slice (some ⟨g, 0, none⟩) (x :: B).length cap) := blk_cell hr6 4
          have z16 := blk_free hr6 4
          have g0 : (w6.setCell ⟨r, 4, none⟩ (.slice ao6 (1 + b) cap6)).cell? ⟨f, 0, none⟩ = some (.int .i64 x.cl.n) := blk_cell (blk_far (hf6.block _ _ HB12.out (fun h => h)) ⟨r, 4, none⟩ hrf.symm _) 0
          have g1 : (w6.setCell ⟨r, 4, none⟩ (.slice ao6 (1 + b) cap6)).cell? ⟨p, 1, none⟩ = some (.int .i64 i.2) := blk_cell (blk_far (hf6.block _ _ HI12.out (fun h => h)) ⟨r, 4, none⟩ hrp.symm _) 1
          have hk := RQ.ring (D := D) (st := { st1 with ring := { x.cl with credit := cr - i.1, its := t } :: B.map (·.cl), turn := true }) (R := (⟨{ x.cl with credit := cr - i.1, its := t }, Y, x.cap - 1⟩ : RL) :: B) (v := .slice ao6 (1 + b) cap6) hr6 rfl rfl rfl rfl HDR.out (by
              rw [List.length_cons, HBL.out, Nat.add_comm b 1]
              show World.ownsRow _ 0 75 4 _ _ (lineC true _ ++ B.flatMap (lineC false))
              have e : lineC true (⟨{ x.cl with credit := cr - i.1, its := t }, Y, x.cap - 1⟩ : RL) = [.int .i64 x.cl.n, .int .i64 (cr - i.1), .bool true, .slice Y q2 (x.cap - 1)] := by simp only [lineC, HTL.out]
              rw [e]
              exact own_weak hown6)
            (fun k hk => HDN.out k (Nat.le_trans HF12.out.size (own_newS hown6 hk)))
            (fun y hy => by
              rcases List.mem_cons.1 hy with rfl | hy
              · exact ⟨HBR.out.fr hf6 (fun _ _ _ _ h => h), by show t.length ≤ x.cap - 1; rw [HTL.out, ← HQ2.out]; omega⟩
              · exact ⟨(HRI12.out y hy).1.fr hf6 (fun _ _ _ _ h => h), (HRI12.out y hy).2⟩) rfl (fun h => by cases h)
          have HK := Ho.mk hk
          have HFK := Ho.mk ((HF.out.trans ((HF12.out.trans hf6).mono (fun _ _ h => h.elim))).trans (setCellFr w6 r 4 (.slice ao6 (1 + b) cap6)))
          have hrr : res = ({ st1 with ring := { x.cl with credit := cr - i.1, its := t } :: B.map (·.cl), turn := true }, x.cl.n, i.2, true) := by
            rw [HSV.out, if_neg ht]
            cases t with
            | nil => exact absurd rfl ht
            | cons a b => rfl
          have HRR := Ho.mk hrr
          clear hk hrr ht hrf hrp hown6 hf6 hr6 c12 z12 b0 b1 b2 b3
          go_wp2_with (fail)
          go_quiet (fail)
          go_wp2_with (fail)
          go_ret3
          rw [HRR.out]
          exact ⟨rfl, HK.out.fr ((Fr.refl nob _).drewN _) (fun _ _ h => h), HFK.out.drewN _⟩
end Go.Proofs.Ytcpejmnmbioinaa
