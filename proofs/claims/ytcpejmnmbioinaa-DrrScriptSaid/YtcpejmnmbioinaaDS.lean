/-
  package drr: Peek.
-/
import Derived.Test.YtcpejmnmbioinaaDL
namespace Go.Proofs.Ytcpejmnmbioinaa
open Go.RowKit
/-- Whom Next would serve. -/
def Qs.peek (st : Qs) : Int × Int × Bool :=
  match st.ring with
  | [] => (0, 0, false)
  | c :: r =>
    if st.turn = false ∨ firstCost c ≤ c.credit then (c.n, (c.its.headD (0, 0)).2, true)
    else match r with
      | [] => (c.n, (c.its.headD (0, 0)).2, true)
      | c' :: _ => (c'.n, (c'.its.headD (0, 0)).2, true)
theorem Qs.wf.peek {st : Qs} (h : st.wf) : st.next.2 = st.peek := by
  have hne := h.its
  unfold Qs.next Qs.peek
  cases hr : st.ring with
  | nil => rfl
  | cons c r =>
    rw [hr] at hne
    have hc := (hne c (by simp)).1
    obtain ⟨i, t, hit⟩ : ∃ i t, c.its = i :: t := by
      cases hi : c.its with
      | nil => exact absurd hi hc
      | cons i t => exact ⟨i, t, rfl⟩
    simp only
    by_cases h1 : st.turn = false
    · rw [if_pos h1, if_pos (.inl h1), Qs.serve_eq hit, hit]; rfl
    · rw [if_neg h1]
      by_cases h2 : firstCost c ≤ c.credit
      · rw [if_pos h2, if_pos (.inr h2), Qs.serve_eq hit, hit]; rfl
      · rw [if_neg h2, if_neg (by rintro (h | h); exact h1 h; exact h2 h)]
        cases r with
        | nil => simp only [List.nil_append]; rw [Qs.serve_eq hit, hit]; rfl
        | cons c' r =>
          have hc' := (hne c' (by simp)).1
          obtain ⟨i', t', hit'⟩ : ∃ i t, c'.its = i :: t := by
            cases hi : c'.its with
            | nil => exact absurd hi hc'
            | cons i t => exact ⟨i, t, rfl⟩
          simp only [List.cons_append]
          rw [Qs.serve_eq hit', hit']; rfl
/-- The first item of a client in memory. -/
theorem IR.first {w : World} {ao : Option Addr} {cap : Nat} {i : Int × Int} {t : List (Int × Int)} (h : IR w ao cap (i :: t)) : ∃ g off, ao = some ⟨g, off, none⟩ ∧ w.cell? ⟨g, off, none⟩ = some (.int .i64 i.1) ∧ w.cell? ⟨g, off + 1, none⟩ = some (.int .i64 i.2) := by
  obtain ⟨h1, h2, h3⟩ := h
  rcases h3 with ⟨_, h3⟩ | ⟨g, off, cur, rfl, hb, h4, h5⟩
  · simp at h1; omega
  · refine ⟨g, off, rfl, ?_, ?_⟩
    · rw [blk_cell hb]; exact h5 0 _ (by rw [flat_cons]; rfl)
    · rw [blk_cell hb]; exact h5 1 _ (by rw [flat_cons]; rfl)
def turnM (v : Value) : Nat := match v with | .bool true => 1 | _ => 0
set_option maxRecDepth 100000 in
set_option maxHeartbeats 4000000 in
theorem peek_calls (D : Nat → Prop) (w : World) (q : Nat) (st : Qs) (h : QS D w q st) :
    Calls Try.prog 22 #[.pointer (some ⟨q, 0, none⟩)] w fun r w' => r = .returned (.tuple #[.int .i64 st.next.2.1, .int .i64 st.next.2.2.1, .bool st.next.2.2.2]) ∧ Fr nob w w' := by
  obtain ⟨hwf, bl, mp, E, hQ, _⟩ := h
  rw [hwf.peek]
  obtain ⟨q0, q1, q2, q3, q4, q5, q6, q7⟩ := hQ.cells
  have hcall := none_calls q bl w q4
  have hfront := chain_front_calls bl _ w hQ.ring
  rw [ptE_val] at hfront
  have HQ := Ho.mk hQ; have HWF := Ho.mk hwf
  obtain ⟨res, hres⟩ : ∃ x, st.peek = x := ⟨_, rfl⟩
  rw [hres]
  have HRES := Ho.mk hres; clear hres hQ hwf
  go_enter Try.func22, Try.ntmps22
  go_wp2_with (fail)
  refine hcall.mono ?_
  clear hcall
  rintro r w' ⟨rfl, rfl⟩
  obtain ⟨w, rfl⟩ : ∃ w : World, w = w' := ⟨_, rfl⟩
  go_wp2_with (fail)
  refine hfront.mono ?_
  clear hfront
  rintro r w3 ⟨rfl, rfl⟩
  go_wp2_with (fail)
  go_loopw [5, 6] (fun so se wr => ∃ (A R : List El), Ho (E = A ++ R) ∧ se = ptE R ∧ ((A = [] ∧ so = .bool st.turn) ∨ ∃ x, A = [x] ∧ so = .bool false ∧ st.turn = true ∧ ¬ firstCost x.cl ≤ x.cl.credit) ∧ Ho (Fr nob w wr)) (fun so _ _ => turnM so)
  case atStart => exact ⟨[], E, Ho.mk rfl, rfl, .inl ⟨rfl, rfl⟩, Ho.mk (Fr.refl _ _)⟩
  case round =>
    obtain ⟨A, R, HE, rfl, hA, HF⟩ := hrel
    have hQr := HQ.out.fr HF.out (fun _ _ h => h)
    have q2' : wr.cell? ⟨q, 2, none⟩ = some (.int .i64 st.quantum) := hQr.cells.2.2.1
    have q4' : wr.cell? ⟨q, 4, none⟩ = some (.pointer (some ⟨bl, 0, none⟩)) := hQr.cells.2.2.2.2.1
    have hfront := chain_front_calls bl _ wr hQr.ring
    rw [ptE_val] at hfront
    have HQr := Ho.mk hQr
    clear hQr
    cases R with
    | nil =>
      rw [ptE_nil]
      rcases hA with ⟨rfl, rfl⟩ | ⟨x, rfl, rfl, ht, hc⟩
      · have hE : E = [] := HE.out
        subst hE
        rw [ptE_nil] at hfront
        have HR := Ho.mk (show res = (0, 0, false) by rw [← HRES.out]; unfold Qs.peek; rw [HQ.out.st]; rfl)
        go_wp2_with (fail)
        refine hfront.mono ?_
        rintro r w5 ⟨rfl, rfl⟩
        go_wp2_with (fail)
        go_ret3
        rw [HR.out]
        exact ⟨rfl, HF.out⟩
      · have hE : E = [x] := HE.out
        subst hE
        rw [ptE_cons] at hfront
        have hcl := HQr.out.cls x (by simp)
        obtain ⟨na, nb, hnode⟩ := HQr.out.ring.node (valE x) (by simp)
        have hof := of_calls x.e x.c wr na nb _ hnode
        have hne := (HWF.out.its x.cl (by rw [HQ.out.st]; simp)).1
        obtain ⟨i, t, hit⟩ : ∃ i t, x.cl.its = i :: t := by
          cases hi : x.cl.its with
          | nil => exact absurd hi hne
          | cons i t => exact ⟨i, t, rfl⟩
        have HR := Ho.mk (show res = (x.cl.n, i.2, true) by
          rw [← HRES.out]; unfold Qs.peek; rw [HQ.out.st]; simp only [List.map_cons, List.map_nil]
          rw [if_neg (by rintro (h | h); rw [ht] at h; cases h; exact hc h), hit]; rfl)
        obtain ⟨g, off, hao, i1, i2⟩ := IR.first (by rw [← hit]; exact hcl.2)
        have c0 : ∀ n, (wr.drewN n).cell? ⟨x.c, 0, none⟩ = some (.int .i64 x.cl.n) := fun n => blk_cell hcl.1 0
        have c2 : ∀ n, (wr.drewN n).cell? ⟨x.c, 2, none⟩ = some (.slice x.ao x.cl.its.length x.cap) := fun n => blk_cell hcl.1 2
        rw [hit, hao] at c2
        simp only [List.length_cons] at c2
        have i2' : ∀ n, (wr.drewN n).cell? ⟨g, off + 1, none⟩ = some (.int .i64 i.2) := fun n => i2
        have c0' : wr.cell? ⟨x.c, 0, none⟩ = some (.int .i64 x.cl.n) := c0 0
        have c2' := c2 0
        rw [World.drewN_zero] at c2'
        clear hcl hnode hne hit hao i1 HQr HE hc ht q2'
        go_wp2_with (fail)
        refine hfront.mono ?_
        rintro r w5 ⟨rfl, rfl⟩
        go_wp2_with (fail)
        refine hof.mono ?_
        rintro r w5 ⟨rfl, rfl⟩
        unfold Pt
        go_wp2_with (fail)
        go_quiet (fail)
        go_wp2_with (fail)
        go_ret3
        rw [HR.out]
        exact ⟨rfl, HF.out.drewN _⟩
    | cons y R =>
      rw [ptE_cons]
      have hyE : y ∈ E := by rw [HE.out]; simp
      have hcl := HQr.out.cls y hyE
      obtain ⟨na, nb, hnode⟩ := HQr.out.ring.node (valE y) (List.mem_map_of_mem hyE)
      have hof := of_calls y.e y.c wr na nb _ hnode
      have hmem : y.cl ∈ st.ring := by rw [HQ.out.st]; exact List.mem_map_of_mem hyE
      have hits := HWF.out.its y.cl hmem
      have hlow := HWF.out.low y.cl hmem
      have hhigh := HWF.out.high y.cl hmem
      have hqu := HWF.out.qu
      have hmo := HWF.out.mo
      obtain ⟨i, t, hit⟩ : ∃ i t, y.cl.its = i :: t := by
        cases hi : y.cl.its with
        | nil => exact absurd hi hits.1
        | cons i t => exact ⟨i, t, rfl⟩
      have hi1 := hits.2.2 i (by rw [hit]; simp)
      obtain ⟨g, off, hao, i1, i2⟩ := IR.first (by rw [← hit]; exact hcl.2)
      have c0 : ∀ n, (wr.drewN n).cell? ⟨y.c, 0, none⟩ = some (.int .i64 y.cl.n) := fun n => blk_cell hcl.1 0
      have c1 : wr.cell? ⟨y.c, 1, none⟩ = some (.int .i64 y.cl.credit) := blk_cell hcl.1 1
      have c2 : ∀ n, (wr.drewN n).cell? ⟨y.c, 2, none⟩ = some (.slice y.ao y.cl.its.length y.cap) := fun n => blk_cell hcl.1 2
      rw [hit, hao] at c2
      simp only [List.length_cons] at c2
      have i2' : ∀ n, (wr.drewN n).cell? ⟨g, off + 1, none⟩ = some (.int .i64 i.2) := fun n => i2
      have i1' : ∀ n, (wr.drewN n).cell? ⟨g, off, none⟩ = some (.int .i64 i.1) := fun n => i1
      have c2' := c2 0
      rw [World.drewN_zero] at c2'
      have hfc : firstCost y.cl = i.1 := firstCost_cons hit
      have hHR : (st.turn = false ∨ firstCost y.cl ≤ y.cl.credit ∨ A ≠ []) → res = (y.cl.n, i.2, true) := by
        intro hh
        rw [← HRES.out]; unfold Qs.peek; rw [HQ.out.st, HE.out]
        rcases hA with ⟨rfl, _⟩ | ⟨x, rfl, _, ht, hc⟩
        · simp only [List.nil_append, List.map_cons]
          rw [if_pos (by rcases hh with h | h | h; exact .inl h; exact .inr h; exact absurd rfl h), hit]; rfl
        · simp only [List.cons_append, List.nil_append, List.map_cons]
          rw [if_neg (by rintro (h | h); rw [ht] at h; cases h; exact hc h), hit]; rfl
      have hnx : st.turn = true → A = [] → ¬ firstCost y.cl ≤ y.cl.credit → ∃ x, A ++ [y] = [x] ∧ st.turn = true ∧ ¬ firstCost x.cl ≤ x.cl.credit := fun h1 h2 h3 => ⟨y, by rw [h2]; rfl, h1, h3⟩
      have hnext := chain_next_calls bl y.e (.iface 60 (Pt y.c)) (A.map valE) (R.map valE) wr (by
        have := HQr.out.ring; rw [HE.out, List.map_append, List.map_cons] at this; exact this)
      rw [ptE_val] at hnext
      rw [hfc] at hHR hnx
      have HHR := Ho.mk hHR; have HNX := Ho.mk hnx; have HNEXT := Ho.mk hnext
      have hwrap : IntKind.i64.wrap (y.cl.credit + st.quantum) = y.cl.credit + st.quantum := by rw [IntKind.wrap_i64]; omega
      have hle : i.1 ≤ y.cl.credit + st.quantum := by omega
      have hcase : (u5 = .bool false ∧ res = (y.cl.n, i.2, true)) ∨ (u5 = .bool true ∧ A = [] ∧ st.turn = true) := by
        rcases hA with ⟨h1, h2⟩ | ⟨x, h1, h2, _⟩
        · by_cases ht : st.turn = false
          · exact .inl ⟨by rw [h2, ht], hHR (.inl ht)⟩
          · have ht : st.turn = true := by simpa using ht
            exact .inr ⟨by rw [h2, ht], h1, ht⟩
        · exact .inl ⟨h2, hHR (.inr (.inr (by rw [h1]; simp)))⟩
      obtain ⟨cr, hcr⟩ : ∃ cr, y.cl.credit + st.quantum = cr := ⟨_, rfl⟩
      replace hwrap := hwrap.trans hcr
      rw [hcr] at hle
      have c0' : wr.cell? ⟨y.c, 0, none⟩ = some (.int .i64 y.cl.n) := c0 0
      have HE2 := Ho.mk (show E = (A ++ [y]) ++ R by rw [HE.out]; simp)
      clear hcl hnode hits hlow hhigh hqu hmo hit hi1 hao hfc hHR hnx hnext hA HE hyE hmem HQr hfront hcr
      rcases hcase with ⟨rfl, hres⟩ | ⟨rfl, hA, ht⟩
      · have hd : decide (i.1 ≤ cr) = true := decide_eq_true hle
        have HRS := Ho.mk hres
        clear hres hle HHR HNX HNEXT HE2
        go_wp2_with (fail)
        refine hof.mono ?_
        rintro r w5 ⟨rfl, rfl⟩
        unfold Pt
        go_wp2_with (fail)
        go_quiet (fail)
        go_wp2_with (fail)
        go_ret3
        rw [HRS.out]
        exact ⟨rfl, HF.out.drewN _⟩
      · have HHA := Ho.mk hA; have HHT := Ho.mk ht
        clear hA ht
        by_cases hc : i.1 ≤ y.cl.credit
        · have hd : decide (i.1 ≤ y.cl.credit) = true := decide_eq_true hc
          have HRS := Ho.mk (HHR.out (.inr (.inl hc)))
          clear hc hle HHR HNX HNEXT HE2
          go_wp2_with (fail)
          refine hof.mono ?_
          rintro r w5 ⟨rfl, rfl⟩
          unfold Pt
          go_wp2_with (fail)
          go_quiet (fail)
          go_wp2_with (fail)
          go_ret3
          rw [HRS.out]
          exact ⟨rfl, HF.out.drewN _⟩
        · have hd : decide (i.1 ≤ y.cl.credit) = false := decide_eq_false hc
          obtain ⟨x, hx1, hx2, hx3⟩ := HNX.out HHT.out HHA.out hc
          have HX := Ho.mk (And.intro hx1 (And.intro hx2 hx3))
          clear hc hle HHR hx1 hx2 hx3 HNX
          go_wp2_with (fail)
          refine hof.mono ?_
          rintro r w5 ⟨rfl, rfl⟩
          unfold Pt
          go_wp2_with (fail)
          refine HNEXT.out.mono ?_
          rintro r w6 ⟨rfl, n, rfl⟩
          go_wp2_with (fail)
          go_roundw
          case rel => exact ⟨A ++ [y], R, HE2, rfl, .inr ⟨x, HX.out.1, rfl, HX.out.2.1, by have := HX.out.2.2; omega⟩, Ho.mk (HF.out.drewN _)⟩
          case measure => simp [turnM]
end Go.Proofs.Ytcpejmnmbioinaa
