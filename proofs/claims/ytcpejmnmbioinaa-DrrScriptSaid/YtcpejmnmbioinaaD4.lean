/-
  package drr: Put at a client that is there.
-/
import Derived.Test.YtcpejmnmbioinaaD3
namespace Go.Proofs.Ytcpejmnmbioinaa
open Go.RowKit
theorem el_split {E : List El} {r A B : List Cl} {c : Cl} (h : r = E.map (·.cl)) (h2 : r = A ++ c :: B) : ∃ EA x EB, E = EA ++ x :: EB ∧ EA.map (·.cl) = A ∧ x.cl = c ∧ EB.map (·.cl) = B := by
  rw [h] at h2
  obtain ⟨EA, r2, rfl, h3, h4⟩ := List.map_eq_append_iff.1 h2
  obtain ⟨x, EB, rfl, h5, h6⟩ := List.map_eq_cons_iff.1 h4
  exact ⟨EA, x, EB, rfl, h3, h5, h6⟩
set_option maxRecDepth 100000 in
theorem put_full_calls (w : World) (q bl mp : Nat) (A B : List El) (e : El) (st : Qs) (cost x : Int) (hQ : QI w q bl mp (A ++ e :: B) st) (hA : ∀ a ∈ A, a.cl.n ≠ e.cl.n) (hc1 : ¬ cost < 1) (hc2 : ¬ st.most < cost) (hfull : st.items ≤ e.cl.its.length) :
    Calls Try.prog 12 #[.pointer (some ⟨q, 0, none⟩), .int .i64 e.cl.n, .int .i64 cost, .int .i64 x] w fun r w' => r = .returned (.int .i64 8) ∧ ∃ n, w' = w.drewN n := by
  obtain ⟨q0, q1, q2, q3, q4, q5, q6, q7⟩ := hQ.cells
  have hcall := none_calls q bl w q4
  have hl := MapF.lookup (t := 50) ikeys Try.underlying50 zeroE hQ.map e.cl.n
  rw [atE_mid A B e hA] at hl
  have hl' : (Instr.lookup 50 (.map (some mp)) (.int .i64 e.cl.n) true).run Try.prog w = .ok (.tuple #[.pointer (some ⟨e.e, 0, none⟩), .bool true]) w := hl
  obtain ⟨a, b, hnode⟩ := hQ.ring.node (valE e) (List.mem_map_of_mem (by simp))
  have hof := of_calls e.e e.c w a b _ hnode
  have hcl := hQ.cls e (by simp)
  have c2 : w.cell? ⟨e.c, 2, none⟩ = some (.slice e.ao e.cl.its.length e.cap) := blk_cell hcl.1 2
  have hd1 : decide (cost < 1) = false := decide_eq_false hc1
  have hd2 : decide (st.most < cost) = false := decide_eq_false hc2
  have hd3 : decide (st.items ≤ (e.cl.its.length : Int)) = true := decide_eq_true hfull
  obtain ⟨en, hen⟩ : ∃ n, e.cl.n = n := ⟨_, rfl⟩
  rw [hen] at hl' ⊢
  clear hQ hA hc1 hc2 hfull hl hnode hcl hen
  go_enter Try.func12, Try.ntmps12
  go_wp2_with (fail)
  refine hcall.mono ?_
  clear hcall
  rintro r w' ⟨rfl, rfl⟩
  go_wp2_with (fail)
  refine hof.mono ?_
  clear hof
  rintro r w2 ⟨rfl, rfl⟩
  unfold Pt
  go_wp2
  go_quiet (fail)
  go_wp2
  go_ret
  exact ⟨rfl, _, rfl⟩
set_option maxRecDepth 100000 in
theorem put_app_calls (w : World) (q bl mp : Nat) (A B : List El) (e : El) (st : Qs) (cost x : Int) (hwf : st.wf) (hQ : QI w q bl mp (A ++ e :: B) st) (hA : ∀ a ∈ A, a.cl.n ≠ e.cl.n) (hc1 : ¬ cost < 1) (hc2 : ¬ st.most < cost) (hfull : ¬ st.items ≤ e.cl.its.length) :
    Calls Try.prog 12 #[.pointer (some ⟨q, 0, none⟩), .int .i64 e.cl.n, .int .i64 cost, .int .i64 x] w fun r w' => r = .returned (.int .i64 0) ∧
      ∃ ao' cap', QI w' q bl mp (A ++ { e with ao := ao', cap := cap', cl := { e.cl with its := e.cl.its ++ [(cost, x)] } } :: B) { st with ring := (A ++ { e with ao := ao', cap := cap', cl := { e.cl with its := e.cl.its ++ [(cost, x)] } } :: B).map (·.cl) } ∧
      (∀ k, inB ao' k → inB e.ao k ∨ w.heap.size ≤ k) ∧ Fr (fun k => k = q ∨ k = e.c ∨ inB e.ao k) w w' := by
  obtain ⟨q0, q1, q2, q3, q4, q5, q6, q7⟩ := hQ.cells
  have hcall := none_calls q bl w q4
  have hl := MapF.lookup (t := 50) ikeys Try.underlying50 zeroE hQ.map e.cl.n
  rw [atE_mid A B e hA] at hl
  have hl' : (Instr.lookup 50 (.map (some mp)) (.int .i64 e.cl.n) true).run Try.prog w = .ok (.tuple #[.pointer (some ⟨e.e, 0, none⟩), .bool true]) w := hl
  obtain ⟨a, b, hnode⟩ := hQ.ring.node (valE e) (List.mem_map_of_mem (by simp))
  have hof := of_calls e.e e.c w a b _ hnode
  have hcl := hQ.cls e (by simp)
  have c2 : w.cell? ⟨e.c, 2, none⟩ = some (.slice e.ao e.cl.its.length e.cap) := blk_cell hcl.1 2
  have hd1 : decide (cost < 1) = false := decide_eq_false hc1
  have hd2 : decide (st.most < cost) = false := decide_eq_false hc2
  have hd3 : decide (st.items ≤ (e.cl.its.length : Int)) = false := decide_eq_false hfull
  have hilen : e.cl.its.length ≤ 64 := by
    have := hwf.its e.cl (by rw [hQ.st]; simp)
    have := hwf.it.2
    omega
  have htot := hwf.total_lt
  have hqc : q ≠ e.c := by
    rintro h1
    have h2 := hQ.head; rw [h1, hcl.1] at h2; simp at h2
  obtain ⟨en, hen⟩ : ∃ n, e.cl.n = n := ⟨_, rfl⟩
  rw [hen] at hl' ⊢
  have HQ := Ho.mk hQ; have HA := Ho.mk hA; have HWF := Ho.mk hwf; have HN := Ho.mk hnode; have HC := Ho.mk hcl; have HEN := Ho.mk hen; have HIL := Ho.mk hilen; have HT := Ho.mk htot; have HQC := Ho.mk hqc; have HCo := Ho.mk hc1
  clear hQ hA hc1 hc2 hfull hl hnode hcl hen hwf hilen htot hqc
  go_enter Try.func12, Try.ntmps12
  go_wp2_with (fail)
  refine hcall.mono ?_
  clear hcall
  rintro r w' ⟨rfl, rfl⟩
  go_wp2_with (fail)
  refine hof.mono ?_
  clear hof
  rintro r w2 ⟨rfl, rfl⟩
  unfold Pt
  go_wp2
  go_quiet (fail)
  have hI : IR ((w2.drewN nq).alloc (.cells #[.int .i64 cost, .int .i64 x] 66)) e.ao e.cap e.cl.its := HC.out.2.fr (((Fr.refl nob w2).drewN nq).alloc (.cells #[.int .i64 cost, .int .i64 x] 66)) (fun _ _ h => h)
  have hnb := blk_new (w2.drewN nq) (.cells #[.int .i64 cost, .int .i64 x] 66)
  have hfr := ((Fr.refl nob w2).drewN nq).alloc (.cells #[.int .i64 cost, .int .i64 x] 66)
  have HI := Ho.mk hI; have HNB := Ho.mk hnb; have HFR := Ho.mk hfr
  clear hI hnb hfr
  go_wp2_with (at_builtin; refine wpList_append_item rfl _ _ rfl e.ao _ e.cap e.cl.its rfl rfl HI.out (by have := HIL.out; omega) (w2.drewN nq).heap.size cost x _ rfl HNB.out rfl ?_)
  intro ao' cap' w5 hi5 hin5 hf5
  have F5 : Fr (inB e.ao) w2 w5 := (HFR.out.mono (fun _ _ h => h.elim)).trans hf5
  obtain ⟨⟨_, kq⟩, _, _, ke⟩ := HQ.out.kinds
  obtain ⟨_, ⟨_, kec⟩, kei⟩ := ke e (by simp)
  have hnq : ¬ inB e.ao q := fun hi => by obtain ⟨_, ki⟩ := kei q hi; rw [kq] at ki; simp at ki
  have hnc : ¬ inB e.ao e.c := fun hi => by obtain ⟨_, ki⟩ := kei e.c hi; rw [kec] at ki; simp at ki
  have hq5 := F5.block q _ HQ.out.head hnq
  have hc5 := F5.block e.c _ HC.out.1 hnc
  have r2 : w5.cell? ⟨e.c, 2, none⟩ = some (.slice e.ao e.cl.its.length e.cap) := blk_cell hc5 2
  have r7 : w5.cell? ⟨q, 7, none⟩ = some (.int .i64 (total st.ring : Nat)) := blk_cell hq5 7
  have f2 := blk_free hc5 2
  have f7 := blk_free hq5 7
  have hqc := HQC.out
  have hcq : e.c ≠ q := fun h => hqc h.symm
  have htot := HT.out
  obtain ⟨tn, htn⟩ : ∃ n, total st.ring = n := ⟨_, rfl⟩
  rw [htn] at r7 htot
  have hsz : ∀ k, inB ao' k → inB e.ao k ∨ w2.heap.size ≤ k := fun k hk => by
    rcases hin5 k hk with h | h
    · exact .inl h
    · exact .inr (Nat.le_trans (Nat.le_succ _) h)
  have HI5 := Ho.mk hi5; have HIN := Ho.mk hsz; have HF5 := Ho.mk F5; have HQ5 := Ho.mk hq5; have HC5 := Ho.mk hc5; have HTN := Ho.mk htn; have HNQ := Ho.mk hnq; have HNC := Ho.mk hnc
  clear hi5 hin5 hf5 F5 kq ke kec kei hnq hnc hq5 hc5 htn q0 q1 q2 q3 q4 q5 q6 q7 c2 hl' hsz
  go_wp2
  go_ret
  have hst : (A ++ e :: B).map (·.cl) = st.ring := HQ.out.st.symm
  refine ⟨rfl, ao', cap', ?_, HIN.out, ?_⟩
  · have hfr : Fr (fun k => k = q ∨ k = e.c ∨ inB e.ao k) w2 ((w5.setCell ⟨e.c, 2, none⟩ (.slice ao' (e.cl.its.length + 1) cap')).setCell ⟨q, 7, none⟩ (.int .i64 ((tn : Int) + 1))) :=
      ((HF5.out.mono (fun k _ hk => .inr (.inr hk))).set (p := ⟨e.c, 2, none⟩) (.inr (.inr (.inl rfl))) _).set (p := ⟨q, 7, none⟩) (.inr (.inl rfl)) _
    refine QI.mid HQ.out hfr (fun _ h => h) rfl rfl rfl ?_ HIN.out ?_ rfl
    · refine ⟨?_, ?_⟩
      · have h1 := blk_far (blk_set HC5.out 2 (.slice ao' (e.cl.its.length + 1) cap')) ⟨q, 7, none⟩ hcq (.int .i64 ((tn : Int) + 1))
        simp only [List.length_append, List.length_cons, List.length_nil, Nat.zero_add]
        exact h1
      · refine HI5.out.fr (S := fun k => k = q ∨ k = e.c) (((Fr.refl (fun k => k = q ∨ k = e.c) w5).set (p := ⟨e.c, 2, none⟩) (.inr (.inr rfl)) _).set (p := ⟨q, 7, none⟩) (.inr (.inl rfl)) _) ?_
        intro k hk hS
        have hlq : q < w2.heap.size := lt_of_blk HQ.out.head
        have hlc : e.c < w2.heap.size := lt_of_blk HC.out.1
        rcases HIN.out k hk with h | h
        · rcases hS with rfl | rfl
          · exact HNQ.out h
          · exact HNC.out h
        · rcases hS with rfl | rfl <;> omega
    · have h1 := blk_set (blk_far HQ5.out ⟨e.c, 2, none⟩ hqc (.slice ao' (e.cl.its.length + 1) cap')) 7 (.int .i64 ((tn : Int) + 1))
      have h2 : total ((A ++ { e with ao := ao', cap := cap', cl := { e.cl with its := e.cl.its ++ [(cost, x)] } } :: B).map (·.cl)) = tn + 1 := by
        rw [← HTN.out, ← hst]
        simp only [List.map_append, List.map_cons, total_append, total_cons, List.length_append, List.length_cons, List.length_nil]
        omega
      rw [h2]
      have e3 : ((tn + 1 : Nat) : Int) = (tn : Int) + 1 := by omega
      rw [e3]
      exact h1
  · exact ((HF5.out.mono (fun k _ hk => .inr (.inr hk))).set (p := ⟨e.c, 2, none⟩) (.inr (.inr (.inl rfl))) _).set (p := ⟨q, 7, none⟩) (.inr (.inl rfl)) _
end Go.Proofs.Ytcpejmnmbioinaa
