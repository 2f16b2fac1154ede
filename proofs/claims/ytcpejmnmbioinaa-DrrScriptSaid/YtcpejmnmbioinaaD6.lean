/-
  package drr: Put of a new client, who is queued; Put.
-/
import Derived.Test.YtcpejmnmbioinaaD5
namespace Go.Proofs.Ytcpejmnmbioinaa
open Go.RowKit
set_option maxRecDepth 100000 in
theorem put_new_calls (w : World) (q bl mp : Nat) (E : List El) (st : Qs) (n cost x : Int) (hwf : st.wf) (hQ : QI w q bl mp E st) (hn : ∀ a ∈ E, a.cl.n ≠ n) (hc1 : ¬ cost < 1) (hc2 : ¬ st.most < cost) (hfull : ¬ st.clients ≤ E.length) :
    Calls Try.prog 12 #[.pointer (some ⟨q, 0, none⟩), .int .i64 n, .int .i64 cost, .int .i64 x] w fun r w' => r = .returned (.int .i64 0) ∧
      ∃ y : El, y.cl = ⟨n, 0, [(cost, x)]⟩ ∧ w.heap.size ≤ y.e ∧ w.heap.size ≤ y.c ∧ (∀ k, inB y.ao k → w.heap.size ≤ k) ∧
        QI w' q bl mp (E ++ [y]) { st with ring := (E ++ [y]).map (·.cl) } ∧ Fr (fun k => k = q ∨ k = mp ∨ RingB bl (E.map valE) k) w w' := by
  obtain ⟨q0, q1, q2, q3, q4, q5, q6, q7⟩ := hQ.cells
  have hcall := none_calls q bl w q4
  have hl := MapF.lookup (t := 50) ikeys Try.underlying50 zeroE hQ.map n
  rw [atE_none hn] at hl
  have hl' : (Instr.lookup 50 (.map (some mp)) (.int .i64 n) true).run Try.prog w = .ok (.tuple #[.pointer none, .bool false]) w := hl
  have hlen := chain_len_quiet bl (E.map valE) w hQ.ring
  rw [List.length_map] at hlen
  have hd1 : decide (cost < 1) = false := decide_eq_false hc1
  have hd2 : decide (st.most < cost) = false := decide_eq_false hc2
  have hd3 : decide (st.clients ≤ (E.length : Int)) = false := decide_eq_false hfull
  have hd4 : decide (st.items ≤ 0) = false := decide_eq_false (by have := hwf.it.1; omega)
  have htot := hwf.total_lt
  have hEl : E.length < 2 ^ 40 := by
    have h1 := hwf.len; have h2 := hwf.cl.2
    rw [hQ.st, List.length_map] at h1; omega
  have HQ := Ho.mk hQ; have HNN := Ho.mk hn; have HWF := Ho.mk hwf; have HT := Ho.mk htot; have HCo := Ho.mk hc1; have HEL := Ho.mk hEl
  clear hQ hn hc1 hc2 hfull hl hwf htot hEl
  go_enter Try.func12, Try.ntmps12
  go_wp2_with (fail)
  refine hcall.mono ?_
  clear hcall
  rintro r w' ⟨rfl, rfl⟩
  go_wp2_with (fail)
  go_quiet (exact hlen _)
  clear hlen
  go_wp2_with (fail)
  have hb4 := blk_new (w'.drewN nq) (.cells #[.int .i64 n, .int .i64 0, .slice none 0 0] 63)
  have hf4 := ((Fr.refl nob w').drewN nq).alloc (.cells #[.int .i64 n, .int .i64 0, .slice none 0 0] 63)
  generalize hw4 : (w'.drewN nq).alloc (.cells #[.int .i64 n, .int .i64 0, .slice none 0 0] 63) = w4 at *
  have hb4' : w4.heap[w'.heap.size]? = some (.cells #[.int .i64 n, .int .i64 0, .slice none 0 0] 63 (0, 0)) := hb4
  obtain ⟨c, hc⟩ : ∃ c, w'.heap.size = c := ⟨_, rfl⟩
  have hcs : w'.heap.size ≤ c := Nat.le_of_eq hc
  rw [hc] at hb4'
  try rw [hc]
  have hQ4 : QI w4 q bl mp E st := HQ.out.fr hf4 (fun _ _ h => h)
  have hpush := chain_push_calls bl 60 (Pt c) (E.map valE) w4 hQ4.ring (by rw [List.length_map]; exact HEL.out)
  have hltE : ∀ k, Own q bl mp E k → k < c := fun k hk => by rw [← hc]; exact HQ.out.lt hk
  have HF4 := Ho.mk hf4; have HB4 := Ho.mk hb4'; have HC := Ho.mk hc; have HCS := Ho.mk hcs; have HQ4 := Ho.mk hQ4; have HLT := Ho.mk hltE; have HW4 := Ho.mk hw4
  clear hf4 hb4 hb4' hc hcs hQ4 hltE hw4
  refine hpush.mono ?_
  clear hpush q0 q1 q2 q3 q4 q5 q6 q7 hl'
  rintro r w5 ⟨e, rfl, he, h5, f5⟩
  have hqR : ¬ RingB bl (E.map valE) q := by
    obtain ⟨⟨_, kq⟩, _, ⟨_, kb⟩, ke⟩ := HQ.out.kinds
    rintro (rfl | hk)
    · rw [kq] at kb; simp at kb
    · obtain ⟨z, hz, rfl⟩ := List.mem_map.1 hk
      obtain ⟨u, hu, rfl⟩ := List.mem_map.1 hz
      obtain ⟨⟨_, k1⟩, _⟩ := ke u hu
      have k1' : w'.heap[(valE u).1]? = _ := k1
      rw [kq] at k1'; simp at k1'
  have hmR : ¬ RingB bl (E.map valE) mp := by
    obtain ⟨_, ⟨_, _, kq⟩, ⟨_, kb⟩, ke⟩ := HQ.out.kinds
    rintro (rfl | hk)
    · rw [kq] at kb; simp at kb
    · obtain ⟨z, hz, rfl⟩ := List.mem_map.1 hk
      obtain ⟨u, hu, rfl⟩ := List.mem_map.1 hz
      obtain ⟨⟨_, k1⟩, _⟩ := ke u hu
      have k1' : w'.heap[(valE u).1]? = _ := k1
      rw [kq] at k1'; simp at k1'
  have hcR : ¬ RingB bl (E.map valE) c := fun h => absurd (HLT.out c (.inr (.inr (.inl h)))) (Nat.lt_irrefl c)
  have hq5 := f5.block q _ HQ4.out.head hqR
  have hm5 := HQ4.out.map.fr f5 hmR
  have hc5 := f5.block c _ HB4.out hcR
  obtain ⟨na, nb, hn5⟩ := h5.node (e, .iface 60 (Pt c)) (by simp)
  have q5 : w5.cell? ⟨q, 5, none⟩ = some (.map (some mp)) := blk_cell hq5 5
  obtain ⟨o, hU, hm6⟩ := MapF.update (t := 50) ikeys Try.underlying50 hm5 n (Pt e)
  have hf6 : Fr (fun k => k = mp) w5 { w5 with heap := w5.heap.setIfInBounds mp o } := (Fr.refl (fun k => k = mp) w5).setObj (.inr rfl) o
  generalize hw6 : ({ w5 with heap := w5.heap.setIfInBounds mp o } : World) = w6 at hU hm6 hf6
  have hU' : (Instr.mapUpdate 50 (.map (some mp)) (.int .i64 n) (.pointer (some ⟨e, 0, none⟩))).run Try.prog w5 = .ok () w6 := hU
  have hmq : q ≠ mp := by
    rintro h0; have h1 := hq5; rw [h0] at h1; obtain ⟨_, _, h2, _⟩ := hm5; rw [h1] at h2; simp at h2
  have hmc : c ≠ mp := by
    rintro h0; have h1 := hc5; rw [h0] at h1; obtain ⟨_, _, h2, _⟩ := hm5; rw [h1] at h2; simp at h2
  have hme : e ≠ mp := by
    rintro h0; have h1 := hn5; simp only at h1; rw [h0] at h1; obtain ⟨_, _, h2, _⟩ := hm5; rw [h1] at h2; simp at h2
  have hq6 := hf6.block q _ hq5 hmq
  have hc6 := hf6.block c _ hc5 hmc
  have hn6 := hf6.block e _ hn5 hme
  have hof := of_calls e c w6 na nb _ hn6
  have p1 : w6.cell? ⟨q, 1, none⟩ = some (.int .i64 st.items) := blk_cell hq6 1
  have p2 : w6.cell? ⟨c, 2, none⟩ = some (.slice none 0 0) := blk_cell hc6 2
  have hqc : q ≠ c := by rintro h0; have h1 := hq5; rw [h0, hc5] at h1; simp [headCells] at h1
  have H5 := Ho.mk h5; have F5 := Ho.mk f5; have HQ6 := Ho.mk hq6; have HC6 := Ho.mk hc6; have HM6 := Ho.mk hm6; have HF6 := Ho.mk hf6; have HE := Ho.mk he; have HQC := Ho.mk hqc; have HW6 := Ho.mk hw6; have HMQ := Ho.mk hmq; have HMC := Ho.mk hmc; have HME := Ho.mk hme; have HQR := Ho.mk hqR; have HMR := Ho.mk hmR; have HCR := Ho.mk hcR; have HN5 := Ho.mk hn5
  clear h5 f5 hq5 hm5 hc5 hn5 hU hm6 hf6 hq6 hc6 hn6 he hqc hw6 hmq hmc hme hqR hmR hcR
  unfold Pt
  go_wp2_with (fail)
  refine hof.mono ?_
  clear hof hU'
  rintro r w2 ⟨rfl, rfl⟩
  unfold Pt
  go_wp2
  go_quiet (fail)
  obtain ⟨w7, hw7⟩ : ∃ w7, w7 = w2.drewN nq := ⟨_, rfl⟩
  have hf7 : Fr nob w2 w7 := by rw [hw7]; exact (Fr.refl nob w2).drewN nq
  rw [← hw7]
  have p2 : w7.cell? ⟨c, 2, none⟩ = some (.slice none 0 0) := by rw [hw7]; exact p2
  clear p1
  have HF7 := Ho.mk hf7; have HW7 := Ho.mk hw7
  clear hf7 hw7
  have hI : IR (w7.alloc (.cells #[.int .i64 cost, .int .i64 x] 66)) none 0 [] := IR.nil _
  have hnb := blk_new w7 (.cells #[.int .i64 cost, .int .i64 x] 66)
  have hfr := (Fr.refl nob w7).alloc (.cells #[.int .i64 cost, .int .i64 x] 66)
  have HI := Ho.mk hI; have HNB := Ho.mk hnb; have HFR := Ho.mk hfr
  clear hI hnb hfr
  go_wp2_with (at_builtin; refine wpList_append_item rfl _ _ rfl none _ 0 [] rfl rfl HI.out (by simp) w7.heap.size cost x _ rfl HNB.out rfl ?_)
  intro ao' cap' w8 hi8 hin8 hf8
  have F8 : Fr nob w2 w8 := (HF7.out.trans HFR.out).trans (hf8.mono (fun k _ hk => by obtain ⟨a, ha, _⟩ := hk; cases ha))
  have hq8 := F8.block q _ HQ6.out (fun h => h)
  have hc8 := F8.block c _ HC6.out (fun h => h)
  have r2 : w8.cell? ⟨c, 2, none⟩ = some (.slice none 0 0) := blk_cell hc8 2
  have r7 : w8.cell? ⟨q, 7, none⟩ = some (.int .i64 (total st.ring : Nat)) := blk_cell hq8 7
  have f2 := blk_free hc8 2
  have f7 := blk_free hq8 7
  have hqc := HQC.out
  have hcq : c ≠ q := fun h => hqc h.symm
  have htot := HT.out
  obtain ⟨tn, htn⟩ : ∃ n, total st.ring = n := ⟨_, rfl⟩
  rw [htn] at r7 htot
  have hin : ∀ k, inB ao' k → w7.heap.size + 1 ≤ k := fun k hk => by
    rcases hin8 k hk with ⟨a, ha, _⟩ | h
    · cases ha
    · simpa using h
  have HI8 := Ho.mk hi8; have HIN := Ho.mk hin; have HF8 := Ho.mk F8; have HQ8 := Ho.mk hq8; have HC8 := Ho.mk hc8; have HTN := Ho.mk htn
  clear hi8 hin8 hf8 F8 hin hq8 hc8 htn p2
  go_wp2
  go_ret
  have hf45 : Fr (fun k => k = q ∨ k = mp ∨ RingB bl (E.map valE) k) w' w5 := (HF4.out.mono (fun _ _ h => h.elim)).trans (F5.out.mono (fun _ _ h => .inr (.inr h)))
  have hf6 : Fr (fun k => k = q ∨ k = mp ∨ RingB bl (E.map valE) k) w' w2 := hf45.trans (HF6.out.mono (fun _ _ h => .inr (.inl h)))
  have hf8 : Fr (fun k => k = q ∨ k = mp ∨ RingB bl (E.map valE) k) w' w8 := hf6.trans (HF8.out.mono (fun _ _ h => h.elim))
  have hf9 := (hf8.set (p := ⟨c, 2, none⟩) (.inl HCS.out) (.slice ao' (([] : List (Int × Int)).length + 1) cap')).set (p := ⟨q, 7, none⟩) (.inr (.inl rfl)) (.int .i64 ((tn : Int) + 1))
  have g89 : Fr (fun k => k = q ∨ k = c) w8 ((w8.setCell ⟨c, 2, none⟩ (.slice ao' (([] : List (Int × Int)).length + 1) cap')).setCell ⟨q, 7, none⟩ (.int .i64 ((tn : Int) + 1))) :=
    ((Fr.refl (fun k => k = q ∨ k = c) w8).set (p := ⟨c, 2, none⟩) (.inr (.inr rfl)) _).set (p := ⟨q, 7, none⟩) (.inr (.inl rfl)) _
  have hq9 := blk_set (blk_far HQ8.out ⟨c, 2, none⟩ hqc (.slice ao' (([] : List (Int × Int)).length + 1) cap')) 7 (.int .i64 ((tn : Int) + 1))
  have hc9 := blk_far (blk_set HC8.out 2 (.slice ao' (([] : List (Int × Int)).length + 1) cap')) ⟨q, 7, none⟩ hcq (.int .i64 ((tn : Int) + 1))
  have hw : (w8.setCell ⟨c, 2, none⟩ (.slice ao' 1 cap')).setCell ⟨q, 7, none⟩ (.int .i64 ((tn : Int) + 1)) = (w8.setCell ⟨c, 2, none⟩ (.slice ao' (([] : List (Int × Int)).length + 1) cap')).setCell ⟨q, 7, none⟩ (.int .i64 ((tn : Int) + 1)) := rfl
  try rw [hw]
  generalize (w8.setCell ⟨c, 2, none⟩ (.slice ao' (([] : List (Int × Int)).length + 1) cap')).setCell ⟨q, 7, none⟩ (.int .i64 ((tn : Int) + 1)) = w9 at *
  have hqlt : q < c := HLT.out q (.inl rfl)
  have hmlt : mp < c := HLT.out mp (.inr (.inl rfl))
  have hc4 : c < w4.heap.size := lt_of_blk HB4.out
  have he := HE.out
  have h47 : w4.heap.size ≤ w7.heap.size := Nat.le_trans F5.out.size (Nat.le_trans HF6.out.size HF7.out.size)
  have hcs := HCS.out
  have hx : ClAt w9 ⟨e, c, ao', cap', ⟨n, 0, [(cost, x)]⟩⟩ := by
    refine ⟨hc9, HI8.out.fr g89 ?_⟩
    intro k hk hS
    have := HIN.out k hk
    rcases hS with rfl | rfl <;> omega
  have hao : ∀ k, inB ao' k → w'.heap.size ≤ k := fun k hk => by have := HIN.out k hk; omega
  refine ⟨rfl, ⟨e, c, ao', cap', ⟨n, 0, [(cost, x)]⟩⟩, rfl, by simp only; omega, hcs, hao, ?_, hf9⟩
  have hnot : ∀ y ∈ E, y.cl.n ≠ n := HNN.out
  refine QI.push HQ.out hf9 (fun _ h => h) hcs hao hx ?_ ?_ ?_ rfl
  · have h1 : Fr (fun k => k = q ∨ k = mp ∨ k = c) w5 w9 := ((HF6.out.mono (fun _ _ h => .inr (.inl h))).trans (HF8.out.mono (fun _ _ h => h.elim))).trans (g89.mono (fun k _ h => by rcases h with h | h <;> simp [h]))
    have h2 : (E ++ [(⟨e, c, ao', cap', ⟨n, 0, [(cost, x)]⟩⟩ : El)]).map valE = E.map valE ++ [(e, .iface 60 (Pt c))] := by simp [valE]
    rw [h2]
    refine H5.out.fr h1 ?_
    intro k hk hS
    have hk' : RingB bl (E.map valE) k ∨ k = e := by
      rcases hk with h | h
      · exact .inl (.inl h)
      · rw [List.map_append, List.mem_append] at h
        rcases h with h | h
        · exact .inl (.inr h)
        · exact .inr (by simpa using h)
    rcases hk' with hk' | rfl
    · rcases hS with rfl | rfl | rfl
      · exact HQR.out hk'
      · exact HMR.out hk'
      · exact HCR.out hk'
    · rcases hS with h | h | h <;> omega
  · refine MapF.fr (S := fun k => k = q ∨ k = c) (HM6.out _ ?_ ?_) ((HF8.out.mono (fun _ _ h => h.elim)).trans g89) ?_
    · exact (atE_snoc (x := ⟨e, c, ao', cap', ⟨n, 0, [(cost, x)]⟩⟩) hnot).1
    · intro y hy
      rw [(atE_snoc (x := ⟨e, c, ao', cap', ⟨n, 0, [(cost, x)]⟩⟩) hnot).2 y hy]
    · rintro (h | h)
      · exact HMQ.out h.symm
      · exact HMC.out h.symm
  · have h2 : total ((E ++ [(⟨e, c, ao', cap', ⟨n, 0, [(cost, x)]⟩⟩ : El)]).map (·.cl)) = tn + 1 := by
      rw [← HTN.out, HQ.out.st]
      simp only [List.map_append, List.map_cons, List.map_nil, total_append, total_cons, List.length_cons, List.length_nil]
      rfl
    simp only [h2]
    have e3 : ((tn + 1 : Nat) : Int) = (tn : Int) + 1 := by omega
    rw [e3]
    exact hq9
/-- PUT. -/
theorem put_calls (D : Nat → Prop) (w : World) (q : Nat) (st : Qs) (n cost x : Int) (h : QS D w q st) (hD : ∀ k, w.heap.size ≤ k → D k) :
    Calls Try.prog 12 #[.pointer (some ⟨q, 0, none⟩), .int .i64 n, .int .i64 cost, .int .i64 x] w fun r w' => r = .returned (.int .i64 (st.put n cost x).2) ∧ QS D w' q (st.put n cost x).1 ∧ Fr D w w' := by
  by_cases hc : cost < 1 ∨ st.most < cost
  · have hp : st.put n cost x = (st, 5) := by unfold Qs.put; rw [if_pos hc]
    rw [hp]
    refine (put_range_calls D w q st n cost x h hc).mono ?_
    rintro r w' ⟨rfl, rfl⟩
    exact ⟨rfl, h, Fr.refl _ _⟩
  · obtain ⟨hwf, bl, mp, E, hQ, hO⟩ := h
    have hc1 : ¬ cost < 1 := fun h => hc (.inl h)
    have hc2 : ¬ st.most < cost := fun h => hc (.inr h)
    have hdr : ∀ m, QS D (w.drewN m) q st := fun m => ⟨hwf, bl, mp, E, hQ.fr ((Fr.refl nob w).drewN m) (fun _ _ h => h), hO⟩
    rcases split_at st.ring hwf.nums n with ⟨h1, h2⟩ | ⟨A, c, B, h1, h2, h3, h4, h5⟩
    · have hn : ∀ a ∈ E, a.cl.n ≠ n := fun a ha => h2 a.cl (by rw [hQ.st]; exact List.mem_map_of_mem ha)
      have hl : st.ring.length = E.length := by rw [hQ.st, List.length_map]
      by_cases hf : st.clients ≤ E.length
      · have hp : st.put n cost x = (st, 8) := by unfold Qs.put; rw [if_neg hc, h1]; simp only; rw [if_pos (by rw [hl]; exact hf)]
        rw [hp]
        refine (put_many_calls w q bl mp E st n cost x hQ hn hc1 hc2 hf).mono ?_
        rintro r w' ⟨rfl, m, rfl⟩
        exact ⟨rfl, hdr m, (Fr.refl D w).drewN m⟩
      · have hp : st.put n cost x = ({ st with ring := st.ring ++ [⟨n, 0, [(cost, x)]⟩] }, 0) := by unfold Qs.put; rw [if_neg hc, h1]; simp only; rw [if_neg (by rw [hl]; exact hf)]
        rw [hp]
        refine (put_new_calls w q bl mp E st n cost x hwf hQ hn hc1 hc2 hf).mono ?_
        rintro r w' ⟨rfl, y, hy, k1, k2, k3, hq', hfr⟩
        have hst : (E ++ [y]).map (·.cl) = st.ring ++ [⟨n, 0, [(cost, x)]⟩] := by rw [List.map_append, ← hQ.st]; simp [hy]
        rw [hst] at hq'
        refine ⟨rfl, ⟨hwf.put_new h2 (by omega) (by omega) (by rw [hl]; omega), bl, mp, _, hq', fun k hk => ?_⟩, hfr.mono fun k _ hk => hO k ?_⟩
        · rcases Own.push (B := w.heap.size) k1 k2 k3 hk with h | h
          · exact hO k h
          · exact hD k h
        · rcases hk with h | h | h
          · exact .inl h
          · exact .inr (.inl h)
          · exact .inr (.inr (.inl h))
    · obtain ⟨EA, y, EB, rfl, e1, e2, e3⟩ := el_split hQ.st h1
      subst e2
      have hA : ∀ a ∈ EA, a.cl.n ≠ y.cl.n := fun a ha => by rw [h2]; exact h3 a.cl (by rw [← e1]; exact List.mem_map_of_mem ha)
      subst h2
      by_cases hf : st.items ≤ y.cl.its.length
      · have hp : st.put y.cl.n cost x = (st, 8) := by unfold Qs.put; rw [if_neg hc, h5]; simp only; rw [if_pos hf]
        rw [hp]
        refine (put_full_calls w q bl mp EA EB y st cost x hQ hA hc1 hc2 hf).mono ?_
        rintro r w' ⟨rfl, m, rfl⟩
        exact ⟨rfl, hdr m, (Fr.refl D w).drewN m⟩
      · have hp : st.put y.cl.n cost x = ({ st with ring := A ++ { y.cl with its := y.cl.its ++ [(cost, x)] } :: B }, 0) := by
          unfold Qs.put; rw [if_neg hc, h5]; simp only; rw [if_neg hf, h1, map_mid y.cl.n (fun c => { c with its := c.its ++ [(cost, x)] }) A B y.cl h3 h4 rfl]
        rw [hp]
        refine (put_app_calls w q bl mp EA EB y st cost x hwf hQ hA hc1 hc2 hf).mono ?_
        rintro r w' ⟨rfl, ao', cap', hq', hin, hfr⟩
        have hst : (EA ++ { y with ao := ao', cap := cap', cl := { y.cl with its := y.cl.its ++ [(cost, x)] } } :: EB).map (·.cl) = A ++ { y.cl with its := y.cl.its ++ [(cost, x)] } :: B := by simp [e1, e3]
        rw [hst] at hq'
        refine ⟨rfl, ⟨hwf.put_mid h1 (by omega) (by omega) (by omega), bl, mp, _, hq', fun k hk => ?_⟩, hfr.mono fun k _ hk => hO k ?_⟩
        · rcases Own.mid (x := y) (x' := { y with ao := ao', cap := cap', cl := { y.cl with its := y.cl.its ++ [(cost, x)] } }) rfl rfl hk with h | h
          · exact hO k h
          · rcases hin k h with h | h
            · exact hO k (.inr (.inr (.inr ⟨y, by simp, .inr h⟩)))
            · exact hD k h
        · rcases hk with h | h | h
          · exact .inl h
          · exact .inr (.inr (.inr ⟨y, by simp, .inl h⟩))
          · exact .inr (.inr (.inr ⟨y, by simp, .inr h⟩))
end Go.Proofs.Ytcpejmnmbioinaa
