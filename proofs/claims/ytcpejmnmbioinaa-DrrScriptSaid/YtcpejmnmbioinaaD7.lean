/-
  package drr: leaves.
-/
import Derived.Test.YtcpejmnmbioinaaD6
import Derived.StillTailTactics
namespace Go.Proofs.Ytcpejmnmbioinaa
open Go.RowKit
theorem atE_out {A B : List El} {x : El} (hA : ∀ a ∈ A, a.cl.n ≠ x.cl.n) (hB : ∀ a ∈ B, a.cl.n ≠ x.cl.n) : atE (A ++ B) x.cl.n = none ∧ ∀ m, m ≠ x.cl.n → atE (A ++ B) m = atE (A ++ x :: B) m := by
  refine ⟨atE_none fun y hy => ?_, fun m hm => ?_⟩
  · rcases List.mem_append.1 hy with h | h
    · exact hA y h
    · exact hB y h
  · unfold atE
    rw [List.find?_append, List.find?_append, List.find?_cons_of_neg (by simpa using fun e => hm e.symm)]
set_option maxRecDepth 100000 in
theorem leaves_calls (w : World) (q bl mp : Nat) (A B : List El) (x : El) (st : Qs) (len : Int) (hhead : w.heap[q]? = some (.cells (headCells st bl mp len) 52 (0, 0)))
    (hring : Ring w bl ((A ++ x :: B).map valE)) (hm : MapF ikey w mp (atE (A ++ x :: B))) (hlen : (A ++ x :: B).length < 2 ^ 40) (hA : ∀ a ∈ A, a.cl.n ≠ x.cl.n) (hB : ∀ a ∈ B, a.cl.n ≠ x.cl.n)
    (c1 c2 : Value) (hc : w.heap[x.c]? = some (.cells #[.int .i64 x.cl.n, c1, c2] 63 (0, 0))) :
    Calls Try.prog 37 #[.pointer (some ⟨q, 0, none⟩), .pointer (some ⟨x.e, 0, none⟩)] w fun r w' => r = .returned (.tuple #[]) ∧
      w'.heap[q]? = some (.cells (headCells { st with turn := if A = [] then false else st.turn } bl mp len) 52 (0, 0)) ∧ Ring w' bl ((A ++ B).map valE) ∧ MapF ikey w' mp (atE (A ++ B)) ∧
      Fr (fun k => k = q ∨ k = mp ∨ RingB bl ((A ++ x :: B).map valE) k) w w' := by
  have q4 : w.cell? ⟨q, 4, none⟩ = some (.pointer (some ⟨bl, 0, none⟩)) := blk_cell hhead 4
  have q6 : w.cell? ⟨q, 6, none⟩ = some (.bool st.turn) := blk_cell hhead 6
  have f6 := blk_free hhead 6
  have hfront := chain_front_calls bl _ w hring
  obtain ⟨na, nb, hnode⟩ := hring.node (valE x) (List.mem_map_of_mem (by simp))
  have hqR : ¬ RingB bl ((A ++ x :: B).map valE) q := by
    rintro (rfl | hk)
    · obtain ⟨_, _, kb⟩ := hring.root; rw [hhead] at kb; simp at kb
    · obtain ⟨z, hz, rfl⟩ := List.mem_map.1 hk
      obtain ⟨_, _, k1⟩ := hring.node z hz; rw [hhead] at k1; simp at k1
  have hmR : ¬ RingB bl ((A ++ x :: B).map valE) mp := by
    obtain ⟨_, _, kq, _⟩ := hm
    rintro (rfl | hk)
    · obtain ⟨_, _, kb⟩ := hring.root; rw [kq] at kb; simp at kb
    · obtain ⟨z, hz, rfl⟩ := List.mem_map.1 hk
      obtain ⟨_, _, k1⟩ := hring.node z hz; rw [kq] at k1; simp at k1
  have hqm : q ≠ mp := by rintro rfl; obtain ⟨_, _, kq, _⟩ := hm; rw [hhead] at kq; simp at kq
  have hqc : q ≠ x.c := by rintro h0; have h1 := hhead; rw [h0, hc] at h1; simp [headCells] at h1
  have hqe : q ≠ x.e := by rintro h0; have h1 := hnode; simp only [valE] at h1; rw [← h0, hhead] at h1; simp [headCells] at h1
  have hmc : mp ≠ x.c := by rintro rfl; obtain ⟨_, _, kq, _⟩ := hm; rw [hc] at kq; simp at kq
  have hrest : ∀ w6, Fr (fun k => k = q) w w6 → w6.heap[q]? = some (.cells (headCells { st with turn := if A = [] then false else st.turn } bl mp len) 52 (0, 0)) →
      Ring w6 bl ((A ++ x :: B).map valE) ∧ MapF ikey w6 mp (atE (A ++ x :: B)) ∧ w6.heap[x.e]? = some (.cells #[.iface 60 (Pt x.c), na, nb, Pt bl] 79 (0, 0)) ∧ w6.heap[x.c]? = some (.cells #[.int .i64 x.cl.n, c1, c2] 63 (0, 0)) ∧
      w6.cell? ⟨q, 4, none⟩ = some (.pointer (some ⟨bl, 0, none⟩)) ∧ w6.cell? ⟨q, 5, none⟩ = some (.map (some mp)) ∧ w6.cell? ⟨x.c, 0, none⟩ = some (.int .i64 x.cl.n) := by
    intro w6 hf hh
    have hc6 := hf.block x.c _ hc (fun h => hqc h.symm)
    exact ⟨hring.fr hf (fun k hk h => hqR (h ▸ hk)), hm.fr hf (fun h => hqm h.symm), hf.block x.e _ hnode (fun h => hqe h.symm), hc6, blk_cell hh 4, blk_cell hh 5, blk_cell hc6 0⟩
  have hx1 := eqE_same w ⟨x.e, 0, none⟩
  obtain ⟨l0, hl0⟩ : ∃ l, (A ++ x :: B).map valE = l := ⟨_, rfl⟩
  obtain ⟨l1, hl1⟩ : ∃ l, (A ++ B).map valE = l := ⟨_, rfl⟩
  obtain ⟨lA, hlA⟩ : ∃ l, A.map valE = l := ⟨_, rfl⟩
  obtain ⟨lB, hlB⟩ : ∃ l, B.map valE = l := ⟨_, rfl⟩
  obtain ⟨m1, hm1⟩ : ∃ m, atE (A ++ B) = m := ⟨_, rfl⟩
  obtain ⟨t1, ht1⟩ : ∃ t : Bool, (if A = [] then false else st.turn) = t := ⟨_, rfl⟩
  have hl0' : l0 = lA ++ valE x :: lB := by rw [← hl0, ← hlA, ← hlB]; simp
  have hl1' : l1 = lA ++ lB := by rw [← hl1, ← hlA, ← hlB]; simp
  have hlen' : l0.length < 2 ^ 40 := by rw [← hl0, List.length_map]; exact hlen
  have hout := atE_out hA hB
  rw [hm1] at hout
  rw [hl0] at hring hqR hmR hrest hfront
  rw [ht1] at hrest
  rw [hl0, hl1, hm1, ht1]
  suffices key : ∀ w0, w0 = w → Calls Try.prog 37 #[.pointer (some ⟨q, 0, none⟩), .pointer (some ⟨x.e, 0, none⟩)] w fun r w' => r = .returned (.tuple #[]) ∧
      w'.heap[q]? = some (.cells (headCells { st with turn := t1 } bl mp len) 52 (0, 0)) ∧ Ring w' bl l1 ∧ MapF ikey w' mp m1 ∧
      Fr (fun k => k = q ∨ k = mp ∨ RingB bl l0 k) w0 w' from key w rfl
  intro w0 hw0
  have HW0 := Ho.mk hw0; have HL0 := Ho.mk hl0'; have HL1 := Ho.mk hl1'; have HLEN := Ho.mk hlen'; have HOUT := Ho.mk hout; have HT1 := Ho.mk ht1; have HA0 := Ho.mk hlA; have HL00 := Ho.mk hl0
  clear hw0 hl0' hl1' hlen' hout hl1 hlB hm1
  have HH := Ho.mk hhead; have HR := Ho.mk hring; have HM := Ho.mk hm; have HL := Ho.mk hlen; have HA := Ho.mk hA; have HB := Ho.mk hB; have HC := Ho.mk hc; have HN := Ho.mk hnode; have HQR := Ho.mk hqR; have HMR := Ho.mk hmR; have HQM := Ho.mk hqm; have HMC := Ho.mk hmc; have HREST := Ho.mk hrest
  have hax : A = [] ∨ ∃ a A', A = a :: A' ∧ (binOp .eql 57 (.pointer (some ⟨x.e, 0, none⟩)) (.pointer (some ⟨a.e, 0, none⟩))).run Try.prog w = .ok (.bool false) w := by
    cases A with
    | nil => exact .inl rfl
    | cons a A =>
      right
      refine ⟨a, A, rfl, ?_⟩
      rw [← hl0] at hring
      obtain ⟨ma, mb, hna⟩ := hring.node (valE a) (List.mem_map_of_mem (by simp))
      refine eqE_other w ?_ hnode hna
      intro he
      have h1 := hring.nodup
      rw [List.cons_append, List.map_cons, List.map_cons, List.nodup_cons] at h1
      refine h1.1 ?_
      show a.e ∈ _
      rw [← he]
      exact List.mem_map.2 ⟨valE x, List.mem_map_of_mem (by simp), rfl⟩
  rcases hax with rfl | ⟨a, A', rfl, hx2⟩
  case' inl =>
    clear hhead hring hm hlen hA hB hc hnode hqR hmR hqm hqe hqc hmc hrest ht1 hlA hl0
    go_enter Try.func37, Try.ntmps37
    go_wp2_with (fail)
    refine hfront.mono ?_
    clear hfront
    rintro r w' ⟨rfl, rfl⟩
    rw [← HL00.out]
    unfold PtHead
    simp only [List.nil_append, List.map_cons, valE]
    unfold Pt
    go_wp2_with (fail)
    have hf6 : Fr (fun k => k = q) w (w.setCell ⟨q, 6, none⟩ (.bool false)) := (Fr.refl (fun k => k = q) w).set (p := ⟨q, 6, none⟩) (.inr rfl) _
    have hh6 : (w.setCell ⟨q, 6, none⟩ (.bool false)).heap[q]? = some (.cells (headCells { st with turn := t1 } bl mp len) 52 (0, 0)) := by rw [show t1 = false from by have h := HT1.out; simpa using h.symm]; exact blk_set HH.out 6 (.bool false)
    have hf0 : Fr (fun k => k = q) w0 (w.setCell ⟨q, 6, none⟩ (.bool false)) := by rw [HW0.out]; exact hf6
    clear q4
    obtain ⟨hr6, hm6, hn6, hc6, q4, q5, c0⟩ := HREST.out _ hf6 hh6
    clear HREST
    generalize w.setCell ⟨q, 6, none⟩ (.bool false) = w6 at *
  case' inr =>
    clear hhead hring hm hlen hA hB hc hnode hqR hmR hqm hqe hqc hmc hrest ht1 hlA hl0
    go_enter Try.func37, Try.ntmps37
    go_wp2_with (fail)
    refine hfront.mono ?_
    clear hfront
    rintro r w' ⟨rfl, rfl⟩
    rw [← HL00.out]
    unfold PtHead
    simp only [List.cons_append, List.map_cons, valE]
    unfold Pt
    go_wp2_with (fail)
    have hf6 : Fr (fun k => k = q) w w := Fr.refl _ w
    have hh6 : w.heap[q]? = some (.cells (headCells { st with turn := t1 } bl mp len) 52 (0, 0)) := by rw [show t1 = st.turn from by have h := HT1.out; simpa using h.symm]; exact HH.out
    have hf0 : Fr (fun k => k = q) w0 w := by rw [HW0.out]; exact hf6
    clear q4
    obtain ⟨hr6, hm6, hn6, hc6, q4, q5, c0⟩ := HREST.out _ hf6 hh6
    clear HREST
    obtain ⟨w6, hw6⟩ : ∃ w6, w6 = w := ⟨w, rfl⟩
    subst hw6
  all_goals
    clear hx1
    try clear hx2
    clear q6 f6
    obtain ⟨o, hD, hm7⟩ := MapF.delete (ty := 0) (w := w6.drew) (t := 50) ikeys Try.underlying50 (hm6.fr ((Fr.refl nob w6).drew) (fun h => h)) x.cl.n
    have hf7 : Fr (fun k => k = mp) w6 { w6.drew with heap := w6.drew.heap.setIfInBounds mp o } := ((Fr.refl (fun k => k = mp) w6).drew).setObj (.inr rfl) o
    have HR6 := Ho.mk hr6; have HM6 := Ho.mk hm6; have HC6 := Ho.mk hc6; have HF6 := Ho.mk hf0; have HH6 := Ho.mk hh6; have HN6 := Ho.mk hn6
    clear hr6 hm6 hc6 hf6 hf0 hh6
    go_still_tail 9, (by kernel_rfl)
    still_call (of_calls x.e x.c _ na nb (Pt bl) hn6)
    clear hn6
    unfold Pt
    repeat still_step
    refine wpStill_nil ?_
    change wpList _ _ _ _ _ w6.drew
    generalize hw7 : ({ w6.drew with heap := w6.drew.heap.setIfInBounds mp o } : World) = w7 at *
    generalize w6.drew = w6d at hD ⊢
    have HM7 := Ho.mk hm7; have HF7 := Ho.mk hf7; have HW7 := Ho.mk hw7
    clear hm7 hf7 hw7
    have q4' : w7.cell? ⟨q, 4, none⟩ = some (.pointer (some ⟨bl, 0, none⟩)) := blk_cell (HF7.out.block q _ HH6.out HQM.out) 4
    clear q4 q5 c0
    unfold ikey at hD
    go_wp2_with (fail)
    clear hD
    have hr7 := HR6.out.fr HF7.out (fun k hk h => HMR.out (h ▸ hk))
    rw [HL0.out] at hr7
    have hl7 := HLEN.out
    rw [HL0.out] at hl7
    have hcall := chain_remove_calls bl x.e _ lA lB w7 hr7 hl7
    refine hcall.mono ?_
    clear hcall hr7 hl7
    rintro r w8 ⟨rfl, h8, f8⟩
    have h8 : Ring w8 bl l1 := by rw [HL1.out]; exact h8
    have f8 : Fr (RingB bl l0) w7 w8 := by rw [HL0.out]; exact f8
    have H8 := Ho.mk h8; have F8 := Ho.mk f8
    clear h8 f8 q4'
    go_wp2
    go_end0
    have hq7 := HF7.out.block q _ HH6.out HQM.out
    refine ⟨rfl, F8.out.block q _ hq7 HQR.out, H8.out, ?_, ?_⟩
    · exact MapF.fr (HM7.out _ HOUT.out.1 (fun y hy => HOUT.out.2 y hy)) F8.out HMR.out
    · exact ((HF6.out.mono (fun _ _ h => .inl h)).trans (HF7.out.mono (fun _ _ h => .inr (.inl h)))).trans (F8.out.mono (fun k _ h => .inr (.inr h)))
end Go.Proofs.Ytcpejmnmbioinaa
