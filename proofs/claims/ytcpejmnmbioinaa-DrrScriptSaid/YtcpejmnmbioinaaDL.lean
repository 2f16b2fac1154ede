/-
  package drr: Drop.
-/
import Derived.Test.YtcpejmnmbioinaaDK
namespace Go.Proofs.Ytcpejmnmbioinaa
open Go.RowKit
/-- Drop. -/
def Qs.drop (st : Qs) (n : Int) : Qs × List Int :=
  match st.ring.find? (fun c => c.n == n) with
  | none => (st, [])
  | some c => ({ st with ring := st.ring.filter (fun c => c.n != n), turn := if (st.ring.head?.map (·.n)) = some n then false else st.turn }, c.its.map (·.2))
theorem drop_mid {st : Qs} {A B : List Cl} {c : Cl} (h : st.ring = A ++ c :: B) (hA : ∀ a ∈ A, a.n ≠ c.n) (hB : ∀ a ∈ B, a.n ≠ c.n) (hf : st.ring.find? (fun x => x.n == c.n) = some c) :
    st.drop c.n = ({ st with ring := A ++ B, turn := if A = [] then false else st.turn }, c.its.map (·.2)) := by
  unfold Qs.drop
  rw [hf]
  simp only
  have h1 : st.ring.filter (fun x => x.n != c.n) = A ++ B := by
    rw [h, List.filter_append, List.filter_cons_of_neg (by simp), List.filter_eq_self.2 (by simpa using hA), List.filter_eq_self.2 (by simpa using hB)]
  have h2 : (if (st.ring.head?.map (·.n)) = some c.n then false else st.turn) = (if A = [] then false else st.turn) := by
    rw [h]
    cases A with
    | nil => simp
    | cons a A => simp [hA a (by simp)]
  rw [h1, h2]
theorem Qs.wf.drop_mid {st : Qs} {A B : List Cl} {c : Cl} (h : st.wf) (hr : st.ring = A ++ c :: B) : ({ st with ring := A ++ B, turn := if A = [] then false else st.turn } : Qs).wf := by
  have hsub : (A ++ B).Sublist st.ring := by rw [hr]; exact List.Sublist.append (List.Sublist.refl A) (List.sublist_cons_self c B)
  have hm : ∀ y ∈ A ++ B, y ∈ st.ring := fun y hy => hsub.subset hy
  refine ⟨h.cl, h.it, h.qu, h.mo, ?_, ?_, fun y hy => h.its y (hm y hy), fun y hy => h.low y (hm y hy), fun y hy => h.high y (hm y hy), ?_⟩
  · have h1 := h.len; have h2 := hsub.length_le
    show (((A ++ B).length : Nat) : Int) ≤ st.clients
    omega
  · exact h.nums.sublist (hsub.map _)
  · have hrest := h.rest
    rw [hr] at hrest
    cases A with
    | nil =>
      intro y hy
      have hy : y ∈ B := by simpa using hy
      cases ht : st.turn with
      | false => rw [ht] at hrest; exact hrest y (by simp [hy])
      | true => rw [ht] at hrest; exact hrest y (by simpa using hy)
    | cons a A =>
      cases ht : st.turn with
      | false =>
        rw [ht] at hrest
        intro y hy
        have hy : y ∈ a :: A ++ B := by simpa using hy
        exact hrest y (by simp at hy ⊢; rcases hy with h | h | h <;> simp [h])
      | true =>
        rw [ht] at hrest
        intro y hy
        have hy : y ∈ A ++ B := by simpa using hy
        exact hrest y (by simp at hy ⊢; rcases hy with h | h <;> simp [h])
set_option maxRecDepth 100000 in
theorem drop_none_calls (w : World) (q bl mp : Nat) (E : List El) (st : Qs) (n : Int) (hQ : QI w q bl mp E st) (hn : ∀ a ∈ E, a.cl.n ≠ n) :
    Calls Try.prog 18 #[.pointer (some ⟨q, 0, none⟩), .int .i64 n] w fun r w' => r = .returned (.slice none 0 0) ∧ w' = w := by
  obtain ⟨q0, q1, q2, q3, q4, q5, q6, q7⟩ := hQ.cells
  have hcall := none_calls q bl w q4
  have hl := MapF.lookup (t := 50) ikeys Try.underlying50 zeroE hQ.map n
  rw [atE_none hn] at hl
  have hl' : (Instr.lookup 50 (.map (some mp)) (.int .i64 n) true).run Try.prog w = .ok (.tuple #[.pointer none, .bool false]) w := hl
  clear hQ hn hl
  go_enter Try.func18, Try.ntmps18
  go_wp2_with (fail)
  refine hcall.mono ?_
  clear hcall
  rintro r w' ⟨rfl, rfl⟩
  go_wp2_with (fail)
  go_ret
  exact ⟨rfl, rfl⟩
set_option maxRecDepth 100000 in
set_option maxHeartbeats 4000000 in
theorem drop_some_calls (w : World) (q bl mp : Nat) (A B : List El) (x : El) (st : Qs) (hwf : st.wf) (hQ : QI w q bl mp (A ++ x :: B) st) (hA : ∀ a ∈ A, a.cl.n ≠ x.cl.n) (hB : ∀ a ∈ B, a.cl.n ≠ x.cl.n) :
    Calls Try.prog 18 #[.pointer (some ⟨q, 0, none⟩), .int .i64 x.cl.n] w fun r w' => ∃ ao cap, r = .returned (.slice ao x.cl.its.length cap) ∧
      w'.ownsRow w.heap.size 3 1 (.slice ao x.cl.its.length cap) x.cl.its.length (icells (x.cl.its.map (·.2))) ∧
      QI w' q bl mp (A ++ B) { st with ring := (A ++ B).map (·.cl), turn := if A = [] then false else st.turn } ∧ Fr (fun k => k = q ∨ k = mp ∨ RingB bl ((A ++ x :: B).map valE) k) w w' := by
  obtain ⟨q0, q1, q2, q3, q4, q5, q6, q7⟩ := hQ.cells
  have hcall := none_calls q bl w q4
  have hl := MapF.lookup (t := 50) ikeys Try.underlying50 zeroE hQ.map x.cl.n
  rw [atE_mid A B x hA] at hl
  have hl' : (Instr.lookup 50 (.map (some mp)) (.int .i64 x.cl.n) true).run Try.prog w = .ok (.tuple #[.pointer (some ⟨x.e, 0, none⟩), .bool true]) w := hl
  obtain ⟨na, nb, hnode⟩ := hQ.ring.node (valE x) (List.mem_map_of_mem (by simp))
  have hof := of_calls x.e x.c w na nb _ hnode
  have hcl := hQ.cls x (by simp)
  have c2 : w.cell? ⟨x.c, 2, none⟩ = some (.slice x.ao x.cl.its.length x.cap) := blk_cell hcl.1 2
  have hmem : x.cl ∈ st.ring := by rw [hQ.st]; simp
  have hne := (hwf.its x.cl hmem).1
  have hil : x.cl.its.length ≤ 64 := by have := (hwf.its x.cl hmem).2.1; have := hwf.it.2; omega
  obtain ⟨_, hcapm, ⟨_, hcap0⟩ | ⟨g, off, cur, hao, hgb, hsz, hcur⟩⟩ := id hcl.2
  · have h2 := hcl.2.1
    exact absurd (List.eq_nil_of_length_eq_zero (by omega)) hne
  rw [hao] at c2
  have htot := hwf.total_lt
  have htx : x.cl.its.length ≤ total st.ring := by
    rw [hQ.st, List.map_append, List.map_cons, total_append, total_cons]; omega
  have hlen40 : (A ++ x :: B).length < 2 ^ 40 := by
    have h1 := hwf.len; have h2 := hwf.cl.2
    rw [hQ.st, List.length_map] at h1; omega
  have hitem : ∀ i (h : i < x.cl.its.length), cur[off + i * 2]? = some (.int .i64 x.cl.its[i].1) ∧ cur[off + i * 2 + 1]? = some (.int .i64 x.cl.its[i].2) := by
    intro i h
    obtain ⟨f1, f2⟩ := flat_get x.cl.its i x.cl.its[i] (by simp [h])
    exact ⟨hcur _ _ f1, by have := hcur _ _ f2; rw [← Nat.add_assoc] at this; exact this⟩
  obtain ⟨xn, hxn⟩ : ∃ n, x.cl.n = n := ⟨_, rfl⟩
  rw [hxn] at hl' ⊢
  have HQ := Ho.mk hQ; have HGB := Ho.mk hgb; have HIT := Ho.mk hitem; have HTX := Ho.mk htx; have HTOT := Ho.mk htot; have HL40 := Ho.mk hlen40; have HA := Ho.mk hA; have HB := Ho.mk hB; have HCL := Ho.mk hcl; have HIL := Ho.mk hil
  clear hQ hl hnode hcl hmem hne hil hcapm hao hgb hsz hcur htot htx hlen40 hitem hA hB hwf hxn
  obtain ⟨m, hm⟩ : ∃ m, x.cl.its.length = m := ⟨_, rfl⟩
  rw [hm] at c2 ⊢
  have HM := Ho.mk hm
  clear hm
  obtain ⟨AB, hAB⟩ : ∃ l, A ++ B = l := ⟨_, rfl⟩
  obtain ⟨rAB, hrAB⟩ : ∃ l, (A ++ B).map (·.cl) = l := ⟨_, rfl⟩
  obtain ⟨l0, hl0⟩ : ∃ l, (A ++ x :: B).map valE = l := ⟨_, rfl⟩
  obtain ⟨t1, ht1⟩ : ∃ t : Bool, (if A = [] then false else st.turn) = t := ⟨_, rfl⟩
  obtain ⟨ol, hol⟩ : ∃ l, icells (x.cl.its.map (·.2)) = l := ⟨_, rfl⟩
  rw [hrAB, hAB, hl0, ht1, hol]
  have HAB := Ho.mk hAB; have HRAB := Ho.mk hrAB; have HL0 := Ho.mk hl0; have HT1 := Ho.mk ht1; have HOL := Ho.mk hol
  clear hAB hrAB hl0 ht1 hol
  suffices key : ∀ w0, w0 = w → Calls Try.prog 18 #[.pointer (some ⟨q, 0, none⟩), .int .i64 xn] w fun r w' => ∃ ao cap, r = .returned (.slice ao m cap) ∧
      w'.ownsRow w0.heap.size 3 1 (.slice ao m cap) m ol ∧
      QI w' q bl mp AB { st with ring := rAB, turn := t1 } ∧ Fr (fun k => k = q ∨ k = mp ∨ RingB bl l0 k) w0 w' from key w rfl
  intro w0 hw0
  have HF0 := Ho.mk (show Fr nob w0 w by rw [hw0]; exact Fr.refl _ _)
  have HQ0 := Ho.mk (show QI w0 q bl mp (A ++ x :: B) st by rw [hw0]; exact HQ.out)
  have HGB0 := Ho.mk (show w0.heap[g]? = some (.cells cur 66 (0, 0)) by rw [hw0]; exact HGB.out)
  clear hw0 HQ HGB
  go_enter Try.func18, Try.ntmps18
  go_wp2_with (fail)
  refine hcall.mono ?_
  clear hcall
  rintro r w' ⟨rfl, rfl⟩
  go_wp2_with (fail)
  refine hof.mono ?_
  clear hof
  rintro r w' ⟨rfl, rfl⟩
  unfold Pt
  go_wp2_with (fail)
  obtain ⟨w, rfl⟩ : ∃ w : World, w = w' := ⟨_, rfl⟩
  have hm64 : m ≤ 64 := by have := HIL.out; rw [HM.out] at this; exact this
  go_loopw [7, 29] (fun so si wr => ∃ (i : Nat) (ao2 : Option Addr) (cap2 : Nat), i ≤ m ∧ si = .int .i64 (i : Int) ∧ so = .slice ao2 i cap2 ∧
      Ho (wr.ownsRow w0.heap.size 3 1 (.slice ao2 i cap2) i (icells ((x.cl.its.take i).map (·.2)))) ∧ Ho (Fr nob w0 wr)) (fun _ si _ => m - (intOf si).toNat)
  case atStart => exact ⟨0, none, 0, by omega, rfl, rfl, Ho.mk (by simpa [icells] using World.ownsRow_nil _ _ _ _), HF0⟩
  case round =>
    obtain ⟨i, ao2, cap2, hi, rfl, rfl, HOW, HF⟩ := hrel
    clear c2 q0 q1 q2 q3 q4 q5 q6 q7 hl'
    by_cases hlt : i < m
    · have hgr := HF.out.block g _ HGB0.out (fun h => h)
      have hlt' : i < x.cl.its.length := by rw [HM.out]; exact hlt
      obtain ⟨k1, k2⟩ := HIT.out i hlt'
      have g0 : wr.cell? ⟨g, off + i * 2, none⟩ = some (.int .i64 x.cl.its[i].1) := (blk_cell hgr _).trans k1
      have g1 : wr.cell? ⟨g, off + i * 2 + 1, none⟩ = some (.int .i64 x.cl.its[i].2) := (blk_cell hgr _).trans k2
      have htk : (x.cl.its.take (i + 1)).map (·.2) = (x.cl.its.take i).map (·.2) ++ [x.cl.its[i].2] := by
        rw [List.take_succ_eq_append_getElem hlt', List.map_append]; rfl
      have htl : ((x.cl.its.take i).map (·.2)).length = i := by simp; omega
      generalize x.cl.its[i].1 = va at *
      generalize x.cl.its[i].2 = vb at *
      have hb1 := blk_new wr (.cells #[.int .i64 va, .int .i64 vb] 66)
      have hf1 := (Fr.refl nob wr).alloc (.cells #[.int .i64 va, .int .i64 vb] 66)
      have h1 : (wr.alloc (.cells #[.int .i64 va, .int .i64 vb] 66)).cell? ⟨wr.heap.size, 1, none⟩ = some (.int .i64 vb) := blk_cell hb1 1
      have hb2 := blk_new (wr.alloc (.cells #[.int .i64 va, .int .i64 vb] 66)) (.cells #[.int .i64 vb] 3)
      have hf2 := hf1.alloc (.cells #[.int .i64 vb] 3)
      have hown := own_fr HOW.out hf2 (fun _ _ h => h)
      have hsz : (wr.alloc (.cells #[.int .i64 va, .int .i64 vb] 66)).heap.size = wr.heap.size + 1 := by simp
      rw [hsz] at hb2
      have hcell := blk_cell hb2 0
      have hbase : w0.heap.size ≤ ((wr.alloc (.cells #[.int .i64 va, .int .i64 vb] 66)).alloc (.cells #[.int .i64 vb] 3)).heap.size := Nat.le_trans HF.out.size hf2.size
      have him : i ≤ 100000 := by have := HIL.out; rw [HM.out] at this; omega
      obtain ⟨li, hli⟩ : ∃ li, (x.cl.its.take i).map (·.2) = li := ⟨_, rfl⟩
      rw [hli] at hown htk htl
      clear hli
      have HOWN := Ho.mk hown; have HCELL := Ho.mk hcell; have HBASE := Ho.mk hbase; have HF2 := Ho.mk hf2; have HTK := Ho.mk htk; have HTL := Ho.mk htl; have HIM := Ho.mk him
      clear hsz hgr k1 k2 hb1 hf1 hb2 hf2 hown hcell hbase htk htl hlt' him h1
      go_wp2_with (at_builtin; refine wpList_append_int rfl _ _ rfl w0.heap.size (.slice ao2 i cap2) li rfl (by rw [HTL.out]; exact HOWN.out) (wr.heap.size + 1) vb rfl HCELL.out (by rw [HTL.out]; exact HIM.out) HBASE.out ?_)
      intro ao5 cap5 w5 hown5 hg5
      have hf5 : Fr nob w0 w5 := (HF.out.trans HF2.out).grown hg5 (fun k hk => .inl (own_new HOWN.out hk))
      have hown5' : w5.ownsRow w0.heap.size 3 1 (.slice ao5 (i + 1) cap5) (i + 1) (icells ((x.cl.its.take (i + 1)).map (·.2))) := by
        rw [HTK.out]; have h := hown5; rw [HTL.out] at h; exact h
      have HO5 := Ho.mk hown5'; have HF5 := Ho.mk hf5
      clear hown5 hg5 hf5 hown5' g0 g1
      go_wp2_with (fail)
      go_roundw
      case rel => exact ⟨i + 1, ao5, cap5, by omega, by go_num, by rw [HTL.out], HO5, HF5⟩
      case measure => simp [intOf]; omega
    · obtain rfl : m = i := by omega
      have hQr := HQ0.out.fr HF.out (fun _ _ h => h)
      have r7 := hQr.cells.2.2.2.2.2.2.2
      have fr7 := blk_free hQr.head 7
      obtain ⟨tn, htn⟩ : ∃ n, total st.ring = n := ⟨_, rfl⟩
      rw [htn] at r7
      have hwt : IntKind.i64.wrap ((tn : Int) - (m : Int)) = ((tn - m : Nat) : Int) := by
        have h1 := HTX.out; have h2 := HTOT.out; rw [HM.out] at h1; rw [IntKind.wrap_i64]; omega
      obtain ⟨tm, htm⟩ : ∃ n, tn - m = n := ⟨_, rfl⟩
      rw [htm] at hwt
      have HQr := Ho.mk hQr; have HTN := Ho.mk htn; have HTM := Ho.mk htm
      clear hQr htn htm
      go_wp2_with (fail)
      have hf8 : Fr (fun k => k = q) wr (wr.setCell ⟨q, 7, none⟩ (.int .i64 (tm : Nat))) := (Fr.refl (fun k => k = q) wr).set (p := ⟨q, 7, none⟩) (.inr rfl) _
      have hh8 : (wr.setCell ⟨q, 7, none⟩ (.int .i64 (tm : Nat))).heap[q]? = some (.cells (headCells st bl mp (tm : Nat)) 52 (0, 0)) := blk_set HQr.out.head 7 (.int .i64 (tm : Nat))
      generalize wr.setCell ⟨q, 7, none⟩ (.int .i64 (tm : Nat)) = w8 at *
      have hxc := HQr.out.qc (x := x) (by simp)
      have hcall := leaves_calls w8 q bl mp A B x st (tm : Nat) hh8 (HQr.out.ring.fr hf8 (fun k hk h => HQr.out.qR (h ▸ hk))) (HQr.out.map.fr hf8 (fun h => HQr.out.qm h.symm)) HL40.out HA.out HB.out _ _ (hf8.block x.c _ (HQr.out.cls x (by simp)).1 (fun h => hxc h.symm))
      have HF8 := Ho.mk hf8
      clear hf8 hh8 hxc r7 fr7
      refine hcall.mono ?_
      clear hcall
      rintro r w9 ⟨rfl, hh9, hr9, hm9, hf9⟩
      have hf89 : Fr (fun k => k = q ∨ k = mp ∨ RingB bl ((A ++ x :: B).map valE) k) wr w9 := (HF8.out.mono (fun _ _ h => .inl h)).trans hf9
      have hlen9 : ((tm : Nat) : Int) = (total ((A ++ B).map (·.cl)) : Nat) := by
        have h1 := HTM.out; have h2 := HTN.out; have h3 := HM.out
        rw [HQr.out.st, List.map_append, List.map_cons, total_append, total_cons] at h2
        rw [List.map_append, total_append]
        omega
      have HQ9 := Ho.mk (QI.left (st' := { st with ring := (A ++ B).map (·.cl), turn := if A = [] then false else st.turn }) HQr.out hh9 hr9 hm9 hf89 rfl hlen9)
      have HF9 := Ho.mk ((HF.out.mono (fun _ _ h => h.elim)).trans hf89)
      have hown9 : w9.ownsRow w0.heap.size 3 1 (.slice ao2 m cap2) m (icells (x.cl.its.map (·.2))) := by
        have h0 := HOW.out
        rw [List.take_of_length_le (by rw [HM.out]; exact Nat.le_refl _)] at h0
        refine own_fr h0 hf89 ?_
        intro k hk hS
        have h1 := own_new h0 hk
        have hlt : ∀ k, (k = q ∨ k = mp ∨ RingB bl ((A ++ x :: B).map valE) k) → k < w0.heap.size := fun k h => HQ0.out.lt (by
          rcases h with h | h | h
          · exact .inl h
          · exact .inr (.inl h)
          · exact .inr (.inr (.inl h)))
        have := hlt k hS
        omega
      rw [HOL.out] at hown9
      have HO9 := Ho.mk hown9
      have HQ9' := HQ9.out
      rw [HRAB.out, HAB.out, HT1.out] at HQ9'
      have HF9' := HF9.out
      rw [HL0.out] at HF9'
      have HQ9 := Ho.mk HQ9'
      have HF9 := Ho.mk HF9'
      clear HQ9' HF9'
      clear hh9 hr9 hm9 hf9 hf89 hlen9 hown9
      go_wp2_with (fail)
      go_ret
      exact ⟨ao2, cap2, rfl, HO9.out, HQ9.out, HF9.out⟩
/-- DROP. -/
theorem drop_calls (D : Nat → Prop) (w : World) (q : Nat) (st : Qs) (n : Int) (h : QS D w q st) :
    Calls Try.prog 18 #[.pointer (some ⟨q, 0, none⟩), .int .i64 n] w fun r w' => ∃ ao cap, r = .returned (.slice ao (st.drop n).2.length cap) ∧
      w'.ownsRow w.heap.size 3 1 (.slice ao (st.drop n).2.length cap) (st.drop n).2.length (icells (st.drop n).2) ∧ QS D w' q (st.drop n).1 ∧ Fr D w w' := by
  obtain ⟨hwf, bl, mp, E, hQ, hO⟩ := h
  rcases split_at st.ring hwf.nums n with ⟨h1, h2⟩ | ⟨A, c, B, h1, h2, h3, h4, h5⟩
  · have hn : ∀ a ∈ E, a.cl.n ≠ n := fun a ha => h2 a.cl (by rw [hQ.st]; exact List.mem_map_of_mem ha)
    have e : st.drop n = (st, []) := by unfold Qs.drop; rw [h1]
    rw [e]
    refine (drop_none_calls w q bl mp E st n hQ hn).mono ?_
    rintro r w' ⟨rfl, rfl⟩
    exact ⟨none, 0, rfl, World.ownsRow_nil _ _ _ _, ⟨hwf, bl, mp, E, hQ, hO⟩, Fr.refl _ _⟩
  · obtain ⟨EA, y, EB, rfl, e1, e2, e3⟩ := el_split hQ.st h1
    subst e2
    have hA : ∀ a ∈ EA, a.cl.n ≠ y.cl.n := fun a ha => by rw [h2]; exact h3 a.cl (by rw [← e1]; exact List.mem_map_of_mem ha)
    have hB : ∀ a ∈ EB, a.cl.n ≠ y.cl.n := fun a ha => by rw [h2]; exact h4 a.cl (by rw [← e3]; exact List.mem_map_of_mem ha)
    subst h2
    rw [drop_mid h1 h3 h4 h5]
    refine (drop_some_calls w q bl mp EA EB y st hwf hQ hA hB).mono ?_
    rintro r w' ⟨ao, cap, rfl, hown, hq', hfr⟩
    have e4 : (EA ++ EB).map (·.cl) = A ++ B := by rw [List.map_append, e1, e3]
    have e5 : (if EA = [] then false else st.turn) = (if A = [] then false else st.turn) := by
      rw [← e1]; cases EA <;> simp
    rw [e4, e5] at hq'
    refine ⟨ao, cap, by simp, by simpa using hown, ⟨hwf.drop_mid h1, bl, mp, _, hq', fun k hk => hO k (Own.left hk)⟩, hfr.mono fun k _ hk => hO k ?_⟩
    rcases hk with h | h | h
    · exact .inl h
    · exact .inr (.inl h)
    · exact .inr (.inr (.inl h))
end Go.Proofs.Ytcpejmnmbioinaa
