/-
  package drr, plain: what Next does, in parts; and the memory of one turned round.
-/
import Derived.Test.YtcpejmnmbioinaaD7
namespace Go.Proofs.Ytcpejmnmbioinaa
open Go.RowKit
theorem firstCost_cons {c : Cl} {i : Int × Int} {t : List (Int × Int)} (h : c.its = i :: t) : firstCost c = i.1 := by unfold firstCost; rw [h]
/-- One that is turned: next tells the same. -/
def Qs.rot (st : Qs) (c : Cl) (r : List Cl) : Qs := { st with ring := r ++ [c], turn := false }
theorem Qs.next_rot {st : Qs} {c : Cl} {r : List Cl} (h : st.wf) (hr : st.ring = c :: r) (ht : st.turn = true) (hc : ¬ firstCost c ≤ c.credit) : (st.rot c r).next = st.next := by
  unfold Qs.next
  rw [hr]
  simp only [ht, Qs.rot, if_neg hc, if_true]
  have hmem : ∀ y ∈ r ++ [c], y ∈ st.ring := by intro y hy; rw [hr]; simp at hy ⊢; exact hy.symm
  cases hrc : r ++ [c] with
  | nil => simp at hrc
  | cons c' r' =>
    simp only [Bool.true_eq_false, if_false]
    have h1 := (h.its c' (hmem c' (by rw [hrc]; simp))).1
    unfold Qs.serve
    cases hi : c'.its with
    | nil => exact absurd hi h1
    | cons i t => rfl
theorem Qs.wf.rot {st : Qs} {c : Cl} {r : List Cl} (h : st.wf) (hr : st.ring = c :: r) (ht : st.turn = true) (hc : ¬ firstCost c ≤ c.credit) : (st.rot c r).wf := by
  have hmem : ∀ y, y ∈ r ++ [c] ↔ y ∈ st.ring := by intro y; rw [hr]; simp [or_comm]
  obtain ⟨c1, _, c3⟩ := h.its c (by rw [hr]; simp)
  refine ⟨h.cl, h.it, h.qu, h.mo, ?_, ?_, ?_, ?_, ?_, ?_⟩
  · have := h.len; rw [hr] at this; simpa [Qs.rot] using this
  · have h1 := h.nums; rw [hr] at h1
    have hp : ((r ++ [c]).map (·.n)).Perm ((c :: r).map (·.n)) := (List.perm_append_singleton c r).map _
    exact hp.nodup_iff.2 h1
  · exact fun y hy => h.its y ((hmem y).1 hy)
  · exact fun y hy => h.low y ((hmem y).1 hy)
  · exact fun y hy => h.high y ((hmem y).1 hy)
  · intro y hy
    have hy' : y ∈ r ++ [c] := by simpa [Qs.rot] using hy
    rcases List.mem_append.1 hy' with hy | hy
    · have h1 := h.rest; rw [ht, hr] at h1; exact h1 y (by simpa using hy)
    · obtain rfl : y = c := by simpa using hy
      cases hi : y.its with
      | nil => exact absurd hi c1
      | cons i t =>
        rw [firstCost_cons hi] at hc
        have := (c3 i (by rw [hi]; simp)).2
        show y.credit ≤ st.most - 1
        omega
theorem atE_rot {E : List El} {x : El} (h : ∀ y ∈ E, y.cl.n ≠ x.cl.n) : atE (E ++ [x]) = atE (x :: E) := by
  funext m
  unfold atE
  rw [List.find?_append]
  by_cases hm : x.cl.n = m
  · have h1 : E.find? (fun y => y.cl.n == m) = none := by rw [List.find?_eq_none]; intro y hy; simpa [← hm] using h y hy
    rw [h1, List.find?_cons_of_pos (by simpa using hm)]
    simp [hm]
  · have h1 : [x].find? (fun y => y.cl.n == m) = none := by rw [List.find?_eq_none]; intro y hy; simp at hy; subst hy; simpa using hm
    rw [h1, Option.or_none, List.find?_cons_of_neg (by simpa using hm)]
theorem own_perm {q bl mp : Nat} {E E' : List El} (h : E.Perm E') {k : Nat} (hk : Own q bl mp E k) : Own q bl mp E' k := by
  rcases hk with h1 | h1 | h1 | ⟨y, hy, h1⟩
  · exact .inl h1
  · exact .inr (.inl h1)
  · refine .inr (.inr (.inl ?_))
    rcases h1 with h1 | h1
    · exact .inl h1
    · exact .inr (((h.map valE).map (·.1)).mem_iff.1 h1)
  · exact .inr (.inr (.inr ⟨y, h.mem_iff.1 hy, h1⟩))
theorem apart_symm {x y : El} (h : apart x y) : apart y x := ⟨fun e => h.1 e.symm, fun k h1 h2 => h.2 k h2 h1⟩
theorem total_perm {r r' : List Cl} (h : r.Perm r') : total r = total r' := (h.map _).sum_nat
/-- A client whose cells are as they were is one in a world in which other blocks turned. -/
theorem QI.cls_fr {w w' : World} {q bl mp : Nat} {E : List El} {st : Qs} {S : Nat → Prop} (h : QI w q bl mp E st) (hf : Fr S w w') (hS : ∀ k, S k → k = q ∨ k = mp ∨ RingB bl (E.map valE) k) : ∀ y ∈ E, ClAt w' y := by
  intro y hy
  obtain ⟨⟨_, kq⟩, ⟨_, _, km⟩, ⟨_, kb⟩, ke⟩ := h.kinds
  obtain ⟨_, ⟨_, kyc⟩, kyi⟩ := ke y hy
  have kk : ∀ k, S k → (∃ cs, w.heap[k]? = some (.cells cs 52 (0, 0))) ∨ (∃ es c, w.heap[k]? = some (.map es c)) ∨ (∃ cs, w.heap[k]? = some (.cells cs 81 (0, 0))) ∨ (∃ cs, w.heap[k]? = some (.cells cs 79 (0, 0))) := by
    intro k hk
    rcases hS k hk with rfl | rfl | rfl | hk
    · exact .inl ⟨_, kq⟩
    · exact .inr (.inl ⟨_, _, km⟩)
    · exact .inr (.inr (.inl ⟨_, kb⟩))
    · obtain ⟨z, hz, rfl⟩ := List.mem_map.1 hk
      obtain ⟨u, hu, rfl⟩ := List.mem_map.1 hz
      exact .inr (.inr (.inr (ke u hu).1))
  refine (h.cls y hy).fr hf (fun hSk => ?_) (fun k hk hSk => ?_)
  · rcases kk _ hSk with ⟨_, e⟩ | ⟨_, _, e⟩ | ⟨_, e⟩ | ⟨_, e⟩ <;> rw [kyc] at e <;> simp at e
  · obtain ⟨_, ki⟩ := kyi k hk
    rcases kk _ hSk with ⟨_, e⟩ | ⟨_, _, e⟩ | ⟨_, e⟩ | ⟨_, e⟩ <;> rw [ki] at e <;> simp at e
theorem QI.qR {w : World} {q bl mp : Nat} {E : List El} {st : Qs} (h : QI w q bl mp E st) : ¬ RingB bl (E.map valE) q := by
  obtain ⟨⟨_, kq⟩, _, ⟨_, kb⟩, ke⟩ := h.kinds
  rintro (rfl | hk)
  · rw [kq] at kb; simp at kb
  · obtain ⟨z, hz, rfl⟩ := List.mem_map.1 hk
    obtain ⟨u, hu, rfl⟩ := List.mem_map.1 hz
    obtain ⟨⟨_, k1⟩, _⟩ := ke u hu
    have k1' : w.heap[(valE u).1]? = _ := k1
    rw [kq] at k1'; simp at k1'
theorem QI.mR {w : World} {q bl mp : Nat} {E : List El} {st : Qs} (h : QI w q bl mp E st) : ¬ RingB bl (E.map valE) mp := by
  obtain ⟨_, ⟨_, _, kq⟩, ⟨_, kb⟩, ke⟩ := h.kinds
  rintro (rfl | hk)
  · rw [kq] at kb; simp at kb
  · obtain ⟨z, hz, rfl⟩ := List.mem_map.1 hk
    obtain ⟨u, hu, rfl⟩ := List.mem_map.1 hz
    obtain ⟨⟨_, k1⟩, _⟩ := ke u hu
    have k1' : w.heap[(valE u).1]? = _ := k1
    rw [kq] at k1'; simp at k1'
theorem QI.qm {w : World} {q bl mp : Nat} {E : List El} {st : Qs} (h : QI w q bl mp E st) : q ≠ mp := by
  obtain ⟨⟨_, kq⟩, ⟨_, _, km⟩, _, _⟩ := h.kinds
  rintro rfl; rw [kq] at km; simp at km
theorem QI.qc {w : World} {q bl mp : Nat} {E : List El} {st : Qs} (h : QI w q bl mp E st) {x : El} (hx : x ∈ E) : q ≠ x.c := by
  obtain ⟨⟨_, kq⟩, _, _, ke⟩ := h.kinds
  obtain ⟨_, ⟨_, kc⟩, _⟩ := ke x hx
  rintro e; rw [← e, kq] at kc; simp at kc
theorem QI.qi {w : World} {q bl mp : Nat} {E : List El} {st : Qs} (h : QI w q bl mp E st) {x : El} (hx : x ∈ E) : ¬ inB x.ao q := by
  obtain ⟨⟨_, kq⟩, _, _, ke⟩ := h.kinds
  obtain ⟨_, _, ki⟩ := ke x hx
  intro e; obtain ⟨_, k1⟩ := ki q e; rw [kq] at k1; simp at k1
theorem QI.ci {w : World} {q bl mp : Nat} {E : List El} {st : Qs} (h : QI w q bl mp E st) {x y : El} (hx : x ∈ E) (hy : y ∈ E) : ¬ inB x.ao y.c := by
  obtain ⟨_, _, _, ke⟩ := h.kinds
  obtain ⟨_, _, ki⟩ := ke x hx
  obtain ⟨_, ⟨_, kc⟩, _⟩ := ke y hy
  intro e; obtain ⟨_, k1⟩ := ki _ e; rw [kc] at k1; simp at k1
/-- The first one turned to the back. -/
theorem QI.rotate {w w' : World} {q bl mp : Nat} {x : El} {E : List El} {st : Qs} {S : Nat → Prop} (h : QI w q bl mp (x :: E) st) (hf : Fr S w w')
    (hS : ∀ k, S k → k = q ∨ RingB bl ((x :: E).map valE) k) (hn : ∀ y ∈ E, y.cl.n ≠ x.cl.n) (hr : Ring w' bl ((E ++ [x]).map valE))
    (hhead : w'.heap[q]? = some (.cells (headCells (st.rot x.cl (E.map (·.cl))) bl mp (total st.ring : Nat)) 52 (0, 0))) : QI w' q bl mp (E ++ [x]) (st.rot x.cl (E.map (·.cl))) := by
  have hp : (E ++ [x]).Perm (x :: E) := List.perm_append_singleton x E
  have ht : total (st.rot x.cl (E.map (·.cl))).ring = total st.ring := by
    rw [h.st]
    have := total_perm (hp.map (·.cl))
    simpa [Qs.rot] using this
  refine ⟨by rw [ht]; exact hhead, hr, ?_, ?_, ?_, by simp [Qs.rot]⟩
  · intro y hy
    exact h.cls_fr hf (fun k hk => (hS k hk).imp id Or.inr) y (hp.mem_iff.1 hy)
  · rw [atE_rot hn]
    refine h.map.fr hf fun hk => ?_
    rcases hS _ hk with h1 | h1
    · exact h.qm h1.symm
    · exact h.mR h1
  · exact (hp.pairwise_iff (fun h => apart_symm h)).2 h.apart
theorem Qs.serve_eq {st : Qs} {c : Cl} {cr : Int} {r : List Cl} {i : Int × Int} {t : List (Int × Int)} (h : c.its = i :: t) :
    st.serve c cr r = ({ st with ring := if t = [] then r else { c with credit := cr - i.1, its := t } :: r, turn := !t.isEmpty }, c.n, i.2, true) := by
  unfold Qs.serve; rw [h]
/-- The first one without its first item. -/
theorem served_mid {w1 w9 : World} {q bl mp : Nat} {x : El} {E : List El} {st1 : Qs} {cr c3 : Int} {i : Int × Int} {t : List (Int × Int)} {ao2 : Option Addr} {tm : Nat}
    (h : QI w1 q bl mp (⟨x.e, x.c, x.ao, x.cap, { x.cl with credit := cr }⟩ :: E) { st1 with ring := { x.cl with credit := cr } :: E.map (·.cl), turn := true })
    (hit : x.cl.its = i :: t) (hf : Fr (fun k => k = q ∨ k = x.c) w1 w9) (hc : w9.heap[x.c]? = some (.cells #[.int .i64 x.cl.n, .int .i64 c3, .slice ao2 t.length (x.cap - 1)] 63 (0, 0)))
    (hq : w9.heap[q]? = some (.cells (headCells { st1 with turn := true } bl mp (tm : Nat)) 52 (0, 0))) (htm : tm + 1 = total st1.ring) (hring : st1.ring = x.cl :: E.map (·.cl))
    (hao : (if x.cap = 1 then x.ao else x.ao.map (·.add (1 * 2))) = ao2) :
    QI w9 q bl mp (⟨x.e, x.c, ao2, x.cap - 1, ⟨x.cl.n, c3, t⟩⟩ :: E) { st1 with ring := ⟨x.cl.n, c3, t⟩ :: E.map (·.cl), turn := true } := by
  subst hao
  have hI := (h.cls ⟨x.e, x.c, x.ao, x.cap, { x.cl with credit := cr }⟩ (by simp)).2
  have hI' : IR w1 x.ao x.cap (i :: t) := by simpa only [hit] using hI
  have hin : ∀ k, inB (if x.cap = 1 then x.ao else x.ao.map (·.add (1 * 2))) k → inB x.ao k := fun k hk => IR.tail_in.1 hk
  refine QI.mid (A := []) (B := E) (x := ⟨x.e, x.c, x.ao, x.cap, { x.cl with credit := cr }⟩) (x' := ⟨x.e, x.c, _, x.cap - 1, ⟨x.cl.n, c3, t⟩⟩) h (hf.mono (S' := fun k => k = q ∨ k = x.c ∨ inB x.ao k) (fun k _ hk => hk.imp id Or.inl)) (fun _ h => h) rfl rfl rfl ⟨hc, ?_⟩ (fun k hk => .inl (hin k hk)) ?_ rfl
  · refine hI'.tail.fr hf ?_
    rintro k hk (rfl | rfl)
    · exact h.qi (x := ⟨x.e, x.c, x.ao, x.cap, { x.cl with credit := cr }⟩) (by simp) (hin _ hk)
    · exact h.ci (x := ⟨x.e, x.c, x.ao, x.cap, { x.cl with credit := cr }⟩) (y := ⟨x.e, x.c, x.ao, x.cap, { x.cl with credit := cr }⟩) (by simp) (by simp) (hin _ hk)
  · have ht : total (({ st1 with ring := ⟨x.cl.n, c3, t⟩ :: E.map (·.cl), turn := true } : Qs).ring) = tm := by
      rw [hring, total_cons, hit, List.length_cons] at htm
      show total (⟨x.cl.n, c3, t⟩ :: E.map (·.cl)) = tm
      rw [total_cons]
      simp only
      omega
    rw [ht]
    exact hq
/-- .. and he leaves, if it was his last one. -/
theorem QI.left {w8 w9 : World} {q bl mp : Nat} {A B : List El} {x : El} {st st' : Qs} {len : Int} (h : QI w8 q bl mp (A ++ x :: B) st)
    (hh : w9.heap[q]? = some (.cells (headCells st' bl mp len) 52 (0, 0))) (hr : Ring w9 bl ((A ++ B).map valE)) (hm : MapF ikey w9 mp (atE (A ++ B)))
    (hf : Fr (fun k => k = q ∨ k = mp ∨ RingB bl ((A ++ x :: B).map valE) k) w8 w9) (hst : st'.ring = (A ++ B).map (·.cl)) (hl : len = (total st'.ring : Nat)) : QI w9 q bl mp (A ++ B) st' := by
  have hsub : ∀ y, y ∈ A ++ B → y ∈ A ++ x :: B := by intro y hy; simp at hy ⊢; rcases hy with h | h <;> simp [h]
  refine ⟨by rw [← hl]; exact hh, hr, fun y hy => h.cls_fr hf (fun _ h => h) y (hsub y hy), hm, ?_, hst⟩
  exact h.apart.sublist (List.Sublist.append (List.Sublist.refl A) (List.sublist_cons_self x B))
theorem QI.itemNot {w : World} {q bl mp f : Nat} {E : List El} {st : Qs} {cs : Array Value} (h : QI w q bl mp E st) (hb : w.heap[f]? = some (.cells cs 66 (0, 0))) : ¬ (f = q ∨ f = mp ∨ RingB bl (E.map valE) f) := by
  obtain ⟨⟨_, kq⟩, ⟨_, _, km⟩, ⟨_, kb⟩, ke⟩ := h.kinds
  rintro (rfl | rfl | rfl | hk)
  · rw [hb] at kq; simp at kq
  · rw [hb] at km; simp at km
  · rw [hb] at kb; simp at kb
  · obtain ⟨z, hz, rfl⟩ := List.mem_map.1 hk
    obtain ⟨u, hu, rfl⟩ := List.mem_map.1 hz
    obtain ⟨⟨_, k1⟩, _⟩ := ke u hu
    have k1' : w.heap[(valE u).1]? = _ := k1
    rw [hb] at k1'; simp at k1'
theorem Own.left {q bl mp : Nat} {A B : List El} {x : El} {k : Nat} (h : Own q bl mp (A ++ B) k) : Own q bl mp (A ++ x :: B) k := by
  rcases h with h | h | h | ⟨y, hy, h⟩
  · exact .inl h
  · exact .inr (.inl h)
  · refine .inr (.inr (.inl ?_))
    rcases h with h | h
    · exact .inl h
    · right
      rw [List.map_append, List.map_append, List.mem_append] at h
      rw [List.map_append, List.map_append, List.mem_append, List.map_cons, List.map_cons, List.mem_cons]
      rcases h with h | h
      · exact .inl h
      · exact .inr (.inr h)
  · refine .inr (.inr (.inr ⟨y, ?_, h⟩))
    simp at hy ⊢; rcases hy with h | h <;> simp [h]
end Go.Proofs.Ytcpejmnmbioinaa
