/-
  DrrServes, plain: one Next.
-/
import Derived.Test.YtcpejmnmbioinaaDN
namespace Go.Proofs.Ytcpejmnmbioinaa
def itsOf (r : List Cl) (a : Int) : Option (List (Int × Int)) := (r.find? (fun c => c.n == a)).map (·.its)
theorem itsOf_ne {c : Cl} {r : List Cl} {a : Int} (h : c.n ≠ a) : itsOf (c :: r) a = itsOf r a := by unfold itsOf; rw [List.find?_cons_of_neg (by simpa using h)]
theorem itsOf_eq {c : Cl} {r : List Cl} {a : Int} (h : c.n = a) : itsOf (c :: r) a = some c.its := by unfold itsOf; rw [List.find?_cons_of_pos (by simpa using h)]; rfl
theorem itsOf_app {r s : List Cl} {a : Int} (h : a ∈ r.map (·.n)) : itsOf (r ++ s) a = itsOf r a := by
  induction r with
  | nil => simp at h
  | cons c r ih =>
    rw [List.cons_append]
    by_cases hc : c.n = a
    · rw [itsOf_eq hc, itsOf_eq hc]
    · rw [itsOf_ne hc, itsOf_ne hc, ih]
      rw [List.map_cons, List.mem_cons] at h
      exact h.resolve_left (fun e => hc e.symm)
theorem itsOf_last {r : List Cl} {c : Cl} {a : Int} (hr : ∀ y ∈ r, y.n ≠ a) (hc : c.n = a) : itsOf (r ++ [c]) a = some c.its := by
  induction r with
  | nil => exact itsOf_eq hc
  | cons y r ih => rw [List.cons_append, itsOf_ne (hr y (by simp)), ih (fun z hz => hr z (List.mem_cons_of_mem _ hz))]
/-- What one Next does for a. -/
def Told (st : Qs) (a : Int) (res : Qs × (Int × Int × Bool)) (V : Int) : Prop :=
  ∃ c x, res.2 = (c, x, true) ∧ ((c ≠ a ∧ Vof res.1 a + 1 ≤ V ∧ itsOf res.1.ring a = itsOf st.ring a ∧ a ∈ res.1.ring.map (·.n)) ∨
    (c = a ∧ ∃ i t, itsOf st.ring a = some (i :: t) ∧ x = i.2 ∧ (t ≠ [] → itsOf res.1.ring a = some t ∧ a ∈ res.1.ring.map (·.n)))) ∧ res.1.ring.length ≤ st.ring.length ∧ res.1.quantum = st.quantum ∧ res.1.most = st.most
theorem serve_told {st : Qs} {c : Cl} {cr a : Int} {r : List Cl} (hr : st.ring = c :: r) (hi : c.its ≠ []) (h1 : 1 ≤ firstCost c) (h2 : firstCost c ≤ cr) (ha : a ∈ st.ring.map (·.n)) :
    Told st a (st.serve c cr r) (cr + ahead st.quantum a r) := by
  obtain ⟨i, t, hit⟩ : ∃ i t, c.its = i :: t := by
    cases h : c.its with
    | nil => exact absurd h hi
    | cons i t => exact ⟨i, t, rfl⟩
  rw [firstCost_cons hit] at h1 h2
  rw [Qs.serve_eq hit]
  have hlen : st.ring.length = r.length + 1 := by rw [hr]; rfl
  refine ⟨c.n, i.2, rfl, ?_, ?_, rfl, rfl⟩
  · by_cases hc : c.n = a
    · right
      refine ⟨hc, i, t, by rw [hr, itsOf_eq hc, hit], rfl, fun ht => ?_⟩
      simp only [if_neg ht]
      exact ⟨itsOf_eq hc, by simp [hc]⟩
    · left
      have ha' : a ∈ r.map (·.n) := by
        rw [hr, List.map_cons, List.mem_cons] at ha
        exact ha.resolve_left (fun e => hc e.symm)
      refine ⟨hc, ?_, ?_, ?_⟩
      · by_cases ht : t = []
        · subst ht
          unfold Vof
          simp only [List.isEmpty_nil, Bool.not_true, Bool.false_eq_true, if_false, if_true]
          omega
        · have hte : t.isEmpty = false := by cases t with | nil => exact absurd rfl ht | cons a b => rfl
          unfold Vof
          simp only [hte, Bool.not_false, if_true, if_neg ht, if_neg hc]
          omega
      · rw [hr, itsOf_ne hc]
        by_cases ht : t = []
        · simp only [if_pos ht]
        · simp only [if_neg ht]; exact itsOf_ne hc
      · by_cases ht : t = []
        · simp only [if_pos ht]; exact ha'
        · simp only [if_neg ht]; rw [List.map_cons]; exact List.mem_cons_of_mem _ ha'
  · show (if t = [] then r else { c with credit := cr - i.1, its := t } :: r).length ≤ st.ring.length
    split
    · omega
    · simp; omega
theorem next_told {st : Qs} {a : Int} (h : st.wf) (ha : a ∈ st.ring.map (·.n)) : Told st a st.next (Vof st a) := by
  have hq := h.qu; have hm := h.mo
  have off : ∀ st : Qs, st.wf → a ∈ st.ring.map (·.n) → st.turn = false → Told st a st.next (Vof st a) := by
    intro st h ha ht
    have hq := h.qu; have hm := h.mo
    cases hring : st.ring with
    | nil => rw [hring] at ha; simp at ha
    | cons c r =>
      have hcm : c ∈ st.ring := by rw [hring]; simp
      obtain ⟨c1, _, c3⟩ := h.its c hcm
      have hlow := h.low c hcm
      have hfc : 1 ≤ firstCost c ∧ firstCost c ≤ st.most := by
        cases hi' : c.its with
        | nil => exact absurd hi' c1
        | cons i t => rw [firstCost_cons hi']; exact c3 i (by rw [hi']; simp)
      have hn : st.next = st.serve c (c.credit + st.quantum) r := by unfold Qs.next; rw [hring]; simp [ht]
      rw [hn]
      obtain ⟨d, x, t1, t2, t3⟩ := serve_told (cr := c.credit + st.quantum) hring c1 hfc.1 (by omega) ha
      refine ⟨d, x, t1, ?_, t3⟩
      rcases t2 with ⟨hd, hv, hrest⟩ | t2
      · refine .inl ⟨hd, ?_, hrest⟩
        have hdc : d = c.n := by
          have := congrArg Prod.fst t1
          unfold Qs.serve at this
          cases hi' : c.its with
          | nil => exact absurd hi' c1
          | cons i t => rw [hi'] at this; exact this.symm
        have e : Vof st a = (c.credit + st.quantum) + ahead st.quantum a r := by
          unfold Vof; rw [ht, hring]; simp only [Bool.false_eq_true, if_false]
          exact ahead_cons_ne (by rw [← hdc]; exact hd)
        rw [e]; exact hv
      · exact .inr t2
  cases ht : st.turn with
  | false => exact off st h ha ht
  | true =>
    cases hring : st.ring with
    | nil => rw [hring] at ha; simp at ha
    | cons c r =>
      have hcm : c ∈ st.ring := by rw [hring]; simp
      obtain ⟨c1, _, c3⟩ := h.its c hcm
      have hlow := h.low c hcm
      have hfc : 1 ≤ firstCost c ∧ firstCost c ≤ st.most := by
        cases hi' : c.its with
        | nil => exact absurd hi' c1
        | cons i t => rw [firstCost_cons hi']; exact c3 i (by rw [hi']; simp)
      by_cases hle : firstCost c ≤ c.credit
      · have hn : st.next = st.serve c c.credit r := by unfold Qs.next; rw [hring]; simp [ht, hle]
        rw [hn]
        obtain ⟨d, x, t1, t2, t3⟩ := serve_told (cr := c.credit) hring c1 hfc.1 hle ha
        refine ⟨d, x, t1, ?_, t3⟩
        rcases t2 with ⟨hd, hv, hrest⟩ | t2
        · refine .inl ⟨hd, ?_, hrest⟩
          have hdc : d = c.n := by
            have := congrArg Prod.fst t1
            unfold Qs.serve at this
            cases hi' : c.its with
            | nil => exact absurd hi' c1
            | cons i t => rw [hi'] at this; exact this.symm
          have e : Vof st a = c.credit + ahead st.quantum a r := by
            unfold Vof; rw [ht, hring]; simp only [if_true]
            rw [if_neg (by rw [← hdc]; exact hd)]
          rw [e]; exact hv
        · exact .inr t2
      · have hn := Qs.next_rot h hring ht hle
        rw [← hn]
        have hp : (r ++ [c]).Perm st.ring := by rw [hring]; exact List.perm_append_singleton c r
        have ha' : a ∈ (r ++ [c]).map (·.n) := (hp.map _).mem_iff.2 ha
        have hnd := h.nums
        rw [hring, List.map_cons, List.nodup_cons] at hnd
        obtain ⟨d, x, t1, t2, t3, t4, t5⟩ := off (st.rot c r) (h.rot hring ht hle) ha' rfl
        have hits : itsOf (r ++ [c]) a = itsOf st.ring a := by
          rw [hring]
          by_cases hc : c.n = a
          · rw [itsOf_eq hc, itsOf_last (fun y hy e => hnd.1 (by rw [hc, ← e]; exact List.mem_map_of_mem hy)) hc]
          · rw [itsOf_ne hc, itsOf_app]
            rw [hring, List.map_cons, List.mem_cons] at ha
            exact ha.resolve_left (fun e => hc e.symm)
        have hV : Vof (st.rot c r) a ≤ Vof st a := by
          unfold Vof
          rw [ht, hring]
          simp only [Qs.rot, Bool.false_eq_true, if_false, if_true]
          by_cases hc : c.n = a
          · rw [if_pos hc, ahead_others r c (fun y hy e => hnd.1 (by rw [hc, ← e]; exact List.mem_map_of_mem hy)) hc]
            exact Int.le_refl _
          · rw [if_neg hc, ahead_app]
            · omega
            · rw [hring, List.map_cons, List.mem_cons] at ha
              exact ha.resolve_left (fun e => hc e.symm)
        refine ⟨d, x, t1, ?_, by have := hp.length_eq; rw [← this]; exact t3, t4, t5⟩
        rcases t2 with ⟨hd, hv, h3, h4⟩ | ⟨hd, i, t, h3, h4⟩
        · exact .inl ⟨hd, by omega, by rw [h3]; exact hits, h4⟩
        · exact .inr ⟨hd, i, t, by rw [← hits]; exact h3, h4⟩
end Go.Proofs.Ytcpejmnmbioinaa
