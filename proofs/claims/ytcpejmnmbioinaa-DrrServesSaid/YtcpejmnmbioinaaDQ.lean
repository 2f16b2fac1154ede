/-
  DrrServes, plain: the rounds.
-/
import Derived.Test.YtcpejmnmbioinaaDO
import Derived.Test.YtcpejmnmbioinaaDG
namespace Go.Proofs.Ytcpejmnmbioinaa
/-- Behind i Nexts of n: the client's last item is the one that is told 1000. -/
structure Serv (st : Qs) (a n i : Int) (L : Nat) (q m : Int) : Prop where
  its : ∃ pre y, itsOf st.ring a = some (pre ++ [(y, 1000)]) ∧ (pre.length : Int) * ((L : Int) * (q + m)) + Vof st a + 1 + i ≤ n
  len : st.ring.length ≤ L
  quantum : st.quantum = q
  most : st.most = m
theorem itsOf_mem {r : List Cl} {a : Int} {l : List (Int × Int)} (h : itsOf r a = some l) : a ∈ r.map (·.n) := by
  unfold itsOf at h
  obtain ⟨c, h1, _⟩ := Option.map_eq_some_iff.1 h
  have h2 := List.find?_some h1
  have h3 := List.mem_of_find?_eq_some h1
  have h2 : c.n = a := by simpa using h2
  rw [← h2]; exact List.mem_map_of_mem h3
theorem Serv.lt {st : Qs} {a n i : Int} {L : Nat} {q m : Int} (h : Serv st a n i L q m) (hw : st.wf) : i < n := by
  obtain ⟨pre, y, _, h2⟩ := h.its
  have hv := Vof_nonneg (a := a) hw
  have hq := hw.qu; have hm := hw.mo
  rw [h.quantum, h.most] at hq; rw [h.most] at hm
  have : 0 ≤ (pre.length : Int) * ((L : Int) * (q + m)) := Int.mul_nonneg (by omega) (Int.mul_nonneg (by omega) (by omega))
  omega
theorem Serv.next {st : Qs} {a n i : Int} {L : Nat} {q m : Int} (h : Serv st a n i L q m) (hw : st.wf) (hw' : st.next.1.wf) :
    ∃ c x, st.next.2 = (c, x, true) ∧ ((c = a ∧ x = 1000) ∨ Serv st.next.1 a n (i + 1) L q m) := by
  obtain ⟨pre, y, h1, h2⟩ := h.its
  obtain ⟨c, x, t1, t2, t3, t4, t5⟩ := next_told hw (itsOf_mem h1)
  have hV := Vof_nonneg (a := a) hw
  have hlen : st.next.1.ring.length ≤ L := Nat.le_trans t3 h.len
  refine ⟨c, x, t1, ?_⟩
  rcases t2 with ⟨hc, hv, hi, _⟩ | ⟨hc, i0, t, hi, hx, ht⟩
  · right
    exact ⟨⟨pre, y, by rw [hi, h1], by omega⟩, hlen, t4.trans h.quantum, t5.trans h.most⟩
  · rw [h1] at hi
    have hi := Option.some.inj hi
    cases pre with
    | nil =>
      left
      rw [List.nil_append] at hi
      cases hi
      exact ⟨hc, hx⟩
    | cons p pre =>
      right
      rw [List.cons_append] at hi
      cases hi
      obtain ⟨k1, k2⟩ := ht (by simp)
      refine ⟨⟨pre, y, k1, ?_⟩, hlen, t4.trans h.quantum, t5.trans h.most⟩
      have hle := Vof_le hw' k2
      rw [t4, t5, h.quantum, h.most] at hle
      have hq := hw.qu; have hm := hw.mo
      rw [h.quantum, h.most] at hq; rw [h.most] at hm
      have hL : (((st.next.1.ring.length : Nat) : Int) - 1) * (m - 1 + q) ≤ ((L : Int) - 1) * (m - 1 + q) := Int.mul_le_mul_of_nonneg_right (by omega) (by omega)
      have hL1 : 1 ≤ L := by
        obtain ⟨z, hz, _⟩ := List.mem_map.1 k2
        have := List.length_pos_of_mem hz; omega
      have e1 : ((L : Int) - 1) * (m - 1 + q) + 1 ≤ (L : Int) * (q + m) := by
        have e2 : (L : Int) * (q + m) = ((L : Int) - 1) * (m - 1 + q) + ((L : Int) - 1) + (q + m) := by
          have e3 : q + m = (m - 1 + q) + 1 := by omega
          have e4 : (L : Int) * (q + m) = ((L : Int) - 1) * (q + m) + (q + m) := by rw [Int.sub_mul, Int.one_mul]; omega
          rw [e4]
          conv => lhs; lhs; rw [e3, Int.mul_add, Int.mul_one]
        rw [e2]; omega
      rw [List.length_cons] at h2
      have e5 : ((pre.length + 1 : Nat) : Int) * ((L : Int) * (q + m)) = (pre.length : Int) * ((L : Int) * (q + m)) + (L : Int) * (q + m) := by
        rw [Int.natCast_add, Int.add_mul]; simp
      rw [e5] at h2
      omega
theorem ahead_map (q a : Int) (f : Cl → Cl) (hf : ∀ c, (f c).n = c.n ∧ (f c).credit = c.credit) (r : List Cl) : ahead q a (r.map f) = ahead q a r := by
  induction r with
  | nil => rfl
  | cons c r ih => rw [List.map_cons, ahead, ahead, ih, (hf c).1, (hf c).2]
theorem others_map (q : Int) (f : Cl → Cl) (hf : ∀ c, (f c).n = c.n ∧ (f c).credit = c.credit) (r : List Cl) : others q (r.map f) = others q r := by
  induction r with
  | nil => rfl
  | cons c r ih => rw [List.map_cons, others_cons, others_cons, ih, (hf c).2]
theorem Vof_map (st : Qs) (a : Int) (f : Cl → Cl) (hf : ∀ c, (f c).n = c.n ∧ (f c).credit = c.credit) : Vof { st with ring := st.ring.map f } a = Vof st a := by
  unfold Vof
  simp only
  cases st.turn with
  | false => simp only [Bool.false_eq_true, if_false]; exact ahead_map _ _ f hf _
  | true =>
    simp only [if_true]
    cases st.ring with
    | nil => rfl
    | cons c r => simp only [List.map_cons]; rw [ahead_map _ _ f hf, others_map _ f hf, (hf c).1, (hf c).2]
theorem itsOf_map (f : Cl → Cl) (a : Int) (hf : ∀ c, (f c).n = c.n) (ha : ∀ c, c.n = a → (f c).its = c.its) (r : List Cl) : itsOf (r.map f) a = itsOf r a := by
  induction r with
  | nil => rfl
  | cons c r ih =>
    rw [List.map_cons]
    by_cases hc : c.n = a
    · rw [itsOf_eq ((hf c).trans hc), itsOf_eq hc, ha c hc]
    · rw [itsOf_ne (by rw [hf c]; exact hc), itsOf_ne hc, ih]
theorem Serv.put {st : Qs} {a b n i cost x : Int} {L : Nat} {q m : Int} (h : Serv st a n i L q m) (hb : b ≠ a) (hof : (st.ring.find? (fun c => c.n == b)).isSome = true) : Serv (st.put b cost x).1 a n i L q m := by
  unfold Qs.put
  split
  · exact h
  · cases hf : st.ring.find? (fun c => c.n == b) with
    | none => rw [hf] at hof; cases hof
    | some c =>
      simp only
      split
      · exact h
      · obtain ⟨pre, y, h1, h2⟩ := h.its
        have hfm : ∀ c : Cl, ((fun c : Cl => if c.n = b then { c with its := c.its ++ [(cost, x)] } else c) c).n = c.n ∧ ((fun c : Cl => if c.n = b then { c with its := c.its ++ [(cost, x)] } else c) c).credit = c.credit := by
          intro c; simp only; split <;> exact ⟨rfl, rfl⟩
        refine ⟨⟨pre, y, ?_, ?_⟩, by simpa using h.len, h.quantum, h.most⟩
        · rw [← h1]
          exact itsOf_map _ a (fun c => (hfm c).1) (fun c hc => by rw [if_neg (by rw [hc]; exact fun e => hb e.symm)]) _
        · rw [Vof_map st a _ hfm]; exact h2
theorem put_last {st : Qs} {a cost x : Int} (hw : st.wf) (h : (st.put a cost x).2 = 0) :
    ∃ pre y, itsOf (st.put a cost x).1.ring a = some (pre ++ [(y, x)]) ∧ (pre.length : Int) = (match st.ring.find? (fun c => c.n == a) with | some c => (c.its.length : Int) | none => 0) := by
  revert h
  unfold Qs.put
  split
  · intro h; simp at h
  · rcases split_at st.ring hw.nums a with ⟨h1, h2⟩ | ⟨A, c, B, h1, h2, h3, h4, h5⟩
    · rw [h1]
      simp only
      split
      · intro h; simp at h
      · intro _
        refine ⟨[], cost, ?_, rfl⟩
        exact itsOf_last h2 rfl
    · rw [h5]
      simp only
      split
      · intro h; simp at h
      · intro _
        refine ⟨c.its, cost, ?_, rfl⟩
        simp only
        rw [h1, map_mid a (fun c => { c with its := c.its ++ [(cost, x)] }) A B c h3 h4 h2]
        have : ∀ (A : List Cl) (d : Cl), (∀ y ∈ A, y.n ≠ a) → d.n = a → itsOf (A ++ d :: B) a = some d.its := by
          intro A d hA hd
          induction A with
          | nil => exact itsOf_eq hd
          | cons z A ih => rw [List.cons_append, itsOf_ne (hA z (by simp)), ih (fun u hu => hA u (List.mem_cons_of_mem _ hu))]
        exact this A _ h3 h2
theorem serv_start {st : Qs} {a : Int} {pre : List (Int × Int)} {y : Int} (hw : st.wf) (h : itsOf st.ring a = some (pre ++ [(y, 1000)])) :
    Serv st a (((pre.length : Int) + 1) * (st.ring.length : Int) * (st.quantum + st.most)) 0 st.ring.length st.quantum st.most := by
  refine ⟨⟨pre, y, h, ?_⟩, Nat.le_refl _, rfl, rfl⟩
  have ha := itsOf_mem h
  have hle := Vof_le hw ha
  have hq := hw.qu; have hm := hw.mo
  have hL1 : 1 ≤ st.ring.length := by
    obtain ⟨z, hz, _⟩ := List.mem_map.1 ha
    exact List.length_pos_of_mem hz
  generalize hL : (st.ring.length : Int) = L at *
  have hL1' : 1 ≤ L := by omega
  have e4 : L * (st.quantum + st.most) = (L - 1) * (st.most - 1 + st.quantum) + (L - 1) + (st.quantum + st.most) := by
    have e3 : st.quantum + st.most = (st.most - 1 + st.quantum) + 1 := by omega
    have e5 : L * (st.quantum + st.most) = (L - 1) * (st.quantum + st.most) + (st.quantum + st.most) := by rw [Int.sub_mul, Int.one_mul]; omega
    rw [e5]
    conv => lhs; lhs; rw [e3, Int.mul_add, Int.mul_one]
  have e6 : ((pre.length : Int) + 1) * L * (st.quantum + st.most) = (pre.length : Int) * (L * (st.quantum + st.most)) + L * (st.quantum + st.most) := by
    rw [Int.mul_assoc, Int.add_mul, Int.one_mul]
  rw [e6]
  omega
end Go.Proofs.Ytcpejmnmbioinaa
