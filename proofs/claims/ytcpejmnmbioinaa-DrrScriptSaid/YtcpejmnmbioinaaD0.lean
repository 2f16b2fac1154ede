/-
  package drr, plain: what its functions compute.
-/
namespace Go.Proofs.Ytcpejmnmbioinaa
/-- A client: its number, its credit, its items (cost, what is told). -/
structure Cl where
  n : Int
  credit : Int
  its : List (Int × Int)
/-- A scheduler. -/
structure Qs where
  clients : Int
  items : Int
  quantum : Int
  most : Int
  ring : List Cl
  turn : Bool
def total (r : List Cl) : Nat := (r.map (·.its.length)).sum
theorem total_append (a b : List Cl) : total (a ++ b) = total a + total b := by simp [total]
theorem total_cons (a : Cl) (b : List Cl) : total (a :: b) = a.its.length + total b := by simp [total]
/-- Put. -/
def Qs.put (st : Qs) (n cost x : Int) : Qs × Int :=
  if cost < 1 ∨ st.most < cost then (st, 5)
  else match st.ring.find? (fun c => c.n == n) with
    | some c => if st.items ≤ c.its.length then (st, 8) else ({ st with ring := st.ring.map fun c => if c.n = n then { c with its := c.its ++ [(cost, x)] } else c }, 0)
    | none => if st.clients ≤ st.ring.length then (st, 8) else ({ st with ring := st.ring ++ [⟨n, 0, [(cost, x)]⟩] }, 0)
/-- The first one, whose credit is cr, is served. -/
def Qs.serve (st : Qs) (c : Cl) (cr : Int) (r : List Cl) : Qs × (Int × Int × Bool) :=
  match c.its with
  | [] => (st, 0, 0, false)
  | i :: t => ({ st with ring := if t = [] then r else { c with credit := cr - i.1, its := t } :: r, turn := !t.isEmpty }, c.n, i.2, true)
def firstCost (c : Cl) : Int := match c.its with | [] => 0 | i :: _ => i.1
/-- Next. -/
def Qs.next (st : Qs) : Qs × (Int × Int × Bool) :=
  match st.ring with
  | [] => (st, 0, 0, false)
  | c :: r =>
    if st.turn = false then st.serve c (c.credit + st.quantum) r
    else if firstCost c ≤ c.credit then st.serve c c.credit r
    else match r ++ [c] with
      | [] => (st, 0, 0, false)
      | c' :: r' => { st with ring := r ++ [c] }.serve c' (c'.credit + st.quantum) r'
/-- What always holds of a scheduler. -/
structure Qs.wf (st : Qs) : Prop where
  cl : 1 ≤ st.clients ∧ st.clients ≤ 1024
  it : 1 ≤ st.items ∧ st.items ≤ 64
  qu : st.most ≤ st.quantum ∧ st.quantum ≤ 4096
  mo : 1 ≤ st.most
  len : (st.ring.length : Int) ≤ st.clients
  nums : (st.ring.map (·.n)).Nodup
  its : ∀ c ∈ st.ring, c.its ≠ [] ∧ (c.its.length : Int) ≤ st.items ∧ ∀ i ∈ c.its, 1 ≤ i.1 ∧ i.1 ≤ st.most
  low : ∀ c ∈ st.ring, 0 ≤ c.credit
  high : ∀ c ∈ st.ring, c.credit ≤ st.most - 1 + st.quantum
  rest : ∀ c ∈ (if st.turn then st.ring.tail else st.ring), c.credit ≤ st.most - 1
theorem total_le (r : List Cl) (k : Nat) (h : ∀ c ∈ r, c.its.length ≤ k) : total r ≤ r.length * k := by
  induction r with
  | nil => simp [total]
  | cons c r ih =>
    rw [total_cons, List.length_cons, Nat.add_mul, Nat.one_mul]
    have := ih (fun c hc => h c (List.mem_cons_of_mem _ hc))
    have := h c (by simp)
    omega
theorem Qs.wf.total_lt {st : Qs} (h : st.wf) : total st.ring ≤ 65536 := by
  have h1 := total_le st.ring 64 (fun c hc => by have := (h.its c hc).2.1; have := h.it.2; omega)
  have h2 : st.ring.length ≤ 1024 := by have := h.len; have := h.cl.2; omega
  have h3 := Nat.mul_le_mul_right 64 h2
  omega
theorem map_mid (n : Int) (f : Cl → Cl) (A B : List Cl) (c : Cl) (hA : ∀ a ∈ A, a.n ≠ n) (hB : ∀ a ∈ B, a.n ≠ n) (hc : c.n = n) :
    (A ++ c :: B).map (fun c => if c.n = n then f c else c) = A ++ f c :: B := by
  have h1 : ∀ L : List Cl, (∀ a ∈ L, a.n ≠ n) → L.map (fun c => if c.n = n then f c else c) = L := by
    intro L hL
    conv => rhs; rw [← List.map_id L]
    exact List.map_congr_left fun a ha => by rw [if_neg (hL a ha)]; rfl
  rw [List.map_append, List.map_cons, h1 A hA, h1 B hB, if_pos hc]
/-- A client in the ring, by its number. -/
theorem split_at (r : List Cl) (hn : (r.map (·.n)).Nodup) (n : Int) :
    (r.find? (fun c => c.n == n) = none ∧ ∀ c ∈ r, c.n ≠ n) ∨ ∃ A c B, r = A ++ c :: B ∧ c.n = n ∧ (∀ a ∈ A, a.n ≠ n) ∧ (∀ a ∈ B, a.n ≠ n) ∧ r.find? (fun c => c.n == n) = some c := by
  induction r with
  | nil => left; simp
  | cons a r ih =>
    rw [List.map_cons, List.nodup_cons] at hn
    by_cases ha : a.n = n
    · right
      refine ⟨[], a, r, rfl, ha, by simp, fun b hb e => hn.1 ?_, by simp [ha]⟩
      rw [ha, ← e]; exact List.mem_map_of_mem hb
    · rcases ih hn.2 with ⟨h1, h2⟩ | ⟨A, c, B, h1, h2, h3, h4, h5⟩
      · left
        refine ⟨?_, ?_⟩
        · rw [List.find?_cons_of_neg (by simpa using ha), h1]
        · intro c hc
          rcases List.mem_cons.1 hc with rfl | hc
          · exact ha
          · exact h2 c hc
      · right
        refine ⟨a :: A, c, B, by rw [h1]; rfl, h2, ?_, h4, ?_⟩
        · intro b hb
          rcases List.mem_cons.1 hb with rfl | hb
          · exact ha
          · exact h3 b hb
        · rw [List.find?_cons_of_neg (by simpa using ha), h5]
theorem rest_mid {A B : List Cl} {c c' : Cl} (t : Bool) (m : Int) (hcr : c'.credit = c.credit) (h : ∀ x ∈ (if t then (A ++ c :: B).tail else A ++ c :: B), x.credit ≤ m) : ∀ x ∈ (if t then (A ++ c' :: B).tail else A ++ c' :: B), x.credit ≤ m := by
  have aux : ∀ (A B : List Cl), (∀ x ∈ A ++ c :: B, x.credit ≤ m) → ∀ x ∈ A ++ c' :: B, x.credit ≤ m := by
    intro A B h x hx
    rcases List.mem_append.1 hx with hx | hx
    · exact h x (List.mem_append_left _ hx)
    · rcases List.mem_cons.1 hx with rfl | hx
      · rw [hcr]; exact h c (by simp)
      · exact h x (List.mem_append_right _ (List.mem_cons_of_mem _ hx))
  cases t with
  | false => exact aux A B h
  | true =>
    cases A with
    | nil => exact h
    | cons a A => exact aux A B h
/-- Put at a client that is there. -/
theorem Qs.wf.put_mid {st : Qs} {A B : List Cl} {c : Cl} {cost x : Int} (h : st.wf) (hr : st.ring = A ++ c :: B) (h1 : 1 ≤ cost) (h2 : cost ≤ st.most) (h3 : (c.its.length : Int) < st.items) :
    ({ st with ring := A ++ { c with its := c.its ++ [(cost, x)] } :: B } : Qs).wf := by
  have hmem : ∀ y, y ∈ A ++ { c with its := c.its ++ [(cost, x)] } :: B → y ∈ st.ring ∨ y = { c with its := c.its ++ [(cost, x)] } := by
    intro y hy
    rcases List.mem_append.1 hy with hy | hy
    · exact .inl (by rw [hr]; exact List.mem_append_left _ hy)
    · rcases List.mem_cons.1 hy with rfl | hy
      · exact .inr rfl
      · exact .inl (by rw [hr]; exact List.mem_append_right _ (List.mem_cons_of_mem _ hy))
  have hc : c ∈ st.ring := by rw [hr]; simp
  refine ⟨h.cl, h.it, h.qu, h.mo, ?_, ?_, ?_, ?_, ?_, ?_⟩
  · have := h.len; rw [hr] at this; simpa using this
  · have := h.nums; rw [hr] at this; simpa using this
  · intro y hy
    rcases hmem y hy with hy | rfl
    · exact h.its y hy
    · refine ⟨by simp, by simp; omega, fun i hi => ?_⟩
      rcases List.mem_append.1 hi with hi | hi
      · exact (h.its c hc).2.2 i hi
      · rw [List.mem_singleton] at hi; subst hi; exact ⟨h1, h2⟩
  · intro y hy
    rcases hmem y hy with hy | rfl
    · exact h.low y hy
    · exact h.low c hc
  · intro y hy
    rcases hmem y hy with hy | rfl
    · exact h.high y hy
    · exact h.high c hc
  · have := h.rest; rw [hr] at this
    exact rest_mid st.turn (st.most - 1) (c := c) rfl this
/-- Put of a new client. -/
theorem Qs.wf.put_new {st : Qs} {n cost x : Int} (h : st.wf) (hn : ∀ c ∈ st.ring, c.n ≠ n) (h1 : 1 ≤ cost) (h2 : cost ≤ st.most) (h3 : (st.ring.length : Int) < st.clients) :
    ({ st with ring := st.ring ++ [⟨n, 0, [(cost, x)]⟩] } : Qs).wf := by
  have hmem : ∀ y, y ∈ st.ring ++ [(⟨n, 0, [(cost, x)]⟩ : Cl)] → y ∈ st.ring ∨ y = ⟨n, 0, [(cost, x)]⟩ := by
    intro y hy; simpa using hy
  have hq := h.qu; have hm := h.mo; have hi := h.it
  refine ⟨h.cl, h.it, h.qu, h.mo, ?_, ?_, ?_, ?_, ?_, ?_⟩
  · simp; omega
  · rw [List.map_append, List.nodup_append]
    refine ⟨h.nums, by simp, ?_⟩
    intro a ha b hb
    simp at hb; subst hb
    obtain ⟨c, hc, rfl⟩ := List.mem_map.1 ha
    exact hn c hc
  · intro y hy
    rcases hmem y hy with hy | rfl
    · exact h.its y hy
    · exact ⟨by simp, by simp; omega, fun i hi => by simp at hi; subst hi; exact ⟨h1, h2⟩⟩
  · intro y hy
    rcases hmem y hy with hy | rfl
    · exact h.low y hy
    · exact Int.le_refl _
  · intro y hy
    rcases hmem y hy with hy | rfl
    · exact h.high y hy
    · show (0 : Int) ≤ st.most - 1 + st.quantum; omega
  · have hr := h.rest
    intro y hy
    have hy' : y ∈ (if st.turn then st.ring.tail else st.ring) ∨ y = ⟨n, 0, [(cost, x)]⟩ := by
      revert hy
      cases st.turn with
      | false => intro hy; exact hmem y hy
      | true =>
        intro hy
        cases hring : st.ring with
        | nil => rw [hring] at hy; simp at hy
        | cons a r => rw [hring] at hy; simpa using hy
    rcases hy' with hy | rfl
    · exact hr y hy
    · show (0 : Int) ≤ st.most - 1; omega
/-- The first one is served. -/
theorem Qs.wf.serve {st : Qs} {c : Cl} {cr : Int} {r : List Cl} {i : Int × Int} {t : List (Int × Int)} (h : st.wf) (hp : (c :: r).Perm st.ring) (hi : c.its = i :: t) (h1 : i.1 ≤ cr) (h2 : cr ≤ st.most - 1 + st.quantum) (hr : ∀ y ∈ r, y.credit ≤ st.most - 1) :
    ({ st with ring := if t = [] then r else { c with credit := cr - i.1, its := t } :: r, turn := !t.isEmpty } : Qs).wf := by
  have hcm : c ∈ st.ring := hp.mem_iff.1 (by simp)
  have hrm : ∀ y ∈ r, y ∈ st.ring := fun y hy => hp.mem_iff.1 (List.mem_cons_of_mem _ hy)
  have hn : ((c :: r).map (·.n)).Nodup := (hp.map _).nodup_iff.2 h.nums
  have hl : r.length + 1 = st.ring.length := by have := hp.length_eq; simpa using this
  have hlen := h.len
  obtain ⟨c1, c2, c3⟩ := h.its c hcm
  rw [hi] at c2 c3
  simp only [List.length_cons] at c2
  have hi1 := (c3 i (by simp)).1
  rw [List.map_cons, List.nodup_cons] at hn
  by_cases ht : t = []
  · subst ht
    refine ⟨h.cl, h.it, h.qu, h.mo, ?_, ?_, ?_, ?_, ?_, ?_⟩ <;> simp only [if_true, List.isEmpty_nil, Bool.not_true]
    · omega
    · exact hn.2
    · exact fun y hy => h.its y (hrm y hy)
    · exact fun y hy => h.low y (hrm y hy)
    · exact fun y hy => h.high y (hrm y hy)
    · intro y hy
      exact hr y (by simpa using hy)
  · have hte : t.isEmpty = false := by cases t with | nil => exact absurd rfl ht | cons a b => rfl
    refine ⟨h.cl, h.it, h.qu, h.mo, ?_, ?_, ?_, ?_, ?_, ?_⟩ <;> simp only [if_neg ht, hte, Bool.not_false, if_true]
    · simp; omega
    · simpa using hn
    · intro y hy
      rcases List.mem_cons.1 hy with rfl | hy
      · exact ⟨ht, by simp only; omega, fun j hj => c3 j (List.mem_cons_of_mem _ hj)⟩
      · exact h.its y (hrm y hy)
    · intro y hy
      rcases List.mem_cons.1 hy with rfl | hy
      · simp only; omega
      · exact h.low y (hrm y hy)
    · intro y hy
      rcases List.mem_cons.1 hy with rfl | hy
      · simp only; omega
      · exact h.high y (hrm y hy)
    · exact fun y hy => hr y (by simpa using hy)
end Go.Proofs.Ytcpejmnmbioinaa
