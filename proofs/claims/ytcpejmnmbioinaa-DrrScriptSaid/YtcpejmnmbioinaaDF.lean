/-
  DrrFair, plain: each one gets his share.
-/
import Derived.Test.YtcpejmnmbioinaaD8
namespace Go.Proofs.Ytcpejmnmbioinaa
/-- What is told of each, and how many turns he had: R or one more. -/
def FairL (q R : Int) (S : Int → Int) (L1 L2 : List Cl) : Prop := (∀ c ∈ L1, S c.n + c.credit = R * q) ∧ ∀ c ∈ L2, S c.n + c.credit = (R + 1) * q
def FairI (st : Qs) (S : Int → Int) : Prop :=
  ∃ R L1 L2, FairL st.quantum R S L1 L2 ∧ if st.turn then ∃ h, st.ring = h :: (L1 ++ L2) ∧ S h.n + h.credit = (R + 1) * st.quantum else st.ring = L1 ++ L2
def Full (st : Qs) (N : Nat) : Prop := st.items = 2 ∧ (∀ c, c ∈ st.ring.map (·.n) ↔ 0 ≤ c ∧ c < (N : Int)) ∧ ∀ c ∈ st.ring, c.its.length = 2 ∧ ∀ i ∈ c.its, i.2 = i.1
/-- All that is told lies between bounds. -/
def FairB (q m : Int) (N : Nat) (S : Int → Int) : Prop := ∃ R : Int, ∀ c, 0 ≤ c → c < (N : Int) → R * q - (m - 1) ≤ S c ∧ S c ≤ (R + 1) * q
theorem FairI.bound {st : Qs} {S : Int → Int} {N : Nat} (h : FairI st S) (hw : st.wf) (hf : Full st N) : FairB st.quantum st.most N S := by
  obtain ⟨R, L1, L2, ⟨h1, h2⟩, h3⟩ := h
  have hq : 0 ≤ st.quantum := by have := hw.qu.1; have := hw.mo; omega
  have e : (R + 1) * st.quantum = R * st.quantum + st.quantum := by rw [Int.add_mul, Int.one_mul]
  refine ⟨R, fun c hc0 hc1 => ?_⟩
  obtain ⟨x, hx, rfl⟩ := List.mem_map.1 ((hf.2.1 c).2 ⟨hc0, hc1⟩)
  have hl := hw.low x hx
  have hr := hw.rest
  have hh := hw.high x hx
  rw [e]
  have key : ∀ y, y ∈ L1 ∨ y ∈ L2 → y.credit ≤ st.most - 1 → 0 ≤ y.credit → R * st.quantum - (st.most - 1) ≤ S y.n ∧ S y.n ≤ R * st.quantum + st.quantum := by
    intro y hy k1 k2
    rcases hy with hy | hy
    · have := h1 y hy; omega
    · have := h2 y hy; rw [e] at this; omega
  cases ht : st.turn with
  | false =>
    rw [ht] at h3 hr
    simp only [Bool.false_eq_true, if_false] at h3 hr
    rw [h3] at hx
    exact key x (List.mem_append.1 hx) (hr x (by rw [h3]; exact hx)) hl
  | true =>
    rw [ht] at h3 hr
    simp only [if_true] at h3 hr
    obtain ⟨h, hring, hs⟩ := h3
    rw [hring] at hx hr
    rcases List.mem_cons.1 hx with rfl | hx
    · rw [e] at hs; omega
    · exact key x (List.mem_append.1 hx) (hr x hx) hl
/-- The first one, who is in turn, is served. -/
def upd (S : Int → Int) (c w : Int) : Int → Int := fun x => if x = c then S x + w else S x
/-- A state in which the first one has the turn and credit enough: what Next does. -/
theorem fair_serve {st : Qs} {S : Int → Int} {N : Nat} {c : Cl} {r L1 L2 : List Cl} {R cr : Int} (hw : st.wf) (hf : Full st N) (hp : (c :: r).Perm st.ring) (hr : r = L1 ++ L2) (hl : FairL st.quantum R S L1 L2) (hc : S c.n + cr = (R + 1) * st.quantum)
    (hle : firstCost c ≤ cr) (hhi : cr ≤ st.most - 1 + st.quantum) (hrest : ∀ y ∈ r, y.credit ≤ st.most - 1) :
    ∃ w, (st.serve c cr r).2 = (c.n, w, true) ∧ 1 ≤ w ∧ w ≤ st.most ∧ 0 ≤ c.n ∧ c.n < (N : Int) ∧ ∀ v, 1 ≤ v → v ≤ st.most →
      ((st.serve c cr r).1.put c.n v v).2 = 0 ∧ ((st.serve c cr r).1.put c.n v v).1.wf ∧ Full ((st.serve c cr r).1.put c.n v v).1 N ∧ FairI ((st.serve c cr r).1.put c.n v v).1 (upd S c.n w) ∧
      ((st.serve c cr r).1.put c.n v v).1.quantum = st.quantum ∧ ((st.serve c cr r).1.put c.n v v).1.most = st.most := by
  have hcm : c ∈ st.ring := hp.mem_iff.1 (by simp)
  have hrm : ∀ y ∈ r, y ∈ st.ring := fun y hy => hp.mem_iff.1 (List.mem_cons_of_mem _ hy)
  have hnd : ((c :: r).map (·.n)).Nodup := (hp.map _).nodup_iff.2 hw.nums
  rw [List.map_cons, List.nodup_cons] at hnd
  obtain ⟨hl2, h21⟩ := hf.2.2 c hcm
  obtain ⟨i, j, hij⟩ : ∃ i j, c.its = [i, j] := by
    match hc' : c.its, hl2 with
    | [i, j], _ => exact ⟨i, j, rfl⟩
  have hi := (hw.its c hcm).2.2 i (by rw [hij]; simp)
  have hi2 := h21 i (by rw [hij]; simp)
  have hnum := (hf.2.1 c.n).1 (List.mem_map_of_mem hcm)
  have hwf' := hw.serve (cr := cr) hp hij (by rw [firstCost_cons hij] at hle; exact hle) hhi hrest
  have hs : st.serve c cr r = ({ st with ring := { c with credit := cr - i.1, its := [j] } :: r, turn := true }, c.n, i.2, true) := by
    rw [Qs.serve_eq hij]; simp
  simp only [List.cons_ne_nil, if_false, List.isEmpty_cons, Bool.not_false] at hwf'
  rw [hs]
  refine ⟨i.2, rfl, by omega, by omega, hnum.1, hnum.2, fun v hv1 hv2 => ?_⟩
  have hrn : ∀ a ∈ r, a.n ≠ c.n := fun a ha e => hnd.1 (by rw [← e]; exact List.mem_map_of_mem ha)
  have hput : ({ st with ring := { c with credit := cr - i.1, its := [j] } :: r, turn := true } : Qs).put c.n v v = ({ st with ring := { c with credit := cr - i.1, its := [j, (v, v)] } :: r, turn := true }, 0) := by
    unfold Qs.put
    rw [if_neg (by simp only; omega)]
    simp only [List.find?_cons, beq_self_eq_true]
    rw [if_neg (by simp [hf.1])]
    have := map_mid c.n (fun c => { c with its := c.its ++ [(v, v)] }) [] r { c with credit := cr - i.1, its := [j] } (by simp) hrn rfl
    simp only [List.nil_append] at this
    rw [this]
    simp
  rw [hput]
  have hwf2 := hwf'.put_mid (A := []) (B := r) (c := { c with credit := cr - i.1, its := [j] }) (x := v) rfl hv1 hv2 (by simp [hf.1])
  have hsame : ∀ y ∈ r, upd S c.n i.2 y.n = S y.n := fun y hy => by unfold upd; rw [if_neg (hrn y hy)]
  refine ⟨rfl, by simpa using hwf2, ⟨hf.1, ?_, ?_⟩, ?_, rfl, rfl⟩
  · intro x
    rw [← hf.2.1 x]
    exact (hp.map (·.n)).mem_iff
  · intro y hy
    rcases List.mem_cons.1 hy with rfl | hy
    · refine ⟨rfl, fun k hk => ?_⟩
      simp only [List.mem_cons, List.not_mem_nil, or_false] at hk
      rcases hk with rfl | rfl
      · exact h21 _ (by rw [hij]; simp)
      · rfl
    · exact hf.2.2 y (hrm y hy)
  · refine ⟨R, L1, L2, ⟨fun y hy => ?_, fun y hy => ?_⟩, ?_⟩
    · rw [hsame y (by rw [hr]; exact List.mem_append_left _ hy)]; exact hl.1 y hy
    · rw [hsame y (by rw [hr]; exact List.mem_append_right _ hy)]; exact hl.2 y hy
    · simp only [if_true]
      refine ⟨_, by rw [hr], ?_⟩
      show upd S c.n i.2 c.n + (cr - i.1) = _
      unfold upd
      rw [if_pos rfl]
      omega
theorem fair_step {st : Qs} {S : Int → Int} {N : Nat} (hN : 1 ≤ N) (hw : st.wf) (hf : Full st N) (h : FairI st S) :
    ∃ c w, st.next.2 = (c, w, true) ∧ 1 ≤ w ∧ w ≤ st.most ∧ 0 ≤ c ∧ c < (N : Int) ∧ ∀ v, 1 ≤ v → v ≤ st.most →
      (st.next.1.put c v v).2 = 0 ∧ (st.next.1.put c v v).1.wf ∧ Full (st.next.1.put c v v).1 N ∧ FairI (st.next.1.put c v v).1 (upd S c w) ∧ (st.next.1.put c v v).1.quantum = st.quantum ∧ (st.next.1.put c v v).1.most = st.most := by
  have hq := hw.qu; have hmo := hw.mo
  -- a state without a turn
  have off : ∀ st : Qs, st.wf → Full st N → FairI st S → st.turn = false → ∃ c w, st.next.2 = (c, w, true) ∧ 1 ≤ w ∧ w ≤ st.most ∧ 0 ≤ c ∧ c < (N : Int) ∧ ∀ v, 1 ≤ v → v ≤ st.most →
      (st.next.1.put c v v).2 = 0 ∧ (st.next.1.put c v v).1.wf ∧ Full (st.next.1.put c v v).1 N ∧ FairI (st.next.1.put c v v).1 (upd S c w) ∧ (st.next.1.put c v v).1.quantum = st.quantum ∧ (st.next.1.put c v v).1.most = st.most := by
    intro st hw hf h ht
    have hq := hw.qu; have hmo := hw.mo
    have hne : ∃ c, c ∈ st.ring := by
      obtain ⟨x, hx, _⟩ := List.mem_map.1 ((hf.2.1 0).2 ⟨by omega, by omega⟩)
      exact ⟨x, hx⟩
    -- R may be raised, if nobody has R
    obtain ⟨R, L1, L2, hl, hring⟩ : ∃ R L1 L2, FairL st.quantum R S L1 L2 ∧ st.ring = L1 ++ L2 ∧ L1 ≠ [] := by
      obtain ⟨R, L1, L2, hl, h3⟩ := h
      rw [ht] at h3
      simp only [Bool.false_eq_true, if_false] at h3
      by_cases h1 : L1 = []
      · subst h1
        refine ⟨R + 1, L2, [], ⟨hl.2, by simp⟩, by simpa using h3, ?_⟩
        rintro rfl
        obtain ⟨c, hc⟩ := hne
        rw [h3] at hc; simp at hc
      · exact ⟨R, L1, L2, hl, h3, h1⟩
    obtain ⟨hring, hL1⟩ := hring
    cases L1 with
    | nil => exact absurd rfl hL1
    | cons c L1 =>
      have hrest := hw.rest
      rw [ht] at hrest
      simp only [Bool.false_eq_true, if_false] at hrest
      have hcm : c ∈ st.ring := by rw [hring]; simp
      have hn : st.next = st.serve c (c.credit + st.quantum) (L1 ++ L2) := by
        unfold Qs.next; rw [hring]; simp [ht]
      rw [hn]
      have hi := hw.its c hcm
      have hfc : firstCost c ≤ st.most := by
        cases hi' : c.its with
        | nil => exact absurd hi' hi.1
        | cons i t => rw [firstCost_cons hi']; exact (hi.2.2 i (by rw [hi']; simp)).2
      have hlow := hw.low c hcm
      obtain ⟨w, h1, h2⟩ := fair_serve (S := S) (R := R) (L1 := L1) (L2 := L2) (c := c) (cr := c.credit + st.quantum) hw hf (by rw [hring]; exact List.Perm.refl _) rfl ⟨fun y hy => hl.1 y (List.mem_cons_of_mem _ hy), hl.2⟩
        (by have := hl.1 c (by simp); rw [Int.add_mul, Int.one_mul]; omega) (by omega) (by have := hrest c hcm; omega) (fun y hy => hrest y (by rw [hring]; exact List.mem_cons_of_mem _ hy))
      exact ⟨c.n, w, h1, h2⟩
  cases ht : st.turn with
  | false => exact off st hw hf h ht
  | true =>
    obtain ⟨R, L1, L2, hl, h3⟩ := h
    rw [ht] at h3
    simp only [if_true] at h3
    obtain ⟨c, hring, hs⟩ := h3
    have hcm : c ∈ st.ring := by rw [hring]; simp
    by_cases hle : firstCost c ≤ c.credit
    · have hn : st.next = st.serve c c.credit (L1 ++ L2) := by
        unfold Qs.next; rw [hring]; simp [ht, hle]
      rw [hn]
      have hrest := hw.rest
      rw [ht, hring] at hrest
      simp only [if_true, List.tail_cons] at hrest
      obtain ⟨w, h1, h2⟩ := fair_serve (S := S) (R := R) (L1 := L1) (L2 := L2) (c := c) (cr := c.credit) hw hf (by rw [hring]) rfl hl hs hle (hw.high c hcm) hrest
      exact ⟨c.n, w, h1, h2⟩
    · have hn := Qs.next_rot hw hring ht hle
      rw [← hn]
      have hp : (L1 ++ L2 ++ [c]).Perm st.ring := by rw [hring]; exact List.perm_append_singleton c (L1 ++ L2)
      have hmem : ∀ y, y ∈ L1 ++ L2 ++ [c] ↔ y ∈ st.ring := fun y => hp.mem_iff
      exact off (st.rot c (L1 ++ L2)) (hw.rot hring ht hle) ⟨hf.1, fun x => by rw [← hf.2.1 x]; exact (hp.map (·.n)).mem_iff, fun y hy => hf.2.2 y ((hmem y).1 hy)⟩
        ⟨R, L1, L2 ++ [c], ⟨hl.1, fun y hy => by
          rcases List.mem_append.1 hy with hy | hy
          · exact hl.2 y hy
          · obtain rfl : y = c := by simpa using hy
            exact hs⟩, by simp [Qs.rot]⟩ rfl
end Go.Proofs.Ytcpejmnmbioinaa
