/-
  DrrFair, plain: the first items.
-/
import Derived.Test.YtcpejmnmbioinaaDF
namespace Go.Proofs.Ytcpejmnmbioinaa
theorem Qs.put_params (st : Qs) (n c x : Int) : (st.put n c x).1.clients = st.clients ∧ (st.put n c x).1.items = st.items ∧ (st.put n c x).1.quantum = st.quantum ∧ (st.put n c x).1.most = st.most ∧ (st.put n c x).1.turn = st.turn := by
  unfold Qs.put
  split
  · simp
  · split <;> split <;> simp
def FillL (L : List Cl) (c : Nat) : Prop := L.map (·.n) = (List.range c).map Int.ofNat ∧ ∀ x ∈ L, x.credit = 0 ∧ x.its.length = 2 ∧ ∀ i ∈ x.its, i.2 = i.1
structure FillP (st : Qs) (N : Nat) (q m : Int) : Prop where
  items : st.items = 2
  clients : st.clients = N
  turn : st.turn = false
  quantum : st.quantum = q
  most : st.most = m
def FillA (st : Qs) (N : Nat) (q m : Int) (c : Nat) : Prop := FillP st N q m ∧ FillL st.ring c
def FillB (st : Qs) (N : Nat) (q m : Int) (c : Nat) : Prop := FillP st N q m ∧ ∃ L w, FillL L c ∧ st.ring = L ++ [⟨c, 0, [(w, w)]⟩]
theorem FillP.put {st : Qs} {N : Nat} {q m : Int} (h : FillP st N q m) (n c x : Int) : FillP (st.put n c x).1 N q m := by
  obtain ⟨h1, h2, h3, h4, h5⟩ := st.put_params n c x
  exact ⟨h2.trans h.items, h1.trans h.clients, h5.trans h.turn, h3.trans h.quantum, h4.trans h.most⟩
theorem FillL.out {L : List Cl} {c : Nat} (h : FillL L c) : ∀ x ∈ L, x.n ≠ (c : Int) := by
  intro x hx e
  have h1 : x.n ∈ L.map (·.n) := List.mem_map_of_mem hx
  rw [h.1] at h1
  obtain ⟨i, hi, hi2⟩ := List.mem_map.1 h1
  have h5 := List.mem_range.1 hi
  rw [e] at hi2
  have := Int.ofNat.inj hi2
  omega
theorem FillL.len {L : List Cl} {c : Nat} (h : FillL L c) : L.length = c := by
  have := congrArg List.length h.1; simpa using this
theorem find_none {L : List Cl} {c : Int} (h : ∀ x ∈ L, x.n ≠ c) : L.find? (fun x => x.n == c) = none := by
  rw [List.find?_eq_none]; intro x hx; simpa using h x hx
theorem fill0 {st : Qs} {N c : Nat} {q m v : Int} (h : FillA st N q m c) (hc : c < N) (h1 : 1 ≤ v) (h2 : v ≤ m) : (st.put c v v).2 = 0 ∧ FillB (st.put c v v).1 N q m c := by
  obtain ⟨hp, hl⟩ := h
  have he : st.put c v v = ({ st with ring := st.ring ++ [⟨c, 0, [(v, v)]⟩] }, 0) := by
    unfold Qs.put
    rw [if_neg (by rw [hp.most]; omega), find_none hl.out]
    simp only
    rw [if_neg (by rw [hp.clients, hl.len]; omega)]
  refine ⟨by rw [he], hp.put _ _ _, st.ring, v, hl, ?_⟩
  rw [he]
theorem fill1 {st : Qs} {N c : Nat} {q m v : Int} (h : FillB st N q m c) (h1 : 1 ≤ v) (h2 : v ≤ m) : (st.put c v v).2 = 0 ∧ FillA (st.put c v v).1 N q m (c + 1) := by
  obtain ⟨hp, L, w, hl, hr⟩ := h
  have hf : st.ring.find? (fun x => x.n == (c : Int)) = some ⟨c, 0, [(w, w)]⟩ := by
    rw [hr, List.find?_append, find_none hl.out]; simp
  have he : st.put c v v = ({ st with ring := L ++ [⟨c, 0, [(w, w), (v, v)]⟩] }, 0) := by
    unfold Qs.put
    rw [if_neg (by rw [hp.most]; omega), hf]
    simp only
    rw [if_neg (by rw [hp.items]; simp), hr, map_mid (c : Int) (fun c => { c with its := c.its ++ [(v, v)] }) L [] _ hl.out (by simp) rfl]
    simp
  refine ⟨by rw [he], hp.put _ _ _, ?_⟩
  rw [he]
  refine ⟨?_, ?_⟩
  · simp only [List.map_append, List.map_cons, List.map_nil, hl.1, List.range_succ]
    rfl
  · intro x hx
    rcases List.mem_append.1 hx with hx | hx
    · exact hl.2 x hx
    · obtain rfl : x = _ := by simpa using hx
      exact ⟨rfl, rfl, fun i hi => by simp at hi; rcases hi with rfl | rfl <;> rfl⟩
theorem fill_new (N : Nat) (q m : Int) : FillA (Qs.mk N 2 q m [] false) N q m 0 := ⟨⟨rfl, rfl, rfl, rfl, rfl⟩, rfl, by simp⟩
theorem fill_end {st : Qs} {N : Nat} {q m : Int} (h : FillA st N q m N) : Full st N ∧ FairI st (fun _ => 0) := by
  obtain ⟨hp, hl⟩ := h
  refine ⟨⟨hp.items, fun c => ?_, fun x hx => (hl.2 x hx).2⟩, 0, st.ring, [], ⟨fun x hx => ?_, by simp⟩, ?_⟩
  · rw [hl.1, List.mem_map]
    constructor
    · rintro ⟨i, hi, rfl⟩; have := List.mem_range.1 hi; exact ⟨Int.natCast_nonneg i, Int.ofNat_lt.2 this⟩
    · rintro ⟨h1, h2⟩; exact ⟨c.toNat, List.mem_range.2 (by omega), Int.toNat_of_nonneg h1⟩
  · rw [(hl.2 x hx).1]; simp
  · rw [hp.turn]; simp
end Go.Proofs.Ytcpejmnmbioinaa
