/-
  package cache, plain: what its functions compute.
-/
import Derived.Test.YtlbhfnjhhpcphaaELc
namespace Go.Proofs.Ytlbhfnjhhpcphaa
/-- A set. -/
structure CSet where
  name : Bs
  typ : Int
  cls : Int
  ttl : Int
  data : List Bs
/-- A thing that is kept: its name's lower form, its type, its end, its set with a rank (none: there is nothing). -/
structure Th where
  name : Bs
  kind : Int
  fin : Int
  st : Option (CSet × Int)
/-- A cache: that which was used longest ago first. -/
structure Ca where
  most : Int
  now : Int
  L : List Th
/-- What is found. -/
structure Fd where
  kind : Int
  set : CSet
  ttl : Int
def CSet.zero : CSet := ⟨[], 0, 0, 0, []⟩
def Fd.zero : Fd := ⟨0, CSet.zero, 0⟩
def Th.key (t : Th) : Bs × Int := (t.name, t.kind)
def isK (n : Bs) (k : Int) (t : Th) : Bool := t.name == n && t.kind == k
theorem isK_iff {n : Bs} {k : Int} {t : Th} : isK n k t = true ↔ t.key = (n, k) := by simp [isK, Th.key]
/-- The thing of a key goes. -/
def outL (L : List Th) (n : Bs) (k : Int) : List Th := L.filter fun t => !isK n k t
def Ca.find (c : Ca) (n : Bs) (k : Int) : Option Th := c.L.find? (isK n k)
/-- A thing is kept in the place of what there is. -/
def Ca.putT (c : Ca) (x : Th) : Ca :=
  { c with L := if c.most < ((outL c.L x.name x.kind ++ [x]).length : Int) then (outL c.L x.name x.kind ++ [x]).tail else outL c.L x.name x.kind ++ [x] }
structure CSet.ok (s : CSet) : Prop where
  name : (labels s.name).2 = 0
  typ : 0 ≤ s.typ ∧ s.typ ≤ 65535
  cls : 0 ≤ s.cls ∧ s.cls ≤ 65535
  ttl : 0 ≤ s.ttl ∧ s.ttl < 2147483648
  len : 1 ≤ s.data.length ∧ s.data.length ≤ 64
  each : ∀ d ∈ s.data, d.length ≤ 65535
  apart : s.data.Nodup
def timeOk (n : Int) : Prop := 0 ≤ n ∧ n ≤ 1099511627776
instance (n : Int) : Decidable (timeOk n) := by unfold timeOk; infer_instance
def Ca.to (c : Ca) (now : Int) : Ca := { c with now := max c.now now }
def Ca.live (c : Ca) (n : Bs) (k : Int) : Option Th := (c.find n k).filter fun t => decide (c.now < t.fin)
def Th.blocks (t : Th) (rank : Int) : Bool := match t.st with | none => true | some (_, r) => decide (rank < r)
structure putOk (s : CSet) (rank now : Int) : Prop where
  set : s.ok
  cls : s.cls = 1
  typ : s.typ ≠ 0
  rank : 1 ≤ rank ∧ rank ≤ 3
  time : timeOk now
open Classical in
/-- PutSet. -/
noncomputable def Ca.putSet (c : Ca) (s : CSet) (rank now : Int) : Ca × Bool × Int :=
  if ¬ putOk s rank now then (c, false, 2)
  else if s.ttl = 0 then (c.to now, false, 0)
  else if rank < 3 ∧ ((c.to now).live (low s.name) s.typ).any (·.blocks rank) = true then (c.to now, false, 0)
  else ((if rank < 3 then c.to now else { c.to now with L := outL c.L (low s.name) 0 }).putT ⟨low s.name, s.typ, (c.to now).now + s.ttl, some (s, rank)⟩, true, 0)
def noneOk (n : Bs) (kind ttl now : Int) : Prop := (labels n).2 = 0 ∧ (0 ≤ kind ∧ kind ≤ 65535) ∧ (0 ≤ ttl ∧ ttl < 2147483648) ∧ timeOk now
instance (n : Bs) (a b c : Int) : Decidable (noneOk n a b c) := by unfold noneOk; infer_instance
/-- PutNone. -/
def Ca.putNone (c : Ca) (n : Bs) (kind ttl now : Int) : Ca × Bool × Int :=
  if ¬ noneOk n kind ttl now then (c, false, 2)
  else if ttl = 0 then (c.to now, false, 0)
  else ((if kind = 0 then { c.to now with L := c.L.filter fun t => t.name != low n } else c.to now).putT ⟨low n, kind, (c.to now).now + ttl, none⟩, true, 0)
/-- What a thing tells. -/
def Th.found (t : Th) (now : Int) : Fd := match t.st with
  | some (s, _) => ⟨1, { s with ttl := t.fin - now }, t.fin - now⟩
  | none => ⟨if t.kind = 0 then 3 else 2, CSet.zero, t.fin - now⟩
def Ca.use (c : Ca) (t : Th) : Ca × Fd := ({ c with L := outL c.L t.name t.kind ++ [t] }, t.found c.now)
def Th.serves (t : Th) (rank : Int) : Bool := match t.st with | none => true | some (_, r) => decide (rank ≤ r)
/-- Get. -/
def Ca.get (c : Ca) (n : Bs) (kind rank now : Int) : Ca × Fd :=
  if ¬ ((labels n).2 = 0 ∧ timeOk now) then (c, Fd.zero)
  else match ((c.to now).live (low n) kind).filter (·.serves rank) with
    | some t => (c.to now).use t
    | none => match (c.to now).live (low n) 0 with
      | some t => (c.to now).use t
      | none => (c.to now, Fd.zero)
/-- Sweep. -/
def Ca.sweep (c : Ca) (now : Int) : Ca × Int :=
  if ¬ timeOk now then (c, 0)
  else ({ c.to now with L := c.L.filter fun t => decide ((c.to now).now < t.fin) }, ((c.L.filter fun t => decide (t.fin ≤ (c.to now).now)).length : Int))
def Ca.has (c : Ca) (n : Bs) (k : Int) : Bool := (c.find (low n) k).isSome
def Ca.new (most : Int) : Ca := ⟨most, 0, []⟩
/-- What always holds of a thing. -/
structure Th.wf (t : Th) (now : Int) : Prop where
  fin : 1 ≤ t.fin ∧ t.fin ≤ now + 2147483648
  kind : 0 ≤ t.kind ∧ t.kind ≤ 65535
  name : t.name.length ≤ 255
  set : ∀ s r, t.st = some (s, r) → s.ok ∧ s.typ = t.kind ∧ low s.name = t.name ∧ 1 ≤ r ∧ r ≤ 3 ∧ t.kind ≠ 0
/-- What always holds of a cache. -/
structure Ca.wf (c : Ca) : Prop where
  most : 1 ≤ c.most ∧ c.most ≤ 4096
  now : 0 ≤ c.now ∧ c.now ≤ 1099511627776
  len : (c.L.length : Int) ≤ c.most
  keys : (c.L.map Th.key).Nodup
  each : ∀ t ∈ c.L, t.wf c.now
theorem outL_keys {L : List Th} (h : (L.map Th.key).Nodup) (n : Bs) (k : Int) : ((outL L n k).map Th.key).Nodup := h.sublist (List.filter_sublist.map _)
theorem outL_not {L : List Th} {n : Bs} {k : Int} {t : Th} (h : t ∈ outL L n k) : t ∈ L ∧ t.key ≠ (n, k) := by
  obtain ⟨h1, h2⟩ := List.mem_filter.1 h
  refine ⟨h1, fun e => ?_⟩
  rw [isK_iff.2 e] at h2; simp at h2
theorem outL_len (L : List Th) (n : Bs) (k : Int) : (outL L n k).length ≤ L.length := List.length_filter_le _ _
theorem outL_mid {A B : List Th} {x : Th} (hA : ∀ t ∈ A, t.key ≠ x.key) (hB : ∀ t ∈ B, t.key ≠ x.key) : outL (A ++ x :: B) x.name x.kind = A ++ B := by
  have hf : ∀ L : List Th, (∀ t ∈ L, t.key ≠ x.key) → outL L x.name x.kind = L := fun L h => List.filter_eq_self.2 fun t ht => by
    cases he : isK x.name x.kind t with
    | false => rfl
    | true => exact absurd (isK_iff.1 he) (h t ht)
  unfold outL at *
  rw [List.filter_append, List.filter_cons_of_neg (by simp [isK_iff, Th.key]), hf A hA, hf B hB]
theorem outL_none {L : List Th} {n : Bs} {k : Int} (h : ∀ t ∈ L, t.key ≠ (n, k)) : outL L n k = L := List.filter_eq_self.2 fun t ht => by
  cases he : isK n k t with
  | false => rfl
  | true => exact absurd (isK_iff.1 he) (h t ht)
theorem Ca.wf.to {c : Ca} (h : c.wf) {now : Int} (ht : timeOk now) : (c.to now).wf := by
  have h1 := h.now
  refine ⟨h.most, ?_, h.len, h.keys, fun t ht => ?_⟩
  · show 0 ≤ max c.now now ∧ max c.now now ≤ _
    unfold timeOk at ht; omega
  · have h2 := h.each t ht
    refine ⟨⟨h2.fin.1, ?_⟩, h2.kind, h2.name, h2.set⟩
    have h3 := h2.fin.2
    show t.fin ≤ max c.now now + _
    omega
theorem Ca.wf.sub {c : Ca} (h : c.wf) {L : List Th} (hs : L.Sublist c.L) : ({ c with L := L } : Ca).wf :=
  ⟨h.most, h.now, by have h1 := h.len; have h2 := hs.length_le; show (L.length : Int) ≤ c.most; omega, h.keys.sublist (hs.map _), fun t ht => h.each t (hs.subset ht)⟩
theorem Ca.wf.putT {c : Ca} (h : c.wf) {x : Th} (hx : x.wf c.now) : (c.putT x).wf := by
  have hk : ((outL c.L x.name x.kind ++ [x]).map Th.key).Nodup := by
    rw [List.map_append, List.nodup_append]
    refine ⟨outL_keys h.keys _ _, by simp, fun a ha b hb => ?_⟩
    obtain ⟨t, ht, rfl⟩ := List.mem_map.1 ha
    simp at hb; subst hb
    exact (outL_not ht).2
  have he : ∀ t ∈ outL c.L x.name x.kind ++ [x], t.wf c.now := fun t ht => by
    rcases List.mem_append.1 ht with ht | ht
    · exact h.each t (outL_not ht).1
    · simp at ht; subst ht; exact hx
  have hl := outL_len c.L x.name x.kind
  have hlen := h.len
  unfold Ca.putT
  by_cases hm : c.most < ((outL c.L x.name x.kind ++ [x]).length : Int)
  · rw [if_pos hm]
    refine ⟨h.most, h.now, ?_, hk.sublist ((List.tail_sublist _).map _), fun t ht => he t (List.mem_of_mem_tail ht)⟩
    show ((outL c.L x.name x.kind ++ [x]).tail.length : Int) ≤ c.most
    rw [List.length_tail, List.length_append, List.length_singleton]; omega
  · rw [if_neg hm]
    exact ⟨h.most, h.now, by show ((outL c.L x.name x.kind ++ [x]).length : Int) ≤ c.most; omega, hk, he⟩
theorem Ca.find_some {c : Ca} {n : Bs} {k : Int} {t : Th} (h : c.find n k = some t) : t ∈ c.L ∧ t.key = (n, k) :=
  ⟨List.mem_of_find?_eq_some h, isK_iff.1 (List.find?_some (p := isK n k) h)⟩
theorem Ca.find_none {c : Ca} {n : Bs} {k : Int} (h : c.find n k = none) : ∀ t ∈ c.L, t.key ≠ (n, k) := fun t ht e => by
  have := List.find?_eq_none.1 h t ht
  rw [isK_iff.2 e] at this; simp at this
theorem Ca.find_split {c : Ca} (hk : (c.L.map Th.key).Nodup) {n : Bs} {k : Int} {t : Th} (h : c.find n k = some t) : ∃ A B, c.L = A ++ t :: B ∧ (∀ x ∈ A, x.key ≠ t.key) ∧ (∀ x ∈ B, x.key ≠ t.key) := by
  obtain ⟨A, B, he⟩ := List.append_of_mem (Ca.find_some h).1
  rw [he, List.map_append, List.map_cons, List.nodup_append, List.nodup_cons] at hk
  exact ⟨A, B, he, fun x hx e => hk.2.2 _ (List.mem_map_of_mem hx) _ (by simp) e, fun x hx e => hk.2.1.1 (e ▸ List.mem_map_of_mem hx)⟩
theorem Ca.wf.use {c : Ca} (h : c.wf) {t : Th} (ht : t ∈ c.L) : (c.use t).1.wf := by
  have hk : ((outL c.L t.name t.kind ++ [t]).map Th.key).Nodup := by
    rw [List.map_append, List.nodup_append]
    refine ⟨outL_keys h.keys _ _, by simp, fun a ha b hb => ?_⟩
    obtain ⟨x, hx, rfl⟩ := List.mem_map.1 ha
    simp at hb; subst hb
    exact (outL_not hx).2
  have hl : (outL c.L t.name t.kind).length < c.L.length := by
    unfold outL
    refine List.length_filter_lt_length_iff_exists.2 ⟨t, ht, by simp [isK_iff, Th.key]⟩
  refine ⟨h.most, h.now, ?_, hk, fun x hx => ?_⟩
  · show ((outL c.L t.name t.kind ++ [t]).length : Int) ≤ c.most
    have := h.len
    rw [List.length_append, List.length_singleton]; omega
  · rcases List.mem_append.1 hx with hx | hx
    · exact h.each x (outL_not hx).1
    · simp at hx; subst hx; exact h.each x ht
end Go.Proofs.Ytlbhfnjhhpcphaa
