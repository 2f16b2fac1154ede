/-
  package cache: a cache in memory; absent, within, of, until.
-/
import Derived.Test.YtlbhfnjhhpcphaaCP
import Derived.Test.YtlbhfnjhhpcphaaCK
import Derived.Test.YtlbhfnjhhpcphaaC3
namespace Go.Proofs.Ytlbhfnjhhpcphaa
open Go.RowKit
/-- A thing as it lies in memory: its element's block, its data's slice. -/
structure ElC where
  e : Nat
  th : Th
  ao : Option Addr
  cap : Nat
def setC (s : CSet) (ao : Option Addr) (cap : Nat) : List Value := [str s.name, .int .i64 s.typ, .int .i64 s.cls, .int .i64 s.ttl, .slice ao s.data.length cap]
def thV (x : ElC) : Value := match x.th.st with
  | none => .iface 82 (.agg #[.int .i64 x.th.fin])
  | some (s, r) => .iface 84 (.agg #[str s.name, .int .i64 s.typ, .int .i64 s.cls, .int .i64 s.ttl, .slice x.ao s.data.length x.cap, .int .i64 r, .int .i64 x.th.fin])
def entV (x : ElC) : Value := .agg #[str x.th.name, .int .i64 x.th.kind, thV x]
def valC (x : ElC) : Nat × Value := (x.e, .iface 93 (entV x))
/-- Texts that can be read, in blocks of D. -/
def RT (D : Nat → Prop) (w : World) (ao : Option Addr) (l : List Bs) : Prop :=
  ∀ j (h : j < l.length), ∃ g off cur, ao = some ⟨g, off, none⟩ ∧ D g ∧ w.heap[g]? = some (.cells cur 9 (0, 0)) ∧ cur[off + j]? = some (str l[j])
theorem RT.fr {D S : Nat → Prop} {w w' : World} {ao : Option Addr} {l : List Bs} (h : RT D w ao l) (hf : Fr S w w') (hS : ∀ k cur, D k → w.heap[k]? = some (.cells cur 9 (0, 0)) → ¬ S k) : RT D w' ao l := by
  intro j hj
  obtain ⟨g, off, cur, h1, h2, h3, h4⟩ := h j hj
  exact ⟨g, off, cur, h1, h2, hf.block _ _ h3 (hS g cur h2 h3), h4⟩
theorem RT.weak {D D' : Nat → Prop} {w : World} {ao : Option Addr} {l : List Bs} (h : RT D w ao l) (hD : ∀ k, k < w.heap.size → D k → D' k) : RT D' w ao l := by
  intro j hj
  obtain ⟨g, off, cur, h1, h2, h3, h4⟩ := h j hj
  exact ⟨g, off, cur, h1, hD g (lt_of_blk h3) h2, h3, h4⟩
theorem RT.strs {D : Nat → Prop} {w : World} {ao : Option Addr} {l : List Bs} (h : RT D w ao l) (cap : Nat) : IsStrs w (.slice ao l.length cap) l := by
  refine ⟨ao, cap, rfl, fun i hi => ?_⟩
  obtain ⟨g, off, cur, h1, h2, h3, h4⟩ := h i hi
  exact ⟨g, off, h1, (blk_cell h3 _).trans h4⟩
def DataAt (D : Nat → Prop) (w : World) (x : ElC) : Prop := ∀ s r, x.th.st = some (s, r) → RT D w x.ao s.data ∧ s.data.length ≤ x.cap
/-- What the map of a cache holds. -/
def atC (E : List ElC) (k : Bs × Int) : Option Value := (E.find? fun x => isK k.1 k.2 x.th).map fun x => Pt x.e
def headC (st : Ca) (bl mp : Nat) : Array Value := #[.int .i64 st.most, .int .i64 st.now, Pt bl, .map (some mp)]
/-- A cache's parts. -/
structure CI (D : Nat → Prop) (w : World) (c bl mp : Nat) (E : List ElC) (st : Ca) : Prop where
  head : w.heap[c]? = some (.cells (headC st bl mp) 34 (0, 0))
  ring : Ring w bl (E.map valC)
  map : MapF ckey w mp (atC E)
  data : ∀ x ∈ E, DataAt D w x
  st : st.L = E.map (·.th)
/-- Its blocks, but the data. -/
def OwnC (c bl mp : Nat) (E : List ElC) (k : Nat) : Prop := k = c ∨ k = mp ∨ RingB bl (E.map valC) k
/-- A cache: its blocks are among those of D. -/
def QC (D : Nat → Prop) (w : World) (c : Nat) (st : Ca) : Prop := st.wf ∧ ∃ bl mp E, CI D w c bl mp E st ∧ ∀ k, OwnC c bl mp E k → D k
theorem CI.lt {D : Nat → Prop} {w : World} {c bl mp : Nat} {E : List ElC} {st : Ca} (h : CI D w c bl mp E st) {k : Nat} (hk : OwnC c bl mp E k) : k < w.heap.size := by
  rcases hk with rfl | rfl | hk
  · exact lt_of_blk h.head
  · exact h.map.lt
  · exact h.ring.lt hk
theorem CI.fr {D S : Nat → Prop} {w w' : World} {c bl mp : Nat} {E : List ElC} {st : Ca} (h : CI D w c bl mp E st) (hf : Fr S w w') (hS : ∀ k, OwnC c bl mp E k → ¬ S k) (hD : ∀ k cur, D k → w.heap[k]? = some (.cells cur 9 (0, 0)) → ¬ S k) : CI D w' c bl mp E st :=
  ⟨hf.block _ _ h.head (hS c (.inl rfl)), h.ring.fr hf fun k hk => hS k (.inr (.inr hk)), h.map.fr hf (hS mp (.inr (.inl rfl))), fun x hx s r hs => ⟨((h.data x hx s r hs).1).fr hf hD, (h.data x hx s r hs).2⟩, h.st⟩
theorem QC.fr {D S : Nat → Prop} {w w' : World} {c : Nat} {st : Ca} (h : QC D w c st) (hf : Fr S w w') (hS : ∀ k, D k → ¬ S k) : QC D w' c st := by
  obtain ⟨hw, bl, mp, E, hC, hO⟩ := h
  exact ⟨hw, bl, mp, E, hC.fr hf (fun k hk => hS k (hO k hk)) (fun k _ hk _ => hS k hk), hO⟩
theorem QC.weak {D D' : Nat → Prop} {w : World} {c : Nat} {st : Ca} (h : QC D w c st) (hD : ∀ k, k < w.heap.size → D k → D' k) : QC D' w c st := by
  obtain ⟨hw, bl, mp, E, hC, hO⟩ := h
  exact ⟨hw, bl, mp, E, ⟨hC.head, hC.ring, hC.map, fun x hx s r hs => ⟨((hC.data x hx s r hs).1).weak hD, (hC.data x hx s r hs).2⟩, hC.st⟩, fun k hk => hD k (hC.lt hk) (hO k hk)⟩
theorem CI.cells {D : Nat → Prop} {w : World} {c bl mp : Nat} {E : List ElC} {st : Ca} (h : CI D w c bl mp E st) : w.cell? ⟨c, 0, none⟩ = some (.int .i64 st.most) ∧ w.cell? ⟨c, 1, none⟩ = some (.int .i64 st.now) ∧ w.cell? ⟨c, 2, none⟩ = some (.pointer (some ⟨bl, 0, none⟩)) ∧ w.cell? ⟨c, 3, none⟩ = some (.map (some mp)) :=
  ⟨blk_cell h.head 0, blk_cell h.head 1, blk_cell h.head 2, blk_cell h.head 3⟩
theorem absent_calls (c bl : Nat) (w : World) (h : w.cell? ⟨c, 2, none⟩ = some (.pointer (some ⟨bl, 0, none⟩))) :
    Calls Try.prog 33 #[.pointer (some ⟨c, 0, none⟩)] w fun r w' => r = .returned (.bool false) ∧ w = w' := by
  go_enter Try.func33, Try.ntmps33
  go_wp2
  go_ret
  exact ⟨rfl, rfl⟩
theorem absent_nil_calls (w : World) :
    Calls Try.prog 33 #[.pointer none] w fun r w' => r = .returned (.bool true) ∧ w = w' := by
  go_enter Try.func33, Try.ntmps33
  go_wp2
  go_ret
  exact ⟨rfl, rfl⟩
theorem absent_zero_calls (c : Nat) (w : World) (h : w.cell? ⟨c, 2, none⟩ = some (.pointer none)) :
    Calls Try.prog 33 #[.pointer (some ⟨c, 0, none⟩)] w fun r w' => r = .returned (.bool true) ∧ w = w' := by
  go_enter Try.func33, Try.ntmps33
  go_wp2
  go_ret
  exact ⟨rfl, rfl⟩
theorem within_calls (n : Int) (w : World) :
    Calls Try.prog 35 #[.int .i64 n] w fun r w' => r = .returned (.bool (decide (timeOk n))) ∧ w = w' := by
  by_cases h1 : 0 ≤ n
  · have d1 : decide (0 ≤ n) = true := decide_eq_true h1
    by_cases h2 : n ≤ 1099511627776
    · have d2 : decide (n ≤ 1099511627776) = true := decide_eq_true h2
      have HR := Ho.mk (decide_eq_true (show timeOk n from ⟨h1, h2⟩))
      clear h1 h2
      go_enter Try.func35, Try.ntmps35
      go_wp2
      go_ret
      exact ⟨by rw [HR.out]; rfl, rfl⟩
    · have d2 : decide (n ≤ 1099511627776) = false := decide_eq_false h2
      have HR := Ho.mk (decide_eq_false (fun h : timeOk n => h2 h.2))
      clear h1 h2
      go_enter Try.func35, Try.ntmps35
      go_wp2
      go_ret
      exact ⟨by rw [HR.out]; rfl, rfl⟩
  · have d1 : decide (0 ≤ n) = false := decide_eq_false h1
    have HR := Ho.mk (decide_eq_false (fun h : timeOk n => h1 h.1))
    clear h1
    go_enter Try.func35, Try.ntmps35
    go_wp2
    go_ret
    exact ⟨by rw [HR.out]; rfl, rfl⟩
theorem until_none_calls (n : Int) (w : World) :
    Calls Try.prog 87 #[.agg #[.int .i64 n]] w fun r w' => r = .returned (.int .i64 n) ∧ Fr nob w w' := by
  have hf := Ho.mk ((Fr.refl nob w).alloc (.cells #[.int .i64 n] 82))
  go_enter Try.func87, Try.ntmps87
  go_wp2
  go_ret
  exact ⟨rfl, hf.out⟩
theorem until_known_calls (a b c d e r n : Value) (w : World) (m : Int) (hn : n = .int .i64 m) (h : ∀ v ∈ [a, b, c, d, e, r], v.oneCell' = true) :
    Calls Try.prog 88 #[.agg #[a, b, c, d, e, r, n]] w fun x w' => x = .returned (.int .i64 m) ∧ Fr nob w w' := by
  subst hn
  have hf := Ho.mk ((Fr.refl nob w).alloc (.cells #[a, b, c, d, e, r, .int .i64 m] 84))
  go_enter Try.func88, Try.ntmps88
  go_wp2
  go_ret
  exact ⟨rfl, hf.out⟩
end Go.Proofs.Ytlbhfnjhhpcphaa
