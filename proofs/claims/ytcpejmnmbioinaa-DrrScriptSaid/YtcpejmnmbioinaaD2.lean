/-
  package drr: a scheduler in memory; of, none, Put.
-/
import Derived.Test.YtcpejmnmbioinaaD0
import Derived.Test.YtcpejmnmbioinaaD1
namespace Go.Proofs.Ytcpejmnmbioinaa
open Go.RowKit
/-- A client as it lies in memory: its element's block, its own block, its items' slice. -/
structure El where
  e : Nat
  c : Nat
  ao : Option Addr
  cap : Nat
  cl : Cl
def valE (x : El) : Nat × Value := (x.e, .iface 60 (Pt x.c))
def ClAt (w : World) (x : El) : Prop :=
  w.heap[x.c]? = some (.cells #[.int .i64 x.cl.n, .int .i64 x.cl.credit, .slice x.ao x.cl.its.length x.cap] 63 (0, 0)) ∧ IR w x.ao x.cap x.cl.its
def ikey (n : Int) : Value := .int .i64 n
theorem ikeys : KLaw Try.prog 3 ikey := int_klaw Try.underlying3
/-- What the map of a scheduler holds. -/
def atE (E : List El) (n : Int) : Option Value := (E.find? fun x => x.cl.n == n).map fun x => Pt x.e
def headCells (st : Qs) (bl mp : Nat) (len : Int) : Array Value := #[.int .i64 st.clients, .int .i64 st.items, .int .i64 st.quantum, .int .i64 st.most, Pt bl, .map (some mp), .bool st.turn, .int .i64 len]
def apart (x y : El) : Prop := x.c ≠ y.c ∧ ∀ k, inB x.ao k → ¬ inB y.ao k
/-- A scheduler's parts. -/
structure QI (w : World) (q bl mp : Nat) (E : List El) (st : Qs) : Prop where
  head : w.heap[q]? = some (.cells (headCells st bl mp (total st.ring : Nat)) 52 (0, 0))
  ring : Ring w bl (E.map valE)
  cls : ∀ x ∈ E, ClAt w x
  map : MapF ikey w mp (atE E)
  apart : E.Pairwise apart
  st : st.ring = E.map (·.cl)
/-- Its blocks. -/
def Own (q bl mp : Nat) (E : List El) (k : Nat) : Prop := k = q ∨ k = mp ∨ RingB bl (E.map valE) k ∨ ∃ x ∈ E, k = x.c ∨ inB x.ao k
/-- A scheduler: its blocks are among those of D. -/
def QS (D : Nat → Prop) (w : World) (q : Nat) (st : Qs) : Prop := st.wf ∧ ∃ bl mp E, QI w q bl mp E st ∧ ∀ k, Own q bl mp E k → D k
theorem ClAt.fr {w w' : World} {x : El} {S : Nat → Prop} (h : ClAt w x) (hf : Fr S w w') (hc : ¬ S x.c) (hS : ∀ k, inB x.ao k → ¬ S k) : ClAt w' x := ⟨hf.block _ _ h.1 hc, h.2.fr hf hS⟩
theorem QI.fr {w w' : World} {q bl mp : Nat} {E : List El} {st : Qs} {S : Nat → Prop} (h : QI w q bl mp E st) (hf : Fr S w w') (hS : ∀ k, Own q bl mp E k → ¬ S k) : QI w' q bl mp E st := by
  refine ⟨hf.block _ _ h.head (hS q (.inl rfl)), h.ring.fr hf fun k hk => hS k (.inr (.inr (.inl hk))), fun x hx => (h.cls x hx).fr hf (hS _ (.inr (.inr (.inr ⟨x, hx, .inl rfl⟩)))) fun k hk => hS k (.inr (.inr (.inr ⟨x, hx, .inr hk⟩))), h.map.fr hf (hS mp (.inr (.inl rfl))), h.apart, h.st⟩
/-- What a block of a scheduler is. -/
theorem QI.kinds {w : World} {q bl mp : Nat} {E : List El} {st : Qs} (h : QI w q bl mp E st) :
    (∃ cs, w.heap[q]? = some (.cells cs 52 (0, 0))) ∧ (∃ es c, w.heap[mp]? = some (.map es c)) ∧ (∃ cs, w.heap[bl]? = some (.cells cs 81 (0, 0))) ∧
    (∀ x ∈ E, (∃ cs, w.heap[x.e]? = some (.cells cs 79 (0, 0))) ∧ (∃ cs, w.heap[x.c]? = some (.cells cs 63 (0, 0))) ∧ ∀ k, inB x.ao k → ∃ cs, w.heap[k]? = some (.cells cs 66 (0, 0))) := by
  refine ⟨⟨_, h.head⟩, ?_, ?_, fun x hx => ⟨?_, ⟨_, (h.cls x hx).1⟩, fun k hk => (h.cls x hx).2.lt hk⟩⟩
  · obtain ⟨es, c, h1, _⟩ := h.map; exact ⟨es, c, h1⟩
  · obtain ⟨a, b, h1⟩ := h.ring.root; exact ⟨_, h1⟩
  · obtain ⟨a, b, h1⟩ := h.ring.node (valE x) (List.mem_map_of_mem hx); exact ⟨_, h1⟩
theorem QI.lt {w : World} {q bl mp : Nat} {E : List El} {st : Qs} (h : QI w q bl mp E st) {k : Nat} (hk : Own q bl mp E k) : k < w.heap.size := by
  rcases hk with rfl | rfl | hk | ⟨x, hx, rfl | hk⟩
  · exact lt_of_blk h.head
  · exact h.map.lt
  · exact h.ring.lt hk
  · exact lt_of_blk (h.cls x hx).1
  · obtain ⟨cs, h1⟩ := (h.cls x hx).2.lt hk; exact lt_of_blk h1
theorem run_isClient (v : Value) (w : World) : (Instr.typeAssert (.iface 60 v) 20 60 true).run Try.prog w = .ok (.tuple #[v, .bool true]) w := by
  simp [Instr.typeAssert, run_underlying Try.underlying60]
theorem of_calls (e c : Nat) (w : World) (a b y : Value) (h : w.heap[e]? = some (.cells #[.iface 60 (Pt c), a, b, y] 79 (0, 0))) :
    Calls Try.prog 34 #[.pointer (some ⟨e, 0, none⟩)] w fun r w' => r = .returned (Pt c) ∧ w' = w := by
  have q0 : w.cell? ⟨e, 0, none⟩ = some (.iface 60 (.pointer (some ⟨c, 0, none⟩))) := blk_cell h 0
  have ht := run_isClient (.pointer (some ⟨c, 0, none⟩)) w
  clear h
  go_enter Try.func34, Try.ntmps34
  go_wp2
  go_ret
  exact ⟨rfl, rfl⟩
theorem none_calls (q bl : Nat) (w : World) (h : w.cell? ⟨q, 4, none⟩ = some (.pointer (some ⟨bl, 0, none⟩))) :
    Calls Try.prog 31 #[.pointer (some ⟨q, 0, none⟩)] w fun r w' => r = .returned (.bool false) ∧ w' = w := by
  go_enter Try.func31, Try.ntmps31
  go_wp2
  go_ret
  exact ⟨rfl, rfl⟩
theorem none_nil_calls (w : World) :
    Calls Try.prog 31 #[.pointer none] w fun r w' => r = .returned (.bool true) ∧ w' = w := by
  go_enter Try.func31, Try.ntmps31
  go_wp2
  go_ret
  exact ⟨rfl, rfl⟩
end Go.Proofs.Ytcpejmnmbioinaa
