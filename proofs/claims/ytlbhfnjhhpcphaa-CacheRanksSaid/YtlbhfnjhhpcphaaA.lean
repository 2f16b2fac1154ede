/-
  General lemmas on worlds: what a call may have changed (Fr), blocks known whole, cells behind stores. No program.
-/
import Derived.WalkKit
import Derived.BigQuiet
import Derived.BigRegion
import Derived.Deep.QuietTactic
import Derived.Deep.Draws
import Derived.Outline
import Derived.WalkLawsBesides
import Derived.WalkSpells
import Derived.StillTailTactics
import Derived.Deep.LoopGhost
import Derived.Deep.DeepCutAuto
import Derived.Deep.CutBlock
import Derived.Deep.RegionWith
import Derived.Deep.RegionHeld3
import Derived.Laws.Rows
import Derived.Laws.Tables
namespace Go.Proofs.Ytlbhfnjhhpcphaa
open Go.RowKit
/-- A fact kept from the walk. -/
structure Ho (p : Prop) : Prop where
  out : p
/-- Outside the blocks S the world w' is as w was; it may have more blocks. -/
structure Fr (S : Nat → Prop) (w w' : World) : Prop where
  os : w'.os = w.os
  tape : w'.tape = w.tape
  output : w'.output = w.output
  size : w.heap.size ≤ w'.heap.size
  block : ∀ k o, w.heap[k]? = some o → ¬ S k → w'.heap[k]? = some o
def nob : Nat → Prop := fun _ => False
theorem lt_of_blk {w : World} {k : Nat} {o : Obj} (h : w.heap[k]? = some o) : k < w.heap.size := (Array.getElem?_eq_some_iff.1 h).1
theorem Fr.refl (S : Nat → Prop) (w : World) : Fr S w w := ⟨rfl, rfl, rfl, Nat.le_refl _, fun _ _ h _ => h⟩
theorem Fr.trans {S : Nat → Prop} {a b c : World} (h : Fr S a b) (k : Fr S b c) : Fr S a c :=
  ⟨k.os.trans h.os, k.tape.trans h.tape, k.output.trans h.output, Nat.le_trans h.size k.size, fun i o hi hs => k.block i o (h.block i o hi hs) hs⟩
theorem Fr.mono {S S' : Nat → Prop} {a b : World} (h : Fr S a b) (hs : ∀ k, k < a.heap.size → S k → S' k) : Fr S' a b :=
  ⟨h.os, h.tape, h.output, h.size, fun i o hi hn => h.block i o hi fun h' => hn (hs i (lt_of_blk hi) h')⟩
theorem Fr.drewN {S : Nat → Prop} {a b : World} (h : Fr S a b) (n : Nat) : Fr S a (b.drewN n) := ⟨h.os, h.tape, h.output, h.size, h.block⟩
theorem Fr.drew {S : Nat → Prop} {a b : World} (h : Fr S a b) : Fr S a b.drew := ⟨h.os, h.tape, h.output, h.size, h.block⟩
theorem Fr.alloc {S : Nat → Prop} {a b : World} (h : Fr S a b) (o : Obj) : Fr S a (b.alloc o) :=
  ⟨h.os, h.tape, h.output, by have := h.size; simp; omega, fun i x hi hs => by
    have h1 := h.block i x hi hs
    exact (Below.heap_alloc b o i (lt_of_blk h1)).trans h1⟩
theorem Fr.set {S : Nat → Prop} {a b : World} (h : Fr S a b) {p : Addr} (hp : a.heap.size ≤ p.block ∨ S p.block) (v : Value) : Fr S a (b.setCell p v) :=
  ⟨h.os, h.tape, h.output, by have := h.size; simpa [World.setCell] using this, fun i x hi hs => by
    have hlt := lt_of_blk hi
    rw [Below.heap_setCell b p v i (by rintro rfl; exact hp.elim (fun h1 => by omega) (fun h1 => hs h1))]
    exact h.block i x hi hs⟩
theorem Fr.setObj {S : Nat → Prop} {a b : World} (h : Fr S a b) {r : Nat} (hp : a.heap.size ≤ r ∨ S r) (v : Obj) : Fr S a { b with heap := b.heap.setIfInBounds r v } :=
  ⟨h.os, h.tape, h.output, by have := h.size; simpa using this, fun i x hi hs => by
    have hlt := lt_of_blk hi
    show (b.heap.setIfInBounds r v)[i]? = _
    rw [Array.getElem?_setIfInBounds_ne (by rintro rfl; exact hp.elim (fun h1 => by omega) (fun h1 => hs h1))]
    exact h.block i x hi hs⟩
theorem Fr.grown {S : Nat → Prop} {a b c : World} {row : Option Nat} (h : Fr S a b) (hg : b.grownBy c row) (hr : ∀ k, row = some k → a.heap.size ≤ k ∨ S k) : Fr S a c :=
  ⟨hg.os.trans h.os, hg.tape.trans h.tape, hg.output.trans h.output, Nat.le_trans h.size hg.size, fun i x hi hs => by
    have h1 := h.block i x hi hs
    rw [hg.block i (lt_of_blk h1) (by intro e; have := lt_of_blk hi; exact (hr i e.symm).elim (fun h2 => by omega) (fun h2 => hs h2))]
    exact h1⟩
/-- Behind a call whose own frame is known. -/
theorem Fr.call {S S' : Nat → Prop} {a b c : World} (h : Fr S a b) (k : Fr S' b c) (hs : ∀ i, i < b.heap.size → S' i → a.heap.size ≤ i ∨ S i) : Fr S a c :=
  ⟨k.os.trans h.os, k.tape.trans h.tape, k.output.trans h.output, Nat.le_trans h.size k.size, fun i x hi hn => by
    have h1 := h.block i x hi hn
    exact k.block i x h1 fun h2 => by
      have := lt_of_blk hi
      rcases hs i (lt_of_blk h1) h2 with h3 | h3
      · omega
      · exact hn h3⟩
theorem Fr.below {S : Nat → Prop} {B : Nat} {w w' : World} (h : Fr S w w') (hs : ∀ k, S k → B ≤ k) (hB : B ≤ w.heap.size) : Below B w w' :=
  ⟨h.os, h.tape, h.output, h.size, fun k hk => by
    have hlt : k < w.heap.size := by omega
    obtain ⟨o, ho⟩ : ∃ o, w.heap[k]? = some o := ⟨_, Array.getElem?_eq_getElem hlt⟩
    rw [ho]; exact h.block k o ho fun h2 => by have := hs k h2; omega⟩
theorem Fr.of_below {B : Nat} {w w' : World} (h : Below B w w') : Fr (fun k => B ≤ k) w w' :=
  ⟨h.os, h.tape, h.output, h.size, fun k o hk hn => (h.block k (by omega)).trans hk⟩
theorem Fr.none_below {w w' : World} (h : Fr nob w w') : Below w.heap.size w w' := h.below (fun _ h => h.elim) (Nat.le_refl _)
/-- A cell of a block that is known whole. -/
theorem blk_cell {W : World} {g : Nat} {cs : Array Value} {t : TypeId} {fr : Nat × Nat} (h : W.heap[g]? = some (.cells cs t fr)) (o : Nat) : W.cell? ⟨g, o, none⟩ = cs[o]? := by
  simp [World.cell?, h]
theorem blk_free {W : World} {g : Nat} {cs : Array Value} {t : TypeId} (h : W.heap[g]? = some (.cells cs t (0, 0))) (o : Nat) : W.frozen? ⟨g, o, none⟩ = false := by
  simp [World.frozen?, h]
theorem blk_new (w : World) (o : Obj) : (w.alloc o).heap[w.heap.size]? = some o := by
  show (w.heap.push o)[w.heap.size]? = _; simp
theorem blk_new' {w : World} {o : Obj} {k : Nat} (hk : k = w.heap.size) : (w.alloc o).heap[k]? = some o := by subst hk; exact blk_new w o
theorem blk_old {w : World} {k : Nat} {x : Obj} (h : w.heap[k]? = some x) (o : Obj) : (w.alloc o).heap[k]? = some x := (Below.heap_alloc w o k (lt_of_blk h)).trans h
theorem blk_set {w : World} {k : Nat} {cs : Array Value} {t : TypeId} {fr : Nat × Nat} (h : w.heap[k]? = some (.cells cs t fr)) (o : Nat) (v : Value) :
    (w.setCell ⟨k, o, none⟩ v).heap[k]? = some (.cells (cs.setIfInBounds o v) t fr) := by
  simp [World.setCell, Array.getElem?_modify, h]
theorem blk_far {w : World} {k : Nat} {x : Obj} (h : w.heap[k]? = some x) (p : Addr) (hne : k ≠ p.block) (v : Value) : (w.setCell p v).heap[k]? = some x :=
  (Below.heap_setCell w p v k hne).trans h
theorem blk_setCell_mono {w : World} {p : Addr} {v : Value} : (w.setCell p v).heap.size = w.heap.size := by simp [World.setCell]
section
variable {P : Program}
/-- Two results: a slot, a struct or an array that lies in memory. -/
theorem res_tc {fn : Func} {p u : Tmp} {ty : TypeId} (h : fn.results = #[.tmp u, .cell p ty]) (tmps : Array Value) (w : World) (g : Nat) (t : TypeId) (cs : Array Value) (fr : Nat × Nat) (d : TypeDesc)
    (hp : tmps[p]?.getD undef = .pointer (some ⟨g, 0, none⟩)) (hg : w.heap[g]? = some (.cells cs t fr))
    (hu : P.underlying ty = some d) (hd : (match d with | .struct _ | .array _ _ => true | _ => false) = true) (hi : (P.info? ty).map (·.size) = some cs.size) :
    (results fn tmps).run P w = .ok (.tuple #[tmps.getD u undef, .agg cs]) w := by
  have hr := run_loadVar_row w g t ty cs fr d hg hu hd hi
  simp [results, h, hp, asAddr, hr]
theorem res_ct {fn : Func} {p u : Tmp} {ty : TypeId} (h : fn.results = #[.cell p ty, .tmp u]) (tmps : Array Value) (w : World) (g : Nat) (t : TypeId) (cs : Array Value) (fr : Nat × Nat) (d : TypeDesc)
    (hp : tmps[p]?.getD undef = .pointer (some ⟨g, 0, none⟩)) (hg : w.heap[g]? = some (.cells cs t fr))
    (hu : P.underlying ty = some d) (hd : (match d with | .struct _ | .array _ _ => true | _ => false) = true) (hi : (P.info? ty).map (·.size) = some cs.size) :
    (results fn tmps).run P w = .ok (.tuple #[.agg cs, tmps.getD u undef]) w := by
  have hr := run_loadVar_row w g t ty cs fr d hg hu hd hi
  simp [results, h, hp, asAddr, hr]
end
end Go.Proofs.Ytlbhfnjhhpcphaa
