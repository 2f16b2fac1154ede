/-
  Rows of the call's own that are appended to from a source that reads (maybe nil); sources out of rows. No program but for its name.
-/
import Derived.Test.YtlbhfnjhhpcphaaChecked
import Derived.Test.YtlbhfnjhhpcphaaA
import Derived.Laws.OwnMore
import Derived.Laws.AppendOwn
import Derived.Laws.AppendOwnNone
import Derived.Maps.AppendAt
namespace Go.Proofs.Ytlbhfnjhhpcphaa
open Go.RowKit
theorem run_append_nothing {P : Program} {w : World} (base : Nat) (t ty e : TypeId) (i : TypeInfo) (size : Nat) (ht : P.underlying t = some (.slice e)) (hi : P.info? e = some i)
    (v : Value) (n : Nat) (xs : List Value) (hown : w.ownsRow base e size v n xs) (ao : Option Addr) (c : Nat) :
    (Builtin.append_ #[t, t] ty #[v, .slice ao 0 c]).run P w = .ok v w := by
  rcases hown.2 with ⟨rfl, rfl⟩ | ⟨g, cap, cur, rfl, _, _, hnc, _⟩
  · cases ao <;> simp [Builtin.append_, run_underlying ht, sizeOf, typeInfo, hi, Builtin.lenOf, Builtin.firstCells, loadCells, loadCellsFrom]
  · cases ao <;> simp [Builtin.append_, run_underlying ht, sizeOf, typeInfo, hi, Builtin.lenOf, Builtin.firstCells, loadCells, loadCellsFrom, hnc, storeCells]
/-- A source of m elements with these cells. -/
def Src (w : World) (ao : Option Addr) (m : Nat) (news : List Value) : Prop := m = 0 ∨ ∃ ad, ao = some ad ∧ ∀ j u, news[j]? = some u → w.cell? (ad.add j) = some u
theorem run_append_src {P : Program} (w : World) (base : Nat) (t ty e : TypeId) (i : TypeInfo) (z : Value) (size : Nat) (ht : P.underlying t = some (.slice e)) (hi : P.info? e = some i) (hz : i.zero = some z)
    (hsize : i.size = size) (hzs : z.cells.size = size) (hsz : 0 < size)
    (v : Value) (n : Nat) (xs : List Value) (hown : w.ownsRow base e size v n xs) (ao : Option Addr) (m c : Nat) (news : List Value) (hl : news.length = m * size) (hs : Src w ao m news) (h1 : ∀ u ∈ news, u.oneCell' = true)
    (h63 : n + m ≤ maxLen) (hbytes : (n + m) * i.bytes ≤ 140737488355328) (hbase : base ≤ w.heap.size) :
    ∃ v' w', (Builtin.append_ #[t, t] ty #[v, .slice ao m c]).run P w = .ok v' w' ∧ w'.ownsRow base e size v' (n + m) (xs ++ news) ∧ w.grownBy w' v.ownBlock ∧ (v'.ownBlock = v.ownBlock ∨ v'.ownBlock = some w.heap.size) := by
  rcases hs with rfl | ⟨ad, rfl, hc⟩
  · have hn : news = [] := List.eq_nil_of_length_eq_zero (by simpa using hl)
    subst hn
    refine ⟨v, w, run_append_nothing base t ty e i size ht hi v n xs hown ao c, ?_, ⟨rfl, rfl, rfl, Nat.le_refl _, fun _ _ _ => rfl⟩, .inl rfl⟩
    simpa using hown
  · obtain ⟨v', w', hr, h2, h3, _, h5⟩ := run_append_own_at (P := P) w base t ty e i z size i.bytes ht hi hz hsize rfl hzs hsz v n xs hown ad m c news hl hc h1 h63 hbytes hbase
    exact ⟨v', w', hr, h2, h3, h5⟩
theorem wpList_append_src {ops : Array Oper} {rest : List Oper} {o : Oper} {a : Act} {Q : Exit → Act → World → Prop} {w : World} (hgd : o.guard = none) (s x : Operand) (t : TypeId)
    (ho : o.op = .call { callee := .builtin .append, args := #[s, x], argTypes := #[t, t] })
    (base : Nat) (e : TypeId) (i : TypeInfo) (z : Value) (size : Nat) (ht : Try.prog.underlying t = some (.slice e)) (hi : Try.prog.info? e = some i) (hz : i.zero = some z)
    (hsize : i.size = size) (hzs : z.cells.size = size) (hsz : 0 < size)
    (v : Value) (n : Nat) (xs : List Value) (hs : a.eval s = v) (hown : w.ownsRow base e size v n xs) (ao : Option Addr) (m c : Nat) (news : List Value) (hx : a.eval x = .slice ao m c) (hl : news.length = m * size) (hsrc : Src w ao m news) (h1 : ∀ u ∈ news, u.oneCell' = true)
    (h63 : n + m ≤ maxLen) (hbytes : (n + m) * i.bytes ≤ 140737488355328) (hbase : base ≤ w.heap.size)
    (h : ∀ v' w', w'.ownsRow base e size v' (n + m) (xs ++ news) → w.grownBy w' v.ownBlock → (v'.ownBlock = v.ownBlock ∨ v'.ownBlock = some w.heap.size) → wpList Try.prog ops Q rest (a.put o.dst v') w') : wpList Try.prog ops Q (o :: rest) a w := by
  refine wpList_plain hgd fun K hK => ?_
  obtain ⟨v', w', hr, h2, h3, h4⟩ := run_append_src (P := Try.prog) w base t o.type e i z size ht hi hz hsize hzs hsz v n xs hown ao m c news hl hsrc h1 h63 hbytes hbase
  unfold Oper.wp
  simp [execOp, ho, resolve, invoke, builtin, hs, hx, hr, Result.andThen]
  exact hK _ _ (h v' w' h2 h3 h4)
theorem step_append_src {ops : Array Oper} {o : Oper} {a : Act} {K : Act → World → Prop} {Q : Exit → Act → World → Prop} {E : Prop} {w : World} (hgd : o.guard = none) (s x : Operand) (t : TypeId)
    (ho : o.op = .call { callee := .builtin .append, args := #[s, x], argTypes := #[t, t] })
    (base : Nat) (e : TypeId) (i : TypeInfo) (z : Value) (size : Nat) (ht : Try.prog.underlying t = some (.slice e)) (hi : Try.prog.info? e = some i) (hz : i.zero = some z)
    (hsize : i.size = size) (hzs : z.cells.size = size) (hsz : 0 < size)
    (v : Value) (n : Nat) (xs : List Value) (hs : a.eval s = v) (hown : w.ownsRow base e size v n xs) (ao : Option Addr) (m c : Nat) (news : List Value) (hx : a.eval x = .slice ao m c) (hl : news.length = m * size) (hsrc : Src w ao m news) (h1 : ∀ u ∈ news, u.oneCell' = true)
    (h63 : n + m ≤ maxLen) (hbytes : (n + m) * i.bytes ≤ 140737488355328) (hbase : base ≤ w.heap.size)
    (h : ∀ v' w', w'.ownsRow base e size v' (n + m) (xs ++ news) → w.grownBy w' v.ownBlock → (v'.ownBlock = v.ownBlock ∨ v'.ownBlock = some w.heap.size) → K (a.put o.dst v') w') :
    if Region.wanted o (yielded ops a.tmps) = true then Oper.wp Try.prog o a w K Q else E := by
  rw [if_pos (by simp [Region.wanted, hgd])]
  obtain ⟨v', w', hr, h2, h3, h4⟩ := run_append_src (P := Try.prog) w base t o.type e i z size ht hi hz hsize hzs hsz v n xs hown ao m c news hl hsrc h1 h63 hbytes hbase
  unfold Oper.wp
  simp [execOp, ho, resolve, invoke, builtin, hs, hx, hr, Result.andThen]
  exact h v' w' h2 h3 h4
theorem Fr.cellA {w w' : World} (h : Fr nob w w') {a : Addr} {v : Value} (hc : w.cell? a = some v) : w'.cell? a = some v := by
  have hb : ∃ o, w.heap[a.block]? = some o := by
    cases hh : w.heap[a.block]? with
    | none => simp [World.cell?, hh] at hc
    | some o => exact ⟨o, rfl⟩
  obtain ⟨o, ho⟩ := hb
  have h2 := h.block _ _ ho (fun h => h)
  unfold World.cell? at hc ⊢
  rw [h2]; rw [ho] at hc; exact hc
theorem Src.same {w w' : World} {ao : Option Addr} {m : Nat} {news : List Value} (h : Src w ao m news) (hf : Fr nob w w') : Src w' ao m news := by
  rcases h with h | ⟨ad, h1, h2⟩
  · exact .inl h
  · exact .inr ⟨ad, h1, fun j u hj => hf.cellA (h2 j u hj)⟩
theorem addr_add0 (b off j : Nat) : (⟨b, off, none⟩ : Addr).add j = ⟨b, off + j, none⟩ := by
  unfold Addr.add; split
  · rename_i h; subst h; rfl
  · rfl
theorem src_take {w : World} {B : Nat} {e : TypeId} {s n cap : Nat} {ao : Option Addr} {xs : List Value} (h : w.ownsRow B e s (.slice ao n cap) n xs) (k : Nat) (hk : k ≤ n) : Src w ao k (xs.take (k * s)) := by
  rcases h.2 with ⟨hv, h0⟩ | ⟨g, c, cur, hv, _⟩
  · exact .inl (by omega)
  · injection hv with h1 h2 h3
    subst h1
    refine .inr ⟨_, rfl, fun j u hj => ?_⟩
    rw [addr_add0, Nat.zero_add]
    have hjl := (List.getElem?_eq_some_iff.1 hj).1
    rw [List.getElem?_take_of_lt (by simp at hjl; omega)] at hj
    have := h.cells (g := g) rfl j u hj
    rwa [addr_add0, Nat.zero_add] at this
theorem Fr.row {B : Nat} {e : TypeId} {sz : Nat} {w w' : World} {v : Value} {n : Nat} {xs : List Value} (hf : Fr nob w w') (h : w.ownsRow B e sz v n xs) : w'.ownsRow B e sz v n xs := by
  obtain ⟨h0, h1⟩ := h
  refine ⟨h0, ?_⟩
  rcases h1 with h1 | ⟨g, cap, cur, rfl, hg, hh, r⟩
  · exact .inl h1
  · exact .inr ⟨g, cap, cur, rfl, hg, hf.block g _ hh (fun h => h), r⟩
theorem own_newS {B s : Nat} {w : World} {v : Value} {e : TypeId} {n : Nat} {xs : List Value} (h : w.ownsRow B e s v n xs) {k : Nat} (hk : v.ownBlock = some k) : B ≤ k := by
  rcases h.2 with ⟨rfl, _⟩ | ⟨g, cap, cur, rfl, hg, _⟩
  · simp [Value.ownBlock] at hk
  · simp only [Value.ownBlock, Option.some.injEq] at hk; omega
theorem own_shapeS {B s : Nat} {e : TypeId} {v : Value} {n : Nat} {xs : List Value} {w : World} (h : w.ownsRow B e s v n xs) : ∃ ao cap, v = .slice ao n cap := by
  rcases h.2 with ⟨rfl, h0⟩ | ⟨g, cap, cur, rfl, _⟩
  · exact ⟨none, 0, by rw [h0]⟩
  · exact ⟨_, _, rfl⟩
theorem own_le {B s : Nat} {e : TypeId} {ao : Option Addr} {n cap : Nat} {xs : List Value} {w : World} (h : w.ownsRow B e s (.slice ao n cap) n xs) : n ≤ cap := by
  rcases h.2 with ⟨hv, h0⟩ | ⟨g, cap', cur, hv, _, _, h1, _⟩
  · omega
  · injection hv with _ _ e; omega
theorem own_weak {w : World} {B : Nat} {e : TypeId} {s n : Nat} {v : Value} {xs : List Value} (h : w.ownsRow B e s v n xs) : w.ownsRow 0 e s v n xs := by
  obtain ⟨h0, h1⟩ := h
  refine ⟨h0, ?_⟩
  rcases h1 with h1 | ⟨g, cap, cur, hv, hg, r⟩
  · exact .inl h1
  · exact .inr ⟨g, cap, cur, hv, Nat.zero_le _, r⟩
theorem src_drop {w : World} {B : Nat} {e : TypeId} {s n cap : Nat} {ao : Option Addr} {xs : List Value} (h : w.ownsRow B e s (.slice ao n cap) n xs) (k : Nat) (hk : k ≤ n) : Src w (if cap = k then ao else ao.map (·.add (k * s))) (n - k) (xs.drop (k * s)) := by
  rcases h.2 with ⟨hv, h0⟩ | ⟨g, c, cur, hv, _, _, hnc, _⟩
  · exact .inl (by omega)
  · injection hv with h1 h2 h3
    subst h1 h3
    by_cases hc : cap = k
    · exact .inl (by omega)
    · rw [if_neg hc]
      refine .inr ⟨_, rfl, fun j u hj => ?_⟩
      show w.cell? (((⟨g, 0, none⟩ : Addr).add (k * s)).add j) = some u
      rw [addr_add0, addr_add0]
      rw [List.getElem?_drop] at hj
      have := h.cells (g := g) rfl _ u hj
      rwa [addr_add0, ← Nat.add_assoc] at this
/-- A kind of row: its slice's type, its element's type, how many cells an element has. -/
structure RowT (t e : TypeId) (s : Nat) : Prop where
  ht : Try.prog.underlying t = some (.slice e)
  info : ∃ i z, Try.prog.info? e = some i ∧ i.zero = some z ∧ i.size = s ∧ z.cells.size = s ∧ i.bytes ≤ 10000
  pos : 0 < s
theorem bytes_le {n b : Nat} (hn : n ≤ 1000000) (hb : b ≤ 10000) : n * b ≤ 140737488355328 :=
  Nat.le_trans (Nat.mul_le_mul hn hb) (by decide)
theorem row_maxLen {n : Nat} (h : n ≤ 1000000) : n ≤ maxLen := Nat.le_trans h (by decide)
theorem fr_append {w w' : World} {base : Nat} {t : TypeId} {s n : Nat} {v : Value} {xs : List Value} (hown : w.ownsRow base t s v n xs) (hg : w.grownBy w' v.ownBlock) : ∀ w0, Fr nob w0 w → w0.heap.size ≤ base → Fr nob w0 w' :=
  fun _ hf hb => hf.grown hg (fun _ hk => .inl (Nat.le_trans hb (own_newS hown hk)))
theorem wpList_append_row {t e : TypeId} {s : Nat} (R : RowT t e s) {ops : Array Oper} {rest : List Oper} {o : Oper} {a : Act} {Q : Exit → Act → World → Prop} {w : World} (hgd : o.guard = none) (x y : Operand)
    (ho : o.op = .call { callee := .builtin .append, args := #[x, y], argTypes := #[t, t] })
    (base : Nat) (v : Value) (n : Nat) (xs : List Value) (hs : a.eval x = v) (hown : w.ownsRow base e s v n xs) (ao : Option Addr) (m c : Nat) (news : List Value) (hx : a.eval y = .slice ao m c) (hl : news.length = m * s) (hsrc : Src w ao m news) (h1 : ∀ u ∈ news, u.oneCell' = true)
    (hn : n + m ≤ 1000000) (hbase : base ≤ w.heap.size)
    (h : ∀ ao' cap' w', w'.ownsRow base e s (.slice ao' (n + m) cap') (n + m) (xs ++ news) → (∀ w0, Fr nob w0 w → w0.heap.size ≤ base → Fr nob w0 w') → w.grownBy w' v.ownBlock → wpList Try.prog ops Q rest (a.put o.dst (.slice ao' (n + m) cap')) w') : wpList Try.prog ops Q (o :: rest) a w := by
  obtain ⟨i, z, hi, hz, hsz, hzs, hb⟩ := R.info
  refine wpList_append_src hgd x y t ho base e i z s R.ht hi hz hsz hzs R.pos v n xs hs hown ao m c news hx hl hsrc h1 (row_maxLen hn) (bytes_le hn hb) hbase ?_
  intro v' w' ho' hg' _
  obtain ⟨ao', cap', rfl⟩ := own_shapeS ho'
  exact h ao' cap' w' ho' (fr_append hown hg') hg'
theorem step_append_row {t e : TypeId} {s : Nat} (R : RowT t e s) {ops : Array Oper} {o : Oper} {a : Act} {K : Act → World → Prop} {Q : Exit → Act → World → Prop} {E : Prop} {w : World} (hgd : o.guard = none) (x y : Operand)
    (ho : o.op = .call { callee := .builtin .append, args := #[x, y], argTypes := #[t, t] })
    (base : Nat) (v : Value) (n : Nat) (xs : List Value) (hs : a.eval x = v) (hown : w.ownsRow base e s v n xs) (ao : Option Addr) (m c : Nat) (news : List Value) (hx : a.eval y = .slice ao m c) (hl : news.length = m * s) (hsrc : Src w ao m news) (h1 : ∀ u ∈ news, u.oneCell' = true)
    (hn : n + m ≤ 1000000) (hbase : base ≤ w.heap.size)
    (h : ∀ ao' cap' w', w'.ownsRow base e s (.slice ao' (n + m) cap') (n + m) (xs ++ news) → (∀ w0, Fr nob w0 w → w0.heap.size ≤ base → Fr nob w0 w') → w.grownBy w' v.ownBlock → K (a.put o.dst (.slice ao' (n + m) cap')) w') :
    if Region.wanted o (yielded ops a.tmps) = true then Oper.wp Try.prog o a w K Q else E := by
  obtain ⟨i, z, hi, hz, hsz, hzs, hb⟩ := R.info
  refine step_append_src hgd x y t ho base e i z s R.ht hi hz hsz hzs R.pos v n xs hs hown ao m c news hx hl hsrc h1 (row_maxLen hn) (bytes_le hn hb) hbase ?_
  intro v' w' ho' hg' _
  obtain ⟨ao', cap', rfl⟩ := own_shapeS ho'
  exact h ao' cap' w' ho' (fr_append hown hg') hg'
theorem own_empty (w : World) (e : TypeId) (s : Nat) : (w.alloc (.cells #[] e)).ownsRow w.heap.size e s (.slice (some ⟨w.heap.size, 0, none⟩) 0 0) 0 [] := by
  refine ⟨by simp, .inr ⟨w.heap.size, 0, #[], rfl, Nat.le_refl _, blk_new w _, by omega, by decide, by simp, by simp⟩⟩
/-- A block of another kind stays at an append. -/
theorem grown_other {w w' : World} {B : Nat} {e : TypeId} {s n : Nat} {v : Value} {xs : List Value} (hown : w.ownsRow B e s v n xs) (hg : w.grownBy w' v.ownBlock) {k : Nat} {cs : Array Value} {t : TypeId} {fr : Nat × Nat} (hk : w.heap[k]? = some (.cells cs t fr)) (ht : t ≠ e) : w'.heap[k]? = some (.cells cs t fr) := by
  rw [hg.block k (lt_of_blk hk) ?_]; exact hk
  intro h
  rcases hown.2 with ⟨rfl, _⟩ | ⟨g, cap, cur, rfl, _, hh, _⟩
  · simp [Value.ownBlock] at h
  · simp only [Value.ownBlock, Option.some.injEq] at h
    subst h
    rw [hk] at hh
    injection hh with hh
    injection hh with _ h2 _
    exact ht h2
/-- A block that is a source whole. -/
theorem src_block {w : World} {g : Nat} {cs : Array Value} {t : TypeId} {fr : Nat × Nat} (h : w.heap[g]? = some (.cells cs t fr)) (m : Nat) : Src w (some ⟨g, 0, none⟩) m cs.toList := by
  refine .inr ⟨_, rfl, fun j u hj => ?_⟩
  rw [addr_add0, Nat.zero_add, blk_cell h]
  simpa using hj
/-- A cell of an own row is written. -/
theorem own_set {w : World} {B : Nat} {e : TypeId} {s n g cap : Nat} {xs : List Value} (h : w.ownsRow B e s (.slice (some ⟨g, 0, none⟩) n cap) n xs) (i : Nat) (hi : i < n * s) (v : Value) :
    (w.setCell ⟨g, i, none⟩ v).ownsRow B e s (.slice (some ⟨g, 0, none⟩) n cap) n (xs.set i v) := by
  obtain ⟨h0, ⟨hv, _⟩ | ⟨g', cap', cur, hv, hB, hh, h1, h2, h3, h4⟩⟩ := h
  · cases hv
  · injection hv with e1 e2 e3
    injection e1 with e1
    injection e1 with e1
    subst e1 e3
    refine ⟨by rw [List.length_set]; exact h0, .inr ⟨g, cap, cur.setIfInBounds i v, rfl, hB, blk_set hh i v, h1, h2, by simpa using h3, ?_⟩⟩
    rw [← h4, Array.toList_setIfInBounds, List.take_set]
end Go.Proofs.Ytlbhfnjhhpcphaa
