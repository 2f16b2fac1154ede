/-
  ostiarykit: CopyTexts; append of texts onto an own row.
-/
import Derived.Test.YtcmiidklddnfhaaEZ
import Derived.Laws.OwnMore
import Derived.Laws.AppendOwn
namespace Go.Proofs.Ytcmiidklddnfhaa
open Go.RowKit
theorem run_append_nothing {P : Program} {w : World} (base : Nat) (t ty e : TypeId) (i : TypeInfo) (size : Nat) (ht : P.underlying t = some (.slice e)) (hi : P.info? e = some i)
    (v : Value) (n : Nat) (xs : List Value) (hown : w.ownsRow base e size v n xs) (ao : Option Addr) (c : Nat) :
    (Builtin.append_ #[t, t] ty #[v, .slice ao 0 c]).run P w = .ok v w := by
  rcases hown.2 with ⟨rfl, rfl⟩ | ⟨g, cap, cur, rfl, _, _, hnc, _⟩
  · cases ao <;> simp [Builtin.append_, run_underlying ht, sizeOf, typeInfo, hi, Builtin.lenOf, Builtin.firstCells, loadCells, loadCellsFrom]
  · cases ao <;> simp [Builtin.append_, run_underlying ht, sizeOf, typeInfo, hi, Builtin.lenOf, Builtin.firstCells, loadCells, loadCellsFrom, hnc, storeCells]
theorem grown_refl (w : World) (r : Option Nat) : w.grownBy w r := ⟨rfl, rfl, rfl, Nat.le_refl _, fun _ _ _ => rfl⟩
theorem run_append_strs (w : World) (base : Nat) (ty : TypeId) (v : Value) (n : Nat) (xs : List Value) (hown : w.ownsRow base 9 1 v n xs) (x : Value) (l : List Bs) (hl : IsStrs w x l) (hn : n + l.length ≤ 1000000) (hb : base ≤ w.heap.size) :
    ∃ v' w', (Builtin.append_ #[22, 22] ty #[v, x]).run Try.prog w = .ok v' w' ∧ w'.ownsRow base 9 1 v' (n + l.length) (xs ++ l.map str) ∧ w.grownBy w' v.ownBlock := by
  obtain ⟨i0, hi, hz0, hz1, hz2⟩ := info_parts infoStr
  obtain ⟨a, c, rfl, hc⟩ := hl
  cases l with
  | nil =>
    refine ⟨v, w, run_append_nothing base 22 ty 9 i0 1 Try.underlying22 hi v n xs hown a c, ?_, grown_refl w _⟩
    simpa using hown
  | cons y ys =>
    obtain ⟨b, off, rfl, _⟩ := hc 0 (by simp)
    obtain ⟨v', w', hr, h1, h2, _⟩ := run_append_own (P := Try.prog) w base 22 ty 9 i0 (.string ⟨#[]⟩) 1 i0.bytes Try.underlying22 hi hz0 hz1 rfl rfl (by decide) v n xs hown ⟨b, off, none⟩ (y :: ys).length c ((y :: ys).map str) (by simp)
      (fun j u hj => by
        have hjl : j < (y :: ys).length := by have := (List.getElem?_eq_some_iff.1 hj).1; simpa using this
        obtain ⟨b', off', h, h2⟩ := hc j hjl
        injection h with h
        rw [h, addr_add, h2]
        rw [← hj, List.getElem?_map, List.getElem?_eq_getElem hjl]; rfl)
      (fun u hu => by obtain ⟨x, _, rfl⟩ := List.mem_map.1 hu; rfl) (by simp only [maxLen]; omega) (by rw [hz2]; omega) hb
    exact ⟨v', w', hr, h1, h2⟩
theorem wpList_append_strs {ops : Array Oper} {rest : List Oper} {o : Oper} {a : Act} {Q : Exit → Act → World → Prop} {w : World} (hgd : o.guard = none) (s x : Operand)
    (ho : o.op = .call { callee := .builtin .append, args := #[s, x], argTypes := #[22, 22] })
    (base : Nat) (v : Value) (n : Nat) (xs : List Value) (hs : a.eval s = v) (hown : w.ownsRow base 9 1 v n xs) (xv : Value) (l : List Bs) (hx : a.eval x = xv) (hl : IsStrs w xv l) (hn : n + l.length ≤ 1000000) (hb : base ≤ w.heap.size)
    (h : ∀ v' w', w'.ownsRow base 9 1 v' (n + l.length) (xs ++ l.map str) → w.grownBy w' v.ownBlock → wpList Try.prog ops Q rest (a.put o.dst v') w') : wpList Try.prog ops Q (o :: rest) a w := by
  refine wpList_plain hgd fun K hK => ?_
  obtain ⟨v', w', hr, h1, h2⟩ := run_append_strs w base o.type v n xs hown xv l hl hn hb
  unfold Oper.wp
  simp [execOp, ho, resolve, invoke, builtin, hs, hx, hr, Result.andThen]
  exact hK _ _ (h v' w' h1 h2)
theorem step_append_strs {ops : Array Oper} {o : Oper} {a : Act} {K : Act → World → Prop} {Q : Exit → Act → World → Prop} {E : Prop} {w : World} (hgd : o.guard = none) (s x : Operand)
    (ho : o.op = .call { callee := .builtin .append, args := #[s, x], argTypes := #[22, 22] })
    (base : Nat) (v : Value) (n : Nat) (xs : List Value) (hs : a.eval s = v) (hown : w.ownsRow base 9 1 v n xs) (xv : Value) (l : List Bs) (hx : a.eval x = xv) (hl : IsStrs w xv l) (hn : n + l.length ≤ 1000000) (hb : base ≤ w.heap.size)
    (h : ∀ v' w', w'.ownsRow base 9 1 v' (n + l.length) (xs ++ l.map str) → w.grownBy w' v.ownBlock → K (a.put o.dst v') w') :
    if Region.wanted o (yielded ops a.tmps) = true then Oper.wp Try.prog o a w K Q else E := by
  rw [if_pos (by simp [Region.wanted, hgd])]
  obtain ⟨v', w', hr, h1, h2⟩ := run_append_strs w base o.type v n xs hown xv l hl hn hb
  unfold Oper.wp
  simp [execOp, ho, resolve, invoke, builtin, hs, hx, hr, Result.andThen]
  exact h v' w' h1 h2
theorem CopyTexts_calls (x : Value) (l : List Bs) (w : World) (hx : IsStrs w x l) (hl : l.length ≤ 100000) :
    Calls Try.prog 22 #[x] w fun e w' => ∃ v, e = .returned v ∧ w'.ownsRow w.heap.size 9 1 v l.length (l.map str) ∧ Fr nob w w' := by
  have HX := Ho.mk hx
  obtain ⟨a, c, rfl, _⟩ := hx
  go_enter Try.func22, Try.ntmps22
  have h0 : (w.alloc (.cells #[] 9)).ownsRow w.heap.size 9 1 (.slice (some ⟨w.heap.size, 0, none⟩) 0 0) 0 [] := World.ownsRow_lit w #[] 0 (Nat.le_refl _) (by decide) rfl
  have hf0 : Fr nob w (w.alloc (.cells #[] 9)) := (Fr.refl nob w).alloc _
  have h1 := HX.out.same hf0
  go_wp2_with (refine wpList_append_strs rfl (.tmp 3) (.tmp 4) rfl w.heap.size _ 0 [] rfl h0 _ l rfl h1 (by omega) (by simp) ?_)
  intro v' w' hown hg
  have hf := hf0.grown hg (fun k hk => .inl (by simp only [Value.ownBlock, Option.some.injEq] at hk; omega))
  have HO := Ho.mk hown; have HF := Ho.mk hf
  obtain ⟨ao, cap, rfl⟩ := own_shape hown
  clear hown hg hf h0 h1 hf0
  go_wp2_with (fail)
  go_ret
  exact ⟨_, rfl, HO.out, HF.out⟩
end Go.Proofs.Ytcmiidklddnfhaa
