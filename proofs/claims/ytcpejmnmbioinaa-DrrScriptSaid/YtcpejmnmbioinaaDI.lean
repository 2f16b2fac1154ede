/-
  package drr: Of, Clients.
-/
import Derived.Test.YtcpejmnmbioinaaDH
import Derived.OwnWalk
namespace Go.Proofs.Ytcpejmnmbioinaa
open Go.RowKit
/-- Of. -/
def Qs.of (st : Qs) (n : Int) : Int := match st.ring.find? (fun c => c.n == n) with | some c => c.its.length | none => 0
set_option maxRecDepth 100000 in
theorem ofn_calls (D : Nat → Prop) (w : World) (q : Nat) (st : Qs) (n : Int) (h : QS D w q st) :
    Calls Try.prog 14 #[.pointer (some ⟨q, 0, none⟩), .int .i64 n] w fun r w' => r = .returned (.int .i64 (st.of n)) ∧ w' = w := by
  obtain ⟨hwf, bl, mp, E, hQ, _⟩ := h
  obtain ⟨q0, q1, q2, q3, q4, q5, q6, q7⟩ := hQ.cells
  have hcall := none_calls q bl w q4
  have hl := MapF.lookup (t := 50) ikeys Try.underlying50 zeroE hQ.map n
  rcases split_at st.ring hwf.nums n with ⟨h1, h2⟩ | ⟨A, c, B, h1, h2, h3, h4, h5⟩
  · have hn : ∀ a ∈ E, a.cl.n ≠ n := fun a ha => h2 a.cl (by rw [hQ.st]; exact List.mem_map_of_mem ha)
    rw [atE_none hn] at hl
    have hl' : (Instr.lookup 50 (.map (some mp)) (.int .i64 n) true).run Try.prog w = .ok (.tuple #[.pointer none, .bool false]) w := hl
    have e : st.of n = 0 := by unfold Qs.of; rw [h1]
    rw [e]
    clear hQ hl hn h1 h2 e hwf
    go_enter Try.func14, Try.ntmps14
    go_wp2_with (fail)
    refine hcall.mono ?_
    clear hcall
    rintro r w' ⟨rfl, rfl⟩
    go_wp2_with (fail)
    go_ret
    exact ⟨rfl, rfl⟩
  · obtain ⟨EA, y, EB, rfl, e1, e2, e3⟩ := el_split hQ.st h1
    subst e2
    have hA : ∀ a ∈ EA, a.cl.n ≠ y.cl.n := fun a ha => by rw [h2]; exact h3 a.cl (by rw [← e1]; exact List.mem_map_of_mem ha)
    have hat := atE_mid EA EB y hA
    rw [h2] at hat
    rw [hat] at hl
    have hl' : (Instr.lookup 50 (.map (some mp)) (.int .i64 n) true).run Try.prog w = .ok (.tuple #[.pointer (some ⟨y.e, 0, none⟩), .bool true]) w := hl
    obtain ⟨a, b, hnode⟩ := hQ.ring.node (valE y) (List.mem_map_of_mem (by simp))
    have hof := of_calls y.e y.c w a b _ hnode
    have c2 : w.cell? ⟨y.c, 2, none⟩ = some (.slice y.ao y.cl.its.length y.cap) := blk_cell (hQ.cls y (by simp)).1 2
    have e : st.of n = (y.cl.its.length : Int) := by unfold Qs.of; rw [h5]
    rw [e]
    clear hQ hl hat h1 h2 h3 h4 h5 e e1 e3 hwf hnode hA
    go_enter Try.func14, Try.ntmps14
    go_wp2_with (fail)
    refine hcall.mono ?_
    clear hcall
    rintro r w' ⟨rfl, rfl⟩
    go_wp2_with (fail)
    refine hof.mono ?_
    clear hof
    rintro r w' ⟨rfl, rfl⟩
    unfold Pt
    go_wp2_with (fail)
    go_ret
    exact ⟨rfl, rfl⟩
/-- Integers as cells. -/
def icells (l : List Int) : List Value := l.map fun x => .int .i64 x
theorem own_shape {B : Nat} {e : TypeId} {v : Value} {n : Nat} {xs : List Value} {w : World} (h : w.ownsRow B e 1 v n xs) : ∃ ao cap, v = .slice ao n cap := by
  rcases h.2 with ⟨rfl, h0⟩ | ⟨g, cap, cur, rfl, _⟩
  · exact ⟨none, 0, by rw [h0]⟩
  · exact ⟨_, cap, rfl⟩
theorem own_fr {B : Nat} {e : TypeId} {w w' : World} {v : Value} {n : Nat} {xs : List Value} {S : Nat → Prop} (h : w.ownsRow B e 1 v n xs) (hf : Fr S w w') (hS : ∀ k, v.ownBlock = some k → ¬ S k) : w'.ownsRow B e 1 v n xs := by
  refine ⟨h.1, ?_⟩
  rcases h.2 with h1 | ⟨g, cap, cur, rfl, hg, hh, rest⟩
  · exact .inl h1
  · exact .inr ⟨g, cap, cur, rfl, hg, hf.block g _ hh (hS g rfl), rest⟩
/-- append(out, x). -/
theorem wpList_append_int {w : World} {ops : Array Oper} {rest : List Oper} {o : Oper} {a : Act} {Q : Exit → Act → World → Prop} (hg : o.guard = none) (s x : Operand)
    (hop : o.op = Op.call { callee := Callee.builtin Builtin.append, args := #[s, x], argTypes := #[22, 22] }) (base : Nat) (v : Value) (l : List Int) (hs : a.eval s = v) (hown : w.ownsRow base 3 1 v l.length (icells l))
    (b : Nat) (y : Int) (hx : a.eval x = .slice (some ⟨b, 0, none⟩) 1 1) (hb : w.cell? ⟨b, 0, none⟩ = some (.int .i64 y)) (hlen : l.length ≤ 100000) (hbase : base ≤ w.heap.size)
    (h : ∀ ao cap w', w'.ownsRow base 3 1 (.slice ao (l.length + 1) cap) (l.length + 1) (icells (l ++ [y])) → w.grownBy w' v.ownBlock → wpList Try.prog ops Q rest (a.put o.dst (.slice ao (l.length + 1) cap)) w') : wpList Try.prog ops Q (o :: rest) a w := by
  obtain ⟨i, h2, h3, h4, h5⟩ := infoInt
  refine wpList_append_own w hg s x 22 hop base 3 i _ 1 8 Try.underlying22 h2 h3 h4 h5 rfl (by decide) v l.length (icells l) hs hown ⟨b, 0, none⟩ 1 1 [.int .i64 y] hx rfl ?_ ?_ (by unfold maxLen; omega) (by omega) hbase ?_
  · intro j u hj
    rw [Addr.add_lit]
    cases j with
    | zero => simp at hj; subst hj; exact hb
    | succ j => simp at hj
  · intro u hu; simp at hu; subst hu; rfl
  · intro v' w' hv hgw _
    obtain ⟨ao, cap, rfl⟩ := own_shape hv
    have e : icells (l ++ [y]) = icells l ++ [.int .i64 y] := by simp [icells]
    exact h ao cap w' (by rw [e]; exact hv) hgw
theorem own_new {B : Nat} {w : World} {v : Value} {e : TypeId} {n : Nat} {xs : List Value} (h : w.ownsRow B e 1 v n xs) {k : Nat} (hk : v.ownBlock = some k) : B ≤ k := by
  rcases h.2 with ⟨rfl, _⟩ | ⟨g, cap, cur, rfl, hg, _⟩
  · simp [Value.ownBlock] at hk
  · simp [Value.ownBlock] at hk; omega
theorem own_blk {B : Nat} {w : World} {v : Value} {e : TypeId} {n : Nat} {xs : List Value} (h : w.ownsRow B e 1 v n xs) {k : Nat} (hk : v.ownBlock = some k) : ∃ cur, w.heap[k]? = some (.cells cur e (0, 0)) := by
  rcases h.2 with ⟨rfl, _⟩ | ⟨g, cap, cur, rfl, hg, hh, _⟩
  · simp [Value.ownBlock] at hk
  · simp [Value.ownBlock] at hk; subst hk; exact ⟨cur, hh⟩
end Go.Proofs.Ytcpejmnmbioinaa
