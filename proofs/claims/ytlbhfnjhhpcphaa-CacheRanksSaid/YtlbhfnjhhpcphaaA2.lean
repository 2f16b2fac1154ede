/-
  append onto a slice of the call's own, with a property of all its cells, the spare ones too. No program.
-/
import Derived.Test.YtlbhfnjhhpcphaaA
import Derived.Laws.AppendOwn
import Derived.Laws.AppendOwnNone
namespace Go.Proofs.Ytlbhfnjhhpcphaa
open Go.RowKit
/-- Every cell of the row that a slice of the call's own lies in, the spare ones too, has the property. -/
def AllQ (Q : Value → Prop) (e : TypeId) (w : World) (v : Value) : Prop := ∀ g, v.ownBlock = some g → ∀ cur fr, w.heap[g]? = some (.cells cur e fr) → ∀ u ∈ cur.toList, Q u
theorem AllQ_none (Q : Value → Prop) (e : TypeId) (w : World) (n c : Nat) : AllQ Q e w (.slice none n c) := fun g h => by simp [Value.ownBlock] at h
theorem AllQ.fr {Q : Value → Prop} {e : TypeId} {w w' : World} {v : Value} {S : Nat → Prop} {B n : Nat} {xs : List Value} (h : AllQ Q e w v) (hown : w.ownsRow B e 1 v n xs) (hf : Fr S w w') (hS : ∀ k c fz, S k → w.heap[k]? = some (.cells c e fz) → False) : AllQ Q e w' v := by
  intro g hg cur fr hc u hu
  rcases hown.2 with ⟨rfl, _⟩ | ⟨g', cap, cur', rfl, hB, hh, r⟩
  · simp [Value.ownBlock] at hg
  · simp only [Value.ownBlock, Option.some.injEq] at hg
    subst hg
    have h2 := hf.block _ _ hh (fun hs => hS g' _ _ hs hh)
    rw [hc] at h2
    injection h2 with h2
    injection h2 with h2 _ _
    subst h2
    exact h g' rfl _ _ hh u hu
section
variable {P : Program}
theorem mem_zeroCells {z : Value} (hz : z.cells = #[z]) {n : Nat} {u : Value} (h : u ∈ (Builtin.zeroCells z.cells n).toList) : u = z := by
  unfold Builtin.zeroCells at h
  rw [hz] at h
  simp [Nat.mod_one] at h
  exact h.2.symm
theorem append_allQ (Q : Value → Prop) (w : World) (base : Nat) (t ty e : TypeId) (i : TypeInfo) (z : Value) (ht : P.underlying t = some (.slice e)) (hi : P.info? e = some i) (hz : i.zero = some z)
    (hsize : i.size = 1) (hzs : z.cells = #[z]) (hQz : Q z) (v : Value) (n : Nat) (xs : List Value) (hown : w.ownsRow base e 1 v n xs) (hQ : AllQ Q e w v)
    (a : Addr) (m c : Nat) (news : List Value) (hl : news.length = m) (hnews : ∀ j u, news[j]? = some u → w.cell? (a.add j) = some u) (h1 : ∀ u ∈ news, u.oneCell' = true) (hQn : ∀ u ∈ news, Q u)
    (h63 : n + m ≤ maxLen) (hbytes : (n + m) * i.bytes ≤ 140737488355328) (v' : Value) (w' : World) (hm : v' = .slice none 0 0 ↔ v = .slice none 0 0 ∧ m = 0)
    (hr : (Builtin.append_ #[t, t] ty #[v, .slice (some a) m c]).run P w = .ok v' w') : AllQ Q e w' v' := by
  have hsmall : n + m ≤ 9223372036854775807 := by simp only [maxLen] at h63; omega
  have hl' : news.length = m * i.size := by rw [hsize, Nat.mul_one, hl]
  rcases hown.2 with ⟨rfl, rfl⟩ | ⟨g, cap, cur, rfl, hbg, hg, hnc, hcm, hcs, htake⟩
  · by_cases hm0 : m = 0
    · rw [hm.2 ⟨rfl, hm0⟩]; exact AllQ_none _ _ _ _ _
    · rw [run_append_nil (P := P) w t ty e i z ht hi hz a m c news hl' hnews (by omega) (by omega) (by have hb := hbytes; simp only [Nat.zero_add] at hb; omega)] at hr
      injection hr with e1 e2
      subst e1 e2
      intro g hg cur fr hc u hu
      simp only [Value.ownBlock, Option.some.injEq] at hg
      subst hg
      rw [blk_new' (by simp)] at hc
      injection hc with hc
      injection hc with hc _ _
      subst hc
      rw [Array.toList_append, List.mem_append] at hu
      rcases hu with hu | hu
      · exact hQn u (by simpa using hu)
      · rw [mem_zeroCells hzs hu]; exact hQz
  · by_cases hroom : n + m ≤ cap
    · have hfit : n * i.size + news.length ≤ cur.size := by rw [hsize, hl, hcs]; omega
      rw [run_append_room (P := P) w t ty e i ht hi g n cap cur hg a m c news hl' hnews h1 hroom hfit] at hr
      injection hr with e1 e2
      subst e1 e2
      intro g' hg' cur' fr hc u hu
      simp only [Value.ownBlock, Option.some.injEq] at hg'
      subst hg'
      rw [setRow_heap w g cur _ e _ hg] at hc
      injection hc with hc
      injection hc with hc _ _
      subst hc
      simp only [List.mem_append] at hu
      rcases hu with (hu | hu) | hu
      · exact hQ g rfl cur _ hg u (List.mem_of_mem_take hu)
      · exact hQn u hu
      · exact hQ g rfl cur _ hg u (List.mem_of_mem_drop hu)
    · have holds : ∀ j u, xs[j]? = some u → w.cell? ((⟨g, 0, none⟩ : Addr).add j) = some u := hown.cells (g := g) rfl
      rw [run_append_grow (P := P) w t ty e i z ht hi hz ⟨g, 0, none⟩ n cap xs (by rw [hsize]; exact hown.1) holds a m c news hl' hnews (by omega) (by omega) (growslice_fits (by omega) hbytes)] at hr
      injection hr with e1 e2
      subst e1 e2
      intro g' hg' cur' fr hc u hu
      simp only [Value.ownBlock, Option.some.injEq] at hg'
      subst hg'
      rw [blk_new' (by simp)] at hc
      injection hc with hc
      injection hc with hc _ _
      subst hc
      simp only [Array.toList_append, List.mem_append] at hu
      rcases hu with (hu | hu) | hu
      · rw [← htake] at hu
        exact hQ g rfl cur _ hg u (List.mem_of_mem_take (by simpa using hu))
      · exact hQn u (by simpa using hu)
      · rw [mem_zeroCells hzs hu]; exact hQz
/-- append(v, src...), v of the call's own: as wpList_append_own, at an operation with or without a guard, one cell an element, with a property of all cells. -/
theorem wpList_append_Q (Q : Value → Prop) {ops : Array Oper} {rest : List Oper} {o : Oper} {a : Act} {w : World} {R : Exit → Act → World → Prop} (hw : Region.wanted o (yielded ops a.tmps) = true) (s x : Operand) (t : TypeId)
    (ho : o.op = .call { callee := .builtin .append, args := #[s, x], argTypes := #[t, t] })
    (base : Nat) (e : TypeId) (i : TypeInfo) (z : Value) (ht : P.underlying t = some (.slice e)) (hi : P.info? e = some i) (hz : i.zero = some z)
    (hsize : i.size = 1) (hzs : z.cells = #[z]) (hQz : Q z) (v : Value) (n : Nat) (xs : List Value) (hs : a.eval s = v) (hown : w.ownsRow base e 1 v n xs) (hQ : AllQ Q e w v)
    (ad : Addr) (m c : Nat) (news : List Value) (hx : a.eval x = .slice (some ad) m c) (hl : news.length = m) (hnews : ∀ j u, news[j]? = some u → w.cell? (ad.add j) = some u) (h1 : ∀ u ∈ news, u.oneCell' = true) (hQn : ∀ u ∈ news, Q u)
    (h63 : n + m ≤ maxLen) (hbytes : (n + m) * i.bytes ≤ 140737488355328) (hbase : base ≤ w.heap.size)
    (h : ∀ ao cap w', w'.ownsRow base e 1 (.slice ao (n + m) cap) (n + m) (xs ++ news) → AllQ Q e w' (.slice ao (n + m) cap) → w.grownBy w' v.ownBlock → wpList P ops R rest (a.put o.dst (.slice ao (n + m) cap)) w') :
    wpList P ops R (o :: rest) a w := by
  refine wpList_step fun K hK => ?_
  rw [if_pos hw]
  have hl' : news.length = m * 1 := by rw [Nat.mul_one, hl]
  obtain ⟨v', w', hr, h2, h3, h4⟩ := run_append_own (P := P) w base t o.type e i z 1 i.bytes ht hi hz hsize rfl (by rw [hzs]; rfl) (by decide) v n xs hown ad m c news hl' hnews h1 h63 hbytes hbase
  have h5 := append_allQ Q w base t o.type e i z ht hi hz hsize hzs hQz v n xs hown hQ ad m c news hl hnews h1 hQn h63 hbytes v' w' h4 hr
  obtain ⟨ao, cap, rfl⟩ : ∃ ao cap, v' = .slice ao (n + m) cap := by
    rcases h2.2 with ⟨rfl, h0⟩ | ⟨g, cap, cur, rfl, _⟩
    · exact ⟨none, 0, by rw [h0]⟩
    · exact ⟨_, _, rfl⟩
  have h6 := hK _ _ (h ao cap w' h2 h5 h3)
  unfold Oper.wp
  simp only [execOp, ho, resolve, invoke, builtin, hs, hx, hr, Sem.run_bind, Sem.run_pure, Result.andThen_ok, List.map_toArray, List.map_cons, List.map_nil]
  exact h6
end
end Go.Proofs.Ytlbhfnjhhpcphaa
