/-
  package name: Labels.
-/
import Derived.Test.YtlbhfnjhhpcphaaER
import Derived.Test.YtlbhfnjhhpcphaaA2
import Derived.OwnWalk
import Derived.Maps.AppendAt
import Derived.RangeFuncBox
namespace Go.Proofs.Ytlbhfnjhhpcphaa
open Go.RowKit Go.Shelf
attribute [local go_sem] Oper.semAt_some
def str (l : Bs) : Value := .string (mk l)
theorem row_fr {B : Nat} {e : TypeId} {sz : Nat} {v : Value} {n : Nat} {xs : List Value} {S : Nat → Prop} {w w' : World} (h : w.ownsRow B e sz v n xs) (hf : Fr S w w') (hS : ∀ k c fz, S k → B ≤ k → w.heap[k]? = some (.cells c e fz) → False) : w'.ownsRow B e sz v n xs := by
  obtain ⟨h0, h1⟩ := h
  refine ⟨h0, ?_⟩
  rcases h1 with h1 | ⟨g, cap, cur, hv, hg, hh, r⟩
  · exact .inl h1
  · exact .inr ⟨g, cap, cur, hv, hg, hf.block g _ hh (fun hs => hS g _ _ hs hg hh), r⟩
theorem own_shape {B : Nat} {e : TypeId} {v : Value} {n : Nat} {xs : List Value} {w : World} (h : w.ownsRow B e 1 v n xs) : ∃ ao cap, v = .slice ao n cap := by
  rcases h.2 with ⟨rfl, h0⟩ | ⟨g, cap, cur, rfl, _⟩
  · exact ⟨none, 0, by rw [h0]⟩
  · exact ⟨_, _, rfl⟩
theorem allQ_fr {Q : Value → Prop} {e : TypeId} {w w' : World} {v : Value} {S : Nat → Prop} {B n : Nat} {xs : List Value} (h : AllQ Q e w v) (hown : w.ownsRow B e 1 v n xs) (hf : Fr S w w') (hS : ∀ k c fz, S k → B ≤ k → w.heap[k]? = some (.cells c e fz) → False) : AllQ Q e w' v := by
  intro g hg cur fr hc u hu
  rcases hown.2 with ⟨rfl, _⟩ | ⟨g', cap, cur', rfl, hB, hh, r⟩
  · simp [Value.ownBlock] at hg
  · simp only [Value.ownBlock, Option.some.injEq] at hg
    subst hg
    have h2 := hf.block _ _ hh (fun hs => hS g' _ _ hs hB hh)
    rw [hc] at h2
    injection h2 with h2
    injection h2 with h2 _ _
    subst h2
    exact h g' rfl _ _ hh u hu
/-- A text that is no great one. -/
def IsStr (u : Value) : Prop := ∃ s : ByteArray, u = .string s ∧ s.size ≤ 100000
theorem wpListIn_append_Q (Q : Value → Prop) {F : Fence} {n : Nat} {P : Program} (w : World) {ops : Array Oper} {rest : List Oper} {o : Oper} {a : Act} {R : Exit → Act → World → Prop}
    (hg : o.guard = none) (s x : Operand) (t : TypeId) (hop : o.op = Op.call { callee := Callee.builtin Builtin.append, args := #[s, x], argTypes := #[t, t] })
    (base : Nat) (e : TypeId) (i : TypeInfo) (z : Value) (h1 : P.underlying t = some (.slice e)) (h2 : P.info? e = some i) (h3 : i.zero = some z) (h4 : i.size = 1) (hzs : z.cells = #[z]) (hQz : Q z)
    (v : Value) (k : Nat) (xs : List Value) (hs : a.eval s = v) (hown : w.ownsRow base e 1 v k xs) (hQ : AllQ Q e w v) (ad : Addr) (m c : Nat) (news : List Value) (hx : a.eval x = .slice (some ad) m c) (hn : news.length = m)
    (hc : ∀ j u, news[j]? = some u → w.cell? (ad.add j) = some u) (h1c : ∀ u ∈ news, u.oneCell' = true) (hQn : ∀ u ∈ news, Q u) (b1 : k + m ≤ maxLen) (b2 : (k + m) * i.bytes ≤ 140737488355328) (b3 : base ≤ w.heap.size)
    (hK : ∀ v' w', w'.ownsRow base e 1 v' (k + m) (xs ++ news) → AllQ Q e w' v' → w.grownBy w' v.ownBlock → wpListIn F n P ops R rest (a.put o.dst v') w') :
    wpListIn F n P ops R (o :: rest) a w := by
  refine wpListIn_plain hg fun K hK' => ?_
  obtain ⟨v', w', hrun, r1, r2, r3⟩ := run_append_own (P := P) w base t o.type e i z 1 i.bytes h1 h2 h3 h4 rfl (by rw [hzs]; rfl) (by decide) v k xs hown ad m c news (by rw [Nat.mul_one]; exact hn) hc h1c b1 b2 b3
  have r5 := append_allQ Q w base t o.type e i z h1 h2 h3 h4 hzs hQz v k xs hown hQ ad m c news hn hc h1c hQn b1 b2 v' w' r3 hrun
  unfold Oper.wpIn
  refine ⟨?_, ?_⟩
  · simp [Oper.about, hop, resolve, Target.leads, Sem.run_pure]
  · rw [Oper.semAt_plain F _ _ (by rw [hop]; intro c hc'; cases hc')]
    simp [execOp, hop, resolve, invoke, builtin, hs, hx, hrun, Result.andThen]
    exact hK' _ _ (hK v' w' r1 r5 r2)
/-- Between two rounds: the results' cells, the labels so far. -/
structure LI (w : World) (pre : List Bs) (W : World) : Prop where
  r0 : W.heap[w.heap.size]? = some (.cells #[.slice none 0 0] 22 (0, 0))
  r1 : W.heap[w.heap.size + 1]? = some (.cells #[.int .i64 0] 36 (0, 0))
  out : ∃ v, W.heap[w.heap.size + 2]? = some (.cells #[v] 22 (0, 0)) ∧ W.ownsRow (w.heap.size + 4) 9 1 v pre.length (pre.map str) ∧ AllQ IsStr 9 W v
  fr : Fr nob w W
theorem LI.keep {w : World} {pre : List Bs} {W W' : World} {S : Nat → Prop} (h : LI w pre W) (hf : Fr S W W') (hS : ∀ k c fz, S k → (k = w.heap.size + 3 ∨ w.heap.size + 4 ≤ k) ∧ (w.heap.size + 4 ≤ k → W.heap[k]? = some (.cells c 9 fz) → False)) : LI w pre W' := by
  have hn : ∀ k, k < w.heap.size + 3 → ¬ S k := fun k hk hs => by have := (hS k #[] (0, 0) hs).1; omega
  obtain ⟨v, h1, h2, h3⟩ := h.out
  exact ⟨hf.block _ _ h.r0 (hn _ (by omega)), hf.block _ _ h.r1 (hn _ (by omega)), ⟨v, hf.block _ _ h1 (hn _ (by omega)), row_fr h2 hf (fun k c fz hs hk hc => (hS k c fz hs).2 hk hc), allQ_fr h3 h2 hf (fun k c fz hs hk hc => (hS k c fz hs).2 hk hc)⟩,
    h.fr.call hf (fun i _ hs => .inl (by have := (hS i #[] (0, 0) hs).1; omega))⟩
theorem LI.app {w W w1 : World} {pre : List Bs} {x : Bs} {v v' : Value} {o : Obj} {b0 : Nat} (h : LI w pre W) (hv : W.heap[w.heap.size + 2]? = some (.cells #[v] 22 (0, 0))) (hown : W.ownsRow (w.heap.size + 4) 9 1 v pre.length (pre.map str)) (hg : (W.alloc o).grownBy w1 v.ownBlock)
    (hown' : w1.ownsRow (w.heap.size + 4) 9 1 v' (pre.length + 1) (pre.map str ++ [str x])) (hQ' : AllQ IsStr 9 w1 v') (hb0 : w.heap.size + 4 ≤ b0) (hL : ∃ o, W.heap[b0 + 1]? = some (.loop o)) (hK : ∃ o, W.heap[b0]? = some (.deferred o)) :
    w1.heap[w.heap.size + 2]? = some (.cells #[v] 22 (0, 0)) ∧ LI w (pre ++ [x]) (w1.setCell ⟨w.heap.size + 1 + 1, 0, none⟩ v') ∧ KeepB b0 (w.heap.size + 3) W (w1.setCell ⟨w.heap.size + 1 + 1, 0, none⟩ v') := by
  have hb : ∀ k, v.ownBlock = some k → w.heap.size + 4 ≤ k ∧ ∃ c fz, W.heap[k]? = some (.cells c 9 fz) := by
    intro k hk
    rcases hown.2 with ⟨rfl, _⟩ | ⟨g, cap, cur, rfl, hg, hh, _⟩
    · simp [Value.ownBlock] at hk
    · simp only [Value.ownBlock, Option.some.injEq] at hk; subst hk; exact ⟨hg, _, _, hh⟩
  have hlt : w.heap.size + 4 ≤ W.heap.size := by obtain ⟨o, h⟩ := hK; have := lt_of_blk h; omega
  have hf : Fr (fun k => v.ownBlock = some k) W w1 := ((Fr.refl _ W).alloc o).grown hg (fun k hk => .inr hk)
  have hs : ∀ k, k < w.heap.size + 4 → ¬ v.ownBlock = some k := fun k hk e => by have := (hb k e).1; omega
  have h2 := hf.block _ _ hv (hs _ (by omega))
  have hf2 : Fr (fun k => k = w.heap.size + 2) w1 (w1.setCell ⟨w.heap.size + 1 + 1, 0, none⟩ v') := (Fr.refl (fun k => k = w.heap.size + 2) w1).set (p := ⟨w.heap.size + 1 + 1, 0, none⟩) (.inr rfl) v'
  have hsz := hf.size
  refine ⟨h2, ⟨hf2.block _ _ (hf.block _ _ h.r0 (hs _ (by omega))) (by show ¬ _ = _; omega), hf2.block _ _ (hf.block _ _ h.r1 (hs _ (by omega))) (by show ¬ _ = _; omega), ⟨v', blk_set h2 0 v', ?_, allQ_fr hQ' hown' hf2 (fun k c fz hk hb _ => by have : k = w.heap.size + 2 := hk; omega)⟩, (h.fr.call hf (fun i _ hi => .inl (by have := (hb i hi).1; omega))).call hf2 (fun i _ hi => .inl (by have : i = w.heap.size + 2 := hi; omega))⟩, ?_⟩
  · have h3 := row_fr hown' hf2 (fun k c fz hk hb _ => by have : k = w.heap.size + 2 := hk; omega)
    simpa using h3
  · intro k o' hk ho'
    refine hf2.block _ _ (hf.block _ _ ho' ?_) (by show ¬ _ = _; rcases hk with rfl | rfl | rfl <;> omega)
    rcases hk with rfl | rfl | rfl
    · intro e; obtain ⟨_, c, fz, h⟩ := hb _ e; obtain ⟨o, hK⟩ := hK; rw [hK] at h; cases h
    · intro e; obtain ⟨_, c, fz, h⟩ := hb _ e; obtain ⟨o, hL⟩ := hL; rw [hL] at h; cases h
    · exact hs _ (by omega)
/-- The results of a call. -/
def LabPost (n : Bs) (w : World) (e : Ending) (w' : World) : Prop :=
  ∃ v, e = .returned (.tuple #[v, .int .i64 (labels n).2]) ∧ w'.ownsRow w.heap.size 9 1 v (labels n).1.length ((labels n).1.map str) ∧ AllQ IsStr 9 w' v ∧ Fr nob w w'
/-- The function's end: the results lie in their cells, the mark is still there. -/
structure LabLeft (n : Bs) (w : World) (D : Nat) (u : Value) (e : Int) (W : World) : Prop where
  err : (labels n).2 = e
  own : W.ownsRow (w.heap.size + 4) 9 1 u (labels n).1.length ((labels n).1.map str)
  allQ : AllQ IsStr 9 W u
  r0 : W.heap[w.heap.size]? = some (.cells #[u] 22 (0, 0))
  r1 : W.heap[w.heap.size + 1]? = some (.cells #[.int .i64 e] 36 (0, 0))
  mark : W.heap[D]? = some (.deferred (some []))
  fr : Fr nob w W
theorem row_base {B B' : Nat} {e : TypeId} {sz : Nat} {v : Value} {n : Nat} {xs : List Value} {w : World} (h : w.ownsRow B e sz v n xs) (hB : B' ≤ B) : w.ownsRow B' e sz v n xs := by
  obtain ⟨h0, h1⟩ := h
  refine ⟨h0, ?_⟩
  rcases h1 with h1 | ⟨g, cap, cur, hv, hg, r⟩
  · exact .inl h1
  · exact .inr ⟨g, cap, cur, hv, Nat.le_trans hB hg, r⟩
theorem LabLeft.leaves {n : Bs} {w W : World} {D : Nat} {u : Value} {e : Int} {t5 t6 : Value} {ts : List Value} (h : LabLeft n w D u e W) (hD : D = w.heap.size + 4) :
    bodyPostM Fence.wide 3 Try.prog Try.f61 (LabPost n w) Exit.ret
      { tmps := (t5 :: t6 :: .pointer (some ⟨w.heap.size, 0, none⟩) :: .pointer (some ⟨w.heap.size + 1, 0, none⟩) :: ts).toArray, defers := [{ target := Target.collected D, args := #[] }] } W := by
  refine ⟨by simp, .inl ⟨_, _, rfl, run_takeDeferred h.mark, ?_⟩⟩
  have hf := (Fr.refl (fun k => k = D) W).setObj (r := D) (.inr rfl) (.deferred none)
  have h0 := hf.block _ _ h.r0 (by show ¬ _ = _; omega)
  have h1 := hf.block _ _ h.r1 (by show ¬ _ = _; omega)
  have c0 := blk_cell h0 0
  have c1 := blk_cell h1 0
  refine ⟨_, ?_, u, by rw [h.err], row_base (row_fr h.own hf (fun k c fz hk _ hc => by have : k = D := hk; subst this; rw [h.mark] at hc; cases hc)) (by omega), allQ_fr h.allQ h.own hf (fun k c fz hk _ hc => by have : k = D := hk; subst this; rw [h.mark] at hc; cases hc), h.fr.call hf (fun i _ hi => .inl (by have : i = D := hi; omega))⟩
  have c0' : (W.putObj D (.deferred none)).cell? ⟨w.heap.size, 0, none⟩ = some u := c0
  have c1' : (W.putObj D (.deferred none)).cell? ⟨w.heap.size + 1, 0, none⟩ = some (.int .i64 e) := c1
  simp [results, Try.f61, go_sem, c0', c1']
theorem isStr_nil : IsStr (.string ⟨#[]⟩) := ⟨_, rfl, by decide⟩
theorem AllQ.alloc {Q : Value → Prop} {e : TypeId} {w : World} {v : Value} {B n : Nat} {xs : List Value} (h : AllQ Q e w v) (hown : w.ownsRow B e 1 v n xs) (o : Obj) : AllQ Q e (w.alloc o) v :=
  allQ_fr h hown ((Fr.refl nob w).alloc o) (fun _ _ _ h => h.elim)
theorem infoStr : (Try.prog.info? 9).map (fun i => (i.zero, i.size, i.bytes)) = some (some (.string ⟨#[]⟩), 1, 16) := by kernel_rfl
set_option maxHeartbeats 2000000 in
set_option maxRecDepth 100000 in
theorem Labels_in (n : Bs) (w : World) (hn : n.length ≤ 100000) :
    CallsIn Fence.wide 3 Try.prog 61 #[.string (mk n)] w (LabPost n w) := by
  refine callsIn_of_wp_marks Try.func61 rfl trivial ?_ rfl
  simp only [Try.ntmps61, List.size_toArray, List.length_cons, List.length_nil, Nat.reduceAdd, Nat.reduceSub, Array.replicate_succ, Array.replicate_zero, List.push_toArray, List.append_toArray, List.nil_append, List.cons_append]
  gi_wp2_with (refine ⟨trivial, ?_⟩; gi_at_call 68; refine (callsIn_wide.2 (all_calls (mk n) _)).mono ?_; rintro e w' ⟨rfl, rfl⟩)
  obtain ⟨W0, hW0⟩ : ∃ W0, (((w.alloc (.cells #[.slice none 0 0] 22)).alloc (.cells #[.int .i64 0] 36)).alloc (.cells #[.slice none 0 0] 22)).alloc (.cells #[.string (mk n)] 9) = W0 := ⟨_, rfl⟩
  have e0 : W0.heap.size = w.heap.size + 4 := by rw [← hW0]; simp
  have hbox : Box W0 (w.heap.size + 3) n := by rw [← hW0]; exact blk_new' (by simp)
  have hLI : LI w [] W0 := by
    rw [← hW0]
    exact ⟨blk_old (blk_old (blk_old (blk_new w _) _) _) _, blk_old (blk_old (blk_new' (by simp)) _) _, ⟨_, blk_old (blk_new' (by simp)) _, World.ownsRow_nil _ _ _ _, AllQ_none _ _ _ _ _⟩, (((Fr.refl nob w).alloc _).alloc _).alloc _ |>.alloc _⟩
  rw [hW0]
  clear hW0
  have hset : ∀ pre W v, LI w pre W → LI w pre (W.setCell ⟨w.heap.size + 3, 0, none⟩ v) := fun pre W v h =>
    h.keep ((Fr.refl (fun k => k = w.heap.size + 3) W).set (p := ⟨w.heap.size + 3, 0, none⟩) (.inr rfl) v) (fun k c fz hk => ⟨.inl hk, fun h => by omega⟩)
  have hobjs : ∀ pre W l o o', LI w pre W → (l = W0.heap.size ∨ l = W0.heap.size + 1) → W.heap[l]? = some o → (∀ c t fr, o ≠ .cells c t fr) → LI w pre (W.putObj l o') := fun pre W l o o' h hl ho hc =>
    h.keep ((Fr.refl (fun k => k = l) W).setObj (r := l) (.inr rfl) o') (fun k c fz hk => ⟨.inr (by omega), fun _ hh => by subst hk; rw [ho] at hh; cases hh; exact hc _ _ _ rfl⟩)
  refine wp_range_all n (w.heap.size + 3) rfl rfl hbox (LI w) (fun W => W.heap[w.heap.size]? = some (.cells #[.slice none 0 0] 22 (0, 0)) ∧ W.heap[w.heap.size + 1]? = some (.cells #[.int .i64 4] 36 (0, 0)) ∧ Fr nob w W)
    hset (fun pre W m h => ⟨h.r0, h.r1, h.out, h.fr.drewN m⟩) hobjs
    (fun W l o o' h hl ho hc => by
      have hf := (Fr.refl (fun k => k = l) W).setObj (r := l) (.inr rfl) o'
      exact ⟨hf.block _ _ h.1 (by show ¬ w.heap.size = l; omega), hf.block _ _ h.2.1 (by show ¬ w.heap.size + 1 = l; omega), h.2.2.call hf (fun i _ hi => .inl (by have : i = l := hi; omega))⟩)
    (fun o o' => by
      have hf := ((Fr.refl nob W0).alloc o).alloc o'
      exact hLI.keep hf (fun k c fz hk => hk.elim))
    (fun x b => { tmps := #[.string (mk n), undef, .pointer (some ⟨w.heap.size, 0, none⟩), .pointer (some ⟨w.heap.size + 1, 0, none⟩), .pointer (some ⟨w.heap.size + 1 + 1, 0, none⟩), .string (mk x), .bool b, .string (mk n),
        .func (.func 69) #[] #[.pointer (some ⟨w.heap.size + 1 + 1 + 1, 0, none⟩)], .string (mk x), .bool b, undef, undef, undef, undef, undef, undef, undef, undef, undef, undef], defers := [] })
    ?assign ?bodyT ?bodyF ?done ?stop
  case assign =>
    intro l x b W K hK
    gi_wp2
    exact hK
  case bodyT =>
    rintro l pre x W hI hlen hx63 hL hK hB
    obtain ⟨v, ho, hown, hQ⟩ := hI.out
    obtain ⟨i0, hi, hz0, hz1, hz2⟩ := info_parts infoStr
    have c2 : W.cell? ⟨w.heap.size + 1 + 1, 0, none⟩ = some v := blk_cell ho 0
    have hlt : w.heap.size + 4 ≤ W.heap.size := by obtain ⟨o, h⟩ := hK; have := lt_of_blk h; omega
    have HN := Ho.mk hn; have HE := Ho.mk e0
    have HO := Ho.mk ho; have HI := Ho.mk hI; have HL := Ho.mk hL; have HK := Ho.mk hK; have HB := Ho.mk hB; have HOBJ := Ho.mk hobjs; have HSET := Ho.mk hset; have HBOX := Ho.mk hbox; have HLI := Ho.mk hLI
    clear ho hI hL hK hB hobjs hset hbox hLI e0 hn
    gi_wp2_with (gi_at_builtin; refine wpListIn_append_Q IsStr _ rfl _ _ 22 rfl (w.heap.size + 4) 9 i0 (.string ⟨#[]⟩) Try.underlying22 hi hz0 hz1 rfl isStr_nil _ _ _ rfl (hown.alloc _) (hQ.alloc hown _) ⟨W.heap.size, 0, none⟩ 1 1 [str x] rfl rfl (cell_one_new _ _ _) (by simp [str, Value.oneCell']) (by simp only [List.mem_singleton, forall_eq]; exact ⟨_, rfl, by rw [mk_size]; omega⟩) (by have := HN.out; simp only [maxLen]; omega) (by have := HN.out; rw [hz2]; omega) (by simp; omega) ?_; intro v' w1 hown' hQ' hgrow; obtain ⟨hx2, hLI2, hKB⟩ := HI.out.app HO.out hown hgrow hown' hQ' (b0 := W0.heap.size) (by have := HE.out; omega) HL.out HK.out; obtain ⟨g', cap', rfl⟩ := ownsRow_succ hown'; have hc2 : w1.cell? ⟨w.heap.size + 1 + 1, 0, none⟩ = some v := blk_cell hx2 0; have hf2 : w1.frozen? ⟨w.heap.size + 1 + 1, 0, none⟩ = false := blk_free hx2 0; have HLI2 := Ho.mk hLI2; have HKB := Ho.mk hKB; clear hLI2 hKB hx2)
    exact ⟨HKB.out, HLI2.out⟩
  case bodyF =>
    rintro l pre W hI hL hK
    have c0 : W.cell? ⟨w.heap.size, 0, none⟩ = some (.slice none 0 0) := blk_cell hI.r0 0
    have c1 : W.cell? ⟨w.heap.size + 1, 0, none⟩ = some (.int .i64 0) := blk_cell hI.r1 0
    have f0 := blk_free hI.r0 0
    have f1 := blk_free hI.r1 0
    have hlt : w.heap.size + 4 ≤ W.heap.size := by obtain ⟨o, h⟩ := hK; have := lt_of_blk h; omega
    have hk0 := blk_set (blk_set hI.r0 0 (.slice none 0 0)) 0 (.slice none 0 0)
    have hf1 := ((Fr.refl (fun k => k = w.heap.size ∨ k = w.heap.size + 1) W).set (p := ⟨w.heap.size, 0, none⟩) (.inr (.inl rfl)) (.slice none 0 0)).set (p := ⟨w.heap.size + 1, 0, none⟩) (.inr (.inr rfl)) (.int .i64 4)
    have hr0 := blk_far (blk_set hI.r0 0 (.slice none 0 0)) ⟨w.heap.size + 1, 0, none⟩ (by show w.heap.size ≠ w.heap.size + 1; omega) (.int .i64 4)
    have hr1 := blk_set (blk_far hI.r1 ⟨w.heap.size, 0, none⟩ (by show w.heap.size + 1 ≠ w.heap.size; omega) (.slice none 0 0)) 0 (.int .i64 4)
    have hff := hI.fr.call hf1 (fun i _ hi => .inl (by rcases hi with h | h <;> omega))
    have HR0 := Ho.mk hr0; have HR1 := Ho.mk hr1; have HFF := Ho.mk hff; have HF1 := Ho.mk hf1
    have HN := Ho.mk hn; have HE := Ho.mk e0
    have HI := Ho.mk hI; have HL := Ho.mk hL; have HK := Ho.mk hK; have HOBJ := Ho.mk hobjs; have HSET := Ho.mk hset; have HBOX := Ho.mk hbox; have HLI := Ho.mk hLI
    clear hI hL hK hobjs hset hbox hLI e0 hn hk0 hr0 hr1 hff hf1
    gi_wp2
    refine ⟨fun k o hk ho => HF1.out.block _ _ ho (by have := HE.out; rcases hk with rfl | rfl | rfl <;> (intro h; rcases h with h | h <;> omega)), HR0.out, HR1.out, HFF.out⟩
  case done =>
    rintro ls W hls hI hK
    obtain ⟨v, ho, hown, hQ⟩ := hI.out
    obtain ⟨ao, cap, rfl⟩ := own_shape hown
    have c0 : W.cell? ⟨w.heap.size, 0, none⟩ = some (.slice none 0 0) := blk_cell hI.r0 0
    have c1 : W.cell? ⟨w.heap.size + 1, 0, none⟩ = some (.int .i64 0) := blk_cell hI.r1 0
    have c2 : W.cell? ⟨w.heap.size + 1 + 1, 0, none⟩ = some (.slice ao ls.length cap) := blk_cell ho 0
    have f0 := blk_free hI.r0 0
    have f1 := blk_free hI.r1 0
    have hltW := lt_of_blk hK
    have key : ∀ (u : Value) (e : Int), (labels n).2 = e → W.ownsRow (w.heap.size + 4) 9 1 u (labels n).1.length ((labels n).1.map str) → AllQ IsStr 9 W u →
        LabLeft n w W0.heap.size u e ((W.setCell ⟨w.heap.size, 0, none⟩ u).setCell ⟨w.heap.size + 1, 0, none⟩ (.int .i64 e)) := fun u e he hu hq => by
      have h1 := blk_set hI.r0 0 u
      have hfa := ((Fr.refl (fun k => k = w.heap.size ∨ k = w.heap.size + 1) W).set (p := ⟨w.heap.size, 0, none⟩) (.inr (.inl rfl)) u).set (p := ⟨w.heap.size + 1, 0, none⟩) (.inr (.inr rfl)) (.int .i64 e)
      have h2 := blk_set (blk_far hI.r1 ⟨w.heap.size, 0, none⟩ (by show w.heap.size + 1 ≠ w.heap.size; omega) u) 0 (.int .i64 e)
      exact ⟨he, row_fr hu hfa (fun k c fz hk hb _ => by rcases hk with h | h <;> omega), allQ_fr hq hu hfa (fun k c fz hk hb _ => by rcases hk with h | h <;> omega), blk_far h1 ⟨w.heap.size + 1, 0, none⟩ (by show w.heap.size ≠ w.heap.size + 1; omega) _, h2,
        hfa.block _ _ hK (by intro h; rcases h with h | h <;> omega), hI.fr.call hfa (fun i _ hi => .inl (by rcases hi with h | h <;> omega))⟩
    have HKEY := Ho.mk key
    have HN := Ho.mk hn; have HE := Ho.mk e0; have HOW := Ho.mk hown; have HQ := Ho.mk hQ; have HLS := Ho.mk hls
    clear key hI hK ho hown hQ hobjs hset hbox hLI hn e0 hls hltW
    by_cases hlong : 255 < n.length
    · have k1 : decide ((255 : Int) < ((mk n).size : Int)) = true := decide_eq_true (by rw [mk_size]; omega)
      have k2 : decide (255 < (mk n).size) = true := decide_eq_true (by rw [mk_size]; omega)
      have hl := labels_long HLS.out hlong
      have HL := Ho.mk hl; clear hl hlong
      gi_wp2
      exact LabLeft.leaves (HKEY.out (.slice none 0 0) 3 (by rw [HL.out]) (by rw [HL.out]; exact World.ownsRow_nil _ _ _ _) (AllQ_none _ _ _ _ _)) HE.out
    · have k1 : decide ((255 : Int) < ((mk n).size : Int)) = false := decide_eq_false (by rw [mk_size]; omega)
      have k2 : decide (255 < (mk n).size) = false := decide_eq_false (by rw [mk_size]; omega)
      have hl := labels_ok HLS.out (by omega)
      have HL := Ho.mk hl; clear hl hlong
      gi_wp2
      exact LabLeft.leaves (HKEY.out _ 0 (by rw [HL.out]) (by rw [HL.out]; exact HOW.out) HQ.out) HE.out
  case stop =>
    rintro W hls ⟨h0, h1, h2⟩ hK
    gi_wp2
    have hl := labels_bad hls
    exact LabLeft.leaves (n := n) (w := w) (u := .slice none 0 0) (e := 4) ⟨by rw [hl], by rw [hl]; exact World.ownsRow_nil _ _ _ _, AllQ_none _ _ _ _ _, h0, h1, hK, h2⟩ e0
theorem Labels_calls (n : Bs) (w : World) (hn : n.length ≤ 100000) : Calls Try.prog 61 #[.string (mk n)] w (LabPost n w) := callsIn_wide.1 (Labels_in n w hn)
end Go.Proofs.Ytlbhfnjhhpcphaa
