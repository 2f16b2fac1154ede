/-
  A range over the labels of a name: the statement, for whatever body that keeps the loop's own blocks and the box.
-/
import Derived.Test.YtlbhfnjhhpcphaaEA
namespace Go.Proofs.Ytlbhfnjhhpcphaa
open Go.RowKit Go.Shelf
/-- The loop's two blocks and the box lie as they lay. -/
def KeepB (b0 Bn : Nat) (W W' : World) : Prop := ∀ k o, (k = b0 ∨ k = b0 + 1 ∨ k = Bn) → W.heap[k]? = some o → W'.heap[k]? = some o
/-- How the body of a round that is told a label is left. -/
def PostT (b0 Bn : Nat) (I : World → Prop) (W : World) : Exit → Act → World → Prop
  | .normal, _, W' => KeepB b0 Bn W W' ∧ I W'
  | _, _, _ => False
/-- How the body of a round that is told a fault is left. -/
def PostF (b0 Bn : Nat) (Ix : World → Prop) (W : World) : Exit → Act → World → Prop
  | .ret, _, W' => KeepB b0 Bn W W' ∧ Ix W'
  | _, _, _ => False
theorem wp_range_all {g : Operand} {ps : Array Tmp} {assign body : Code} {Q : Exit → Act → World → Prop} {a : Act} {w : World} (nm : Bs) (Bn : Nat)
    (hg : a.eval g = .func (.func 69) #[] #[.pointer (some ⟨Bn, 0, none⟩)]) (hps : ps.size = 2) (hbox : Box w Bn nm)
    (I : List Bs → World → Prop) (Ix : World → Prop)
    (hset : ∀ pre W v, I pre W → I pre (W.setCell ⟨Bn, 0, none⟩ v)) (hdrew : ∀ pre W m, I pre W → I pre (W.drewN m))
    (hobj : ∀ pre W l o o', I pre W → (l = w.heap.size ∨ l = w.heap.size + 1) → W.heap[l]? = some o → (∀ c t fr, o ≠ .cells c t fr) → I pre (W.putObj l o'))
    (hxobj : ∀ W l o o', Ix W → (l = w.heap.size ∨ l = w.heap.size + 1) → W.heap[l]? = some o → (∀ c t fr, o ≠ .cells c t fr) → Ix (W.putObj l o'))
    (h0 : ∀ o o', I [] ((w.alloc o).alloc o')) (a₁ : Bs → Bool → Act)
    (hassign : ∀ (l : Nat) (x : Bs) (b : Bool) (W : World) (K : Act → World → Prop), K (a₁ x b) W →
      assign.wpIn (Fence.wide.inRound l) 0 Try.prog (Exit.then K (fun _ _ _ => False)) { tmps := (ps.zip #[.string (mk x), .bool b]).foldl (fun t (p, v) => t.setIfInBounds p v) a.tmps, defers := [] } W)
    (hbodyT : ∀ (l : Nat) (pre : List Bs) (x : Bs) (W : World), I pre W → pre.length < nm.length → x.length ≤ 63 → (∃ o, W.heap[w.heap.size + 1]? = some (.loop o)) → (∃ o, W.heap[w.heap.size]? = some (.deferred o)) → (∃ r, Box W Bn r) → body.wpIn (Fence.wide.inRound l) 0 Try.prog (PostT w.heap.size Bn (I (pre ++ [x])) W) (a₁ x true) W)
    (hbodyF : ∀ (l : Nat) (pre : List Bs) (W : World), I pre W → (∃ o, W.heap[w.heap.size + 1]? = some (.loop o)) → (∃ o, W.heap[w.heap.size]? = some (.deferred o)) → body.wpIn (Fence.wide.inRound l) 0 Try.prog (PostF w.heap.size Bn Ix W) (a₁ [] false) W)
    (hdone : ∀ (ls : List Bs) (W : World), lab nm = some ls → I ls W → W.heap[w.heap.size]? = some (.deferred (some [])) → Q .normal { a with defers := { target := .collected w.heap.size, args := #[] } :: a.defers } W)
    (hstop : ∀ (W : World), lab nm = none → Ix W → W.heap[w.heap.size]? = some (.deferred (some [])) → Code.ret.wpIn Fence.wide 3 Try.prog Q { a with defers := { target := .collected w.heap.size, args := #[] } :: a.defers } W) :
    (Code.rangeFunc g ps assign body).wpIn Fence.wide 3 Try.prog Q a w := by
  refine wpIn_rangeFunc (fun fn hfn => ?_)
  have hro : Fence.wide.round = none := rfl
  rw [hro]
  obtain ⟨rec, hrec⟩ : ∃ rec : LoopState → Option Code → Loop, rec = fun st pe => { state := st, pending := pe, fn, tmps := a.tmps, params := ps, assign, body, defers := w.heap.size } := ⟨_, rfl⟩
  obtain ⟨W1, hW1⟩ : ∃ W1, (w.alloc (.deferred (some []))).alloc (.loop (rec .ready none)) = W1 := ⟨_, rfl⟩
  have hBn : Bn < w.heap.size := lt_of_blk hbox
  have hL1 : W1.heap[w.heap.size + 1]? = some (.loop (rec .ready none)) := by rw [← hW1]; exact blk_new' (by simp)
  have hK1 : W1.heap[w.heap.size]? = some (.deferred (some [])) := by rw [← hW1]; exact blk_old (blk_new w _) _
  have hI1 : I [] W1 := by rw [← hW1]; exact h0 _ _
  have hb1 : Box W1 Bn nm := by rw [← hW1]; exact blk_old (blk_old hbox _) _
  refine ⟨w.heap.size + 1, [{ target := .collected w.heap.size, args := #[] }], W1, { target := .fn (.func 69) #[.pointer (some ⟨Bn, 0, none⟩)], args := #[.func (.yield (w.heap.size + 1)) #[] #[]] }, W1, 69,
    #[.func (.yield (w.heap.size + 1)) #[] #[], .pointer (some ⟨Bn, 0, none⟩)], W1, ?_, ?_, fun _ _ => trivial, ?_, (fun h => by cases h), ?_⟩
  · rw [← hW1, hrec]; exact run_enterLoop_outer _ _ _ _ _
  · simp only [resolve, hg]
    simp [go_sem]
  · simp [invoke, go_sem]
  · have hBL : Bn ≠ w.heap.size + 1 := by omega
    have hBK : Bn ≠ w.heap.size := by omega
    refine (CallsIn.more (all1_in (w.heap.size + 1) Bn nm
      (fun pre W => I pre W ∧ W.heap[w.heap.size + 1]? = some (.loop (rec .ready none)) ∧ W.heap[w.heap.size]? = some (.deferred (some [])))
      (fun W => Ix W ∧ W.heap[w.heap.size + 1]? = some (.loop (rec .done (some .ret))) ∧ W.heap[w.heap.size]? = some (.deferred (some [])))
      (fun pre W v h => ⟨hset pre W v h.1, blk_far h.2.1 ⟨Bn, 0, none⟩ (fun e => hBL e.symm) v, blk_far h.2.2 ⟨Bn, 0, none⟩ (fun e => hBK e.symm) v⟩)
      (fun pre W m h => ⟨hdrew pre W m h.1, h.2⟩) ?_ ?_ W1 hb1 ⟨hI1, hL1, hK1⟩) (n' := 3 - 1) (by omega)).mono ?_
    · rintro pre x W r ⟨hi, hl, hk⟩ hbx hlen hx63
      have hlt := lt_of_blk hl
      have hy := run_yield (P := Try.prog) (args := #[.string (mk x), .bool true]) hl (by rw [hrec]; exact hps.symm)
      rw [hrec] at hy
      refine ⟨fn, _, assign, body, hy, roundIn_of_wpIn hfn (hassign _ x true W _ ⟨_, run_beginRound hl (by rw [hrec]), ?_⟩)⟩
      have hl2 : (W.putObj (w.heap.size + 1) (.loop { rec .ready none with state := .busy })).heap[w.heap.size + 1]? = some (.loop { rec .ready none with state := .busy }) := World.putObj_heap_same hlt
      have hk2 : (W.putObj (w.heap.size + 1) (.loop { rec .ready none with state := .busy })).heap[w.heap.size]? = some (.deferred (some [])) := (World.putObj_heap_other (by omega)).trans hk
      have hb2 : Box (W.putObj (w.heap.size + 1) (.loop { rec .ready none with state := .busy })) Bn r := (World.putObj_heap_other hBL).trans hbx
      refine wpIn_mono (hbodyT _ pre x _ (hobj pre W _ _ _ hi (.inr rfl) hl (by intros; simp)) hlen hx63 ⟨_, hl2⟩ ⟨_, hk2⟩ ⟨r, hb2⟩) ?_
      rintro e a3 W3 hp
      cases e with
      | normal =>
        obtain ⟨hk3, hi3⟩ := hp
        have hl3 := hk3 _ _ (.inr (.inl rfl)) hl2
        have hkk3 := hk3 _ _ (.inl rfl) hk2
        have hb3 := hk3 _ _ (.inr (.inr rfl)) hb2
        have hr := run_endRound (P := Try.prog) none hl3
        rw [hrec] at hr
        refine ⟨_, _, hr, rfl, ⟨hobj _ W3 _ _ _ hi3 (.inr rfl) hl3 (by intros; simp), ?_, (World.putObj_heap_other (by omega)).trans hkk3⟩, (World.putObj_heap_other hBL).trans hb3⟩
        rw [World.putObj_heap_same (lt_of_blk hl3), hrec]; rfl
      | _ => exact hp.elim
    · rintro pre W ⟨hi, hl, hk⟩
      have hlt := lt_of_blk hl
      have hy := run_yield (P := Try.prog) (args := #[.string (mk []), .bool false]) hl (by rw [hrec]; exact hps.symm)
      rw [hrec] at hy
      refine ⟨fn, _, assign, body, hy, roundIn_of_wpIn hfn (hassign _ [] false W _ ⟨_, run_beginRound hl (by rw [hrec]), ?_⟩)⟩
      have hl2 : (W.putObj (w.heap.size + 1) (.loop { rec .ready none with state := .busy })).heap[w.heap.size + 1]? = some (.loop { rec .ready none with state := .busy }) := World.putObj_heap_same hlt
      have hk2 : (W.putObj (w.heap.size + 1) (.loop { rec .ready none with state := .busy })).heap[w.heap.size]? = some (.deferred (some [])) := (World.putObj_heap_other (by omega)).trans hk
      refine wpIn_mono (hbodyF _ pre _ (hobj pre W _ _ _ hi (.inr rfl) hl (by intros; simp)) ⟨_, hl2⟩ ⟨_, hk2⟩) ?_
      rintro e a3 W3 hp
      cases e with
      | ret =>
        obtain ⟨hk3, hi3⟩ := hp
        have hl3 := hk3 _ _ (.inr (.inl rfl)) hl2
        have hkk3 := hk3 _ _ (.inl rfl) hk2
        have hr := run_endRound (P := Try.prog) (some .ret) hl3
        rw [hrec] at hr
        refine ⟨_, _, hr, rfl, hxobj W3 _ _ _ hi3 (.inr rfl) hl3 (by intros; simp), ?_, (World.putObj_heap_other (by omega)).trans hkk3⟩
        rw [World.putObj_heap_same (lt_of_blk hl3), hrec]; rfl
      | _ => exact hp.elim
    · rintro e W2 ⟨⟨v, rfl⟩, (⟨ls, hS, hi, hl, hk⟩ | ⟨hS, hi, hl, hk⟩)⟩
      · exact ⟨none, _, by have := run_endLoop (P := Try.prog) hl (by rw [hrec]; simp); rw [hrec] at this; exact this, hdone ls _ hS (hobj _ _ _ _ _ hi (.inr rfl) hl (by intros; simp)) ((World.putObj_heap_other (by omega)).trans hk)⟩
      · exact ⟨some .ret, _, by have := run_endLoop (P := Try.prog) hl (by rw [hrec]; simp); rw [hrec] at this; exact this, hstop _ hS (hxobj _ _ _ _ hi (.inr rfl) hl (by intros; simp)) ((World.putObj_heap_other (by omega)).trans hk)⟩
end Go.Proofs.Ytlbhfnjhhpcphaa
