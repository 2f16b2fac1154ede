/-
  strings.Builder whose buffer's place is known not to be one of some blocks: WriteByte.
-/
import Derived.Test.YtcmiidklddnfhaaBld
import Derived.Deep.AppendLies
namespace Go.Proofs.Ytcmiidklddnfhaa
open Go.RowKit
/-- A builder in block b that holds the bytes l; its buffer lies behind b and is none of the blocks D. -/
def SN (b : Nat) (D : Nat → Prop) (l : List UInt8) (w : World) : Prop :=
  ∃ p v, w.heap[b]? = some (.cells #[p, v] 55 (0, 0)) ∧ (p = .pointer none ∨ p = .pointer (some ⟨b, 0, none⟩)) ∧ w.ownsRow (b + 1) 5 1 v l.length (Lib.byteCells l) ∧ ∀ k, v.ownBlock = some k → ¬ D k
theorem SN.new {w : World} {b : Nat} (D : Nat → Prop) (h : w.heap[b]? = some (.cells #[.pointer none, .slice none 0 0] 55 (0, 0))) : SN b D [] w :=
  ⟨_, _, h, .inl rfl, World.ownsRow_nil _ _ _ _, by simp [Value.ownBlock]⟩
theorem SN.more {b : Nat} {D D' : Nat → Prop} {l : List UInt8} {w : World} (h : SN b D l w) (hd : ∀ k, k < w.heap.size → D' k → D k) : SN b D' l w := by
  obtain ⟨p, v, h1, h2, h3, h4⟩ := h
  refine ⟨p, v, h1, h2, h3, fun k hk hd' => ?_⟩
  rcases h3.2 with ⟨rfl, _⟩ | ⟨g, cap, cur, rfl, _, hg, _⟩
  · simp [Value.ownBlock] at hk
  · simp only [Value.ownBlock, Option.some.injEq] at hk
    subst hk
    exact h4 _ rfl (hd _ (lt_of_blk hg) hd')
theorem rowN_fr {B : Nat} {e : TypeId} {v : Value} {n : Nat} {xs : List Value} {S : Nat → Prop} {w w' : World} (h : w.ownsRow B e 1 v n xs) (hf : Fr S w w') (hS : ∀ k, v.ownBlock = some k → ¬ S k) : w'.ownsRow B e 1 v n xs := by
  obtain ⟨h0, h1⟩ := h
  refine ⟨h0, ?_⟩
  rcases h1 with h1 | ⟨g, cap, cur, rfl, hg, hh, r⟩
  · exact .inl h1
  · exact .inr ⟨g, cap, cur, rfl, hg, hf.block g _ hh (hS g rfl), r⟩
/-- Blocks in D, and those that are no block of the builder, may be turned. -/
theorem SN.fr {b : Nat} {D : Nat → Prop} {l : List UInt8} {w w' : World} (h : SN b D l w) (hf : Fr (fun k => D k ∧ k ≠ b) w w') : SN b D l w' := by
  obtain ⟨p, v, h1, h2, h3, h4⟩ := h
  exact ⟨p, v, hf.block b _ h1 (fun h => h.2 rfl), h2, rowN_fr h3 hf (fun k hk hd => h4 k hk hd.1), h4⟩
theorem SN.sb {b : Nat} {D : Nat → Prop} {l : List UInt8} {w : World} (h : SN b D l w) : SB b b l w := by
  obtain ⟨p, v, h1, h2, h3, h4⟩ := h
  have hne : v.ownBlock ≠ some b := by
    intro e
    rcases h3.2 with ⟨rfl, _⟩ | ⟨g, cap, cur, rfl, hb, _⟩
    · simp [Value.ownBlock] at e
    · simp only [Value.ownBlock, Option.some.injEq] at e; omega
  have hrow : w.ownsRowF b 5 1 v (Lib.byteCells l).length (Lib.byteCells l) := by
    rw [Lib.byteCells_length]
    refine World.ownsRowF_of ⟨h3.1, ?_⟩
    rcases h3.2 with h | ⟨g, cap, cur, hv, hb, r⟩
    · exact .inl h
    · exact .inr ⟨g, cap, cur, hv, by omega, r⟩
  rcases h2 with rfl | rfl
  · exact .inl ⟨Nat.le_refl _, v, h1, hrow, hne⟩
  · exact .inr ⟨Nat.le_refl _, v, h1, hrow, hne⟩
theorem SN.lt {b : Nat} {D : Nat → Prop} {l : List UInt8} {w : World} (h : SN b D l w) : b < w.heap.size := by
  obtain ⟨p, v, h1, _⟩ := h; exact lt_of_blk h1
/-- What a write turns: the builder and its buffer. -/
def FN (b : Nat) (D : Nat → Prop) : Nat → Prop := fun k => k = b ∨ (b < k ∧ ¬ D k)
set_option maxRecDepth 100000 in
set_option maxHeartbeats 1000000 in
theorem copyCheck_n (b : Nat) (D : Nat → Prop) (l : List UInt8) (w : World) (h : SN b D l w) :
    Calls Try.prog 47 #[.pointer (some ⟨b, 0, none⟩)] w fun e w' => e = .returned (.tuple #[]) ∧ ∃ v, w'.heap[b]? = some (.cells #[.pointer (some ⟨b, 0, none⟩), v] 55 (0, 0)) ∧ w'.ownsRow (b + 1) 5 1 v l.length (Lib.byteCells l) ∧ (∀ k, v.ownBlock = some k → ¬ D k) ∧ Fr (FN b D) w w' := by
  obtain ⟨p, v, h1, h2, h3, h4⟩ := h
  rcases h2 with rfl | rfl
  · refine (copyCheck_fresh b w (blk_cell h1 0) ?_ (blk_free h1 0)).mono ?_
    · unfold World.shape?; rw [h1]; rfl
    · rintro e w' ⟨rfl, rfl⟩
      have hf : Fr (FN b D) w (w.setCell ⟨b, 0, none⟩ (.pointer (some ⟨b, 0, none⟩))) := (Fr.refl _ w).set (.inr (.inl rfl)) _
      have hf2 : Fr (fun k => k = b) w (w.setCell ⟨b, 0, none⟩ (.pointer (some ⟨b, 0, none⟩))) := (Fr.refl (fun k => k = b) w).set (p := ⟨b, 0, none⟩) (.inr rfl) _
      refine ⟨rfl, v, blk_set h1 0 _, rowN_fr h3 hf2 (fun k hk e => ?_), h4, hf⟩
      rcases h3.2 with ⟨rfl, _⟩ | ⟨g, cap, cur, rfl, hb, _⟩
      · simp [Value.ownBlock] at hk
      · simp only [Value.ownBlock, Option.some.injEq] at hk; omega
  · refine (copyCheck_used b w (blk_cell h1 0)).mono ?_
    rintro e w' ⟨rfl, rfl⟩
    exact ⟨rfl, v, h1, h3, h4, Fr.refl _ _⟩
set_option maxRecDepth 100000 in
set_option maxHeartbeats 1000000 in
theorem WriteByte_n (b : Nat) (D : Nat → Prop) (l : List UInt8) (c : UInt8) (x : Int) (hx : x = c.toNat) (w : World) (h : SN b D l w) (hD : ∀ k, D k → k < w.heap.size) (hlen : l.length + 1 ≤ 1000000) :
    Calls Try.prog 37 #[.pointer (some ⟨b, 0, none⟩), .int .u8 x] w fun e w' => e = .returned .nilIface ∧ SN b D (l ++ [c]) w' ∧ Fr (FN b D) w w' := by
  subst hx
  obtain ⟨i0, hi, hz0, hz1, hz2⟩ := info_parts infoByte
  have hlt := h.lt
  have HD := Ho.mk hD
  clear hD
  go_enter Try.func37, Try.ntmps37
  go_wp2_with (go_at_call 47; refine (copyCheck_n b D l _ h).mono ?_)
  rintro e w1 ⟨rfl, v, hbk, hown, hv, hf1⟩
  have c0 : w1.cell? ⟨b, 0, none⟩ = some (.pointer (some ⟨b, 0, none⟩)) := blk_cell hbk 0
  have c1 : w1.cell? ⟨b, 1, none⟩ = some v := blk_cell hbk 1
  have hsz := hf1.size
  have HF1 := Ho.mk hf1; have HV := Ho.mk hv; have HB := Ho.mk hbk; have HOW := Ho.mk hown
  clear hf1 hv
  go_wp2_with (at_builtin; refine wpList_append_lies _ rfl _ _ 53 rfl (b + 1) 5 i0 (.int .u8 0) 1 1 Try.underlying53 hi hz0 hz1 hz2 rfl (by decide) _ _ _ rfl (hown.alloc _) ⟨w1.heap.size, 0, none⟩ 1 1 [.int .u8 (c.toNat : Int)] rfl rfl ?c1 ?c2 (by decide) ?c3 ?c4 ?c5 (w1.heap.size + 1) (by simp) ?_)
  case c1 =>
    intro j u hj
    match j, hj with
    | 0, hj => simp at hj; subst hj; simp [Addr.add]
  case c2 => intro u hu; simp at hu; subst hu; rfl
  case c3 => unfold maxLen; omega
  case c4 => omega
  case c5 => simp; omega
  intro g cap w2 hown' hgrow hat hlt2
  have hbv : ∀ k, v.ownBlock = some k → b < k := by
    intro k hk
    rcases HOW.out.2 with ⟨rfl, _⟩ | ⟨g, cap, cur, rfl, hb, _⟩
    · simp [Value.ownBlock] at hk
    · simp only [Value.ownBlock, Option.some.injEq] at hk; omega
  have hgb : b < g := by
    rcases hat with h | h
    · exact hbv _ h
    · omega
  have hb2 : w2.heap[b]? = some (.cells #[.pointer (some ⟨b, 0, none⟩), v] 55 (0, 0)) := by
    rw [hgrow.block b (by simp; omega) (fun e => by have := hbv b e.symm; omega)]
    exact blk_old HB.out _
  have d0 : w2.cell? ⟨b, 0, none⟩ = some (.pointer (some ⟨b, 0, none⟩)) := blk_cell hb2 0
  have d1 : w2.cell? ⟨b, 1, none⟩ = some v := blk_cell hb2 1
  have f1 : w2.frozen? ⟨b, 1, none⟩ = false := blk_free hb2 1
  have hnD : ¬ D g := by
    rcases hat with h | h
    · exact HV.out _ h
    · intro hd; have := HD.out _ hd; omega
  have hf2 := (HF1.out.alloc (.cells #[.int .u8 (c.toNat : Int)] 5)).grown hgrow (fun k hk => .inr (.inr ⟨hbv k hk, HV.out k hk⟩))
  have HO2 := Ho.mk hown'; have HB2 := Ho.mk hb2; have HF2 := Ho.mk hf2; have HND := Ho.mk hnD
  clear hown' hgrow hat hb2 hf2 hnD HOW HB HF1 HV hbk hown hbv
  go_wp2
  go_ret
  have hf3 : Fr (fun k => k = b) w2 (w2.setCell ⟨b, 1, none⟩ (.slice (some ⟨g, 0, none⟩) (l.length + 1) cap)) := (Fr.refl (fun k => k = b) w2).set (p := ⟨b, 1, none⟩) (.inr rfl) _
  refine ⟨rfl, ⟨_, _, blk_set HB2.out 1 _, .inr rfl, ?_, ?_⟩, HF2.out.set (p := ⟨b, 1, none⟩) (.inr (.inl rfl)) _⟩
  · have e1 : Lib.byteCells (l ++ [c]) = Lib.byteCells l ++ [.int .u8 (c.toNat : Int)] := by unfold Lib.byteCells; rw [List.map_append]; rfl
    rw [e1, List.length_append]
    exact rowN_fr HO2.out hf3 (fun k hk e => by simp only [Value.ownBlock, Option.some.injEq] at hk; subst e; omega)
  · intro k hk
    simp only [Value.ownBlock, Option.some.injEq] at hk
    subst hk; exact HND.out
end Go.Proofs.Ytcmiidklddnfhaa
