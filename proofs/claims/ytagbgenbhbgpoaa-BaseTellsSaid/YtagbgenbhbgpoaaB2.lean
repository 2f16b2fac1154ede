/-
  base.numbers: the table of the letters' numbers.
-/
import Derived.Test.YtagbgenbhbgpoaaChecked
import Derived.Test.YtagbgenbhbgpoaaA
import Derived.Laws.BitsLemmas
import Derived.Lib.OthersKept
import Derived.Laws.RangeString
namespace Go.Proofs.Ytagbgenbhbgpoaa
open Go.RowKit
/-- A row of 256 bytes. -/
def tabL (f : Nat → Int) : List Value := (List.range 256).map (fun i => Value.int .u8 (f i))
def tabA (f : Nat → Int) : Array Value := (tabL f).toArray
theorem tabL_len (f : Nat → Int) : (tabL f).length = 256 := by unfold tabL; simp
theorem tabA_size (f : Nat → Int) : (tabA f).size = 256 := tabL_len f
theorem tabA_get (f : Nat → Int) {i : Nat} (h : i < 256) : (tabA f)[i]? = some (.int .u8 (f i)) := by
  unfold tabA tabL; simp [h]
theorem tabA_set (f : Nat → Int) (k : Nat) (v : Int) : (tabA f).setIfInBounds k (.int .u8 v) = tabA (fun i => if i = k then v else f i) := by
  unfold tabA tabL
  apply Array.ext'
  rw [Array.toList_setIfInBounds]
  apply List.ext_getElem
  · simp
  · intro i h1 h2
    simp only [List.getElem_set, List.getElem_map, List.getElem_range]
    by_cases e : k = i
    · subst e; simp
    · rw [if_neg e, if_neg (fun h => e h.symm)]
theorem tabA_congr {f g : Nat → Int} (h : ∀ i, i < 256 → f i = g i) : tabA f = tabA g := by
  unfold tabA tabL; congr 1; apply List.map_congr_left; intro i hi; rw [h i (by simpa using hi)]
theorem zero39 (w : World) : (zeroValue 39).run Try.prog w = .ok (.agg (tabA fun _ => 0)) w := by kernel_rfl
/-- The first k entries are 255. -/
def fill (k : Nat) : Nat → Int := fun i => if i < k then 255 else 0
theorem fill_step (k : Nat) : tabA (fun i => if i = k then 255 else fill k i) = tabA (fill (k + 1)) := tabA_congr fun i _ => by
  unfold fill
  by_cases e : i = k
  · subst e; rw [if_pos rfl, if_pos (by omega)]
  · rw [if_neg e]
    by_cases h : i < k
    · rw [if_pos h, if_pos (by omega)]
    · rw [if_neg h, if_neg (by omega)]
/-- The letters. -/
def lets : ByteArray := ⟨#[65, 66, 67, 68, 69, 70, 71, 72, 73, 74, 75, 76, 77, 78, 79, 80, 81, 82, 83, 84, 85, 86, 87, 88, 89, 90, 97, 98, 99, 100, 101, 102, 103, 104, 105, 106, 107, 108, 109, 110, 111, 112, 113, 114, 115, 116, 117, 118, 119, 120, 121, 122, 48, 49, 50, 51, 52, 53, 54, 55, 56, 57, 45, 95]⟩
def letAt (i : Nat) : Nat := match lets.data[i]? with | some c => c.toNat | none => 0
theorem lets_size : lets.size = 64 := by decide
theorem letAt_lt (i : Nat) (h : i < 64) : letAt i < 128 := by
  have : ∀ i : Fin 64, letAt i.val < 128 := by decide
  exact this ⟨i, h⟩
theorem letAt_eq (i : Nat) (h : i < 64) : (lets[i]'(by rw [lets_size]; exact h)).toNat = letAt i := by
  have : ∀ i : Fin 64, (lets[i.val]'(by rw [lets_size]; exact i.isLt)).toNat = letAt i.val := by decide
  exact this ⟨i, h⟩
theorem lets_ascii (i : Nat) (h : i < 64) : (lets[i]'(by rw [lets_size]; exact h)).toNat < 128 := by rw [letAt_eq i h]; exact letAt_lt i h
/-- The table when the first k letters are in. -/
def lnum : Nat → Nat → Int
  | 0, _ => 255
  | k + 1, i => if i = letAt k then (k : Int) else lnum k i
theorem info256 {f : Nat → Int} : (Try.prog.info? 39).map (·.size) = some (tabA f).size := by rw [tabA_size]; kernel_rfl
theorem tabA_one (f : Nat → Int) : (tabA f).all (·.oneCell') = true := by
  unfold tabA tabL; simp [Value.oneCell']
theorem Fr.setRow {S : Nat → Prop} {a b : World} (h : Fr S a b) {g : Nat} (hp : a.heap.size ≤ g ∨ S g) (v : Array Value) : Fr S a (b.setRow g v) :=
  ⟨h.os, h.tape, h.output, by have := h.size; simpa [World.setRow] using this, fun i x hi hs => by
    have hlt := lt_of_blk hi
    have h1 := h.block i x hi hs
    simp only [World.setRow, Array.getElem?_modify]
    rw [if_neg (by rintro rfl; exact hp.elim (fun h1 => by omega) (fun h1 => hs h1))]
    exact h1⟩
set_option maxRecDepth 100000 in
theorem numbers_calls (w : World) :
    Calls Try.prog 21 #[] w fun e w' => e = .returned (.agg (tabA (lnum 64))) ∧ Fr nob w w' := by
  have hz := zero39
  go_enter Try.func21, Try.ntmps21
  go_wp2_with (fail)
  go_loopw [5] (fun i wr => ∃ k : Nat, k ≤ 256 ∧ i = .int .i64 k ∧ wr.heap[w.heap.size]? = some (.cells (tabA fun _ => 0) 39 (0, 0)) ∧ wr.heap[w.heap.size + 1]? = some (.cells (tabA (fill k)) 39 (0, 0)) ∧ wr.heap.size = w.heap.size + 2 ∧ Fr nob w wr)
    (fun i _ => 256 - (intOf i).toNat)
  case atStart => exact ⟨0, by omega, rfl, blk_old (blk_new w _) _, by rw [show fill 0 = fun _ => 0 from rfl]; exact blk_new' (by simp), by simp, ((Fr.refl _ _).alloc _).alloc _⟩
  case round =>
    obtain ⟨k, hk, rfl, hA, hB, hS, hF⟩ := hrel
    by_cases hlt : k < 256
    · have c1 : wr.cell? ⟨w.heap.size + 1, k, none⟩ = some (.int .u8 (fill k k)) := (blk_cell hB k).trans (tabA_get _ hlt)
      have f1 : wr.frozen? ⟨w.heap.size + 1, k, none⟩ = false := blk_free hB k
      have HB := Ho.mk hB; have HA := Ho.mk hA; clear hA hB
      have HS := Ho.mk hS; clear hS
      go_wp2
      go_roundw
      case rel =>
        have h2 := blk_set HB.out k (.int .u8 255)
        rw [tabA_set, fill_step] at h2
        exact ⟨k + 1, by omega, by go_num, blk_far HA.out _ (by simp) _, h2, by rw [blk_setCell_mono]; exact HS.out, hF.set (.inl (by simp)) _⟩
      case measure => simp [intOf]; omega
    · obtain rfl : k = 256 := by omega
      obtain ⟨wo, rfl⟩ : ∃ wo : World, wo = wr := ⟨_, rfl⟩
      have HB := Ho.mk hB; have HA := Ho.mk hA; clear hA hB
      have HS := Ho.mk hS; clear hS
      go_wp2_with (fail)
      go_loopg [] 64 (fun gq wz => ∃ pos : Nat, pos + gq = 64 ∧ wz.heap[w.heap.size]? = some (.cells (tabA fun _ => 0) 39 (0, 0)) ∧ wz.heap[w.heap.size + 1]? = some (.cells (tabA (lnum pos)) 39 (0, 0)) ∧ wz.heap[wo.heap.size]? = some (.stringIter lets pos) ∧ Fr nob w wz)
      case atStart => exact ⟨0, rfl, blk_old HA.out _, blk_old HB.out _, blk_new _ _, hF.alloc _⟩
      case round =>
        obtain ⟨pos, hg, hA, hB, hI, hF2⟩ := hrel
        by_cases hlt : pos < 64
        · obtain ⟨gk, rfl⟩ : ∃ m, gk = m + 1 := ⟨gk - 1, by omega⟩
          have hn : (Instr.next (.pointer (some ⟨wo.heap.size, 0, none⟩)) true 0).run Try.prog wr = .ok (.tuple #[.bool true, .int .i64 pos, .int .i32 (letAt pos)]) (wr.iterAt wo.heap.size lets (pos + 1)) := by
            rw [Lib.run_next_ascii_at wr _ lets pos 0 hI (by rw [lets_size]; exact hlt) (lets_ascii pos hlt)]; rw [letAt_eq pos hlt]
          have hl := letAt_lt pos hlt
          have e1 : IntKind.u8.wrap (letAt pos : Int) = letAt pos := by rw [IntKind.wrap_u8]; omega
          have e2 : IntKind.u8.wrap (pos : Int) = pos := by rw [IntKind.wrap_u8]; omega
          have hBi : (wr.iterAt wo.heap.size lets (pos + 1)).heap[w.heap.size + 1]? = some (.cells (tabA (lnum pos)) 39 (0, 0)) := by
            rw [Lib.iterAt_other _ _ _ _ _ (by rw [HS.out]; omega)]; exact hB
          have c1 := (blk_cell hBi (letAt pos)).trans (tabA_get _ (by omega))
          have f1 := blk_free hBi (letAt pos)
          have HB2 := Ho.mk hBi; clear hBi hB
          have HA2 := Ho.mk hA; have HI2 := Ho.mk hI; have HG := Ho.mk hg; have HL := Ho.mk hl
          have HE1 := Ho.mk e1; have HE2 := Ho.mk e2
          clear hA hI hg
          go_wp2
          go_roundg gk
          case rel =>
            have h2 := blk_set HB2.out (letAt pos) (.int .u8 pos)
            rw [tabA_set] at h2
            refine ⟨pos + 1, by have := HG.out; omega, blk_far ((Lib.iterAt_other _ _ _ _ _ (by rw [HS.out]; omega)).trans HA2.out) _ (by simp) _, h2, blk_far (Lib.iterAt_heap _ _ _ _ _ HI2.out) _ (by rw [HS.out]; simp) _, ?_⟩
            exact Fr.set (Fr.setObj hF2 (.inl (by rw [HS.out]; omega)) _) (.inl (by simp)) _
          case measure => omega
        · obtain rfl : pos = 64 := by omega
          have hn : (Instr.next (.pointer (some ⟨wo.heap.size, 0, none⟩)) true 0).run Try.prog wr = .ok (.tuple #[.bool false]) wr :=
            Lib.run_next_end_at wr _ lets 64 0 hI (by rw [lets_size]; omega)
          have HB2 := Ho.mk hB; have HA2 := Ho.mk hA; have HG := Ho.mk hg
          clear hA hI hg hB
          go_upto_region 11 with (fail)
          go_step
          refine wpList_load_row rfl 39 _ rfl (w.heap.size + 1) rfl 39 (tabA (lnum 64)) (0, 0) _ HB2.out Try.underlying39 rfl info256 ?_
          refine wpList_store_row rfl 39 _ _ rfl w.heap.size (tabA (lnum 64)) rfl rfl 39 _ HA2.out info256 (by rw [tabA_size, tabA_size]) (tabA_one _) ?_
          go_wp2
          have hR : (wr.setRow w.heap.size (tabA (lnum 64))).heap[w.heap.size]? = some (.cells (tabA (lnum 64)) 39 (0, 0)) :=
            setRow_heap wr _ _ _ _ _ HA2.out
          refine bodyPost_ret (v := .agg (tabA (lnum 64))) (results_cell_row rfl _ _ w.heap.size 39 _ (0, 0) _ rfl hR Try.underlying39 rfl info256) rfl ⟨rfl, ?_⟩
          exact hF2.setRow (.inl (Nat.le_refl _)) _
end Go.Proofs.Ytagbgenbhbgpoaa
