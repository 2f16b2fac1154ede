/-
  ostiarykit.SameInts of two slices that read alike; package drr: Drop.
-/
import Derived.Test.YtcpejmnmbioinaaDJ
namespace Go.Proofs.Ytcpejmnmbioinaa
open Go.RowKit
/-- A slice of integers. -/
def IsInts (w : World) (v : Value) (l : List Int) : Prop := ∃ a cap, v = .slice a l.length cap ∧ ∀ i (h : i < l.length), ∃ b off, a = some ⟨b, off, none⟩ ∧ w.cell? ⟨b, off + i, none⟩ = some (.int .i64 l[i])
theorem own_ints {B : Nat} {w : World} {ao : Option Addr} {cap : Nat} {l : List Int} (h : w.ownsRow B 3 1 (.slice ao l.length cap) l.length (icells l)) : IsInts w (.slice ao l.length cap) l := by
  refine ⟨ao, cap, rfl, fun i hi => ?_⟩
  rcases h.2 with ⟨h1, h0⟩ | ⟨g, c, cur, hv, _, hh, _, _, _, ht⟩
  · omega
  · cases hv
    refine ⟨g, 0, rfl, ?_⟩
    rw [Nat.zero_add, blk_cell hh]
    have h1 : (icells l)[i]? = some (.int .i64 l[i]) := by simp [icells, hi]
    rw [← ht, List.getElem?_take_of_lt (by omega)] at h1
    simpa using h1
theorem IsInts.fr {w w' : World} {v : Value} {l : List Int} {S : Nat → Prop} (h : IsInts w v l) (hf : Fr S w w') (hS : ∀ k, v.ownBlock = some k → ¬ S k) : IsInts w' v l := by
  obtain ⟨a, cap, rfl, hc⟩ := h
  refine ⟨a, cap, rfl, fun i hi => ?_⟩
  obtain ⟨b, off, rfl, h1⟩ := hc i hi
  exact ⟨b, off, rfl, hf.cell (hS b rfl) h1⟩
set_option maxRecDepth 100000 in
theorem SameInts_calls (v1 v2 : Value) (l : List Int) (w : World) (h1 : IsInts w v1 l) (h2 : IsInts w v2 l) (hl : l.length ≤ 1000000) :
    Calls Try.prog 17 #[v1, v2] w fun r w' => r = .returned (.bool true) ∧ Fr nob w w' := by
  obtain ⟨a1, cap1, rfl, hc1⟩ := h1
  obtain ⟨a2, cap2, rfl, hc2⟩ := h2
  have H1 := Ho.mk hc1; have H2 := Ho.mk hc2
  have e1 : (((l.length : Int)) == ((l.length : Int))) = true := by simp
  have e2 : (l.length == l.length) = true := by simp
  clear hc1 hc2
  go_enter Try.func17, Try.ntmps17
  go_wp2_with (fail)
  go_loopw [5] (fun si wr => ∃ i : Nat, i ≤ l.length ∧ si = .int .i64 (i : Int) ∧ ∃ m, wr = w.drewN m) (fun si _ => l.length - (intOf si).toNat)
  case atStart => exact ⟨0, by omega, rfl, 0, rfl⟩
  case round =>
    obtain ⟨i, hi, rfl, m, rfl⟩ := hrel
    by_cases hlt : i < l.length
    · obtain ⟨b1, o1, rfl, k1⟩ := H1.out i hlt
      obtain ⟨b2, o2, rfl, k2⟩ := H2.out i hlt
      have k1' : (w.drewN m).cell? ⟨b1, o1 + i, none⟩ = some (.int .i64 l[i]) := k1
      have k2' : (w.drewN m).cell? ⟨b2, o2 + i, none⟩ = some (.int .i64 l[i]) := k2
      generalize l[i] = x at *
      have e3 : (x == x) = true := by simp
      clear k1 k2
      generalize hwm : w.drewN m = wm at *
      have HW := Ho.mk hwm; clear hwm
      go_wp2_with (fail)
      go_quiet (fail)
      go_wp2_with (fail)
      go_roundw
      case rel => exact ⟨i + 1, by omega, by go_num, m + nq, by rw [← HW.out, World.drewN_drewN]⟩
      case measure => simp [intOf]; omega
    · obtain rfl : i = l.length := by omega
      go_wp2_with (fail)
      go_ret
      exact ⟨rfl, (Fr.refl nob w).drewN m⟩
end Go.Proofs.Ytcpejmnmbioinaa
