/-
  The reference ostiaryref21: at.
-/
import Derived.Test.YtcpejmnmbioinaaDU
namespace Go.Proofs.Ytcpejmnmbioinaa
open Go.RowKit
theorem rowC_get (t : Bool) (R : List RL) (i : Nat) (hi : i < R.length) : ∀ k (_ : k < 4), (rowC t R)[i * 4 + k]? = (lineC (decide (i = 0) && t) R[i])[k]? := by
  have hf : ∀ (L : List RL) (i : Nat) (hi : i < L.length) (k : Nat), k < 4 → (L.flatMap (lineC false))[i * 4 + k]? = (lineC false L[i])[k]? := by
    intro L
    induction L with
    | nil => intro i hi; simp at hi
    | cons x L ih =>
      intro i hi k hk
      rw [List.flatMap_cons]
      cases i with
      | zero =>
        rw [List.getElem?_append_left (by simp [lineC]; omega)]; simp
      | succ i =>
        rw [List.getElem?_append_right (by simp [lineC]; omega)]
        have e : (i + 1) * 4 + k - (lineC false x).length = i * 4 + k := by simp [lineC]; omega
        rw [e, ih i (by simpa using hi) k hk]
        simp
  intro k hk
  cases R with
  | nil => simp at hi
  | cons x R =>
    show (lineC t x ++ R.flatMap (lineC false))[i * 4 + k]? = _
    cases i with
    | zero =>
      rw [List.getElem?_append_left (by simp [lineC]; omega)]; simp
    | succ i =>
      rw [List.getElem?_append_right (by simp [lineC]; omega)]
      have e : (i + 1) * 4 + k - (lineC t x).length = i * 4 + k := by simp [lineC]; omega
      rw [e, hf R i (by simpa using hi) k hk]
      simp
/-- A line's cells in memory. -/
theorem row_line {w : World} {v : Value} {t : Bool} {R : List RL} (h : w.ownsRow 0 75 4 v R.length (rowC t R)) (i : Nat) (hi : i < R.length) : ∃ g cap, v = .slice (some ⟨g, 0, none⟩) R.length cap ∧ w.cell? ⟨g, i * 4, none⟩ = some (.int .i64 R[i].cl.n) ∧ w.cell? ⟨g, i * 4 + 1, none⟩ = some (.int .i64 R[i].cl.credit) ∧ w.cell? ⟨g, i * 4 + 2, none⟩ = some (.bool (decide (i = 0) && t)) ∧ w.cell? ⟨g, i * 4 + 3, none⟩ = some (.slice R[i].ao R[i].cl.its.length R[i].cap) := by
  rcases h.2 with ⟨_, h0⟩ | ⟨g, cap, cur, hv, _⟩
  · omega
  · subst hv
    have hc := fun k (hk : k < 4) => (h.cellAt (i * 4 + k) (by omega)).trans (rowC_get t R i hi k hk)
    exact ⟨g, cap, rfl, hc 0 (by omega), hc 1 (by omega), hc 2 (by omega), hc 3 (by omega)⟩
theorem row_shape {w : World} {v : Value} {t : Bool} {R : List RL} (h : w.ownsRow 0 75 4 v R.length (rowC t R)) : ∃ ao cap, v = .slice ao R.length cap ∧ R.length ≤ cap ∧ cap ≤ maxLen := by
  rcases h.2 with ⟨hv, h0⟩ | ⟨g, cap, cur, hv, _, _, h1, h2, _⟩
  · exact ⟨none, 0, by rw [hv, h0], by omega, by decide⟩
  · exact ⟨_, _, hv, h1, h2⟩
/-- Where a client stands. -/
def atP (R : List RL) (n i : Int) : Prop := (i = -1 ∧ ∀ x ∈ R, x.cl.n ≠ n) ∨ ∃ A x B, R = A ++ x :: B ∧ x.cl.n = n ∧ (∀ y ∈ A, y.cl.n ≠ n) ∧ i = (A.length : Int)
set_option maxRecDepth 100000 in
set_option maxHeartbeats 2000000 in
theorem at_calls (w : World) (r : Nat) (n a b c d : Int) (v : Value) (t : Bool) (R : List RL) (hh : w.heap[r]? = some (.cells #[.int .i64 a, .int .i64 b, .int .i64 c, .int .i64 d, v] 72 (0, 0))) (hr : w.ownsRow 0 75 4 v R.length (rowC t R)) (hl : R.length ≤ 100000) :
    Calls Try.prog 40 #[.pointer (some ⟨r, 0, none⟩), .int .i64 n] w fun e w' => ∃ i, e = .returned (.int .i64 i) ∧ atP R n i ∧ Fr nob w w' := by
  obtain ⟨ao, cap, rfl, hc1, hc2⟩ := row_shape hr
  have c4 : w.cell? ⟨r, 4, none⟩ = some (.slice ao R.length cap) := blk_cell hh 4
  have HH := Ho.mk hh; have HR := Ho.mk hr
  obtain ⟨ln, hln⟩ : ∃ m, R.length = m := ⟨_, rfl⟩
  rw [hln] at c4 hc1
  have HLN := Ho.mk hln
  have hl2 : ln ≤ 100000 := by omega
  clear hh hr hln
  go_enter Try.func40, Try.ntmps40
  go_wp2_with (fail)
  go_loop [5] (fun iv => ∃ k : Nat, k ≤ ln ∧ iv = .int .i64 (k : Int) ∧ Ho (∀ x ∈ R.take k, x.cl.n ≠ n)) (fun iv => ln - (intOf iv).toNat)
  case atStart => exact ⟨0, by omega, rfl, ⟨by simp⟩⟩
  case round =>
    obtain ⟨k, hk, rfl, HA⟩ := hrel
    by_cases hlt : k < ln
    · have hkl : k < R.length := by rw [HLN.out]; exact hlt
      obtain ⟨g, cap', hv, l0, _⟩ := row_line HR.out k hkl
      injection hv with hv1 hv2 hv3
      subst hv1
      have hlt' : decide ((k : Int) < (ln : Int)) = true := decide_eq_true (by omega)
      have hlt'' : decide (k < ln) = true := decide_eq_true hlt
      have hsp : R = R.take k ++ R[k] :: R.drop (k + 1) := by
        rw [← List.drop_eq_getElem_cons hkl, List.take_append_drop]
      have htk : R.take (k + 1) = R.take k ++ [R[k]] := List.take_succ_eq_append_getElem hkl
      generalize R[k] = x at *
      have HSP := Ho.mk hsp; have HTK := Ho.mk htk
      clear hsp htk hv2 hv3
      by_cases he : x.cl.n = n
      · have q1 : (x.cl.n == n) = true := by rw [he]; simp
        have HE := Ho.mk he
        clear he
        go_wp2_with (fail)
        go_ret
        refine ⟨_, rfl, .inr ⟨R.take k, x, R.drop (k + 1), HSP.out, HE.out, HA.out, ?_⟩, Fr.refl _ _⟩
        rw [List.length_take, HLN.out]; congr 1; omega
      · have q1 : (x.cl.n == n) = false := by rw [beq_eq_false_iff_ne]; exact he
        have HE := Ho.mk he
        clear he
        go_wp2_with (fail)
        go_roundw
        case rel =>
          refine ⟨k + 1, by omega, by go_num, ⟨?_⟩⟩
          rw [HTK.out]
          intro y hy
          rcases List.mem_append.1 hy with hy | hy
          · exact HA.out y hy
          · simp at hy; subst hy; exact HE.out
        case measure => simp [intOf]; omega
    · obtain rfl : k = ln := by omega
      have hlt' : decide ((k : Int) < (k : Int)) = false := decide_eq_false (by omega)
      have hall := HA.out
      rw [List.take_of_length_le (by rw [HLN.out]; exact Nat.le_refl _)] at hall
      have HALL := Ho.mk hall
      clear hall HA
      go_wp2_with (fail)
      go_ret
      exact ⟨-1, rfl, .inl ⟨rfl, HALL.out⟩, Fr.refl _ _⟩
end Go.Proofs.Ytcpejmnmbioinaa
