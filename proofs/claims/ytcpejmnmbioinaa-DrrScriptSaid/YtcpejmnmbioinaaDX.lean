/-
  The reference ostiaryref21: Len.
-/
import Derived.Test.YtcpejmnmbioinaaDW
namespace Go.Proofs.Ytcpejmnmbioinaa
open Go.RowKit
theorem total_take (R : List RL) (k : Nat) (hk : k < R.length) : total ((R.take (k + 1)).map (·.cl)) = total ((R.take k).map (·.cl)) + R[k].cl.its.length := by
  rw [List.take_succ_eq_append_getElem hk, List.map_append, total_append]
  simp [total]
set_option maxRecDepth 100000 in
set_option maxHeartbeats 2000000 in
theorem rLen_calls (D : Nat → Prop) (w : World) (r : Nat) (st : Qs) (hwf : st.wf) (h : RQ D w r st) :
    Calls Try.prog 26 #[.pointer (some ⟨r, 0, none⟩)] w fun e w' => e = .returned (.int .i64 (total st.ring : Nat)) ∧ Fr nob w w' := by
  obtain ⟨v, R, hh, hrow, hd, hri, hD, hst, _⟩ := h
  have hl : R.length ≤ 1024 := by
    have h1 := hwf.len; have h2 := hwf.cl.2
    rw [hst, List.length_map] at h1; omega
  have hit : ∀ x ∈ R, x.cl.its.length ≤ 64 := fun x hx => by
    have h1 := (hwf.its x.cl (by rw [hst]; exact List.mem_map_of_mem hx)).2.1; have h2 := hwf.it.2; omega
  obtain ⟨ao, cap, rfl, hc1, hc2⟩ := row_shape hrow
  have c4 : w.cell? ⟨r, 4, none⟩ = some (.slice ao R.length cap) := blk_cell hh 4
  obtain ⟨ln, hln⟩ : ∃ m, R.length = m := ⟨_, rfl⟩
  rw [hln] at c4 hc1 hl
  have HR := Ho.mk hrow; have HLN := Ho.mk hln; have HST := Ho.mk hst; have HIT := Ho.mk hit
  clear hh hrow hri hd hD hst hwf hln hit
  go_enter Try.func26, Try.ntmps26
  go_wp2_with (fail)
  go_loop [3, 4] (fun nv iv => ∃ k m : Nat, k ≤ ln ∧ iv = .int .i64 (k : Int) ∧ nv = .int .i64 (m : Int) ∧ m ≤ 64 * k ∧ Ho (m = total ((R.take k).map (·.cl)))) (fun _ iv => ln - (intOf iv).toNat)
  case atStart => exact ⟨0, 0, by omega, rfl, rfl, by omega, ⟨rfl⟩⟩
  case round =>
    obtain ⟨k, m, hk, rfl, rfl, hm, HM⟩ := hrel
    by_cases hlt : k < ln
    · have hkl : k < R.length := by rw [HLN.out]; exact hlt
      obtain ⟨g, cap', hv, l0, l1, l2, l3⟩ := row_line HR.out k hkl
      injection hv with hv1 hv2 hv3
      subst hv1
      have hlt' : decide ((k : Int) < (ln : Int)) = true := decide_eq_true (by omega)
      have hlt'' : decide (k < ln) = true := decide_eq_true hlt
      have htk := total_take R k hkl
      have hi64 := HIT.out _ (List.getElem_mem hkl)
      generalize R[k] = x at *
      obtain ⟨q, hq⟩ : ∃ q, x.cl.its.length = q := ⟨_, rfl⟩
      rw [hq] at htk hi64 l3
      have HTK := Ho.mk htk
      have hw1 : IntKind.i64.wrap ((m : Int) + (q : Int)) = (m : Int) + (q : Int) := IntWalk.i64_in _ (by omega)
      clear htk l0 l1 l2 hv2 hv3 hq
      go_wp2_with (fail)
      go_roundw
      case rel => exact ⟨k + 1, m + q, by omega, by go_num, by go_num, by omega, ⟨by rw [HTK.out, HM.out]⟩⟩
      case measure => simp [intOf]; omega
    · obtain rfl : k = ln := by omega
      have hlt' : decide ((k : Int) < (k : Int)) = false := decide_eq_false (by omega)
      have hall := HM.out
      rw [List.take_of_length_le (by rw [HLN.out]; exact Nat.le_refl _), ← HST.out] at hall
      have HALL := Ho.mk hall
      clear hall HM
      go_wp2_with (fail)
      go_ret
      exact ⟨by rw [← HALL.out]; rfl, Fr.refl _ _⟩
end Go.Proofs.Ytcpejmnmbioinaa
