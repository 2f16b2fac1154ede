/-
  The reference of chapter 11: letters, bit, number, Encode, Size, Decode.
-/
import Derived.Test.YtagbgenbhbgpoaaB7
import Derived.Test.YtagbgenbhbgpoaaBP
namespace Go.Proofs.Ytagbgenbhbgpoaa
open Go.RowKit
theorem rletters_calls (w : World) :
    Calls Try.prog 27 #[] w fun e w' => e = .returned (.string lets) ∧ w = w' := by
  go_enter Try.func27, Try.ntmps27
  go_wp2
  go_ret
  exact ⟨rfl, rfl⟩
def bitN (l : List UInt8) (i : Nat) : Nat := ((l.getD (i / 8) 0).toNat / 2 ^ (7 - i % 8)) % 2
theorem bitN_lt (l : List UInt8) (i : Nat) : bitN l i < 2 := Nat.mod_lt _ (by decide)
theorem rbit_calls (B : Nat) (v : Value) (l : List UInt8) (i : Int) (k : Nat) (hi : i = k) (w : World) (hv : BS B w v l) (hk : k < 2 ^ 40) :
    Calls Try.prog 28 #[v, .int .i64 i] w fun e w' => e = .returned (.int .i64 (bitN l k)) ∧ w = w' := by
  subst hi
  obtain ⟨a, cap, rfl, hcap, _, hcell⟩ := hv
  obtain ⟨j, hj⟩ : ∃ j, k / 8 = j := ⟨_, rfl⟩
  obtain ⟨m, hm⟩ : ∃ m, k % 8 = m := ⟨_, rfl⟩
  have hjI : (k : Int) / 8 = (j : Int) := by omega
  have hmI : (k : Int) % 8 = (m : Int) := by omega
  have hm8 : m < 8 := by omega
  by_cases hlt : j < l.length
  · obtain ⟨b, off, rfl, hb, hc⟩ := hcell j hlt
    have e : ((bitN l k : Nat) : Int) = (l[j].toNat : Int) / 2 ^ (7 - m) % 2 := by
      unfold bitN; rw [hj, hm]; simp [hlt]
    have hs : ((7 : Int) - (m : Int)).toNat = 7 - m := by omega
    have HE := Ho.mk e; have HJ := Ho.mk hj; have HM := Ho.mk hm
    clear e hj hm hcell
    have hxb : l[j].toNat < 256 := l[j].toNat_lt
    go_enter Try.func28, Try.ntmps28
    go_wp2
    go_ret
    refine ⟨?_, rfl⟩
    rw [HE.out, ← Int.tmod_eq_emod_of_nonneg (Int.ediv_nonneg (by omega) (by have := pow_le (k := 7 - m) (by omega); omega))]; rfl
  · have e : bitN l k = 0 := by
      unfold bitN; rw [hj]; simp [List.getD_eq_getElem?_getD, List.getElem?_eq_none (show l.length ≤ j by omega)]
    rw [e]
    have hge : ¬ (j : Int) < l.length := by omega
    have hge' : (l.length : Int) ≤ j := by omega
    clear e hj hm hcell hlt hmI
    go_enter Try.func28, Try.ntmps28
    go_wp2
    go_ret
    exact ⟨rfl, rfl⟩
def numF (c : UInt8) : Int := if dnum c.toNat < 64 then (dnum c.toNat : Int) else -1
theorem lt_inj {i : Nat} (hi : i < 64) {c : UInt8} (h : lt i = c) : numF c = i := by
  subst h; unfold numF; rw [dnum_lt i hi, if_pos hi]
theorem no_lt {c : UInt8} (h : ∀ i, i < 64 → lt i ≠ c) : numF c = -1 := by
  unfold numF
  by_cases h1 : dnum c.toNat < 64
  · exact absurd (lt_dnum c (decide_eq_true h1)) (h _ h1)
  · rw [if_neg h1]
set_option maxRecDepth 100000 in
theorem rnumber_calls (c : UInt8) (w : World) :
    Calls Try.prog 24 #[.int .u8 c.toNat] w fun e w' => e = .returned (.int .i64 (numF c)) ∧ w = w' := by
  go_enter Try.func24, Try.ntmps24
  go_wp2_with (fail)
  refine (rletters_calls w).mono ?_
  rintro e w1 ⟨rfl, rfl⟩
  go_wp2_with (fail)
  go_loop [4] (fun i => ∃ k : Nat, k ≤ 64 ∧ i = .int .i64 k ∧ ∀ j, j < k → lt j ≠ c) (fun i => 64 - (intOf i).toNat)
  case atStart => exact ⟨0, by omega, rfl, fun j hj => by omega⟩
  case round =>
    obtain ⟨k, hk, rfl, hno⟩ := hrel
    have HN := Ho.mk hno; clear hno
    by_cases hlt : k < 64
    · have hix := run_let k hlt
      cases he : (((lt k).toNat : Int) == (c.toNat : Int)) with
      | true =>
        have hk2 : lt k = c := by rw [beq_iff_eq] at he; exact UInt8.toNat_inj.1 (by omega)
        have HK := Ho.mk (lt_inj hlt hk2)
        clear hk2
        go_wp2
        go_ret
        exact ⟨by rw [HK.out]; rfl, rfl⟩
      | false =>
        have hk2 : lt k ≠ c := by
          intro h; subst h; simp at he
        have HK2 := Ho.mk hk2; clear hk2
        go_wp2
        go_round
        case rel =>
          refine ⟨k + 1, by omega, by go_num, fun j hj => ?_⟩
          by_cases e : j = k
          · subst e; exact HK2.out
          · exact HN.out j (by omega)
        case measure => simp [intOf]; omega
    · obtain rfl : k = 64 := by omega
      go_wp2
      go_ret
      exact ⟨by rw [no_lt HN.out]; rfl, rfl⟩
/-- Six bits, from the i-th on; the first c of them. -/
def sixN (l : List UInt8) (i : Nat) : Nat → Nat
  | 0 => 0
  | c + 1 => 2 * sixN l i c + bitN l (i + c)
theorem sixN_lt (l : List UInt8) (i c : Nat) : sixN l i c < 2 ^ c := by
  induction c with
  | zero => exact Nat.one_pos
  | succ c ih => have := bitN_lt l (i + c); rw [sixN, Nat.pow_succ]; omega
def refEnc (l : List UInt8) (k : Nat) : List UInt8 := (List.range k).map fun j => lt (sixN l (6 * j) 6)
theorem refEnc_succ (l : List UInt8) (k : Nat) : refEnc l (k + 1) = refEnc l k ++ [lt (sixN l (6 * k) 6)] := by
  unfold refEnc; rw [List.range_succ, List.map_append]; rfl
theorem refEnc_len (l : List UInt8) (k : Nat) : (refEnc l k).length = k := by unfold refEnc; simp
theorem own_BS_n {B : Nat} {w : World} {ao : Option Addr} {cp n : Nat} {l : List UInt8} (hl : l.length = n) (h : w.ownsRow B 5 1 (.slice ao n cp) n (Lib.byteCells l)) : BS w.heap.size w (.slice ao n cp) l := by
  subst hl; exact own_BS h
set_option maxRecDepth 100000 in
set_option maxHeartbeats 1000000 in
theorem rEncode_calls (v : Value) (l : List UInt8) (w : World) (hl : l.length ≤ 100000) (hv : BS w.heap.size w v l) :
    Calls Try.prog 13 #[v] w fun e w' => ∃ k, e = .returned (.string ⟨(refEnc l k).toArray⟩) ∧ 8 * l.length ≤ 6 * k ∧ 6 * k < 8 * l.length + 6 ∧ Fr nob w w' := by
  obtain ⟨i0, hi, hz0, hz1, hz2⟩ := info_parts infoByte
  have HV := Ho.mk hv
  obtain ⟨a, cap, rfl, hcap, _, _⟩ := hv
  go_enter Try.func13, Try.ntmps13
  go_wp2_with (fail)
  refine (rletters_calls w).mono ?_
  rintro e w1 ⟨rfl, rfl⟩
  go_wp2_with (fail)
  go_loopw [4, 5] (fun v i wr => ∃ (k p : Nat) (ao : Option Addr) (cp : Nat), Ho (p = 6 * k) ∧ p < 8 * l.length + 6 ∧ i = .int .i64 (p : Int) ∧ v = .slice ao k cp ∧ Ho (wr.ownsRow w.heap.size 5 1 (.slice ao k cp) k (Lib.byteCells (refEnc l k))) ∧ Fr nob w wr)
    (fun _ i _ => 8 * l.length + 12 - (intOf i).toNat)
  case atStart => exact ⟨0, 0, none, 0, ⟨rfl⟩, by omega, rfl, rfl, ⟨World.ownsRow_nil _ _ _ _⟩, Fr.refl _ _⟩
  case round =>
    obtain ⟨k, p, ao, cp, HP, hp, rfl, rfl, HO, hF⟩ := hrel
    obtain ⟨wo, rfl⟩ : ∃ wo : World, wo = wr := ⟨_, rfl⟩
    have hb : BS w.heap.size wo (.slice a l.length cap) l := HV.out.fr hF (fun _ _ h => h)
    have HB := Ho.mk hb; clear hb
    by_cases hlt : p < 8 * l.length
    · have hltB : decide ((p : Int) < 8 * (l.length : Int)) = true := by simp; omega
      go_wp2_with (fail)
      go_loop [6, 7] (fun n kk => ∃ (c q : Nat), c ≤ 6 ∧ q < 64 ∧ Ho (q = sixN l p c) ∧ n = .int .i64 (q : Int) ∧ kk = .int .i64 (c : Int)) (fun _ kk => 6 - (intOf kk).toNat)
      case atStart => exact ⟨0, 0, by omega, by omega, ⟨rfl⟩, rfl, rfl⟩
      case round =>
        obtain ⟨c, q, hc, hq, HQ, rfl, rfl⟩ := hrel
        by_cases hc6 : c < 6
        · go_wp2_with (fail)
          have hbit := rbit_calls w.heap.size _ l ((p : Int) + (c : Int)) (p + c) (by omega) wo HB.out (by omega)
          refine hbit.mono ?_
          clear hbit
          rintro e w2 ⟨rfl, rfl⟩
          have hb2 := bitN_lt l (p + c)
          have hs := sixN_lt l p (c + 1)
          have hs2 : 2 ^ (c + 1) ≤ 64 := Nat.pow_le_pow_right (n := 2) (by decide) (by omega : c + 1 ≤ 6)
          obtain ⟨q2, hq2⟩ : ∃ q2, q2 = 2 * q + bitN l (p + c) := ⟨_, rfl⟩
          have hq3 : q2 = sixN l p (c + 1) := by rw [hq2, sixN, HQ.out]
          have hq4 : (2 : Int) * (q : Int) + (bitN l (p + c) : Int) = (q2 : Int) := by omega
          have HQ2 := Ho.mk hq3
          have hq5 : q2 < 64 := by omega
          generalize bitN l (p + c) = bt at *
          have HQ4 := Ho.mk hq4
          clear hq2 hq3 hq4 hs hs2
          go_wp2
          go_round
          case rel =>
            have hq4 := HQ4.out
            exact ⟨c + 1, q2, by omega, hq5, HQ2, by go_num, by go_num⟩
          case measure => simp [intOf]; omega
        · obtain rfl : c = 6 := by omega
          have hix := run_let q hq
          have hkb : k ≤ 200000 := by have := HP.out; omega
          have hsz := hF.size
          go_wp2_with (refine wpList_append_BS rfl (.tmp 28) (.tmp 32) rfl w.heap.size ao k cp (refEnc l k) [lt q] rfl (HO.out.alloc _) _ _ rfl (BS_lit (l := [lt q]) (blk_new _ _)) (by simp; omega) (by simp; omega) ?_)
          intro ao' cp' w4 hown' hgrow
          have hF4 : Fr nob w w4 := (hF.alloc _).grown hgrow (fun i hi => .inl (own_block HO.out hi).1)
          have HOW := Ho.mk hown'
          clear hown' hgrow
          have hkk : refEnc l (k + 1) = refEnc l k ++ [lt q] := by rw [refEnc_succ, HQ.out, HP.out]
          have HKK := Ho.mk hkk; clear hkk
          go_wp2
          go_roundw
          case rel =>
            refine ⟨k + 1, p + 6, ao', cp', ⟨by have := HP.out; omega⟩, by omega, by go_num, rfl, ⟨?_⟩, hF4⟩
            rw [HKK.out]
            exact HOW.out
          case measure => simp [intOf]; omega
    · have hltB : decide ((p : Int) < 8 * (l.length : Int)) = false := by simp; omega
      have hcv := conv_BS (w := wo) (l := refEnc l k) (own_BS_n (refEnc_len l k) HO.out)
      have HF := Ho.mk hF; clear hF hlt
      go_wp2
      go_ret
      refine ⟨k, rfl, ?_, ?_, HF.out⟩
      · have := HP.out; simp at hltB; omega
      · have := HP.out; omega
end Go.Proofs.Ytagbgenbhbgpoaa
