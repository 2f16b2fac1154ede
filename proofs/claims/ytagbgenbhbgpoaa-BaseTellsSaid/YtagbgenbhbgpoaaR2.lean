/-
  The reference of chapter 11: Size, Decode.
-/
import Derived.Test.YtagbgenbhbgpoaaR1
import Derived.Laws.MakeOwn
import Derived.Laws.BitsAllLaws
namespace Go.Proofs.Ytagbgenbhbgpoaa
open Go.RowKit
theorem rSize_calls (n : Int) (w : World) (h1 : n < 2 ^ 63) :
    Calls Try.prog 11 #[.int .i64 n] w fun e w' => e = .returned (.tuple #[.int .i64 (sizeF n).1, .bool (sizeF n).2]) ∧ w = w' := by
  by_cases hn : n < 0
  · have e : sizeF n = (0, false) := by unfold sizeF; rw [if_pos (.inl hn)]
    rw [e]; clear e
    go_enter Try.func11, Try.ntmps11
    go_wp2
    go_ret2
    exact ⟨rfl, rfl⟩
  · have hn0 : 0 ≤ n := by omega
    clear hn
    by_cases h4 : n % 4 = 1
    · have e : sizeF n = (0, false) := by unfold sizeF; rw [if_pos (.inr h4)]
      rw [e]; clear e
      have h4' : (n % 4 == 1) = true := by simp [h4]
      clear h4
      go_enter Try.func11, Try.ntmps11
      go_wp2
      go_ret2
      exact ⟨rfl, rfl⟩
    · have e : sizeF n = (n / 4 * 3 + n % 4 * 6 / 8, true) := by
        unfold sizeF; rw [if_neg (by omega)]
        have : max (n % 4 - 1) 0 = n % 4 * 6 / 8 := by omega
        rw [this]
      rw [e]; clear e
      have h4' : (n % 4 == 1) = false := by simp [h4]
      clear h4
      have h5 : n / 4 * 3 < 2 ^ 63 := by omega
      go_enter Try.func11, Try.ntmps11
      go_wp2
      go_ret2
      exact ⟨rfl, rfl⟩
theorem make_bytes (n : Nat) (hn : n ≤ 1000000) (W : World) : (Instr.makeSlice 22 (.int .i64 (n : Int)) (.int .i64 (n : Int))).run Try.prog W = .ok (.slice (some ⟨W.heap.size, 0, none⟩) n n) (W.alloc (.cells (Lib.byteCells (List.replicate n 0)).toArray 5)) := by
  obtain ⟨i0, hi, hz0, hz1, hz2⟩ := info_parts infoByte
  rw [run_make W 22 5 i0 (.int .u8 0) Try.underlying22 hi hz0 .i64 .i64 n n (by omega) (by omega) (by rw [hz2]; omega) (by omega)]
  have e : madeCells (Value.cells (.int .u8 0)) ((n : Int).toNat * i0.size) = (Lib.byteCells (List.replicate n 0)).toArray := by
    rw [hz1, Int.toNat_natCast, Nat.mul_one]
    unfold madeCells Lib.byteCells
    apply Array.ext
    · simp
    · intro i h1 h2
      simp [Value.cells, Nat.mod_one]
  rw [e, Int.toNat_natCast]
/-- The i-th bit of a text. -/
def sbit (S : List UInt8) (i : Nat) : Nat := (dnum (S.getD (i / 6) 0).toNat / 2 ^ (5 - i % 6)) % 2
theorem sbit_lt (S : List UInt8) (i : Nat) : sbit S i < 2 := Nat.mod_lt _ (by decide)
/-- The bytes of a text when i bits are in. -/
def outS (S : List UInt8) (n : Nat) : Nat → List UInt8
  | 0 => List.replicate n 0
  | i + 1 => (outS S n i).set (i / 8) (UInt8.ofNat (((outS S n i).getD (i / 8) 0).toNat ||| sbit S i * 2 ^ (7 - i % 8)))
theorem outS_len (S : List UInt8) (n i : Nat) : (outS S n i).length = n := by
  induction i with
  | zero => simp [outS]
  | succ i ih => rw [outS, List.length_set, ih]
/-- What the reference's Decode answers. -/
def rdec (S : List UInt8) : List UInt8 × Int × Int :=
  match S.findIdx? (fun b => !okL b) with
  | some i => ([], 4, i)
  | none => if (sizeF S.length).2 = false then ([], 4, S.length) else
      if (List.range (6 * S.length - 8 * (sizeF S.length).1.toNat)).any (fun t => sbit S (8 * (sizeF S.length).1.toNat + t) != 0) then ([], 4, (S.length : Int) - 1)
      else (outS S (sizeF S.length).1.toNat (8 * (sizeF S.length).1.toNat), 0, 0)
def RDecPost (r : List UInt8 × Int × Int) (w : World) (e : Ending) (w' : World) : Prop :=
  ∃ v, e = .returned (.tuple #[v, .agg #[.int .i64 r.2.1, .int .i64 r.2.2]]) ∧ BS w'.heap.size w' v r.1 ∧ Fr nob w w'
theorem numF_ok {c : UInt8} (h : okL c = true) : numF c = dnum c.toNat := by
  unfold numF; rw [if_pos (of_decide_eq_true h)]
theorem numF_bad {c : UInt8} (h : okL c = false) : numF c = -1 := by
  unfold numF; rw [if_neg (of_decide_eq_false h)]
theorem or_byte (y : UInt8) (b m : Nat) (hb : b < 2) (hm : m < 8) : bits .or .u8 (y.toNat : Int) ((b : Int) * 2 ^ (7 - m) % 256) = ((y.toNat ||| b * 2 ^ (7 - m) : Nat) : Int) ∧ (y.toNat ||| b * 2 ^ (7 - m)) < 256 := by
  have h1 : b * 2 ^ (7 - m) < 256 := by
    have h2 : 2 ^ (7 - m) ≤ 128 := Nat.pow_le_pow_right (n := 2) (by decide) (by omega : 7 - m ≤ 7)
    have h3 : b * 2 ^ (7 - m) ≤ 1 * 128 := Nat.mul_le_mul (by omega) h2
    omega
  have hy := y.toNat_lt
  refine ⟨?_, Nat.or_lt_two_pow (n := 8) hy h1⟩
  rw [two_pow_cast, ← Int.natCast_mul, show (((b * 2 ^ (7 - m) : Nat) : Int) % 256) = ((b * 2 ^ (7 - m) : Nat) : Int) from by omega]
  exact u8_or_nat _ _ hy h1
set_option maxRecDepth 100000 in
set_option maxHeartbeats 2000000 in
theorem rDecode_calls (S : List UInt8) (w : World) (hs : S.length ≤ 100000) :
    Calls Try.prog 9 #[.string ⟨S.toArray⟩] w (RDecPost (rdec S) w) := by
  have hmk := make_bytes
  have HMK := Ho.mk hmk; clear hmk
  go_enter Try.func9, Try.ntmps9
  go_wp2_with (fail)
  have hF1 : Fr nob w (w.alloc (.cells #[.int .i64 0, .int .i64 0] 26)) := (Fr.refl _ _).alloc _
  have hFl : (w.alloc (.cells #[.int .i64 0, .int .i64 0] 26)).heap[w.heap.size]? = some (.cells #[.int .i64 0, .int .i64 0] 26 (0, 0)) := blk_new _ _
  generalize w.alloc (.cells #[.int .i64 0, .int .i64 0] 26) = w1 at *
  have HFl := Ho.mk hFl; clear hFl
  go_loop [4] (fun i => ∃ k : Nat, k ≤ S.length ∧ i = .int .i64 k ∧ Ho (∀ j, (hj : j < k) → (hj2 : j < S.length) → okL S[j] = true)) (fun i => S.length - (intOf i).toNat)
  case atStart => exact ⟨0, by omega, rfl, ⟨fun j hj => by omega⟩⟩
  case round =>
    obtain ⟨k, hk, rfl, HG⟩ := hrel
    by_cases hlt : k < S.length
    · go_wp2_with (fail)
      refine (rnumber_calls S[k] w1).mono ?_
      rintro e w2 ⟨rfl, rfl⟩
      cases hok : okL S[k] with
      | false =>
        have hn := numF_bad hok
        have hd : rdec S = ([], 4, (k : Int)) := by
          have e : S.findIdx? (fun b => !okL b) = some k := by
            rw [List.findIdx?_eq_some_iff_getElem]
            exact ⟨hlt, by simp [hok], fun j hj => by simp [HG.out j hj (by omega)]⟩
          unfold rdec; rw [e]
        have HD := Ho.mk hd; clear hd hok
        have q0 := blk_cell HFl.out 0
        have q1 := blk_cell HFl.out 1
        have f0 := blk_free HFl.out 0
        have f1 := blk_free HFl.out 1
        go_wp2_with (fail)
        have hb : ((w1.setCell ⟨w.heap.size, 0, none⟩ (.int .i64 4)).setCell ⟨w.heap.size, 1, none⟩ (.int .i64 k)).heap[w.heap.size]? = some (.cells #[.int .i64 4, .int .i64 k] 26 (0, 0)) := blk_set (blk_set HFl.out 0 (.int .i64 4)) 1 (.int .i64 k)
        refine bodyPost_ret (res_tc rfl _ _ w.heap.size 26 _ (0, 0) _ rfl hb Try.underlying26 rfl (by kernel_rfl)) rfl ?_
        rw [HD.out]
        exact ⟨.slice none 0 0, rfl, BS_nil _ _, (hF1.set (.inl (Nat.le_refl _)) _).set (.inl (Nat.le_refl _)) _⟩
      | true =>
        have hn := numF_ok hok
        have hn0 : 0 ≤ numF S[k] := by omega
        have HOK := Ho.mk hok
        clear hn hok
        go_wp2
        go_round
        case rel =>
          refine ⟨k + 1, by omega, by go_num, ⟨fun j hj hj2 => ?_⟩⟩
          by_cases e : j = k
          · subst e; exact HOK.out
          · exact HG.out j (by omega) hj2
        case measure => simp [intOf]; omega
    · obtain rfl : k = S.length := by omega
      clear hlt hk
      have hnone : S.findIdx? (fun b => !okL b) = none := by
        rw [List.findIdx?_eq_none_iff]; intro b hb
        obtain ⟨i, hi, rfl⟩ := List.mem_iff_getElem.1 hb
        simp [HG.out i hi hi]
      have HNone := Ho.mk hnone; clear hnone
      go_wp2_with (fail)
      have hsize := rSize_calls (S.length : Int) w1 (by omega)
      refine hsize.mono ?_
      clear hsize
      rintro e w2 ⟨rfl, rfl⟩
      cases hsz : (sizeF (S.length : Int)).2 with
      | false =>
        have hd : rdec S = ([], 4, (S.length : Int)) := by unfold rdec; rw [HNone.out]; simp only; rw [if_pos hsz]
        have HD := Ho.mk hd; clear hd hsz
        have q0 := blk_cell HFl.out 0
        have q1 := blk_cell HFl.out 1
        have f0 := blk_free HFl.out 0
        have f1 := blk_free HFl.out 1
        go_wp2_with (fail)
        have hb : ((w1.setCell ⟨w.heap.size, 0, none⟩ (.int .i64 4)).setCell ⟨w.heap.size, 1, none⟩ (.int .i64 S.length)).heap[w.heap.size]? = some (.cells #[.int .i64 4, .int .i64 S.length] 26 (0, 0)) := blk_set (blk_set HFl.out 0 (.int .i64 4)) 1 (.int .i64 S.length)
        refine bodyPost_ret (res_tc rfl _ _ w.heap.size 26 _ (0, 0) _ rfl hb Try.underlying26 rfl (by kernel_rfl)) rfl ?_
        rw [HD.out]
        exact ⟨.slice none 0 0, rfl, BS_nil _ _, (hF1.set (.inl (Nat.le_refl _)) _).set (.inl (Nat.le_refl _)) _⟩
      | true =>
        obtain ⟨n, hn⟩ : ∃ n : Nat, (sizeF (S.length : Int)).1 = n := by
          refine ⟨(sizeF (S.length : Int)).1.toNat, ?_⟩
          unfold sizeF; split <;> simp <;> omega
        have hnb : 8 * n ≤ 6 * S.length ∧ n ≤ 100000 := by
          have h1 : sizeF (S.length : Int) = ((n : Int), true) := Prod.ext hn hsz
          unfold sizeF at h1
          split at h1
          · simp at h1
          · simp at h1; omega
        obtain ⟨hn1, hn2⟩ := hnb
        have hmk := HMK.out n (by omega)
        have HSZ := Ho.mk hsz; have HN := Ho.mk hn
        rw [hn]
        clear hn hsz
        go_wp2_with (fail)
        obtain ⟨g, hg⟩ : ∃ g, g = w1.heap.size := ⟨_, rfl⟩
        rw [← hg]
        have HG1 := Ho.mk hg; clear hg hmk
        have hF1s := hF1.size
        have hlt1 : w.heap.size < g := by rw [HG1.out]; exact lt_of_blk HFl.out
        go_loopw [8] (fun i wr => ∃ k : Nat, k ≤ 6 * S.length ∧ i = .int .i64 k ∧ Ho (wr.heap[g]? = some (.cells (Lib.byteCells (outS S n (min k (8 * n)))).toArray 5 (0, 0))) ∧
            Ho (wr.heap[w.heap.size]? = some (.cells #[.int .i64 0, .int .i64 0] 26 (0, 0))) ∧ Ho (∀ t, 8 * n ≤ t → t < k → sbit S t = 0) ∧ Fr nob w wr)
          (fun i _ => 6 * S.length - (intOf i).toNat)
        case atStart => exact ⟨0, by omega, rfl, ⟨by rw [Nat.zero_min]; rw [HG1.out]; exact blk_new _ _⟩, ⟨blk_old HFl.out _⟩, ⟨fun t h1 h2 => by omega⟩, hF1.alloc _⟩
        case round =>
          obtain ⟨k, hk, rfl, HB, HFl2, HZ, hF⟩ := hrel
          by_cases hlt : k < 6 * S.length
          · obtain ⟨j, hj⟩ : ∃ j, k / 6 = j := ⟨_, rfl⟩
            obtain ⟨m, hm⟩ : ∃ m, k % 6 = m := ⟨_, rfl⟩
            have hjI : (k : Int) / 6 = (j : Int) := by omega
            have hmI : (k : Int) % 6 = (m : Int) := by omega
            have hm6 : m < 6 := by omega
            have hjl : j < S.length := by omega
            have hokj : okL S[j] = true := HG.out j hjl hjl
            obtain ⟨d, hd⟩ : ∃ d, dnum S[j].toNat = d := ⟨_, rfl⟩
            have hd64 : d < 64 := by rw [← hd]; exact of_decide_eq_true hokj
            obtain ⟨b, hb⟩ : ∃ b, sbit S k = b := ⟨_, rfl⟩
            have hb2 : b < 2 := by rw [← hb]; exact sbit_lt S k
            have hx : (((d : Int) / 2 ^ (5 - m)).tmod 2) = (b : Int) := by
              rw [Int.tmod_eq_emod_of_nonneg (Int.ediv_nonneg (by omega) (by have := pow_le (k := 5 - m) (by omega); omega)), two_pow_cast, ← Int.natCast_ediv]
              have : sbit S k = d / 2 ^ (5 - m) % 2 := by unfold sbit; rw [hj, hm]; simp [hjl, hd]
              omega
            have hnum := rnumber_calls S[j] wr
            rw [numF_ok hokj, hd] at hnum
            have hs5 : ((5 : Int) - (m : Int)).toNat = 5 - m := by omega
            have HNum := Ho.mk hnum; have HX := Ho.mk hx; have HB2 := Ho.mk hb
            clear hnum hj hm hd hokj hb
            go_wp2_with (fail)
            refine HNum.out.mono ?_
            rintro e w3 ⟨rfl, rfl⟩
            by_cases hn8 : k < 8 * n
            · have hx := HX.out
              have hltB : decide ((k : Int) < 8 * (n : Int)) = true := by simp; omega
              go_wp2_with (fail)
              clear hx hjI hmI hs5
              have hrow := HB.out
              rw [Nat.min_eq_left (by omega)] at hrow
              obtain ⟨j8, hj8⟩ : ∃ j, k / 8 = j := ⟨_, rfl⟩
              obtain ⟨m8, hm8⟩ : ∃ m, k % 8 = m := ⟨_, rfl⟩
              have hj8I : (k : Int) / 8 = (j8 : Int) := by omega
              have hm8I : (k : Int) % 8 = (m8 : Int) := by omega
              have hm88 : m8 < 8 := by omega
              have hj8n : j8 < n := by omega
              obtain ⟨y, hy⟩ : ∃ y, (outS S n k).getD j8 0 = y := ⟨_, rfl⟩
              have hcy : wr.cell? ⟨g, j8, none⟩ = some (.int .u8 y.toNat) := by
                rw [blk_cell hrow]
                unfold Lib.byteCells
                have hl := outS_len S n k
                rw [← hy]
                simp [hl, hj8n]
              have hfy : wr.frozen? ⟨g, j8, none⟩ = false := blk_free hrow j8
              have hs7 : ((7 : Int) - (m8 : Int)).toNat = 7 - m8 := by omega
              have HRow := Ho.mk hrow; have HY := Ho.mk hy; have HJ8 := Ho.mk hj8; have HM8 := Ho.mk hm8
              clear hrow hy hj8 hm8
              have hyb : y.toNat < 256 := y.toNat_lt
              go_region
              go_wp2
              go_roundw
              case rel =>
                obtain ⟨e1, e2⟩ := or_byte y b m8 hb2 hm88
                rw [e1]
                have hset : (wr.setCell ⟨g, j8, none⟩ (.int .u8 ((y.toNat ||| b * 2 ^ (7 - m8) : Nat) : Int))).drew.heap[g]? = some (.cells (Lib.byteCells (outS S n (min (k + 1) (8 * n)))).toArray 5 (0, 0)) := by
                  have h := blk_set HRow.out j8 (.int .u8 ((y.toNat ||| b * 2 ^ (7 - m8) : Nat) : Int))
                  rw [Nat.min_eq_left (by omega), outS, HJ8.out, HM8.out, HY.out, HB2.out]
                  refine h.trans ?_
                  congr 2
                  unfold Lib.byteCells
                  rw [List.map_set, ofN e2]
                  simp
                refine ⟨k + 1, by omega, by go_num, ⟨hset⟩, ⟨blk_far HFl2.out _ (by simp; omega) _⟩, ⟨fun t h1 h2 => by omega⟩, (hF.set (.inl (by simp; omega)) _).drew⟩
              case measure => simp [intOf]; omega
            · have hltB : decide ((k : Int) < 8 * (n : Int)) = false := by simp; omega
              have hx := HX.out
              by_cases hb0 : b = 0
              · subst hb0
                have hz : (((0 : Nat) : Int) != 0) = false := by decide
                go_wp2
                go_roundw
                case rel =>
                  refine ⟨k + 1, by omega, by go_num, ⟨?_⟩, ⟨HFl2.out⟩, ⟨fun t h1 h2 => ?_⟩, hF⟩
                  · have h := HB.out
                    rw [Nat.min_eq_right (by omega)] at h ⊢
                    exact h
                  · by_cases e : t = k
                    · subst e; exact HB2.out
                    · exact HZ.out t h1 (by omega)
                case measure => simp [intOf]; omega
              · have hb1 : b = 1 := by omega
                subst hb1
                have hz : (((1 : Nat) : Int) != 0) = true := by decide
                have hd : rdec S = ([], 4, (S.length : Int) - 1) := by
                  unfold rdec; rw [HNone.out]; simp only
                  rw [if_neg (by rw [HSZ.out]; simp), if_pos]
                  rw [HN.out, List.any_eq_true]
                  refine ⟨k - 8 * n, by simp; omega, ?_⟩
                  rw [show 8 * (n : Int).toNat + (k - 8 * n) = k from by omega, HB2.out]; rfl
                have HD := Ho.mk hd; clear hd
                have q0 := blk_cell HFl2.out 0
                have q1 := blk_cell HFl2.out 1
                have f0 := blk_free HFl2.out 0
                have f1 := blk_free HFl2.out 1
                have hs1 : (1 : Int) ≤ S.length := by omega
                go_wp2_with (fail)
                have hb : ((wr.setCell ⟨w.heap.size, 0, none⟩ (.int .i64 4)).setCell ⟨w.heap.size, 1, none⟩ (.int .i64 ((S.length : Int) - 1))).heap[w.heap.size]? = some (.cells #[.int .i64 4, .int .i64 ((S.length : Int) - 1)] 26 (0, 0)) := blk_set (blk_set HFl2.out 0 (.int .i64 4)) 1 (.int .i64 ((S.length : Int) - 1))
                refine bodyPost_ret (res_tc rfl _ _ w.heap.size 26 _ (0, 0) _ rfl hb Try.underlying26 rfl (by kernel_rfl)) rfl ?_
                rw [HD.out]
                exact ⟨.slice none 0 0, rfl, BS_nil _ _, (hF.set (.inl (Nat.le_refl _)) _).set (.inl (Nat.le_refl _)) _⟩
          · obtain rfl : k = 6 * S.length := by omega
            have hd : rdec S = (outS S n (8 * n), 0, 0) := by
              unfold rdec; rw [HNone.out]; simp only
              rw [if_neg (by rw [HSZ.out]; simp), if_neg, HN.out, Int.toNat_natCast]
              rw [HN.out, List.any_eq_true]
              rintro ⟨t, ht, h2⟩
              rw [HZ.out _ (by omega) (by simp at ht; omega)] at h2
              exact absurd h2 (by decide)
            have HD := Ho.mk hd; clear hd
            have q0 := blk_cell HFl2.out 0
            have q1 := blk_cell HFl2.out 1
            have f0 := blk_free HFl2.out 0
            have f1 := blk_free HFl2.out 1
            have hltB : decide (((6 * S.length : Nat) : Int) < 6 * (S.length : Int)) = false := by simp
            go_wp2_with (fail)
            have hb : ((wr.setCell ⟨w.heap.size, 0, none⟩ (.int .i64 0)).setCell ⟨w.heap.size, 1, none⟩ (.int .i64 0)).heap[w.heap.size]? = some (.cells #[.int .i64 0, .int .i64 0] 26 (0, 0)) := blk_set (blk_set HFl2.out 0 (.int .i64 0)) 1 (.int .i64 0)
            refine bodyPost_ret (res_tc rfl _ _ w.heap.size 26 _ (0, 0) _ rfl hb Try.underlying26 rfl (by kernel_rfl)) rfl ?_
            rw [HD.out]
            refine ⟨_, rfl, ?_, (hF.set (.inl (Nat.le_refl _)) _).set (.inl (Nat.le_refl _)) _⟩
            have h := HB.out
            rw [Nat.min_eq_right (by omega)] at h
            have h2 := BS_lit (blk_far (blk_far h ⟨w.heap.size, 0, none⟩ (by simp; omega) (.int .i64 0)) ⟨w.heap.size, 1, none⟩ (by simp; omega) (.int .i64 0))
            rw [outS_len] at h2
            exact h2
end Go.Proofs.Ytagbgenbhbgpoaa
