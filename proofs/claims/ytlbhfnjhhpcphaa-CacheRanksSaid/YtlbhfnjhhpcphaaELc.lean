/-
  package name: Lower; the reference's Lower.
-/
import Derived.Test.YtlbhfnjhhpcphaaKS
import Derived.Test.YtlbhfnjhhpcphaaC1
import Derived.Lib.ConvBytes
namespace Go.Proofs.Ytlbhfnjhhpcphaa
open Go.RowKit
def lowB (c : UInt8) : UInt8 := if 65 ≤ c.toNat ∧ c.toNat ≤ 90 then c + 32 else c
def low (s : Bs) : Bs := s.map lowB
theorem low_len (s : Bs) : (low s).length = s.length := List.length_map ..
/-- The first k bytes of a row of bytes are lowered. -/
def LowAt (W : World) (g : Nat) (s : Bs) (k : Nat) : Prop := ∀ j (h : j < s.length), W.cell? ⟨g, j, none⟩ = some (.int .u8 ((if j < k then lowB s[j] else s[j]).toNat : Int)) ∧ W.frozen? ⟨g, j, none⟩ = false
theorem LowAt.start (w : World) (s : Bs) : LowAt (Lib.bytesWorld w 5 (mk s)) w.heap.size s 0 := by
  intro j hj
  refine ⟨?_, ?_⟩
  · rw [Lib.bytesWorld_cell w 5 (mk s) j (by rw [mk_size]; exact hj)]
    simp [mk_toList, hj]
  · have h := Lib.bytesWorld_at_new w 5 (mk s)
    have hs : s.length ≤ (Lib.bytesCells w 5 (mk s)).size := by
      unfold Lib.bytesCells; simp [mk]
    unfold World.frozen?
    simp only [h]
    simp; omega
theorem LowAt.step {W : World} {g : Nat} {s : Bs} {k : Nat} (h : LowAt W g s k) (hk : k < s.length) : LowAt (W.setCell ⟨g, k, none⟩ (.int .u8 ((lowB s[k]).toNat : Int))) g s (k + 1) := by
  intro j hj
  refine ⟨?_, by rw [World.frozen?_setCell]; exact (h j hj).2⟩
  by_cases e : k = j
  · subst e
    rw [cell_set_same (h k hk).1, if_pos (by omega)]
  · rw [cell_set_other _ _ _ _ _ (by rintro ⟨_, h⟩; exact e h), (h j hj).1]
    by_cases h2 : j < k
    · rw [if_pos h2, if_pos (by omega)]
    · rw [if_neg h2, if_neg (by omega)]
theorem LowAt.skip {W : World} {g : Nat} {s : Bs} {k : Nat} (h : LowAt W g s k) (hk : k < s.length) (he : lowB s[k] = s[k]) : LowAt W g s (k + 1) := by
  intro j hj
  refine ⟨?_, (h j hj).2⟩
  rw [(h j hj).1]
  by_cases e : k = j
  · subst e; rw [if_neg (by omega), if_pos (by omega), he]
  · by_cases h2 : j < k
    · rw [if_pos h2, if_pos (by omega)]
    · rw [if_neg h2, if_neg (by omega)]
theorem LowAt.text {W : World} {g : Nat} {s : Bs} (h : LowAt W g s s.length) (cap : Nat) : (convert 58 9 (.slice (some ⟨g, 0, none⟩) s.length cap)).run Try.prog W = .ok (.string (mk (low s))) W := by
  have hl : (low s).length = s.length := low_len s
  have h1 := run_convert_bytes_back (P := Try.prog) W 58 9 5 ⟨g, 0, none⟩ cap (low s) Try.underlying58 Try.underlying5 Try.underlying9 (fun j hj => by
    rw [addr_add, Nat.zero_add, (h j (by omega)).1, if_pos (by omega)]
    simp [low])
  rw [hl] at h1
  exact h1
theorem lowB_val {c : UInt8} (h : 65 ≤ c.toNat ∧ c.toNat ≤ 90) : ((lowB c).toNat : Int) = (c.toNat : Int) + 32 := by
  unfold lowB; rw [if_pos h]; simp; omega
theorem bytesFr (w : World) (s : ByteArray) : Fr nob w (Lib.bytesWorld w 5 s) :=
  ⟨rfl, rfl, rfl, by rw [Lib.bytesWorld_size]; omega, fun k o hk _ => (Lib.bytesWorld_at_old w 5 s k (lt_of_blk hk)).trans hk⟩
set_option maxHeartbeats 2000000 in
set_option maxRecDepth 100000 in
theorem Lower_calls (s : Bs) (w : World) (hs : s.length ≤ 1000000) :
    Calls Try.prog 36 #[.string (mk s)] w fun e w' => e = .returned (.string (mk (low s))) ∧ Fr nob w w' := by
  have hcv := Lib.run_convert_string_bytes (P := Try.prog) w 9 58 5 (mk s) Try.underlying9 Try.underlying58 Try.underlying5
  have hst := LowAt.start w s
  have hf0 := bytesFr w (mk s)
  rw [mk_size] at hcv
  generalize Lib.bytesWorld w 5 (mk s) = w1 at *
  generalize grownCap w s.length 0 5 = cap at *
  have hns : (mk s).size = s.length := mk_size s
  generalize mk s = t at *
  have HST := Ho.mk hst; have HF0 := Ho.mk hf0
  clear hst hf0 hns
  go_enter Try.func36, Try.ntmps36
  go_wp2_with (fail)
  go_loopw [10] (fun iv wr => ∃ k : Nat, k ≤ s.length ∧ iv = .int .i64 (k : Int) ∧ Ho (LowAt wr w.heap.size s k) ∧ Ho (Fr nob w wr)) (fun iv _ => s.length - (intOf iv).toNat)
  case atStart => exact ⟨0, by omega, rfl, HST, HF0⟩
  case round =>
    obtain ⟨k, hk, rfl, HL, HF⟩ := hrel
    clear HST HF0 hcv
    by_cases hlt : k < s.length
    · obtain ⟨c1, f1⟩ := HL.out k hlt
      rw [if_neg (by omega)] at c1
      have hstep := HL.out.step hlt
      have hskip := HL.out.skip hlt
      generalize hc : s[k] = c at *
      have hcc : c.toNat < 256 := c.toNat_lt
      have HSTEP := Ho.mk hstep; have HSKIP := Ho.mk hskip
      clear hstep hskip hc
      by_cases hu : 65 ≤ c.toNat ∧ c.toNat ≤ 90
      · have k1 : decide ((65 : Int) ≤ (c.toNat : Int)) = true := decide_eq_true (by omega)
        have k1' : decide (65 ≤ c.toNat) = true := decide_eq_true hu.1
        have k2 : decide ((c.toNat : Int) ≤ 90) = true := decide_eq_true (by omega)
        have k2' : decide (c.toNat ≤ 90) = true := decide_eq_true hu.2
        have HV := Ho.mk (lowB_val hu)
        obtain ⟨hu1, hu2⟩ := hu
        go_wp2_with (fail)
        go_roundw
        case rel =>
          refine ⟨k + 1, by omega, by go_num, ?_, ⟨HF.out.set (p := ⟨w.heap.size, k, none⟩) (.inl (Nat.le_refl _)) _⟩⟩
          have h := HSTEP.out
          rw [HV.out] at h
          have e : (c.toNat : Int) + 97 - 65 = (c.toNat : Int) + 32 := by omega
          first | exact ⟨h⟩ | (rw [e]; exact ⟨h⟩)
        case measure => simp [intOf]; omega
      · have he : lowB c = c := by unfold lowB; rw [if_neg hu]
        have HN := Ho.mk (HSKIP.out he)
        by_cases h65 : 65 ≤ c.toNat
        · have k1 : decide ((65 : Int) ≤ (c.toNat : Int)) = true := decide_eq_true (by omega)
          have k1' : decide (65 ≤ c.toNat) = true := decide_eq_true h65
          have k2 : decide ((c.toNat : Int) ≤ 90) = false := decide_eq_false (by omega)
          have k2' : decide (c.toNat ≤ 90) = false := decide_eq_false (by omega)
          clear he hu
          go_wp2_with (fail)
          go_roundw
          case rel => exact ⟨k + 1, by omega, by go_num, HN, HF⟩
          case measure => simp [intOf]; omega
        · have k1 : decide ((65 : Int) ≤ (c.toNat : Int)) = false := decide_eq_false (by omega)
          have k1' : decide (65 ≤ c.toNat) = false := decide_eq_false h65
          clear he hu
          go_wp2_with (fail)
          go_roundw
          case rel => exact ⟨k + 1, by omega, by go_num, HN, HF⟩
          case measure => simp [intOf]; omega
    · obtain rfl : s.length = k := by omega
      have htx := HL.out.text cap
      go_wp2_with (fail)
      go_ret
      exact ⟨rfl, HF.out⟩
set_option maxHeartbeats 2000000 in
set_option maxRecDepth 100000 in
theorem rLower_calls (s : Bs) (w : World) (hs : s.length ≤ 1000000) :
    Calls Try.prog 52 #[.string (mk s)] w fun e w' => e = .returned (.string (mk (low s))) ∧ Fr nob w w' := by
  have hcv := Lib.run_convert_string_bytes (P := Try.prog) w 9 58 5 (mk s) Try.underlying9 Try.underlying58 Try.underlying5
  have hst := LowAt.start w s
  have hf0 := bytesFr w (mk s)
  rw [mk_size] at hcv
  generalize Lib.bytesWorld w 5 (mk s) = w1 at *
  generalize grownCap w s.length 0 5 = cap at *
  generalize mk s = t at *
  have HST := Ho.mk hst; have HF0 := Ho.mk hf0
  clear hst hf0
  go_enter Try.func52, Try.ntmps52
  go_wp2_with (fail)
  go_loopw [4] (fun iv wr => ∃ k : Nat, k ≤ s.length ∧ iv = .int .i64 (k : Int) ∧ Ho (LowAt wr w.heap.size s k) ∧ Ho (Fr nob w wr)) (fun iv _ => s.length - (intOf iv).toNat)
  case atStart => exact ⟨0, by omega, rfl, HST, HF0⟩
  case round =>
    obtain ⟨k, hk, rfl, HL, HF⟩ := hrel
    clear HST HF0 hcv
    by_cases hlt : k < s.length
    · obtain ⟨c1, f1⟩ := HL.out k hlt
      rw [if_neg (by omega)] at c1
      have hstep := HL.out.step hlt
      have hskip := HL.out.skip hlt
      generalize hc : s[k] = c at *
      have hcc : c.toNat < 256 := c.toNat_lt
      have HSTEP := Ho.mk hstep; have HSKIP := Ho.mk hskip
      clear hstep hskip hc
      by_cases hu : 65 ≤ c.toNat ∧ c.toNat ≤ 90
      · have k1 : decide ((65 : Int) ≤ (c.toNat : Int)) = true := decide_eq_true (by omega)
        have k1' : decide (65 ≤ c.toNat) = true := decide_eq_true hu.1
        have k2 : decide ((c.toNat : Int) ≤ 90) = true := decide_eq_true (by omega)
        have k2' : decide (c.toNat ≤ 90) = true := decide_eq_true hu.2
        have HV := Ho.mk (lowB_val hu)
        obtain ⟨hu1, hu2⟩ := hu
        go_wp2_with (fail)
        go_roundw
        case rel =>
          refine ⟨k + 1, by omega, by go_num, ?_, ⟨HF.out.set (p := ⟨w.heap.size, k, none⟩) (.inl (Nat.le_refl _)) _⟩⟩
          have h := HSTEP.out
          rw [HV.out] at h
          exact ⟨h⟩
        case measure => simp [intOf]; omega
      · have he : lowB c = c := by unfold lowB; rw [if_neg hu]
        have HN := Ho.mk (HSKIP.out he)
        by_cases h65 : 65 ≤ c.toNat
        · have k1 : decide ((65 : Int) ≤ (c.toNat : Int)) = true := decide_eq_true (by omega)
          have k1' : decide (65 ≤ c.toNat) = true := decide_eq_true h65
          have k2 : decide ((c.toNat : Int) ≤ 90) = false := decide_eq_false (by omega)
          have k2' : decide (c.toNat ≤ 90) = false := decide_eq_false (by omega)
          clear he hu
          go_wp2_with (fail)
          go_roundw
          case rel => exact ⟨k + 1, by omega, by go_num, HN, HF⟩
          case measure => simp [intOf]; omega
        · have k1 : decide ((65 : Int) ≤ (c.toNat : Int)) = false := decide_eq_false (by omega)
          have k1' : decide (65 ≤ c.toNat) = false := decide_eq_false h65
          clear he hu
          go_wp2_with (fail)
          go_roundw
          case rel => exact ⟨k + 1, by omega, by go_num, HN, HF⟩
          case measure => simp [intOf]; omega
    · obtain rfl : s.length = k := by omega
      have htx := HL.out.text cap
      go_wp2_with (fail)
      go_ret
      exact ⟨rfl, HF.out⟩
end Go.Proofs.Ytlbhfnjhhpcphaa
