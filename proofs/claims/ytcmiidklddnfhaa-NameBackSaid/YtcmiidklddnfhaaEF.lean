/-
  The reference's Join.
-/
import Derived.Test.YtcmiidklddnfhaaEE
import Derived.Lib.Strings
import Derived.Laws.IdiomStrings
namespace Go.Proofs.Ytcmiidklddnfhaa
open Go.RowKit
/-- What is laid behind one another, till it is too long. -/
def Cut (o full : Bs) : Prop := o = full ∨ (255 < o.length ∧ o.length ≤ full.length)
theorem Cut.step {o full : Bs} (h : Cut o full) (h2 : o.length ≤ 255) (e : Bs) : Cut (o ++ e) (full ++ e) := by
  rcases h with rfl | ⟨h, _⟩
  · exact .inl rfl
  · omega
theorem Cut.stay {o full : Bs} (h : Cut o full) (h2 : 255 < o.length) (e : Bs) : Cut o (full ++ e) := by
  refine .inr ⟨h2, ?_⟩
  rw [List.length_append]
  rcases h with rfl | ⟨_, h⟩ <;> omega
theorem Cut.le {o full : Bs} (h : Cut o full) : o.length ≤ full.length := by
  rcases h with rfl | ⟨_, h⟩ <;> omega
theorem app_data (a b : ByteArray) : (a ++ b).data.toList = a.data.toList ++ b.data.toList := by simp
set_option maxHeartbeats 4000000 in
set_option maxRecDepth 100000 in
theorem rJoin_calls (v : Value) (ls : List Bs) (w : World) (hv : IsStrs w v ls) (hl : ls.length ≤ 100000) : Calls Try.prog 14 #[v] w (JoinPost ls w) := by
  obtain ⟨a, cap, rfl, hc⟩ := hv
  have HC := Ho.mk hc
  clear hc
  obtain ⟨ln, hln⟩ : ∃ n, ls.length = n := ⟨_, rfl⟩
  rw [hln] at hl ⊢
  have HLN := Ho.mk hln
  clear hln
  go_enter Try.func14, Try.ntmps14
  go_wp2_with (fail)
  go_loopw [4, 5] (fun ov iv wr => ∃ (k : Nat) (o : ByteArray), k ≤ ln ∧ iv = .int .i64 (k : Int) ∧ ov = .string o ∧ Ho (joinE (ls.take k) = 0) ∧ Ho (Cut o.data.toList ((ls.take k).flatMap encL)) ∧ Ho (Fr nob w wr)) (fun _ iv _ => ln - (intOf iv).toNat)
  case atStart => exact ⟨0, ⟨#[]⟩, by omega, rfl, rfl, Ho.mk rfl, Ho.mk (.inl rfl), Ho.mk (Fr.refl _ _)⟩
  case round =>
    obtain ⟨k, o, hk, rfl, rfl, HE, HO, HF⟩ := hrel
    have hosz : o.size = o.data.toList.length := Array.length_toList.symm
    by_cases hlt : k < ln
    · have hkl : k < ls.length := by rw [HLN.out]; exact hlt
      obtain ⟨b0, off, rfl, hcell0⟩ := HC.out k hkl
      have hcell := HF.out.cell (fun h => h) hcell0
      have hsp := joinE_split ls k hkl HE.out
      have het := enc_take ls k hkl
      have hgt := joinE_take ls k hkl HE.out
      have hlen2 := enc_len _ HE.out
      rw [List.length_take] at hlen2
      have hole := HO.out.le
      generalize ls[k] = x at *
      unfold str at hcell
      obtain ⟨s, hs⟩ : ∃ s, mk x = s := ⟨_, rfl⟩
      have hsz : s.size = x.length := by rw [← hs, mk_size]
      have hsl : s.toList = x := by rw [← hs, Lib.toList_data]; rfl
      rw [hs] at hcell
      have hob : o.size ≤ 64 * 100000 := by omega
      have HSS := Ho.mk hs; have HSZ := Ho.mk hsz; have HSP := Ho.mk hsp; have HET := Ho.mk het; have HGT := Ho.mk hgt; have HLEN := Ho.mk hlen2; have HOSZ := Ho.mk hosz; have HSL := Ho.mk hsl
      clear hs hsz hsp het hgt hlen2 hosz hsl hcell0 hole
      by_cases h0 : x = []
      · have k1 : (s.toList == []) = true := by rw [HSL.out, h0]; rfl
        have k1' : s.toList.isEmpty = true := by rw [HSL.out, h0]; rfl
        have HP := Ho.mk (joinP_bad (e := 2) (by rw [HSP.out, if_pos h0]) (by decide))
        clear h0
        go_wp2_with (fail)
        go_ret2
        exact JoinPost.mk' HP.out rfl HF.out
      · have k1 : (s.toList == []) = false := by rw [HSL.out, beq_eq_false_iff_ne]; exact h0
        have k1' : s.toList.isEmpty = false := by rw [HSL.out]; cases x with | nil => exact absurd rfl h0 | cons a b => rfl
        have hx1 : 1 ≤ x.length := by cases x with | nil => exact absurd rfl h0 | cons a b => simp
        by_cases h1 : 63 < s.size
        · have k2 : decide ((63 : Int) < (s.size : Int)) = true := decide_eq_true (by omega)
          have k2' : decide (63 < s.size) = true := decide_eq_true (by omega)
          have HP := Ho.mk (joinP_bad (e := 3) (by rw [HSP.out, if_neg h0, if_pos (by rw [← HSZ.out]; exact h1)]) (by decide))
          clear h0 h1
          go_wp2_with (fail)
          go_ret2
          exact JoinPost.mk' HP.out rfl HF.out
        · have k2 : decide ((63 : Int) < (s.size : Int)) = false := decide_eq_false (by omega)
          have k2' : decide (63 < s.size) = false := decide_eq_false (by omega)
          have hs1 : 1 ≤ s.size := by rw [HSZ.out]; exact hx1
          have hs63 : s.size ≤ 63 := by omega
          have HG := Ho.mk (HGT.out ⟨hx1, by rw [← HSZ.out]; omega⟩)
          clear h0 h1 hx1
          by_cases h2 : o.size ≤ 255
          · have k3 : decide ((o.size : Int) ≤ 255) = true := decide_eq_true (by omega)
            have k3' : decide (o.size ≤ 255) = true := decide_eq_true (by omega)
            have hw8 : IntKind.u8.wrap (s.size : Int) = (s.size : Int) := by rw [IntKind.wrap_u8]; omega
            have e8 : (s.size : Int) = ((UInt8.ofNat s.size).toNat : Int) := by simp; omega
            have hcv : (convert 53 9 (.slice (some ⟨wr.heap.size, 0, none⟩) 1 1)).run Try.prog (wr.alloc (.cells #[.int .u8 (s.size : Int)] 5)).drew = .ok (.string ⟨[UInt8.ofNat s.size].toArray⟩) (wr.alloc (.cells #[.int .u8 (s.size : Int)] 5)).drew :=
              run_convert_bytes_back _ 53 9 5 ⟨wr.heap.size, 0, none⟩ 1 [UInt8.ofNat s.size] Try.underlying53 Try.underlying5 Try.underlying9 (fun j hj => by
                obtain rfl : j = 0 := by simp at hj; omega
                have h := blk_cell (blk_new wr (.cells #[.int .u8 (s.size : Int)] 5)) 0
                rw [show (⟨wr.heap.size, 0, none⟩ : Addr).add 0 = ⟨wr.heap.size, 0, none⟩ from rfl]
                refine h.trans ?_
                simp; omega)
            have hcell2 : (wr.alloc (.cells #[.int .u8 (s.size : Int)] 5)).drew.cell? ⟨b0, off + k, none⟩ = some (.string s) := ((Fr.refl nob wr).alloc _).cell (fun h => h) hcell
            have HE8 := Ho.mk e8
            clear e8
            go_wp2_with (fail)
            go_region
            have hcut := HO.out.step (by rw [← HOSZ.out]; exact h2) ([UInt8.ofNat x.length] ++ x)
            rw [← List.append_assoc, ← List.append_assoc, ← HET.out] at hcut
            have hcut2 : Cut (o ++ ⟨#[UInt8.ofNat s.size]⟩ ++ s).data.toList ((ls.take (k + 1)).flatMap encL) := by
              rw [app_data, app_data, HSZ.out, ← HSS.out]; exact hcut
            have HCUT := Ho.mk hcut2
            have HF2 := Ho.mk ((HF.out.alloc (.cells #[.int .u8 (s.size : Int)] 5)).drew)
            clear hcut hcut2 h2 hcv hcell hcell2
            go_wp2_with (fail)
            go_roundw
            case rel => exact ⟨k + 1, _, by omega, by go_num, rfl, HG, HCUT, HF2⟩
            case measure => simp [intOf]; omega
          · have k3 : decide ((o.size : Int) ≤ 255) = false := decide_eq_false (by omega)
            have k3' : decide (o.size ≤ 255) = false := decide_eq_false (by omega)
            have hcut := HO.out.stay (by rw [← HOSZ.out]; omega) ([UInt8.ofNat x.length] ++ x)
            rw [← List.append_assoc, ← HET.out] at hcut
            have HCUT := Ho.mk hcut
            clear hcut h2
            go_wp2_with (fail)
            go_roundw
            case rel => exact ⟨k + 1, o, by omega, by go_num, rfl, HG, HCUT, HF⟩
            case measure => simp [intOf]; omega
    · obtain rfl : ln = k := by omega
      have htk : ls.take ln = ls := List.take_of_length_le (by have := HLN.out; omega)
      have he := HE.out; have ho := HO.out
      rw [htk] at he ho
      have hle := ho.le
      have hlen := enc_len ls he
      have hob : o.size ≤ 64 * 100000 := by have := HLN.out; omega
      have hos : (o ++ ⟨#[0]⟩ : ByteArray).size = o.size + 1 := by simp; rfl
      have hofull : o.size + 1 ≤ 255 → o.data.toList = ls.flatMap encL := fun h => by
        rcases ho with h1 | ⟨h1, _⟩
        · exact h1
        · omega
      have hlong : 255 < o.size + 1 → 255 < (encN ls).length := fun h => by
        show 255 < (ls.flatMap encL ++ [0]).length
        rw [List.length_append]
        rcases ho with h1 | ⟨h1, h2⟩
        · rw [← h1, ← hosz]; simpa using h
        · simp only [List.length_cons, List.length_nil]; omega
      have HE2 := Ho.mk he; have HFULL := Ho.mk hofull; have HLONG := Ho.mk hlong; have HOSZ := Ho.mk hosz
      clear htk he ho hle hlen hosz HE HO hofull hlong
      by_cases hb : 255 < o.size + 1
      · have k1 : decide ((255 : Int) < (o.size : Int) + 1) = true := decide_eq_true (by omega)
        have k1' : decide (255 < o.size + 1) = true := decide_eq_true (by omega)
        have HP := Ho.mk (joinP_long HE2.out (HLONG.out hb))
        clear hb
        go_wp2_with (fail)
        go_ret2
        exact JoinPost.mk' HP.out rfl HF.out
      · have k1 : decide ((255 : Int) < (o.size : Int) + 1) = false := decide_eq_false (by omega)
        have k1' : decide (255 < o.size + 1) = false := decide_eq_false (by omega)
        have ho := HFULL.out (by omega)
        have henc : (encN ls).length = o.size + 1 := by
          show (ls.flatMap encL ++ [0]).length = _
          rw [List.length_append, ← ho, ← HOSZ.out]; rfl
        have HP := Ho.mk (joinP_ok HE2.out (by omega))
        have hmk : mk (encN ls) = o ++ ⟨#[0]⟩ := by
          apply Go.WideShapes.bytes_inj
          rw [app_data, ho]; rfl
        have HMK := Ho.mk hmk
        clear hb ho henc hmk
        go_wp2_with (fail)
        go_ret2
        exact JoinPost.mk' HP.out HMK.out HF.out
end Go.Proofs.Ytcmiidklddnfhaa
