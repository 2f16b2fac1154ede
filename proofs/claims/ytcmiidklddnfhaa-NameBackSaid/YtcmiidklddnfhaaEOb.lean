/-
  The reference's Compare.
-/
import Derived.Test.YtcmiidklddnfhaaEO
namespace Go.Proofs.Ytcmiidklddnfhaa
open Go.RowKit
set_option maxHeartbeats 4000000 in
set_option maxRecDepth 100000 in
theorem rCompare_calls (n z : Bs) (w : World) (hn : n.length ≤ 100000) (hz : z.length ≤ 100000) :
    Calls Try.prog 32 #[.string (mk n), .string (mk z)] w (IntPost w (compareP n z)) := by
  have hln := labels_len n; have hlz := labels_len z
  have hlwn := rLower_calls n w (by omega)
  have hlwz := fun W => rLower_calls z W (by omega)
  have hcn := fun W => rLabels_calls (low n) W (by rw [low_len]; exact hn)
  have hcz := fun W => rLabels_calls (low z) W (by rw [low_len]; exact hz)
  have hw : compareP n z = if (labels n).2 = 0 ∧ (labels z).2 = 0 then cmpL (labels n).1.reverse (labels z).1.reverse else 0 := rfl
  unfold RLabPost at hcn hcz
  simp only [labels_low] at hcn hcz
  obtain ⟨ll, en, hle⟩ : ∃ ll en, labels n = (ll, en) := ⟨_, _, rfl⟩
  obtain ⟨zl, ez, hze⟩ : ∃ zl ez, labels z = (zl, ez) := ⟨_, _, rfl⟩
  rw [hle] at hln hw
  simp only [hle, hze, List.length_map] at hcn hcz hlz hw
  simp only at hln
  generalize compareP n z = R at *
  generalize mk n = tn at *
  generalize mk z = tz at *
  generalize mk (low n) = un at *
  generalize mk (low z) = uz at *
  have HW := Ho.mk hw; have HCZ := Ho.mk hcz; have HCN := Ho.mk hcn; have HLZ := Ho.mk hlwz
  have hll : ll.length ≤ 100000 := by omega
  have hzl : zl.length ≤ 100000 := by omega
  clear hw hcz hcn hlwz hle hze hln hlz
  go_enter Try.func32, Try.ntmps32
  go_wp2_with (fail)
  refine hlwn.mono ?_
  clear hlwn
  rintro r w0 ⟨rfl, hf0⟩
  go_wp2_with (fail)
  refine (HCN.out w0).mono ?_
  clear HCN
  rintro r w1 ⟨v1, rfl, hown1, hf1⟩
  obtain ⟨a1, cap1, rfl⟩ := own_shape hown1
  have HS1 := Ho.mk (own_strs (l := ll.map low) (by rw [List.length_map]; exact hown1)); have HF1 := Ho.mk (hf0.trans hf1)
  clear hown1 hf1 hf0
  go_wp2_with (fail)
  refine (HLZ.out w1).mono ?_
  clear HLZ
  rintro r w1b ⟨rfl, hf1⟩
  go_wp2_with (fail)
  refine (HCZ.out w1b).mono ?_
  clear HCZ
  rintro r w2 ⟨v2, rfl, hown2, hf2⟩
  obtain ⟨a2, cap2, rfl⟩ := own_shape hown2
  have HS2 := Ho.mk (own_strs (l := zl.map low) (by rw [List.length_map]; exact hown2)); have HF2 := Ho.mk ((HF1.out.trans hf1).trans hf2); have HS12 := Ho.mk (HS1.out.same (hf1.trans hf2))
  clear hown2 hf2 hf1 HS1
  by_cases h1 : en = 0
  · have k1 : (en != 0) = false := by rw [h1]; rfl
    by_cases h2 : ez = 0
    · have k2 : (ez != 0) = false := by rw [h2]; rfl
      have HR := Ho.mk (show R = cmpL ll.reverse zl.reverse by rw [HW.out, if_pos ⟨h1, h2⟩])
      clear h1 h2 HW
      go_wp2_with (fail)
      go_loopw [9] (fun iv wr => ∃ k : Nat, k ≤ ll.length ∧ k ≤ zl.length ∧ iv = .int .i64 ((k : Int) + 1) ∧ Ho (cmpL ll.reverse zl.reverse = cmpL (ll.reverse.drop k) (zl.reverse.drop k)) ∧ Ho (Fr nob w2 wr)) (fun iv _ => ll.length + 1 - (intOf iv).toNat)
      case atStart => exact ⟨0, by omega, by omega, rfl, Ho.mk rfl, Ho.mk (Fr.refl _ _)⟩
      case round =>
        obtain ⟨k, hk, hkz, rfl, HE, HF⟩ := hrel
        by_cases hlt : k < ll.length ∧ k < zl.length
        · obtain ⟨hlt1, hlt2⟩ := hlt
          have k3 : decide ((k : Int) + 1 ≤ (ll.length : Int)) = true := decide_eq_true (by omega)
          have k3' : decide (k + 1 ≤ ll.length) = true := decide_eq_true (by omega)
          have k4 : decide ((k : Int) + 1 ≤ (zl.length : Int)) = true := decide_eq_true (by omega)
          have k4' : decide (k + 1 ≤ zl.length) = true := decide_eq_true (by omega)
          have hd1 := rev_drop hlt1
          have hd2 := rev_drop hlt2
          obtain ⟨ia, hia⟩ : ∃ i, ll.length - (k + 1) = i := ⟨_, rfl⟩
          obtain ⟨ib, hib⟩ : ∃ i, zl.length - (k + 1) = i := ⟨_, rfl⟩
          have hial : ia < ll.length := by omega
          have hibl : ib < zl.length := by omega
          have q1 : (ll.length : Int) - ((k : Int) + 1) = (ia : Int) := by omega
          have q2 : (zl.length : Int) - ((k : Int) + 1) = (ib : Int) := by omega
          simp only [hia] at hd1
          simp only [hib] at hd2
          have hw1 : IntKind.i64.wrap (ia : Int) = (ia : Int) := IntWalk.i64_in _ (by omega)
          have hw2 : IntKind.i64.wrap (ib : Int) = (ib : Int) := IntWalk.i64_in _ (by omega)
          obtain ⟨a4, cap4, hav, hint⟩ := HS12.out
          obtain ⟨a5, cap5, hav2, hint2⟩ := HS2.out
          have ha4 : a1 = a4 := by injection hav
          have ha5 : a2 = a5 := by injection hav2
          subst ha4 ha5
          obtain ⟨tb, toff, ht1, ht2⟩ := hint ia (by rw [List.length_map]; exact hial)
          obtain ⟨zb, zoff, hz1, hz2⟩ := hint2 ib (by rw [List.length_map]; exact hibl)
          subst ht1 hz1
          have ht3 := HF.out.cell (fun h => h) ht2
          have hz3 := HF.out.cell (fun h => h) hz2
          rw [List.getElem_map] at ht3 hz3
          unfold str at ht3 hz3
          generalize ll[ia] = x at *
          generalize zl[ib] = y at *
          obtain ⟨lx, hlx⟩ : ∃ t, mk (low x) = t := ⟨_, rfl⟩
          obtain ⟨ly, hly⟩ : ∃ t, mk (low y) = t := ⟨_, rfl⟩
          have hlxl : lx.toList = low x := by rw [← hlx, Lib.toList_data]; rfl
          have hlyl : ly.toList = low y := by rw [← hly, Lib.toList_data]; rfl
          rw [hlx] at ht3; rw [hly] at hz3
          obtain ⟨cv, hcv⟩ : ∃ c, Lib.compareBytes (low x) (low y) = c := ⟨_, rfl⟩
          have hvals := cmpB_vals (low x) (low y)
          have hneg := cmpB_neg (low x) (low y)
          rw [hcv] at hvals hneg
          have hl1 : Op.bytesLess lx.toList ly.toList = decide (cv = -1) := by rw [hlxl, hlyl, Bool.eq_iff_iff, bytesLess_cmp, hcv]; simp
          have hl2 : (lx.toList == ly.toList) = decide (cv = 0) := by rw [hlxl, hlyl, Bool.eq_iff_iff, ← hcv]; simp [cmpB_eq]
          have HE1 := Ho.mk (show cmpL ll.reverse zl.reverse = if cv = 0 then cmpL (ll.reverse.drop (k + 1)) (zl.reverse.drop (k + 1)) else cv from HE.out.trans (by rw [hd1, hd2]; simp only [cmpL, hcv]))
          clear hint hint2 hav hav2 ht2 hz2 hlx hly hd1 hd2 hlxl hlyl hcv hia hib hneg
          rcases hvals with h0 | h0 | h0
          · subst h0
            replace hl1 : Op.bytesLess lx.toList ly.toList = false := by rw [hl1]; rfl
            replace hl2 : (lx.toList == ly.toList) = true := by rw [hl2]; rfl
            have HE2 := Ho.mk (HE1.out.trans (if_pos rfl))
            go_wp2_with (fail)
            go_quiet (fail)
            go_wp2_with (fail)
            go_roundw
            case rel => exact ⟨k + 1, by omega, by omega, by go_num, HE2, ⟨HF.out.drewN nq⟩⟩
            case measure => simp [intOf]; omega
          · subst h0
            replace hl1 : Op.bytesLess lx.toList ly.toList = false := by rw [hl1]; rfl
            replace hl2 : (lx.toList == ly.toList) = false := by rw [hl2]; rfl
            have HRV := Ho.mk (show R = 1 from HR.out.trans (HE1.out.trans (if_neg (by decide))))
            go_wp2_with (fail)
            go_quiet (fail)
            go_wp2_with (fail)
            go_ret
            exact IntPost.mk' HRV.out ((HF2.out.trans HF.out).drewN nq)
          · subst h0
            replace hl1 : Op.bytesLess lx.toList ly.toList = true := by rw [hl1]; rfl
            have HRV := Ho.mk (show R = -1 from HR.out.trans (HE1.out.trans (if_neg (by decide))))
            go_wp2_with (fail)
            go_quiet (fail)
            go_wp2_with (fail)
            go_ret
            exact IntPost.mk' HRV.out ((HF2.out.trans HF.out).drewN nq)
        · have HRV := Ho.mk (show R = if ll.length < zl.length then -1 else if zl.length < ll.length then 1 else 0 from HR.out.trans (HE.out.trans (cmpL_end (by omega) hk hkz)))
          have HFF := Ho.mk (HF2.out.trans HF.out)
          clear HE HF
          by_cases hlt1 : k < ll.length
          · have k3 : decide ((k : Int) + 1 ≤ (ll.length : Int)) = true := decide_eq_true (by omega)
            have k3' : decide (k + 1 ≤ ll.length) = true := decide_eq_true (by omega)
            have k4 : decide ((k : Int) + 1 ≤ (zl.length : Int)) = false := decide_eq_false (by omega)
            have k4' : decide (k + 1 ≤ zl.length) = false := decide_eq_false (by omega)
            have k5 : decide ((ll.length : Int) < (zl.length : Int)) = false := decide_eq_false (by omega)
            have k5' : decide (ll.length < zl.length) = false := decide_eq_false (by omega)
            have k6 : decide ((zl.length : Int) < (ll.length : Int)) = true := decide_eq_true (by omega)
            have k6' : decide (zl.length < ll.length) = true := decide_eq_true (by omega)
            have HRV2 := Ho.mk (show R = 1 by rw [HRV.out, if_neg (by omega), if_pos (by omega)])
            go_wp2_with (fail)
            go_ret
            exact IntPost.mk' HRV2.out HFF.out
          · have k3 : decide ((k : Int) + 1 ≤ (ll.length : Int)) = false := decide_eq_false (by omega)
            have k3' : decide (k + 1 ≤ ll.length) = false := decide_eq_false (by omega)
            by_cases hlt2 : ll.length < zl.length
            · have k5 : decide ((ll.length : Int) < (zl.length : Int)) = true := decide_eq_true (by omega)
              have k5' : decide (ll.length < zl.length) = true := decide_eq_true (by omega)
              have HRV2 := Ho.mk (show R = -1 by rw [HRV.out, if_pos (by omega)])
              go_wp2_with (fail)
              go_ret
              exact IntPost.mk' HRV2.out HFF.out
            · have k5 : decide ((ll.length : Int) < (zl.length : Int)) = false := decide_eq_false (by omega)
              have k5' : decide (ll.length < zl.length) = false := decide_eq_false (by omega)
              have k6 : decide ((zl.length : Int) < (ll.length : Int)) = false := decide_eq_false (by omega)
              have k6' : decide (zl.length < ll.length) = false := decide_eq_false (by omega)
              have HRV2 := Ho.mk (show R = 0 by rw [HRV.out, if_neg (by omega), if_neg (by omega)])
              go_wp2_with (fail)
              go_ret
              exact IntPost.mk' HRV2.out HFF.out
    · have k2 : (ez != 0) = true := by simp [h2]
      have HR := Ho.mk (show R = 0 by rw [HW.out, if_neg (fun h => h2 h.2)])
      clear h1 h2
      go_wp2_with (fail)
      go_ret
      exact IntPost.mk' HR.out HF2.out
  · have k1 : (en != 0) = true := by simp [h1]
    have HR := Ho.mk (show R = 0 by rw [HW.out, if_neg (fun h => h1 h.1)])
    clear h1
    go_wp2_with (fail)
    go_ret
    exact IntPost.mk' HR.out HF2.out
end Go.Proofs.Ytcmiidklddnfhaa
