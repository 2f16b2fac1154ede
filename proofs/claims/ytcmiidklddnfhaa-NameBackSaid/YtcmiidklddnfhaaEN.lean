/-
  package name: Compare.
-/
import Derived.Test.YtcmiidklddnfhaaEM
namespace Go.Proofs.Ytcmiidklddnfhaa
open Go.RowKit
def IntPost (w : World) (b : Int) (e : Ending) (w' : World) : Prop := e = .returned (.int .i64 b) ∧ Fr nob w w'
theorem IntPost.mk' {w w' : World} {b c : Int} (h : b = c) (hf : Fr nob w w') : IntPost w b (.returned (.int .i64 c)) w' := ⟨by rw [h], hf⟩
theorem rev_drop {l : List Bs} {k : Nat} (hk : k < l.length) : l.reverse.drop k = l[l.length - (k + 1)] :: l.reverse.drop (k + 1) := by
  have h : k < l.reverse.length := by simpa using hk
  rw [List.drop_eq_getElem_cons h]
  congr 1
  rw [List.getElem_reverse]
  congr 1; omega
theorem cmpL_end {a b : List Bs} {k : Nat} (h : a.length ≤ k ∨ b.length ≤ k) (ha : k ≤ a.length) (hb : k ≤ b.length) : cmpL (a.reverse.drop k) (b.reverse.drop k) = if a.length < b.length then -1 else if b.length < a.length then 1 else 0 := by
  have hla : (a.reverse.drop k).length = a.length - k := by simp
  have hlb : (b.reverse.drop k).length = b.length - k := by simp
  cases h1 : a.reverse.drop k with
  | nil =>
    rw [h1] at hla; simp at hla
    cases h2 : b.reverse.drop k with
    | nil => rw [h2] at hlb; simp at hlb; rw [if_neg (by omega), if_neg (by omega)]; rfl
    | cons y ys => rw [h2] at hlb; simp at hlb; rw [if_pos (by omega)]; rfl
  | cons x xs =>
    rw [h1] at hla; simp at hla
    cases h2 : b.reverse.drop k with
    | nil => rw [h2] at hlb; simp at hlb; rw [if_neg (by omega), if_pos (by omega)]; rfl
    | cons y ys => rw [h2] at hlb; simp at hlb; omega
set_option maxHeartbeats 4000000 in
set_option maxRecDepth 100000 in
theorem Compare_calls (n z : Bs) (w : World) (hn : n.length ≤ 100000) (hz : z.length ≤ 100000) :
    Calls Try.prog 31 #[.string (mk n), .string (mk z)] w (IntPost w (compareP n z)) := by
  have hln := labels_len n; have hlz := labels_len z
  have hcn := Labels_calls n w hn
  have hcz := fun W => Labels_calls z W hz
  have hw : compareP n z = if (labels n).2 = 0 ∧ (labels z).2 = 0 then cmpL (labels n).1.reverse (labels z).1.reverse else 0 := rfl
  unfold LabPost at hcn hcz
  have hsn : ∀ l ∈ (labels n).1, l.length ≤ 63 := labels_small n
  have hsz : ∀ l ∈ (labels z).1, l.length ≤ 63 := labels_small z
  obtain ⟨ll, en, hle⟩ : ∃ ll en, labels n = (ll, en) := ⟨_, _, rfl⟩
  obtain ⟨zl, ez, hze⟩ : ∃ zl ez, labels z = (zl, ez) := ⟨_, _, rfl⟩
  rw [hle] at hcn hln hw hsn
  simp only [hze] at hcz hlz hw hsz
  simp only at hcn hln hlz hw hsn hsz
  generalize compareP n z = R at *
  generalize mk n = tn at *
  generalize mk z = tz at *
  have HW := Ho.mk hw; have HCZ := Ho.mk hcz; have HSN := Ho.mk hsn; have HSZ := Ho.mk hsz
  have hll : ll.length ≤ 100000 := by omega
  have hzl : zl.length ≤ 100000 := by omega
  clear hw hcz hsn hsz hle hze hln hlz
  go_enter Try.func31, Try.ntmps31
  go_wp2_with (fail)
  refine hcn.mono ?_
  clear hcn
  rintro r w1 ⟨v1, rfl, hown1, _, hf1⟩
  obtain ⟨a1, cap1, rfl⟩ := own_shape hown1
  have HS1 := Ho.mk (own_strs hown1); have HF1 := Ho.mk hf1
  clear hown1 hf1
  go_wp2_with (fail)
  refine (HCZ.out w1).mono ?_
  clear HCZ
  rintro r w2 ⟨v2, rfl, hown2, _, hf2⟩
  obtain ⟨a2, cap2, rfl⟩ := own_shape hown2
  have HS2 := Ho.mk (own_strs hown2); have HF2 := Ho.mk (HF1.out.trans hf2); have HS12 := Ho.mk (HS1.out.same hf2)
  clear hown2 hf2 HS1
  by_cases h1 : en = 0
  · have k1 : (en != 0) = false := by rw [h1]; rfl
    by_cases h2 : ez = 0
    · have k2 : (ez != 0) = false := by rw [h2]; rfl
      have HR := Ho.mk (show R = cmpL ll.reverse zl.reverse by rw [HW.out, if_pos ⟨h1, h2⟩])
      clear h1 h2 HW
      go_wp2_with (fail)
      go_loopw [9] (fun iv wr => ∃ k : Nat, k ≤ ll.length ∧ k ≤ zl.length ∧ iv = .int .i64 ((k : Int) + 1) ∧ Ho (cmpL ll.reverse zl.reverse = cmpL (ll.reverse.drop k) (zl.reverse.drop k)) ∧ Ho (Fr nob w2 wr)) (fun iv _ => ll.length + 1 - (intOf iv).toNat)
      case atStart => exact ⟨0, by omega, by omega, rfl, Ho.mk rfl, Ho.mk (Fr.refl _ _)⟩
      case round =>
        obtain ⟨k, hk, hkz, rfl, HE, HF⟩ := hrel
        by_cases hlt : k < ll.length ∧ k < zl.length
        · obtain ⟨hlt1, hlt2⟩ := hlt
          have k3 : decide ((k : Int) + 1 ≤ (ll.length : Int)) = true := decide_eq_true (by omega)
          have k3' : decide (k + 1 ≤ ll.length) = true := decide_eq_true (by omega)
          have k4 : decide ((k : Int) + 1 ≤ (zl.length : Int)) = true := decide_eq_true (by omega)
          have k4' : decide (k + 1 ≤ zl.length) = true := decide_eq_true (by omega)
          have hd1 := rev_drop hlt1
          have hd2 := rev_drop hlt2
          obtain ⟨ia, hia⟩ : ∃ i, ll.length - (k + 1) = i := ⟨_, rfl⟩
          obtain ⟨ib, hib⟩ : ∃ i, zl.length - (k + 1) = i := ⟨_, rfl⟩
          have hial : ia < ll.length := by omega
          have hibl : ib < zl.length := by omega
          have q1 : (ll.length : Int) - ((k : Int) + 1) = (ia : Int) := by omega
          have q2 : (zl.length : Int) - ((k : Int) + 1) = (ib : Int) := by omega
          simp only [hia] at hd1
          simp only [hib] at hd2
          have hw1 : IntKind.i64.wrap (ia : Int) = (ia : Int) := IntWalk.i64_in _ (by omega)
          have hw2 : IntKind.i64.wrap (ib : Int) = (ib : Int) := IntWalk.i64_in _ (by omega)
          obtain ⟨a4, cap4, hav, hint⟩ := HS12.out
          obtain ⟨a5, cap5, hav2, hint2⟩ := HS2.out
          have ha4 : a1 = a4 := by injection hav
          have ha5 : a2 = a5 := by injection hav2
          subst ha4 ha5
          obtain ⟨tb, toff, ht1, ht2⟩ := hint ia hial
          obtain ⟨zb, zoff, hz1, hz2⟩ := hint2 ib hibl
          subst ht1 hz1
          have ht3 := HF.out.cell (fun h => h) ht2
          have hz3 := HF.out.cell (fun h => h) hz2
          have hx63 := HSN.out _ (List.getElem_mem hial)
          have hy63 := HSZ.out _ (List.getElem_mem hibl)
          unfold str at ht3 hz3
          generalize ll[ia] = x at *
          generalize zl[ib] = y at *
          have hcx := fun W => Lower_calls x W (by omega)
          have hcy := fun W => Lower_calls y W (by omega)
          obtain ⟨lx, hlx⟩ : ∃ t, mk (low x) = t := ⟨_, rfl⟩
          obtain ⟨ly, hly⟩ : ∃ t, mk (low y) = t := ⟨_, rfl⟩
          have hcc := fun W => Try.strings_Compare lx ly W
          have hlxl : lx.data.toList = low x := by rw [← hlx]; rfl
          have hlyl : ly.data.toList = low y := by rw [← hly]; rfl
          obtain ⟨cv, hcv⟩ : ∃ c, Lib.compareBytes (low x) (low y) = c := ⟨_, rfl⟩
          rw [hlxl, hlyl, hcv] at hcc
          rw [hlx] at hcx; rw [hly] at hcy
          obtain ⟨sx, hsx⟩ : ∃ t, mk x = t := ⟨_, rfl⟩
          obtain ⟨sy, hsy⟩ : ∃ t, mk y = t := ⟨_, rfl⟩
          rw [hsx] at hcx ht3; rw [hsy] at hcy hz3
          have HX := Ho.mk (fun W (hx : W.cell? ⟨tb, toff + ia, none⟩ = some (.string sx)) (hc : W.cell? ⟨zb, zoff + ib, none⟩ = some (.string sy)) (hf : Fr nob wr W) => (hcx W).mono (R' := fun e w' => e = .returned (.string lx) ∧ w'.cell? ⟨tb, toff + ia, none⟩ = some (.string sx) ∧ w'.cell? ⟨zb, zoff + ib, none⟩ = some (.string sy) ∧ Fr nob wr w') (fun e w' h => ⟨h.1, h.2.cell (fun h => h) hx, h.2.cell (fun h => h) hc, hf.trans h.2⟩))
          have HY := Ho.mk (fun W (hx : W.cell? ⟨tb, toff + ia, none⟩ = some (.string sx)) (hc : W.cell? ⟨zb, zoff + ib, none⟩ = some (.string sy)) (hf : Fr nob wr W) => (hcy W).mono (R' := fun e w' => e = .returned (.string ly) ∧ w'.cell? ⟨tb, toff + ia, none⟩ = some (.string sx) ∧ w'.cell? ⟨zb, zoff + ib, none⟩ = some (.string sy) ∧ Fr nob wr w') (fun e w' h => ⟨h.1, h.2.cell (fun h => h) hx, h.2.cell (fun h => h) hc, hf.trans h.2⟩))
          have HCC := Ho.mk hcc
          have HE1 := Ho.mk (show cmpL ll.reverse zl.reverse = if cv = 0 then cmpL (ll.reverse.drop (k + 1)) (zl.reverse.drop (k + 1)) else cv from HE.out.trans (by rw [hd1, hd2]; simp only [cmpL, hcv]))
          clear hint hint2 hav hav2 ht2 hz2 hcx hcy hlx hly hsx hsy hx63 hy63 hd1 hd2 hcc hlxl hlyl hcv hia hib
          have hf0 : Fr nob wr wr := Fr.refl _ _
          go_wp2_with (fail)
          go_region_held3 (fun W => W.cell? ⟨tb, toff + ia, none⟩ = some (.string sx) ∧ W.cell? ⟨zb, zoff + ib, none⟩ = some (.string sy) ∧ Fr nob wr W) (first | exact ⟨by assumption, by assumption, by assumption⟩ | exact ⟨by assumption, by assumption, (Fr.refl nob wr).drew⟩ | assumption)
            (first
            | (go_at_call 26; (try go_split_ands); (with_reducible refine (HX.out _ ?_ ?_ ?_).mono ?_); assumption; assumption; assumption; rintro e w' ⟨rfl, hx', hc', hf'⟩)
            | (go_at_call 26; (try go_split_ands); (with_reducible refine (HY.out _ ?_ ?_ ?_).mono ?_); assumption; assumption; assumption; rintro e w' ⟨rfl, hx', hc', hf'⟩)
            | (go_at_call 41; (with_reducible refine (HCC.out _).mono ?_); rintro e w' ⟨rfl, rfl⟩))
          try go_split_ands
          by_cases h0 : cv = 0
          · have k5 : (cv == 0) = true := by rw [h0]; rfl
            have k5' : (cv != 0) = false := by rw [h0]; rfl
            have HE2 := Ho.mk (HE1.out.trans (if_pos h0))
            clear h0
            go_wp2_with (fail)
            go_roundw
            case rel => exact ⟨k + 1, by omega, by omega, by go_num, HE2, ⟨HF.out.trans (by assumption)⟩⟩
            case measure => simp [intOf]; omega
          · have k5 : (cv == 0) = false := by rw [beq_eq_false_iff_ne]; exact h0
            have k5' : (cv != 0) = true := by simp [h0]
            have HRV := Ho.mk (show R = cv from HR.out.trans (HE1.out.trans (if_neg h0)))
            clear h0
            go_wp2_with (fail)
            go_ret
            exact IntPost.mk' HRV.out ((HF2.out.trans HF.out).trans (by assumption))
        · have HRV := Ho.mk (show R = if ll.length < zl.length then -1 else if zl.length < ll.length then 1 else 0 from HR.out.trans (HE.out.trans (cmpL_end (by omega) hk hkz)))
          have HFF := Ho.mk (HF2.out.trans HF.out)
          clear HE HF
          by_cases hlt1 : k < ll.length
          case' pos =>
            have k3 : decide ((k : Int) + 1 ≤ (ll.length : Int)) = true := decide_eq_true (by omega)
            have k3' : decide (k + 1 ≤ ll.length) = true := decide_eq_true (by omega)
            have k4 : decide ((k : Int) + 1 ≤ (zl.length : Int)) = false := decide_eq_false (by omega)
            have k4' : decide (k + 1 ≤ zl.length) = false := decide_eq_false (by omega)
            go_wp2_with (fail)
          case' neg =>
            have k3 : decide ((k : Int) + 1 ≤ (ll.length : Int)) = false := decide_eq_false (by omega)
            have k3' : decide (k + 1 ≤ ll.length) = false := decide_eq_false (by omega)
            go_wp2_with (fail)
          all_goals
            go_ret
            exact IntPost.mk' (HRV.out.trans (by split <;> (try split) <;> omega)) HFF.out
    · have k2 : (ez != 0) = true := by simp [h2]
      have HR := Ho.mk (show R = 0 by rw [HW.out, if_neg (fun h => h2 h.2)])
      clear h1 h2
      go_wp2_with (fail)
      go_ret
      exact IntPost.mk' HR.out HF2.out
  · have k1 : (en != 0) = true := by simp [h1]
    have HR := Ho.mk (show R = 0 by rw [HW.out, if_neg (fun h => h1 h.1)])
    clear h1
    go_wp2_with (fail)
    go_ret
    exact IntPost.mk' HR.out HF2.out
end Go.Proofs.Ytcmiidklddnfhaa
