/-
  NameZones: the walk.
-/
import Derived.Test.YtcmiidklddnfhaaEZa
import Derived.Test.YtcmiidklddnfhaaEZb
import Derived.Test.YtcmiidklddnfhaaEVb
namespace Go.Proofs.Ytcmiidklddnfhaa
open Go.RowKit
theorem own_blk {B : Nat} {e : TypeId} {sz : Nat} {v : Value} {n : Nat} {xs : List Value} {w : World} (h : w.ownsRow B e sz v n xs) {k : Nat} (hk : v.ownBlock = some k) : B ≤ k := by
  rcases h.2 with ⟨rfl, _⟩ | ⟨g, cap, cur, rfl, hB, _⟩
  · simp [Value.ownBlock] at hk
  · simp only [Value.ownBlock, Option.some.injEq] at hk; omega
set_option maxHeartbeats 8000000 in
set_option maxRecDepth 100000 in
theorem zone_main (a0 a1 : Option Addr) (cap0 cap1 : Nat) (A Z : List Bs) (M : Bs) (w : World) (hA : IsStrs w (.slice a0 A.length cap0) A) (hZ : IsStrs w (.slice a1 Z.length cap1) Z) (hcap : Z.length ≤ cap1)
    (n1 : A.length ≤ 10) (n2 : Z.length ≤ 10) (n3 : M.length ≤ 60) (l1 : (A.any fun x => decide (100 < x.length)) = false) (l2 : (Z.any fun x => decide (100 < x.length)) = false) :
    Calls Try.prog 4 #[.slice a0 A.length cap0, .slice a1 Z.length cap1, .string (mk M)] w (BoolPost w true) := by
  have k1 : decide ((10 : Int) < (A.length : Int)) = false := decide_eq_false (by omega)
  have k1' : decide (10 < A.length) = false := decide_eq_false (by omega)
  have k2 : decide ((10 : Int) < (Z.length : Int)) = false := decide_eq_false (by omega)
  have k2' : decide (10 < Z.length) = false := decide_eq_false (by omega)
  have k3 : decide ((60 : Int) < ((mk M).size : Int)) = false := decide_eq_false (by rw [mk_size]; omega)
  have k3' : decide (60 < (mk M).size) = false := decide_eq_false (by rw [mk_size]; omega)
  have hw : Fr nob w w := Fr.refl _ _
  have hLA : ∀ W, Fr nob w W → Calls Try.prog 9 #[.slice a0 A.length cap0] W (fun e w' => e = .returned (.bool false) ∧ Fr nob w w') := fun W hf => (long_calls _ A W (hA.same hf) (by omega)).mono fun e w' h => ⟨by rw [h.1, l1], hf.trans h.2⟩
  have hLZ : ∀ W, Fr nob w W → Calls Try.prog 9 #[.slice a1 Z.length cap1] W (fun e w' => e = .returned (.bool false) ∧ Fr nob w w') := fun W hf => (long_calls _ Z W (hZ.same hf) (by omega)).mono fun e w' h => ⟨by rw [h.1, l2], hf.trans h.2⟩
  have hJZ : ∀ W, Fr nob w W → Calls Try.prog 13 #[.slice a1 Z.length cap1] W (fun e w' => e = .returned (.tuple #[.string (mk (joinP Z).1), .int .i64 (joinP Z).2]) ∧ Fr nob w w') := fun W hf => (Join_calls _ Z W (hZ.same hf) (by omega)).mono fun e w' h => ⟨h.1, hf.trans h.2⟩
  have hCP : ∀ W, Fr nob w W → Calls Try.prog 22 #[.slice a0 A.length cap0] W (fun e w' => ∃ v, e = .returned v ∧ w'.ownsRow w.heap.size 9 1 v A.length (A.map str) ∧ Fr nob w w') := fun W hf => (CopyTexts_calls _ A W (hA.same hf) (by omega)).mono fun e w' ⟨v, h1, h2, h3⟩ => ⟨v, h1, row_base h2 hf.size, hf.trans h3⟩
  have hJN : ∀ W x, IsStrs W x (A ++ Z) → Fr nob w W → Calls Try.prog 13 #[x] W (fun e w' => e = .returned (.tuple #[.string (mk (joinP (A ++ Z)).1), .int .i64 (joinP (A ++ Z)).2]) ∧ Fr nob w w') := fun W x hx hf => (Join_calls x _ W hx (by simp; omega)).mono fun e w' h => ⟨h.1, hf.trans h.2⟩
  have hAW : ∀ W, Fr nob w W → Calls Try.prog 21 #[] W (fun e w' => e = .returned (.bool true) ∧ Fr nob w w') := fun W hf => (awake_calls W).mono fun e w' h => ⟨h.1, hf.trans h.2⟩
  have HLA := Ho.mk hLA; have HLZ := Ho.mk hLZ; have HJZ := Ho.mk hJZ; have HCP := Ho.mk hCP; have HJN := Ho.mk hJN; have HAW := Ho.mk hAW
  have HA := Ho.mk hA; have HZ := Ho.mk hZ
  clear hLA hLZ hJZ hCP hJN hAW hA hZ l1 l2
  go_enter Try.func4, Try.ntmps4
  go_wp2_with (fail)
  refine (HAW.out _ hw).mono ?_
  rintro _ w1 ⟨rfl, f1⟩
  go_wp2_with (fail)
  refine (HLA.out _ f1).mono ?_
  rintro _ w2 ⟨rfl, f2⟩
  go_wp2_with (fail)
  refine (HLZ.out _ f2).mono ?_
  rintro _ w3 ⟨rfl, f3⟩
  go_wp2_with (fail)
  refine (HJZ.out _ f3).mono ?_
  rintro _ w4 ⟨rfl, f4⟩
  go_wp2_with (fail)
  refine (HCP.out _ f4).mono ?_
  rintro _ w5 ⟨v, rfl, hown, f5⟩
  have HO := Ho.mk hown
  obtain ⟨ao, cap, rfl⟩ := own_shape hown
  clear hown
  have h1 := HZ.out.same f5
  go_wp2_with (refine wpList_append_strs rfl _ _ rfl w.heap.size _ A.length (A.map str) rfl HO.out _ Z rfl h1 (by omega) f5.size ?_)
  intro v' w6 hown hg
  have f6 := f5.grown hg (fun k hk => .inl (own_blk HO.out hk))
  have hs6 : IsStrs w6 v' (A ++ Z) := own_strs (by rw [List.length_append, List.map_append]; exact hown)
  have HS6 := Ho.mk hs6
  obtain ⟨ao', cap', rfl⟩ := own_shape hown
  clear hown hg h1 hs6 HO
  go_wp2_with (fail)
  refine (HJN.out _ _ HS6.out f6).mono ?_
  rintro _ w7 ⟨rfl, f7⟩
  generalize hez : (joinP Z).2 = ez at *
  generalize hen : (joinP (A ++ Z)).2 = en at *
  generalize htz : mk (joinP Z).1 = tz at *
  generalize htn : mk (joinP (A ++ Z)).1 = tn at *
  have HEZ := Ho.mk hez; have HEN := Ho.mk hen; have HTZ := Ho.mk htz; have HTN := Ho.mk htn
  clear hez hen htz htn f1 f2 f3 f4 f5 f6 HS6 HJN HJZ HCP HLA HLZ HAW
  by_cases e1 : ez = 0
  case neg =>
    have q1 : (ez != 0) = true := by simp [e1]
    clear e1
    go_wp2_with (fail)
    go_ret
    exact ⟨rfl, f7⟩
  have q1 : (ez != 0) = false := by rw [e1]; rfl
  by_cases e2 : en = 0
  case neg =>
    have q2 : (en != 0) = true := by simp [e2]
    clear e1 e2
    go_wp2_with (fail)
    go_ret
    exact ⟨rfl, f7⟩
  have q2 : (en != 0) = false := by rw [e2]; rfl
  obtain ⟨g1, g2, g3⟩ := joinP_zero (HEZ.out.trans e1)
  obtain ⟨m1, m2, m3⟩ := joinP_zero (HEN.out.trans e2)
  have hlz : (encN Z).length ≤ 100000 := by omega
  have hln : (encN (A ++ Z)).length ≤ 100000 := by omega
  have htz : mk (encN Z) = tz := by rw [← HTZ.out, g3]
  have htn : mk (encN (A ++ Z)) = tn := by rw [← HTN.out, m3]
  have hw1 : ∀ W, Fr nob w W → Calls Try.prog 23 #[.string tn, .string tz] W (fun e w' => e = .returned (.bool true) ∧ Fr nob w w') := fun W hf => by
    rw [← htn, ← htz]
    exact (Within_calls _ _ W hln hlz).mono fun e w' h => ⟨by rw [h.1, within_app m1 m2 g1 g2], hf.trans h.2⟩
  have hw2 : ∀ W, Fr nob w W → Calls Try.prog 23 #[.string tz, .string tn] W (fun e w' => e = .returned (.bool (decide (A.length = 0))) ∧ Fr nob w w') := fun W hf => by
    rw [← htn, ← htz]
    exact (Within_calls _ _ W hlz hln).mono fun e w' h => ⟨by rw [h.1, within_back m1 m2 g1 g2], hf.trans h.2⟩
  have hcond : (!(decide (A.length = 0) == ((A.length : Int) == 0))) = false := by
    by_cases h : A.length = 0
    · rw [h]; rfl
    · rw [decide_eq_false h, show ((A.length : Int) == 0) = false from by rw [beq_eq_false_iff_ne]; omega]; rfl
  obtain ⟨bz, hbz⟩ : ∃ b, decide (A.length = 0) = b := ⟨_, rfl⟩
  obtain ⟨cz, hcz⟩ : ∃ b, ((A.length : Int) == 0) = b := ⟨_, rfl⟩
  rw [hbz] at hw2
  rw [hbz, hcz] at hcond
  have HW1 := Ho.mk hw1; have HW2 := Ho.mk hw2; have HZF := Ho.mk (fun z Zs (e : Z = z :: Zs) hM => zone_facts (A := A) (Z := Zs) (z := z) (M := M) (by rw [← e]; exact HEZ.out.trans e1) (by rw [← e]; exact HEN.out.trans e2) hM)
  have HHZ := Ho.mk htz; have HHN := Ho.mk htn
  have HLZ := Ho.mk hlz; have HLN := Ho.mk hln
  clear e1 e2 g1 g2 g3 m1 m2 m3 hlz hln htz htn hw1 hw2 hbz HEZ HEN
  go_wp2_with (fail)
  refine (HW1.out _ f7).mono ?_
  rintro _ w8 ⟨rfl, f8⟩
  go_wp2_with (fail)
  refine (HW2.out _ f8).mono ?_
  rintro _ w9 ⟨rfl, f9⟩
  clear HW1 HW2 HHN HLN f7 f8
  cases Z with
  | nil =>
    clear HZF HZ HA
    go_wp2_with (fail)
    go_ret
    exact ⟨rfl, f9⟩
  | cons z Z =>
  obtain ⟨tM, htM⟩ : ∃ t, mk M = t := ⟨_, rfl⟩
  have htMl : tM.toList = M := by rw [← htM, Lib.toList_data]; rfl
  have htMz : tM.size = M.length := by rw [← htM, mk_size]
  rw [htM] at k3 k3' ⊢
  obtain ⟨m, hm⟩ : ∃ m, (z :: Z).length = m := ⟨_, rfl⟩
  have hm1 : m = Z.length + 1 := by rw [← hm]; rfl
  have hm0 : 0 < m := by omega
  have hzn : ((m : Int) == 0) = false := by rw [beq_eq_false_iff_ne]; omega
  have HZ' := Ho.mk (show IsStrs w (.slice a1 m cap1) (z :: Z) by rw [← hm]; exact HZ.out)
  rw [hm] at hcap k2 k2' n2 ⊢
  have HMZ := Ho.mk htMz; have HM1 := Ho.mk hm1; have HM := Ho.mk hm
  clear htMz hm1 hm HZ
  by_cases hM : M = []
  · have q3 : (tM.toList == []) = true := by rw [htMl, hM]; rfl
    clear HZF HZ' HA htMl hM
    go_wp2_with (fail)
    go_ret
    exact ⟨rfl, f9⟩
  have q3 : (tM.toList == []) = false := by rw [htMl, beq_eq_false_iff_ne]; exact hM
  have hs9 := HZ'.out.same f9
  obtain ⟨_, _, hinj, hcell⟩ := hs9
  obtain ⟨b, off, ha1, hc9⟩ := hcell 0 (by simp)
  injection hinj with hinj1 hinj2 hinj3
  subst hinj1
  subst ha1
  clear hinj2 hinj3
  obtain ⟨t0, ht0⟩ : ∃ t, mk z = t := ⟨_, rfl⟩
  have ht0z : t0.size = z.length := by rw [← ht0, mk_size]
  have hc9 : w9.cell? ⟨b, off, none⟩ = some (.string t0) := by rw [← ht0]; exact hc9
  have hc9d : w9.drew.cell? ⟨b, off, none⟩ = some (.string t0) := hc9
  have HT0 := Ho.mk ht0z; have HTM := Ho.mk htM; have HTZ0 := Ho.mk ht0; have HML := Ho.mk htMl; have HMne := Ho.mk hM
  have hsm : tM.size + t0.size ≤ 1000000 := by have := HLZ.out; rw [encN_cons] at this; simp at this; rw [HMZ.out, ht0z]; omega
  have hsz1 : IntKind.i64.wrap ((tM.size : Int) + (t0.size : Int)) = (tM.size : Int) + (t0.size : Int) := IntWalk.i64_in _ (by omega)
  have hsz2 : wrap64 ((tM.size : Int) + (t0.size : Int)) = (tM.size : Int) + (t0.size : Int) := by unfold wrap64; omega
  clear hcell ht0z htM ht0 htMl hM
  by_cases h63 : 63 < tM.size + t0.size
  · have q4 : decide ((63 : Int) < (tM.size : Int) + (t0.size : Int)) = true := decide_eq_true (by omega)
    have q4' : decide (63 < tM.size + t0.size) = true := decide_eq_true h63
    clear HZF HZ' HA h63
    go_wp2_with (fail)
    go_ret
    exact ⟨rfl, f9⟩
  have q4 : decide ((63 : Int) < (tM.size : Int) + (t0.size : Int)) = false := decide_eq_false (by omega)
  have q4' : decide (63 < tM.size + t0.size) = false := decide_eq_false h63
  have hsl : ∀ W, (Instr.slice 22 (.slice (some ⟨b, off, none⟩) m cap1) (some (.int .i64 1)) none none).run Try.prog W = .ok (.slice (sl (some ⟨b, off, none⟩) cap1 1) (m - 1) (cap1 - 1)) W := fun W => slice_lo _ m cap1 1 (by omega) hcap W
  have hcat : tM ++ t0 = mk (M ++ z) := by rw [← HTM.out, ← HTZ0.out]; simp [mk]; try rfl
  obtain ⟨hp1, hp2, hp3⟩ := HZF.out z Z rfl HMne.out
  have hzl : (encN Z).length ≤ 100000 := by have := HLZ.out; have := enc_tail_len z Z; omega
  have hG : (M ++ z).length ≤ 1000 := by have := HMZ.out; have := HT0.out; rw [List.length_append]; omega
  obtain ⟨tp, htp⟩ : ∃ t, mk (encN Z) = t := ⟨_, rfl⟩
  obtain ⟨G, hGG⟩ : ∃ G, (M ++ z) :: Z = G := ⟨_, rfl⟩
  have hGl : G.length ≤ 100 := by rw [← hGG]; have := HM1.out; simp; omega
  rw [hGG] at hp3
  have hsm1 := joinP_small G; have hsm2 := joinP_small (z :: Z); have hsm3 := joinP_small (A ++ z :: Z)
  have hPA : ∀ W, Fr nob w W → Calls Try.prog 24 #[.string tz] W (fun e w' => e = .returned (.tuple #[.string tp, .bool true]) ∧ Fr nob w w') := fun W hf => by
    rw [← HTZ.out, ← htp]
    refine (Parent_calls _ W (by omega)).mono fun e w' h => ⟨?_, hf.trans h.2⟩
    rw [h.1, hp1]; rfl
  have hJG : ∀ W x, IsStrs W x G → Fr nob w W → Calls Try.prog 13 #[x] W (fun e w' => e = .returned (.tuple #[.string (mk (joinP G).1), .int .i64 (joinP G).2]) ∧ Fr nob w w') := fun W x hx hf => (Join_calls x _ W hx (by omega)).mono fun e w' h => ⟨h.1, hf.trans h.2⟩
  have hWN : ∀ W, Fr nob w W → Calls Try.prog 23 #[.string tn, .string tp] W (fun e w' => e = .returned (.bool true) ∧ Fr nob w w') := fun W hf => by
    rw [← HTN.out, ← htp]
    exact (Within_calls _ _ W (by omega) hzl).mono fun e w' h => ⟨by rw [h.1, hp2], hf.trans h.2⟩
  have hWG : (joinP G).2 = 0 → (∀ W, Fr nob w W → Calls Try.prog 23 #[.string (mk (joinP G).1), .string tz] W (fun e w' => e = .returned (.bool false) ∧ Fr nob w w')) ∧ (∀ W, Fr nob w W → Calls Try.prog 23 #[.string (mk (joinP G).1), .string tp] W (fun e w' => e = .returned (.bool true) ∧ Fr nob w w')) := fun h0 => by
    obtain ⟨k1, k2⟩ := hp3 h0
    refine ⟨fun W hf => ?_, fun W hf => ?_⟩
    · rw [← HTZ.out]
      exact (Within_calls _ _ W (by omega) (by omega)).mono fun e w' h => ⟨by rw [h.1, k1], hf.trans h.2⟩
    · rw [← htp]
      exact (Within_calls _ _ W (by omega) hzl).mono fun e w' h => ⟨by rw [h.1, k2], hf.trans h.2⟩
  have hs9 := HZ'.out.same f9
  have htl := IsStrs.tail (k := 1) (a := some ⟨b, off, none⟩) (cap := cap1) (l := z :: Z) (by rw [HM.out]; exact hs9) (by simp) (by rw [HM.out]; exact hcap)
  rw [HM.out] at htl
  have hq : m - 1 = Z.length := by have := HM1.out; omega
  obtain ⟨q, hqq⟩ : ∃ q, m - 1 = q := ⟨_, rfl⟩
  have htl : IsStrs w9 (.slice (sl (some ⟨b, off, none⟩) cap1 1) q (cap1 - 1)) Z := by rw [← hqq]; exact htl
  rw [hqq] at hsl
  generalize sl (some ⟨b, off, none⟩) cap1 1 = sa at *
  generalize cap1 - 1 = sc at *
  have hown9 : (w9.alloc (.cells #[.string (tM ++ t0)] 9)).drew.ownsRow w9.heap.size 9 1 (.slice (some ⟨w9.heap.size, 0, none⟩) 1 1) 1 [.string (tM ++ t0)] := (World.ownsRow_lit w9 #[.string (tM ++ t0)] 1 (Nat.le_refl _) (by decide) rfl).drew
  have f10 : Fr nob w (w9.alloc (.cells #[.string (tM ++ t0)] 9)).drew := (f9.alloc _).drew
  have htl10 : IsStrs (w9.alloc (.cells #[.string (tM ++ t0)] 9)).drew (.slice sa q sc) Z := htl.same (((Fr.refl nob w9).alloc _).drew)
  have hZl : Z.length ≤ 100 := by have := HM1.out; omega
  have hlst : [Value.string (tM ++ t0)] ++ Z.map str = G.map str := by rw [← hGG, hcat]; rfl
  have hlen : 1 + Z.length = G.length := by rw [← hGG]; simp; omega
  have HPA := Ho.mk hPA; have HJG := Ho.mk hJG; have HWN := Ho.mk hWN; have HWG := Ho.mk hWG; have HLST := Ho.mk hlst; have HLEN := Ho.mk hlen; have H9 := Ho.mk f9.size
  clear hPA hJG hWN hWG hlst hlen hp1 hp2 hp3 hsm1 hsm2 hsm3 hzl hG htp hGG hGl hs9 htl hq hqq HZF HA HZ' hcat
  go_wp2_with (fail)
  have hbig : ¬ (9223372036854775807 < tM.size + t0.size) := by omega
  go_region_law
    ((refine step_append_strs (by rfl) _ _ (by rfl) w9.heap.size (.slice (some ⟨w9.heap.size, 0, none⟩) 1 1) 1 [.string (tM ++ t0)] (by rfl) hown9 (.slice sa q sc) Z (by rfl) htl10 (by omega) (by simp) ?_; intro v' w10 hown10 hg10; have HO10 := Ho.mk hown10; have HG10 := Ho.mk hg10; clear hown10 hg10))
  all_goals
    have hs11 : IsStrs w10 v' G := own_strs (by rw [← HLEN.out, ← HLST.out]; exact HO10.out)
    have f11 := f10.grown HG10.out (fun k hk => .inl (by simp only [Value.ownBlock, Option.some.injEq] at hk; have := H9.out; omega))
    obtain ⟨ao11, cap11, rfl⟩ := own_shape HO10.out
    have HS11 := Ho.mk hs11
    clear hs11 HO10 HG10 hown9 htl10 f10 hbig hsl
    go_wp2_with (fail)
    refine (HJG.out _ _ HS11.out f11).mono ?_
    rintro _ w12 ⟨rfl, f12⟩
    go_wp2_with (fail)
    refine (HPA.out _ f12).mono ?_
    rintro _ w13 ⟨rfl, f13⟩
    generalize (joinP G).2 = eg at *
    by_cases h0 : eg = 0
    · have q5 : (eg != 0) = false := by rw [h0]; rfl
      obtain ⟨hwz, hwp⟩ := HWG.out h0
      have HWZ := Ho.mk hwz; have HWP := Ho.mk hwp
      clear h0 hwz hwp HWG HJG
      go_wp2_with (fail)
      refine (HWZ.out _ f13).mono ?_
      rintro _ w14 ⟨rfl, f14⟩
      go_wp2_with (fail)
      refine (HWP.out _ f14).mono ?_
      rintro _ w15 ⟨rfl, f15⟩
      go_wp2_with (fail)
      refine (HWN.out _ f15).mono ?_
      rintro _ w16 ⟨rfl, f16⟩
      go_wp2_with (fail)
      go_ret
      exact ⟨rfl, f16⟩
    · have q5 : (eg != 0) = true := by simp [h0]
      clear h0 HWG HJG
      go_wp2_with (fail)
      go_ret
      exact ⟨rfl, f13⟩
set_option maxHeartbeats 4000000 in
set_option maxRecDepth 100000 in
theorem NameZones_walk (a0 a1 : Option Addr) (cap0 cap1 : Nat) (A Z : List Bs) (M : Bs) (w : World) (hA : IsStrs w (.slice a0 A.length cap0) A) (hZ : IsStrs w (.slice a1 Z.length cap1) Z) (hcap : Z.length ≤ cap1) (hM : M.length ≤ maxLen) (hA1 : A.length ≤ maxLen) (hZ1 : Z.length ≤ maxLen) :
    Calls Try.prog 4 #[.slice a0 A.length cap0, .slice a1 Z.length cap1, .string (mk M)] w (BoolPost w true) := by
  unfold maxLen at hM hA1 hZ1
  by_cases g1 : A.length ≤ 10
  case neg =>
    have k1 : decide ((10 : Int) < (A.length : Int)) = true := decide_eq_true (by omega)
    have k1' : decide (10 < A.length) = true := decide_eq_true (by omega)
    clear g1 hM hA1 hZ1 hA hZ hcap
    go_enter Try.func4, Try.ntmps4
    go_wp2_with (fail)
    refine (awake_calls w).mono ?_
    rintro r w1 ⟨rfl, f1⟩
    go_wp2_with (fail)
    go_ret
    exact ⟨rfl, f1⟩
  have k1 : decide ((10 : Int) < (A.length : Int)) = false := decide_eq_false (by omega)
  have k1' : decide (10 < A.length) = false := decide_eq_false (by omega)
  by_cases g2 : Z.length ≤ 10
  case neg =>
    have k2 : decide ((10 : Int) < (Z.length : Int)) = true := decide_eq_true (by omega)
    have k2' : decide (10 < Z.length) = true := decide_eq_true (by omega)
    clear g1 g2 hM hA1 hZ1 hA hZ hcap
    go_enter Try.func4, Try.ntmps4
    go_wp2_with (fail)
    refine (awake_calls w).mono ?_
    rintro r w1 ⟨rfl, f1⟩
    go_wp2_with (fail)
    go_ret
    exact ⟨rfl, f1⟩
  have k2 : decide ((10 : Int) < (Z.length : Int)) = false := decide_eq_false (by omega)
  have k2' : decide (10 < Z.length) = false := decide_eq_false (by omega)
  by_cases g3 : M.length ≤ 60
  case neg =>
    have k3 : decide ((60 : Int) < ((mk M).size : Int)) = true := decide_eq_true (by rw [mk_size]; omega)
    have k3' : decide (60 < (mk M).size) = true := decide_eq_true (by rw [mk_size]; omega)
    clear g1 g2 g3 hM hA1 hZ1 hA hZ hcap
    go_enter Try.func4, Try.ntmps4
    go_wp2_with (fail)
    refine (awake_calls w).mono ?_
    rintro r w1 ⟨rfl, f1⟩
    go_wp2_with (fail)
    go_ret
    exact ⟨rfl, f1⟩
  have k3 : decide ((60 : Int) < ((mk M).size : Int)) = false := decide_eq_false (by rw [mk_size]; omega)
  have k3' : decide (60 < (mk M).size) = false := decide_eq_false (by rw [mk_size]; omega)
  have hw : Fr nob w w := Fr.refl _ _
  have HMAIN := Ho.mk (fun l1 l2 => zone_main a0 a1 cap0 cap1 A Z M w hA hZ hcap g1 g2 g3 l1 l2)
  have HLA := Ho.mk (fun W (hf : Fr nob w W) => long_calls _ A W (hA.same hf) (by omega)); have HLZ := Ho.mk (fun W (hf : Fr nob w W) => long_calls _ Z W (hZ.same hf) (by omega))
  clear hA hZ hcap g1 g2 g3 hM hA1 hZ1
  generalize (A.any fun x => decide (100 < x.length)) = la at *
  generalize (Z.any fun x => decide (100 < x.length)) = lz at *
  cases la with
  | true =>
    clear HMAIN HLZ
    go_enter Try.func4, Try.ntmps4
    go_wp2_with (fail)
    refine (awake_calls w).mono ?_
    rintro r w1 ⟨rfl, f1⟩
    go_wp2_with (fail)
    refine (HLA.out _ f1).mono ?_
    rintro r w2 ⟨rfl, f2⟩
    go_wp2_with (fail)
    go_ret
    exact ⟨rfl, f1.trans f2⟩
  | false =>
  cases lz with
  | true =>
    clear HMAIN
    go_enter Try.func4, Try.ntmps4
    go_wp2_with (fail)
    refine (awake_calls w).mono ?_
    rintro r w1 ⟨rfl, f1⟩
    go_wp2_with (fail)
    refine (HLA.out _ f1).mono ?_
    rintro r w2 ⟨rfl, f2⟩
    go_wp2_with (fail)
    refine (HLZ.out _ (f1.trans f2)).mono ?_
    rintro r w3 ⟨rfl, f3⟩
    go_wp2_with (fail)
    go_ret
    exact ⟨rfl, (f1.trans f2).trans f3⟩
  | false => exact HMAIN.out rfl rfl
end Go.Proofs.Ytcmiidklddnfhaa
