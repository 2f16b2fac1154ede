/-
  NameCompares: the walk.
-/
import Derived.Test.YtcmiidklddnfhaaEOb
import Derived.Test.YtcmiidklddnfhaaEZ
namespace Go.Proofs.Ytcmiidklddnfhaa
open Go.RowKit
set_option maxHeartbeats 4000000 in
set_option maxRecDepth 100000 in
theorem NameCompares_walk (a b : Bs) (w : World) (ha : a.length ≤ maxLen) (hb : b.length ≤ maxLen) :
    Calls Try.prog 5 #[.string (mk a), .string (mk b)] w (BoolPost w true) := by
  unfold maxLen at ha hb
  by_cases g0 : 400 < a.length
  · have k0 : decide ((400 : Int) < ((mk a).size : Int)) = true := decide_eq_true (by rw [mk_size]; omega)
    have k0' : decide (400 < (mk a).size) = true := decide_eq_true (by rw [mk_size]; omega)
    clear g0
    go_enter Try.func5, Try.ntmps5
    go_wp2_with (fail)
    go_ret
    exact ⟨rfl, Fr.refl _ _⟩
  · have k0 : decide ((400 : Int) < ((mk a).size : Int)) = false := decide_eq_false (by rw [mk_size]; omega)
    have k0' : decide (400 < (mk a).size) = false := decide_eq_false (by rw [mk_size]; omega)
    by_cases g1 : 400 < b.length
    · have k1 : decide ((400 : Int) < ((mk b).size : Int)) = true := decide_eq_true (by rw [mk_size]; omega)
      have k1' : decide (400 < (mk b).size) = true := decide_eq_true (by rw [mk_size]; omega)
      clear g0 g1
      go_enter Try.func5, Try.ntmps5
      go_wp2_with (fail)
      go_ret
      exact ⟨rfl, Fr.refl _ _⟩
    · have k1 : decide ((400 : Int) < ((mk b).size : Int)) = false := decide_eq_false (by rw [mk_size]; omega)
      have k1' : decide (400 < (mk b).size) = false := decide_eq_false (by rw [mk_size]; omega)
      have hal : a.length ≤ 100000 := by omega
      have hbl : b.length ≤ 100000 := by omega
      have P1 := fun W => Parent_calls a W hal
      have P2 := fun W => rParent_calls a W hal
      unfold ParPost str at P1 P2
      have L1 := fun W => Lower_calls a W (by omega)
      have L2 := fun W => rLower_calls a W (by omega)
      have S1 := fun W => Same_calls a b W hal hbl
      have S2 := fun W => rSame_calls a b W hal hbl
      have W1 := fun W => Within_calls a b W hal hbl
      have W2 := fun W => rWithin_calls a b W hal hbl
      have C1 := fun W => Compare_calls a b W hal hbl
      have C2 := fun W => rCompare_calls a b W hal hbl
      unfold BoolPost at S1 S2 W1 W2
      unfold IntPost at C1 C2
      obtain ⟨pb, pc, hp⟩ : ∃ x y, parentP a = (x, y) := ⟨_, _, rfl⟩
      rw [hp] at P1 P2
      simp only at P1 P2
      generalize mk pb = tp at *
      generalize mk (low a) = tl at *
      generalize sameP a b = sv at *
      generalize withinP a b = wv at *
      generalize compareP a b = cv at *
      have e1 : (tl.toList == tl.toList) = true := by simp
      have e2 : (tp.toList == tp.toList) = true := by simp
      have e3 : (sv == sv) = true := by simp
      have e4 : (wv == wv) = true := by simp
      have e5 : (pc == pc) = true := by simp
      have e6 : (cv == cv) = true := by simp
      have HP1 := Ho.mk P1; have HP2 := Ho.mk P2; have HL1 := Ho.mk L1; have HL2 := Ho.mk L2; have HS1 := Ho.mk S1; have HS2 := Ho.mk S2; have HW1 := Ho.mk W1; have HW2 := Ho.mk W2; have HC1 := Ho.mk C1; have HC2 := Ho.mk C2
      clear g0 g1 P1 P2 L1 L2 S1 S2 W1 W2 C1 C2 hp
      go_enter Try.func5, Try.ntmps5
      go_wp2_with (fail)
      refine (HP1.out w).mono ?_
      rintro r w1 ⟨rfl, f1⟩
      go_wp2_with (fail)
      refine (HP2.out w1).mono ?_
      rintro r w2 ⟨rfl, f2⟩
      go_wp2_with (fail)
      refine (HL1.out w2).mono ?_
      rintro r w3 ⟨rfl, f3⟩
      go_wp2_with (fail)
      refine (HL2.out w3).mono ?_
      rintro r w4 ⟨rfl, f4⟩
      go_wp2_with (fail)
      refine (HS1.out w4).mono ?_
      rintro r w5 ⟨rfl, f5⟩
      go_wp2_with (fail)
      refine (HS2.out w5).mono ?_
      rintro r w6 ⟨rfl, f6⟩
      go_wp2_with (fail)
      refine (HW1.out w6).mono ?_
      rintro r w7 ⟨rfl, f7⟩
      go_wp2_with (fail)
      refine (HW2.out w7).mono ?_
      rintro r w8 ⟨rfl, f8⟩
      go_wp2_with (fail)
      refine (HC1.out w8).mono ?_
      rintro r w9 ⟨rfl, f9⟩
      go_wp2_with (fail)
      refine (HC2.out w9).mono ?_
      rintro r w10 ⟨rfl, f10⟩
      go_wp2_with (fail)
      refine (awake_calls w10).mono ?_
      rintro r w11 ⟨rfl, f11⟩
      go_wp2_with (fail)
      go_ret
      exact ⟨rfl, ((((((((((f1.trans f2).trans f3).trans f4).trans f5).trans f6).trans f7).trans f8).trans f9).trans f10).trans f11)⟩
end Go.Proofs.Ytcmiidklddnfhaa
