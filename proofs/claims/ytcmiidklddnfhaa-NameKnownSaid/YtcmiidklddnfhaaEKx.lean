/-
  NameKnown: the walk.
-/
import Derived.Test.YtcmiidklddnfhaaETx
import Derived.Test.YtcmiidklddnfhaaEVb
namespace Go.Proofs.Ytcmiidklddnfhaa
open Go.RowKit
theorem kp (s n : Bs) (h : parseP s = (n, 0, 0)) (hl : s.length ≤ 100) {w : World} : ∀ W, Fr nob w W → Calls Try.prog 34 #[.string (mk s)] W (fun e w' => e = .returned (.tuple #[.string (mk n), FaultV (0, 0)]) ∧ Fr nob w w') := fun W hf => by
  have hp := Parse_calls s W (by omega)
  unfold ParsePost at hp
  rw [h] at hp
  exact hp.mono fun e w' k => ⟨k.1, hf.trans k.2⟩
theorem kf (s : Bs) (e a : Int) (h : parseP s = ([], e, a)) (hl : s.length ≤ 100) {w : World} : ∀ W, Fr nob w W → Calls Try.prog 35 #[.string (mk s), .int .i64 e, .int .i64 a] W (fun e w' => e = .returned (.bool true) ∧ Fr nob w w') := fun W hf =>
  (faulty_calls s e a W (by omega) h).mono fun e w' k => ⟨k.1, hf.trans k.2⟩
theorem kt (n t : Bs) (h : textP n = (t, 0)) (hl : n.length ≤ 100) {w : World} : ∀ W, Fr nob w W → Calls Try.prog 33 #[.string (mk n)] W (fun e w' => e = .returned (.tuple #[.string (mk t), .int .i64 0]) ∧ Fr nob w w') := fun W hf => by
  have hp := Text_calls n W (by omega)
  unfold TextPost at hp
  rw [h] at hp
  exact hp.mono fun e w' k => ⟨k.1, hf.trans k.2⟩
theorem kw (n z : Bs) (b : Bool) (h : withinP n z = b) (hl : n.length ≤ 100) (hz : z.length ≤ 100) {w : World} : ∀ W, Fr nob w W → Calls Try.prog 23 #[.string (mk n), .string (mk z)] W (fun e w' => e = .returned (.bool b) ∧ Fr nob w w') := fun W hf =>
  (Within_calls n z W (by omega) (by omega)).mono fun e w' k => ⟨by rw [k.1, h], hf.trans k.2⟩
theorem kc (n z : Bs) (b : Int) (h : compareP n z = b) (hl : n.length ≤ 100) (hz : z.length ≤ 100) {w : World} : ∀ W, Fr nob w W → Calls Try.prog 31 #[.string (mk n), .string (mk z)] W (fun e w' => e = .returned (.int .i64 b) ∧ Fr nob w w') := fun W hf =>
  (Compare_calls n z W (by omega) (by omega)).mono fun e w' k => ⟨by rw [k.1, h], hf.trans k.2⟩
theorem kq (n p : Bs) (b : Bool) (h : parentP n = (p, b)) (hl : n.length ≤ 100) {w : World} : ∀ W, Fr nob w W → Calls Try.prog 24 #[.string (mk n)] W (fun e w' => e = .returned (.tuple #[.string (mk p), .bool b]) ∧ Fr nob w w') := fun W hf => by
  have hp := Parent_calls n W (by omega)
  unfold ParPost at hp
  rw [h] at hp
  exact hp.mono fun e w' k => ⟨k.1, hf.trans k.2⟩
theorem v1 : parseP [46] = ([0], 0, 0) := by decide +kernel
theorem v2 : parseP [97, 92] = ([], 4, 1) := by decide +kernel
theorem v3 : parseP [97, 92, 50, 53] = ([], 4, 1) := by decide +kernel
theorem v4 : parseP [92, 50, 53, 54] = ([], 5, 0) := by decide +kernel
theorem v5 : parseP [] = ([], 4, 0) := by decide +kernel
theorem v6 : textP [1, 46, 0] = ([92, 46, 46], 0) := by decide +kernel
theorem v7 : textP [2, 97, 7, 0] = ([97, 92, 48, 48, 55, 46], 0) := by decide +kernel
theorem v8 : parseP [92, 97, 92, 48, 49, 48, 46] = ([2, 97, 10, 0], 0, 0) := by decide +kernel
theorem v9 : withinP [2, 97, 98, 0] [1, 98, 0] = false := by decide +kernel
theorem v10 : withinP [1, 98, 0] [1, 98, 0] = true := by decide +kernel
theorem v11 : withinP [1, 98, 0] [1, 97, 1, 98, 0] = false := by decide +kernel
theorem v12 : parentP [1, 97, 1, 98, 0] = ([1, 98, 0], true) := by decide +kernel
theorem v13 : parentP [0] = ([], false) := by decide +kernel
theorem v14 : compareP [1, 97, 1, 98, 0] [1, 98, 0] = 1 := by decide +kernel
theorem v15 : compareP [1, 122, 1, 97, 0] [1, 97, 1, 98, 0] = -1 := by decide +kernel
theorem v16 : compareP [1, 65, 0] [1, 97, 0] = 0 := by decide +kernel
set_option maxHeartbeats 4000000 in
set_option maxRecDepth 100000 in
theorem NameKnown_walk (w : World) : Calls Try.prog 8 #[] w (BoolPost w true) := by
  have hw : Fr nob w w := Fr.refl _ _
  have H1 := Ho.mk (kp _ _ v1 (by decide) (w := w)); have H2 := Ho.mk (kf _ _ _ v2 (by decide) (w := w)); have H3 := Ho.mk (kf _ _ _ v3 (by decide) (w := w)); have H4 := Ho.mk (kf _ _ _ v4 (by decide) (w := w)); have H5 := Ho.mk (kf _ _ _ v5 (by decide) (w := w))
  have H6 := Ho.mk (kt _ _ v6 (by decide) (w := w)); have H7 := Ho.mk (kt _ _ v7 (by decide) (w := w)); have H8 := Ho.mk (kp _ _ v8 (by decide) (w := w))
  have H9 := Ho.mk (kw _ _ _ v9 (by decide) (by decide) (w := w)); have H10 := Ho.mk (kw _ _ _ v10 (by decide) (by decide) (w := w)); have H11 := Ho.mk (kw _ _ _ v11 (by decide) (by decide) (w := w))
  have H12 := Ho.mk (kq _ _ _ v12 (by decide) (w := w)); have H13 := Ho.mk (kq _ _ _ v13 (by decide) (w := w))
  have H14 := Ho.mk (kc _ _ _ v14 (by decide) (by decide) (w := w)); have H15 := Ho.mk (kc _ _ _ v15 (by decide) (by decide) (w := w)); have H16 := Ho.mk (kc _ _ _ v16 (by decide) (by decide) (w := w))
  have H17 := Ho.mk (fun W (hf : Fr nob w W) => (awake_calls W).mono (R' := fun e w' => e = .returned (.bool true) ∧ Fr nob w w') fun e w' k => ⟨k.1, hf.trans k.2⟩)
  unfold mk FaultV at *
  go_enter Try.func8, Try.ntmps8
  go_wp2_with (fail)
  refine (H1.out _ hw).mono ?_
  rintro r w1 ⟨rfl, f1⟩
  go_wp2_with (fail)
  refine (H2.out _ (f1.alloc _)).mono ?_
  rintro r w2 ⟨rfl, f2⟩
  go_wp2_with (fail)
  refine (H3.out _ f2).mono ?_
  rintro r w3 ⟨rfl, f3⟩
  go_wp2_with (fail)
  refine (H4.out _ f3).mono ?_
  rintro r w4 ⟨rfl, f4⟩
  go_wp2_with (fail)
  refine (H5.out _ f4).mono ?_
  rintro r w5 ⟨rfl, f5⟩
  go_wp2_with (fail)
  refine (H6.out _ f5).mono ?_
  rintro r w6 ⟨rfl, f6⟩
  go_wp2_with (fail)
  refine (H7.out _ f6).mono ?_
  rintro r w7 ⟨rfl, f7⟩
  go_wp2_with (fail)
  refine (H8.out _ f7).mono ?_
  rintro r w8 ⟨rfl, f8⟩
  go_wp2_with (fail)
  refine (H9.out _ (f8.alloc _)).mono ?_
  rintro r w9 ⟨rfl, f9⟩
  go_wp2_with (fail)
  refine (H10.out _ f9).mono ?_
  rintro r w10 ⟨rfl, f10⟩
  go_wp2_with (fail)
  refine (H11.out _ f10).mono ?_
  rintro r w11 ⟨rfl, f11⟩
  go_wp2_with (fail)
  refine (H12.out _ f11).mono ?_
  rintro r w12 ⟨rfl, f12⟩
  go_wp2_with (fail)
  refine (H13.out _ f12).mono ?_
  rintro r w13 ⟨rfl, f13⟩
  go_wp2_with (fail)
  refine (H17.out _ f13).mono ?_
  rintro r w14 ⟨rfl, f14⟩
  go_wp2_with (fail)
  refine (H14.out _ f14).mono ?_
  rintro r w15 ⟨rfl, f15⟩
  go_wp2_with (fail)
  refine (H15.out _ f15).mono ?_
  rintro r w16 ⟨rfl, f16⟩
  go_wp2_with (fail)
  refine (H16.out _ f16).mono ?_
  rintro r w17 ⟨rfl, f17⟩
  go_wp2_with (fail)
  go_ret
  exact ⟨rfl, f17⟩
end Go.Proofs.Ytcmiidklddnfhaa
