/-
  BaseBack: the walk.
-/
import Derived.Test.YtagbgenbhbgpoaaB7
import Derived.Test.YtagbgenbhbgpoaaBP
import Derived.RegionTactic
namespace Go.Proofs.Ytagbgenbhbgpoaa
open Go.RowKit
theorem str_of (s : ByteArray) : ∃ S : List UInt8, s = ⟨S.toArray⟩ := ⟨s.data.toList, by cases s; simp⟩
/-- What Decode leaves, over a list. -/
theorem Decode_list (S : List UInt8) (w : World) (hs : S.length ≤ 100000) (r : List UInt8) (x y : Int) (hr : dec S = (r, x, y)) :
    Calls Try.prog 8 #[.string ⟨S.toArray⟩] w fun e w' => ∃ ao cap, e = .returned (.tuple #[.slice ao r.length cap, .agg #[.int .i64 x, .int .i64 y]]) ∧ w'.ownsRow w.heap.size 5 1 (.slice ao r.length cap) r.length (Lib.byteCells r) ∧ AllQ IsByte 5 w' (.slice ao r.length cap) ∧ Fr nob w w' := by
  have h : Calls Try.prog 8 #[.string ⟨S.toArray⟩] w (DecPost2 (dec S) w) := Decode_calls2 ⟨S.toArray⟩ w (by show S.toArray.size ≤ 100000; simpa using hs)
  rw [hr] at h
  exact h
set_option maxRecDepth 100000 in
set_option maxHeartbeats 2000000 in
theorem BaseBack_walk (a0 : Option Addr) (cap0 : Nat) (la S : List UInt8) (at_ : Int) (cb : UInt8) (w : World) (h0 : BS w.heap.size w (.slice a0 la.length cap0) la) (m0 : la.length ≤ 9223372036854775807) (m1 : S.length ≤ 9223372036854775807) :
    Calls Try.prog 4 #[.slice a0 la.length cap0, .string ⟨S.toArray⟩, .int .i64 at_, .int .u8 cb.toNat] w fun e w' => e = .returned (.bool true) ∧ Below w.heap.size w w' := by
  have H0 := Ho.mk h0; clear h0
  by_cases g0 : 3000 < la.length
  · have g0' : (3000 : Int) < la.length := by omega
    clear g0
    go_enter Try.func4, Try.ntmps4
    go_wp2_with (fail)
    refine (awake_calls _).mono ?_
    rintro e w1 ⟨rfl, hF1⟩
    go_wp2
    go_ret
    exact ⟨rfl, hF1.none_below⟩
  · have g0' : ¬ (3000 : Int) < la.length := by omega
    by_cases g1 : 3000 < S.length
    · have g1' : (3000 : Int) < S.length := by omega
      clear g0 g1
      go_enter Try.func4, Try.ntmps4
      go_wp2_with (fail)
      refine (awake_calls _).mono ?_
      rintro e w1 ⟨rfl, hF1⟩
      go_wp2
      go_ret
      exact ⟨rfl, hF1.none_below⟩
    · have g1' : ¬ (3000 : Int) < S.length := by omega
      clear m0 m1
      have hlen := enc_len la
      obtain ⟨hlen1, hlen2⟩ := hlen
      have hde := dec_enc la
      have hsz := sizeF_enc la
      have hways := dec_ways S
      generalize hT : enc la = T at *
      have HT := Ho.mk hT; have HDE := Ho.mk hde; have HSZ := Ho.mk hsz; have HW := Ho.mk hways
      clear hT hde hsz hways g0 g1
      go_enter Try.func4, Try.ntmps4
      go_wp2_with (fail)
      refine (awake_calls _).mono ?_
      rintro e w1 ⟨rfl, hF1⟩
      go_wp2_with (fail)
      have henc := Encode_calls _ la w1 (by omega) ((H0.out.fr hF1 (fun _ _ h => h)).mono hF1.size)
      rw [HT.out] at henc
      refine henc.mono ?_
      clear henc
      rintro e w2 ⟨rfl, hF2⟩
      have F2 : Fr nob w w2 := hF1.call hF2 (fun _ _ h => h.elim)
      go_wp2_with (fail)
      have hd := Decode_list T w2 (by omega) la 0 0 HDE.out
      refine hd.mono ?_
      clear hd
      rintro e w3 ⟨ao3, cap3, rfl, hown3, _, hF3⟩
      have F3 : Fr nob w w3 := F2.call hF3 (fun _ _ h => h.elim)
      have HO3 := Ho.mk hown3; clear hown3
      go_wp2_with (fail)
      have hsize := Size_calls (T.length : Int) (w3.alloc (.cells #[.int .i64 0, .int .i64 0] 26)) (by omega)
      rw [HSZ.out] at hsize
      refine hsize.mono ?_
      clear hsize
      rintro e w4 ⟨rfl, rfl⟩
      have F4 : Fr nob w (w3.alloc (.cells #[.int .i64 0, .int .i64 0] 26)) := F3.alloc _
      have hf4 : (w3.alloc (.cells #[.int .i64 0, .int .i64 0] 26)).heap[w3.heap.size]? = some (.cells #[.int .i64 0, .int .i64 0] 26 (0, 0)) := blk_new _ _
      have q40 := blk_cell hf4 0
      have hx4 : BS (w3.alloc (.cells #[.int .i64 0, .int .i64 0] 26)).heap.size (w3.alloc (.cells #[.int .i64 0, .int .i64 0] 26)) (.slice ao3 la.length cap3) la :=
        ((own_BS HO3.out).fr ((Fr.refl nob w3).alloc _) (fun _ _ h => h)).mono (by simp)
      have ha4 : BS (w3.alloc (.cells #[.int .i64 0, .int .i64 0] 26)).heap.size (w3.alloc (.cells #[.int .i64 0, .int .i64 0] 26)) (.slice a0 la.length cap0) la :=
        (H0.out.fr F4 (fun _ _ h => h)).mono F4.size
      clear hf4
      have HX4 := Ho.mk hx4; have HA4 := Ho.mk ha4; clear hx4 ha4
      generalize (w3.alloc (.cells #[.int .i64 0, .int .i64 0] 26)) = w4 at *
      go_wp2_with (fail)
      have hs := SameBytes_calls _ _ la la _ w4 HX4.out HA4.out
      rw [beq_self_eq_true] at hs
      refine hs.mono ?_
      clear hs
      rintro e w5 ⟨rfl, rfl⟩
      go_wp2_with (fail)
      generalize hds : dec S = ds at *
      obtain ⟨r, x, y⟩ := ds
      have hd2 := Decode_list S w4 (by omega) r x y hds
      refine hd2.mono ?_
      clear hd2
      rintro e w6 ⟨ao6, cap6, rfl, hown6, _, hF6⟩
      have F6 : Fr nob w w6 := F4.call hF6 (fun _ _ h => h.elim)
      have HO6 := Ho.mk hown6; have HDS := Ho.mk hds; clear hown6 hds q40
      have hy6 : BS (w6.alloc (.cells #[.int .i64 x, .int .i64 y] 26)).heap.size (w6.alloc (.cells #[.int .i64 x, .int .i64 y] 26)) (.slice ao6 r.length cap6) r :=
        ((own_BS HO6.out).fr ((Fr.refl nob w6).alloc _) (fun _ _ h => h)).mono (by simp)
      have HY6 := Ho.mk hy6; clear hy6
      have F7 : Fr nob w (w6.alloc (.cells #[.int .i64 x, .int .i64 y] 26)) := F6.alloc _
      have hf6 : (w6.alloc (.cells #[.int .i64 x, .int .i64 y] 26)).heap[w6.heap.size]? = some (.cells #[.int .i64 x, .int .i64 y] 26 (0, 0)) := blk_new _ _
      have q0 := blk_cell hf6 0
      have q1 := blk_cell hf6 1
      have HF6 := Ho.mk hf6
      clear hf6
      cases hTe : T.isEmpty with
      | true =>
        rcases HW.out with ⟨d1, d2, d3⟩ | ⟨d1, d2, d3, d4⟩
        · simp only at d1 d2 d3
          subst d1 d2
          go_wp2_with (fail)
          have hr := (enc_len r).2
          rw [d3] at hr
          have he := Encode_calls _ r (w6.alloc (.cells #[.int .i64 0, .int .i64 0] 26)) (by omega) HY6.out
          rw [d3] at he
          refine he.mono ?_
          clear he
          rintro e w7 ⟨rfl, hF7⟩
          replace F7 : Fr nob w w7 := F7.call hF7 (fun _ _ h => h.elim)
          have q7 := blk_cell (hF7.block _ _ HF6.out (fun h => h)) 0
          have HD3 := Ho.mk d3; clear d3 q0 q1
          go_wp2_with (fail)
          go_ret
          exact ⟨rfl, F7.none_below⟩
        · simp only at d1 d2 d3 d4
          subst d1 d2
          have d3' : ¬ y < 0 := by omega
          clear d3
          go_wp2_with (fail)
          go_ret
          exact ⟨rfl, F7.none_below⟩
      | false =>
        rcases HW.out with ⟨d1, d2, d3⟩ | ⟨d1, d2, d3, d4⟩
        case' inl =>
          simp only at d1 d2 d3
          subst d1 d2
          go_wp2_with (fail)
          have hr := (enc_len r).2
          rw [d3] at hr
          have he := Encode_calls _ r (w6.alloc (.cells #[.int .i64 0, .int .i64 0] 26)) (by omega) HY6.out
          rw [d3] at he
          refine he.mono ?_
          clear he
          rintro e w7 ⟨rfl, hF7⟩
          replace F7 : Fr nob w w7 := F7.call hF7 (fun _ _ h => h.elim)
          have q7 := blk_cell (hF7.block _ _ HF6.out (fun h => h)) 0
          have HD3 := Ho.mk d3; clear d3 q0 q1
          go_wp2_with (fail)
          clear q7 HF6 HY6
        case' inr =>
          simp only at d1 d2 d3 d4
          subst d1 d2
          have d3' : ¬ y < 0 := by omega
          clear d3
          go_wp2_with (fail)
          clear q0 q1 HF6 HY6
          generalize (w6.alloc (.cells #[.int .i64 4, .int .i64 y] 26)) = w7 at *
        all_goals
          have hT1 : 1 ≤ T.length := by
            cases T with
            | nil => simp at hTe
            | cons _ _ => simp
          have hpk := Pick_calls at_ T.length w7 (by omega)
          have hpe : pick at_ T.length = at_ % T.length := by unfold pick; rw [if_neg (by omega)]
          rw [hpe] at hpk
          have hp0 : 0 ≤ at_ % (T.length : Int) := Int.emod_nonneg _ (by omega)
          have hp1 : at_ % (T.length : Int) < T.length := Int.emod_lt_of_pos _ (by omega)
          obtain ⟨p, hp⟩ : ∃ p : Nat, at_ % (T.length : Int) = p := ⟨_, (Int.toNat_of_nonneg hp0).symm⟩
          rw [hp] at hpk hp1
          clear hpe hp0 hp
          refine hpk.mono ?_
          clear hpk
          rintro e w8 ⟨rfl, rfl⟩
          go_wp2_with (fail)
          have hcv : ∀ (W : World) (g : Nat), W.cell? ⟨g, 0, none⟩ = some (.int .u8 cb.toNat) → (convert 22 9 (.slice (some ⟨g, 0, none⟩) 1 1)).run Try.prog W = .ok (.string ⟨[cb].toArray⟩) W := fun W g h =>
            conv_BS (B := W.heap.size) (l := [cb]) ⟨_, _, rfl, Nat.le_refl _, (fun h => by cases h), fun i hi => ⟨g, 0, rfl, cell_lt h, by
              obtain rfl : i = 0 := by simp at hi; exact hi
              exact h⟩⟩
          have happ := bytes_app
          go_region
          go_wp2_with (fail)
          have hOl : (List.take p T ++ cb :: List.take (T.length - (p + 1)) (List.drop (p + 1) T)).length ≤ 100000 := by simp; omega
          generalize List.take p T ++ cb :: List.take (T.length - (p + 1)) (List.drop (p + 1) T) = O at *
          have F8 : Fr nob w (w7.alloc (.cells #[.int .u8 cb.toNat] 5)).drew := (F7.alloc _).drew
          generalize (w7.alloc (.cells #[.int .u8 cb.toNat] 5)).drew = w8 at *
          clear hcv happ F7
          have hw2 := dec_ways O
          generalize hds : dec O = ds at *
          obtain ⟨r2, x2, y2⟩ := ds
          have hd2 := Decode_list O w8 hOl r2 x2 y2 hds
          refine hd2.mono ?_
          clear hd2 hds
          rintro e w9 ⟨ao9, cap9, rfl, hown9, _, hF9⟩
          have F9 : Fr nob w w9 := F8.call hF9 (fun _ _ h => h.elim)
          have hf9 : (w9.alloc (.cells #[.int .i64 x2, .int .i64 y2] 26)).heap[w9.heap.size]? = some (.cells #[.int .i64 x2, .int .i64 y2] 26 (0, 0)) := blk_new _ _
          have q9 := blk_cell hf9 0
          have F10 : Fr nob w (w9.alloc (.cells #[.int .i64 x2, .int .i64 y2] 26)) := F9.alloc _
          have HO9 := Ho.mk hown9; have HW2 := Ho.mk hw2; clear hown9 hw2 hf9
          by_cases hOT : O = T
          · have hOT' : (O == T) = true := by simp [hOT]
            have HOT := Ho.mk hOT; clear hOT
            go_wp2_with (fail)
            go_ret
            exact ⟨rfl, F10.none_below⟩
          · have hOT' : (O == T) = false := by simp [hOT]
            rcases HW2.out with ⟨d1, d2, d3⟩ | ⟨d1, d2, d3, d4⟩
            · simp only at d1 d2 d3
              have hne : (r2 == la) = false := by
                rw [beq_eq_false_iff_ne]; intro e; apply hOT; rw [← d3, e, HT.out]
              subst d1 d2
              have hz : BS (w9.alloc (.cells #[.int .i64 0, .int .i64 0] 26)).heap.size (w9.alloc (.cells #[.int .i64 0, .int .i64 0] 26)) (.slice ao9 r2.length cap9) r2 :=
                ((own_BS HO9.out).fr ((Fr.refl nob w9).alloc _) (fun _ _ h => h)).mono (by simp)
              have ha : BS (w9.alloc (.cells #[.int .i64 0, .int .i64 0] 26)).heap.size (w9.alloc (.cells #[.int .i64 0, .int .i64 0] 26)) (.slice a0 la.length cap0) la :=
                (H0.out.fr F10 (fun _ _ h => h)).mono F10.size
              have hs := SameBytes_calls _ _ r2 la _ _ hz ha
              rw [hne] at hs
              have HS := Ho.mk hs
              clear hs hz ha hne d3 hOT
              go_wp2_with (fail)
              refine HS.out.mono ?_
              rintro e w10 ⟨rfl, rfl⟩
              go_wp2_with (fail)
              go_ret
              exact ⟨rfl, F10.none_below⟩
            · simp only at d1 d2 d3 d4
              subst d1 d2
              clear d3 d4 hOT
              go_wp2_with (fail)
              go_ret
              exact ⟨rfl, F10.none_below⟩
end Go.Proofs.Ytagbgenbhbgpoaa
