/-
  BaseTells: the walk.
-/
import Derived.Test.YtagbgenbhbgpoaaB9
import Derived.Test.YtagbgenbhbgpoaaRP
import Derived.Test.YtagbgenbhbgpoaaK1
namespace Go.Proofs.Ytagbgenbhbgpoaa
open Go.RowKit
theorem LB_BS {w : World} {g : Nat} {l : List UInt8} (h : w.heap[g]? = some (.cells (Lib.byteCells (LB l)).toArray 5 (0, 0))) : BS w.heap.size w (.slice (some ⟨g, 0, none⟩) l.length (l.length + 3)) l := by
  refine ⟨_, _, rfl, by omega, (fun h => by cases h), fun i hi => ⟨g, 0, rfl, lt_of_blk h, ?_⟩⟩
  rw [blk_cell h, Nat.zero_add]
  unfold LB lentAt Lib.byteCells
  have h3 : i < l.length + 3 := by omega
  simp [hi, h3]
set_option maxRecDepth 100000 in
set_option maxHeartbeats 2000000 in
theorem BaseTells_walk (a0 : Option Addr) (cap0 : Nat) (la S : List UInt8) (n : Int) (w : World) (h0 : BS w.heap.size w (.slice a0 la.length cap0) la) (m0 : la.length ≤ 9223372036854775807) (m1 : S.length ≤ 9223372036854775807) (hn : n < 2 ^ 63) :
    Calls Try.prog 3 #[.slice a0 la.length cap0, .string ⟨S.toArray⟩, .int .i64 n] w fun e w' => e = .returned (.bool true) ∧ Below w.heap.size w w' := by
  have H0 := Ho.mk h0; clear h0
  by_cases g0 : 5000 < la.length
  · have g0' : (5000 : Int) < la.length := by omega
    clear g0
    go_enter Try.func3, Try.ntmps3
    go_wp2_with (fail)
    go_ret
    exact ⟨rfl, Below.refl _ _⟩
  · have g0' : ¬ (5000 : Int) < la.length := by omega
    by_cases g1 : 5000 < S.length
    · have g1' : (5000 : Int) < S.length := by omega
      clear g0 g1
      go_enter Try.func3, Try.ntmps3
      go_wp2_with (fail)
      go_ret
      exact ⟨rfl, Below.refl _ _⟩
    · have g1' : ¬ (5000 : Int) < S.length := by omega
      clear m0 m1
      go_enter Try.func3, Try.ntmps3
      go_wp2_with (fail)
      refine (LentBytes_calls _ la w (by omega) H0.out).mono ?_
      rintro e w1 ⟨g, rfl, hg, hh, F1⟩
      have HH := Ho.mk hh; clear hh
      go_wp2_with (fail)
      cases hds : dec S with
      | mk r xy =>
        obtain ⟨x, y⟩ := xy
        have hd := Decode_list S w1 (by omega) r x y hds
        refine hd.mono ?_
        clear hd
        rintro e w2 ⟨ao2, cap2, rfl, hown2, hq2, hF2⟩
        have F2 : Fr nob w w2 := F1.call hF2 (fun _ _ h => h.elim)
        have HO2 := Ho.mk hown2; have HQ2 := Ho.mk hq2; clear hown2 hq2
        go_wp2_with (fail)
        have hr := rDecode_calls S (w2.alloc (.cells #[.int .i64 x, .int .i64 y] 26)) (by omega)
        rw [rdec_dec, hds] at hr
        refine hr.mono ?_
        clear hr hds
        rintro e w3 ⟨v3, rfl, hb3, hF3⟩
        have F3 : Fr nob w w3 := (F2.alloc _).call hF3 (fun _ _ h => h.elim)
        have G3 : Fr nob w2 w3 := ((Fr.refl nob w2).alloc _).call hF3 (fun _ _ h => h.elim)
        have hf3 : w3.heap[w2.heap.size]? = some (.cells #[.int .i64 x, .int .i64 y] 26 (0, 0)) := hF3.block _ _ (blk_new _ _) (fun h => h)
        have HF3 := Ho.mk hf3; have HB3 := Ho.mk hb3; clear hf3 hb3
        simp only
        go_wp2_with (fail)
        have F4 : Fr nob w (w3.alloc (.cells #[.int .i64 x, .int .i64 y] 26)) := F3.alloc _
        have G4 : Fr nob w2 (w3.alloc (.cells #[.int .i64 x, .int .i64 y] 26)) := G3.alloc _
        have hf4 : (w3.alloc (.cells #[.int .i64 x, .int .i64 y] 26)).heap[w3.heap.size]? = some (.cells #[.int .i64 x, .int .i64 y] 26 (0, 0)) := blk_new _ _
        have hb4 : BS (w3.alloc (.cells #[.int .i64 x, .int .i64 y] 26)).heap.size (w3.alloc (.cells #[.int .i64 x, .int .i64 y] 26)) v3 r := (HB3.out.fr ((Fr.refl nob w3).alloc _) (fun _ _ h => h)).mono (by simp)
        have hf4' := blk_old HF3.out (.cells #[.int .i64 x, .int .i64 y] 26)
        have HF4 := Ho.mk hf4; have HB4 := Ho.mk hb4; have HF4' := Ho.mk hf4'; clear hf4 hb4 hf4'
        generalize (w3.alloc (.cells #[.int .i64 x, .int .i64 y] 26)) = w4 at *
        refine (Size_calls n w4 hn).mono ?_
        rintro e w5 ⟨rfl, rfl⟩
        go_wp2_with (fail)
        refine (rSize_calls n w4 hn).mono ?_
        rintro e w5 ⟨rfl, rfl⟩
        go_wp2_with (fail)
        have hin : BS w4.heap.size w4 (.slice (some ⟨g, 0, none⟩) la.length (la.length + 3)) la := LB_BS (G4.block _ _ (hF2.block _ _ HH.out (fun h => h)) (fun h => h))
        have he := Encode_calls _ la w4 (by omega) hin
        refine he.mono ?_
        clear he
        rintro e w5 ⟨rfl, hF5⟩
        have F5 : Fr nob w w5 := F4.call hF5 (fun _ _ h => h.elim)
        go_wp2_with (fail)
        have he := rEncode_calls _ la w5 (by omega) ((H0.out.fr F5 (fun _ _ h => h)).mono F5.size)
        refine he.mono ?_
        clear he
        rintro e w6 ⟨k, rfl, hk1, hk2, hF6⟩
        have F6 : Fr nob w w6 := F5.call hF6 (fun _ _ h => h.elim)
        rw [refEnc_enc _ la k rfl hk1 hk2]
        go_wp2_with (fail)
        have G6 : Fr nob w4 w6 := hF5.call hF6 (fun _ _ h => h.elim)
        have K6 : Fr nob w2 w6 := G4.call G6 (fun _ _ h => h.elim)
        have hx6 : BS w6.heap.size w6 (.slice ao2 r.length cap2) r := ((own_BS HO2.out).fr K6 (fun _ _ h => h)).mono K6.size
        have hy6 : BS w6.heap.size w6 v3 r := (HB4.out.fr G6 (fun _ _ h => h)).mono G6.size
        have hs := SameBytes_calls _ _ r r _ w6 hx6 hy6
        rw [beq_self_eq_true] at hs
        refine hs.mono ?_
        clear hs hx6 hy6
        rintro e w7 ⟨rfl, rfl⟩
        have hfa := G6.block _ _ HF4'.out (fun h => h)
        have hfb := G6.block _ _ HF4.out (fun h => h)
        have qa0 := blk_cell hfa 0
        have qa1 := blk_cell hfa 1
        have qb0 := blk_cell hfb 0
        have qb1 := blk_cell hfb 1
        clear hfa hfb
        have hO6 := own_fr HO2.out K6 (fun _ _ _ h => h.elim)
        have hQ6 := HQ2.out.fr HO2.out K6 (fun _ _ _ h => h.elim)
        have HO6 := Ho.mk hO6; have HQ6 := Ho.mk hQ6; clear hO6 hQ6
        go_wp2_with (fail)
        have hcap : cap2 ≤ 9223372036854775807 := by
          rcases HO6.out.2 with ⟨h, _⟩ | ⟨g', cap', cur, h, _, _, _, h3, _⟩
          · injection h with _ _ h; omega
          · injection h with _ _ h; unfold maxLen at h3; omega
        have ho := OverBytes_calls ao2 r.length cap2 _ _ w6 hcap HO6.out HQ6.out
        refine ho.mono ?_
        clear ho hcap qa0 qa1 qb0 qb1
        rintro e w7 ⟨rfl, hF7⟩
        have hge : ∀ i, (Value.slice ao2 r.length cap2).ownBlock = some i → w1.heap.size ≤ i := fun i hi => (own_block HO2.out hi).1
        have F7 : Fr nob w w7 := F6.call hF7 (fun i _ h => .inl (by have := hge i h; have := F1.size; omega))
        have hh7 : w7.heap[g]? = some (.cells (Lib.byteCells (LB la)).toArray 5 (0, 0)) := by
          refine hF7.block _ _ (K6.block _ _ (hF2.block _ _ HH.out (fun h => h)) (fun h => h)) (fun h => ?_)
          have h1 := hge g h
          have h2 := lt_of_blk HH.out
          omega
        have HH7 := Ho.mk hh7; clear hh7
        go_wp2_with (fail)
        have hk := KeptBytes_calls g (.slice a0 la.length cap0) la w7 (by omega) HH7.out ((H0.out.fr F7 (fun _ _ h => h)).mono F7.size)
        refine hk.mono ?_
        clear hk
        rintro e w8 ⟨rfl, hF8⟩
        have F8 : Fr nob w w8 := F7.call hF8 (fun _ _ h => h.elim)
        go_wp2_with (fail)
        refine (awake_calls w8).mono ?_
        rintro e w9 ⟨rfl, hF9⟩
        have F9 : Fr nob w w9 := F8.call hF9 (fun _ _ h => h.elim)
        go_wp2
        go_ret
        exact ⟨rfl, F9.none_below⟩
end Go.Proofs.Ytagbgenbhbgpoaa
