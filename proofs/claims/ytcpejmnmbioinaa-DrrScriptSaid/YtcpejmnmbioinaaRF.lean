/-
  DrrScript: the walk.
-/
import Derived.Test.YtcpejmnmbioinaaRE
import Derived.Test.YtcpejmnmbioinaaDP
import Derived.Test.YtcpejmnmbioinaaPK
namespace Go.Proofs.Ytcpejmnmbioinaa
open Go.RowKit
theorem TwoX.start {B : Nat} {w1 w2 : World} {q r : Nat} {st : Qs} (hB : B ≤ w1.heap.size) (hq : QS (fun k => B ≤ k) w1 q st) (hr : RQ (fun k => k = r) w2 r st) (hf : Fr nob w1 w2) (h1 : w1.heap.size ≤ r) (h2 : r < w2.heap.size) : TwoX B nob w2 q r st st := by
  have hsz := hf.size
  refine ⟨fun k => B ≤ k ∧ k < w1.heap.size, fun k => k = r, ?_, ?_, fun k h => h.elim, by omega, (hq.weak fun k hk h => ⟨h, hk⟩).fr hf (fun _ _ h => h), hr⟩
  · rintro k ⟨h3, h4⟩; exact ⟨h3, by omega, by omega, fun h => h⟩
  · rintro k rfl; exact ⟨by omega, h2, fun h => h⟩
theorem drop_len {st : Qs} (h : st.wf) (n : Int) : (st.drop n).2.length ≤ 64 := by
  unfold Qs.drop
  cases hf : st.ring.find? (fun c => c.n == n) with
  | none => simp
  | some c =>
    have h1 := (h.its c (List.mem_of_find?_eq_some hf)).2.1; have h2 := h.it.2
    simp only [List.length_map]; omega
set_option maxRecDepth 100000 in
set_option maxHeartbeats 8000000 in
theorem DrrScript_walk (a0 a1 a2 a3 a5 : Int) (a4 : Option Addr) (cap4 : Nat) (l : List ActV) (w : World) (hl : ActsAt w.heap.size w a4 l) (hcap : l.length ≤ cap4) (hmax : cap4 ≤ maxLen) :
    Calls Try.prog 6 #[.int .i64 a0, .int .i64 a1, .int .i64 a2, .int .i64 a3, .slice a4 l.length cap4, .int .i64 a5] w fun e w' => e = .returned (.bool true) ∧ Fr (fun k => w.heap.size ≤ k) w w' := by
  suffices key : ∀ w0 B, w0 = w → B = w.heap.size → Calls Try.prog 6 #[.int .i64 a0, .int .i64 a1, .int .i64 a2, .int .i64 a3, .slice a4 l.length cap4, .int .i64 a5] w fun e w' => e = .returned (.bool true) ∧ Fr (fun k => B ≤ k) w0 w' from key w _ rfl rfl
  intro w0 B hw0 hB
  rw [← hB] at hl
  have hf : Fr (fun k => B ≤ k) w0 w := by rw [hw0]; exact Fr.refl _ w
  have hsz : ∀ w', Fr (fun k => B ≤ k) w0 w' → B ≤ w'.heap.size := fun w' h => by have := h.size; rw [hw0, ← hB] at this; exact this
  have hl0 : ActsAt B w0 a4 l := by rw [hw0]; exact hl
  have HL := Ho.mk hl0; have HF := Ho.mk hf; have HSZ := Ho.mk hsz
  clear hl hl0 hf hsz hw0 hB
  obtain ⟨ln, hln⟩ : ∃ n, l.length = n := ⟨_, rfl⟩
  rw [hln] at hcap ⊢
  have HLN := Ho.mk hln
  clear hln
  by_cases hl200 : 200 < ln
  · have hd : decide ((200 : Int) < (ln : Int)) = true := decide_eq_true (by omega)
    have hd' : decide (200 < ln) = true := decide_eq_true (by omega)
    go_enter Try.func6, Try.ntmps6
    go_wp2_with (fail)
    refine (awake_calls w).mono ?_
    rintro r w1 ⟨rfl, f1⟩
    have HF1 := Ho.mk (HF.out.trans (f1.mono (fun _ _ h => h.elim)))
    clear f1
    go_wp2_with (fail)
    go_ret
    exact ⟨rfl, HF1.out⟩
  have hd : decide ((200 : Int) < (ln : Int)) = false := decide_eq_false (by omega)
  have hd' : decide (200 < ln) = false := decide_eq_false (by omega)
  have hln200 : ln ≤ 200 := by omega
  clear hl200
  by_cases hok : newOk a0 a1 a2 a3
  case neg =>
    have HOK := Ho.mk hok
    clear hok
    go_enter Try.func6, Try.ntmps6
    go_wp2_with (fail)
    refine (new_bad_calls w a0 a1 a2 a3 HOK.out).mono ?_
    rintro r w1 ⟨rfl, rfl⟩
    obtain ⟨w, rfl⟩ : ∃ w : World, w = w1 := ⟨_, rfl⟩
    go_wp2_with (fail)
    refine (rNew_bad_calls w a0 a1 a2 a3 HOK.out).mono ?_
    rintro r w1 ⟨rfl, rfl⟩
    obtain ⟨w, rfl⟩ : ∃ w : World, w = w1 := ⟨_, rfl⟩
    go_wp2_with (fail)
    refine (awake_calls w).mono ?_
    rintro r w1 ⟨rfl, f1⟩
    have HF1 := Ho.mk (HF.out.trans (f1.mono (fun _ _ h => h.elim)))
    clear f1
    go_wp2_with (fail)
    go_ret
    exact ⟨rfl, HF1.out⟩
  have hnew := new_calls (fun k => B ≤ k) w a0 a1 a2 a3 hok.1 hok.2.1 ⟨hok.2.2.2.2, hok.2.2.1.2⟩ hok.2.2.2.1 (fun k hk => Nat.le_trans (HSZ.out w HF.out) hk)
  have HOK := Ho.mk hok
  clear hok
  go_enter Try.func6, Try.ntmps6
  go_wp2_with (fail)
  refine hnew.mono ?_
  clear hnew
  rintro e w1 ⟨q, rfl, hq0, hQ1, f1⟩
  have HQ1 := Ho.mk hQ1; have HF1 := Ho.mk (HF.out.trans (f1.mono (S' := fun k => B ≤ k) (fun _ _ h => h.elim)))
  clear hq0 hQ1 f1 HF
  unfold Pt
  go_wp2_with (fail)
  refine (rNew_calls w1 a0 a1 a2 a3 HOK.out).mono ?_
  rintro e w2 ⟨r, rfl, hr0, hr1, hR2, f2⟩
  have HT2 := Ho.mk (TwoX.start (HSZ.out w1 HF1.out) HQ1.out hR2 f2 hr0 hr1)
  have HF2 := Ho.mk (HF1.out.trans (f2.mono (S' := fun k => B ≤ k) (fun _ _ h => h.elim)))
  clear hr0 hr1 hR2 f2 HF1 HQ1
  unfold Pt
  go_wp2_with (fail)
  go_loopw [17] (fun si wr => ∃ (i : Nat) (st : Qs), i ≤ ln ∧ si = .int .i64 (i : Int) ∧ Ho (TwoX B nob wr q r st st) ∧ Ho (Fr (fun k => B ≤ k) w0 wr)) (fun si _ => ln - (intOf si).toNat)
  case atStart => exact ⟨0, _, by omega, rfl, HT2, HF2⟩
  case round =>
    obtain ⟨i, st, hi, rfl, HT, HFW⟩ := hrel
    clear HT2 HF2 HOK
    by_cases hlt : i < ln
    · obtain ⟨b, off, rfl, hbB, c0, c1, c2, c3⟩ := (HL.out.fr HFW.out (fun k hk h => by omega)) i (by rw [HLN.out]; exact hlt)
      generalize (l[i]'(by rw [HLN.out]; exact hlt)).kind = vk at *
      generalize (l[i]'(by rw [HLN.out]; exact hlt)).client = vc at *
      generalize (l[i]'(by rw [HLN.out]; exact hlt)).cost = vs at *
      generalize (l[i]'(by rw [HLN.out]; exact hlt)).item = vi at *
      clear hbB
      go_wp2_with (fail)
      have hnb := blk_new wr (.cells #[.int .i64 vk, .int .i64 vc, .int .i64 vs, .int .i64 vi] 37)
      have hnf := (Fr.refl nob wr).alloc (.cells #[.int .i64 vk, .int .i64 vc, .int .i64 vs, .int .i64 vi] 37)
      have HT4 := Ho.mk ((HT.out.grow hnf).lessX (X' := fun k => k = wr.heap.size) (fun k hk => .inr (by subst hk; exact ⟨Nat.le_refl _, by simp⟩)))
      have HF4 := Ho.mk (HFW.out.trans (hnf.mono (S' := fun k => B ≤ k) (fun _ _ h => h.elim)))
      have HBX := Ho.mk hnb
      clear hnb hnf c0 c1 c2 c3
      generalize hf : wr.heap.size = f at *
      generalize wr.alloc (.cells #[.int .i64 vk, .int .i64 vc, .int .i64 vs, .int .i64 vi] 37) = w4 at *
      have b1 : w4.cell? ⟨f, 1, none⟩ = some (.int .i64 vc) := blk_cell HBX.out 1
      have b2 : w4.cell? ⟨f, 2, none⟩ = some (.int .i64 vs) := blk_cell HBX.out 2
      have b3 : w4.cell? ⟨f, 3, none⟩ = some (.int .i64 vi) := blk_cell HBX.out 3
      clear hf
      have hpk := Pick_calls vk 7 w4 (by omega)
      have hplo := pick_lo vk 7
      have hphi := pick_hi vk 7 (by omega)
      generalize pick vk 7 = pk at *
      refine hpk.mono ?_
      clear hpk
      rintro e w' ⟨rfl, rfl⟩
      have hcase : pk = 3 ∨ pk = 4 ∨ pk = 5 ∨ pk = 6 ∨ pk < 3 := by omega
      clear hplo hphi
      have HWF := Ho.mk HT4.out.wfq
      rcases hcase with rfl | rfl | rfl | rfl | hp3
      case' inr.inr.inr.inr =>
        have k3 : (pk == 3) = false := by rw [beq_eq_false_iff_ne]; omega
        have k4 : (pk == 4) = false := by rw [beq_eq_false_iff_ne]; omega
        have k5 : (pk == 5) = false := by rw [beq_eq_false_iff_ne]; omega
        have k6 : (pk == 6) = false := by rw [beq_eq_false_iff_ne]; omega
        clear hp3
      case' inl | inr.inl =>
        go_wp2_with (fail)
        refine (t_next HT4.out).mono ?_
        rintro e w5 ⟨rfl, h5, f5⟩
        have HT5 := Ho.mk h5; have HF5 := Ho.mk (HF4.out.trans (f5.mono (fun _ _ h => h.1)))
        clear h5 f5 HT4 HF4
        go_wp2_with (fail)
        refine (t_rnext HT5.out HWF.out).mono ?_
        rintro e w8 ⟨rfl, h6, f6⟩
        obtain ⟨st8, HT8⟩ : ∃ s, Ho (TwoX B nob w8 q r s s) := ⟨_, Ho.mk (h6.lessX (fun _ h => h.elim))⟩
        have HF8 := Ho.mk (HF5.out.trans (f6.mono (fun _ _ h => h.1)))
        clear h6 f6 HT5 HF5 HWF HBX b1 b2 b3
        go_upto_region 37 with (fail)
      case' inr.inr.inl =>
        go_wp2_with (fail)
        refine (t_peek HT4.out).mono ?_
        rintro e w5 ⟨rfl, f5⟩
        have HT5 := Ho.mk (HT4.out.same f5); have HF5 := Ho.mk (HF4.out.trans (f5.mono (S' := fun k => B ≤ k) (fun _ _ h => h.elim)))
        clear f5 HT4 HF4
        go_wp2_with (fail)
        refine (t_rpeek HT5.out HWF.out).mono ?_
        rintro e w8 ⟨rfl, f6⟩
        obtain ⟨st8, HT8⟩ : ∃ s, Ho (TwoX B nob w8 q r s s) := ⟨_, Ho.mk ((HT5.out.same f6).lessX (fun _ h => h.elim))⟩
        have HF8 := Ho.mk (HF5.out.trans (f6.mono (S' := fun k => B ≤ k) (fun _ _ h => h.elim)))
        clear f6 HT5 HF5 HWF HBX b1 b2 b3
        go_upto_region 37 with (fail)
      case' inr.inr.inr.inl =>
        go_wp2_with (fail)
        have hlen := drop_len HWF.out vc
        have HB4 := Ho.mk HT4.out.base
        obtain ⟨stL, hL⟩ : ∃ x, (st.drop vc).2 = x := ⟨_, rfl⟩
        have htd := t_drop HT4.out vc
        have HRD : Ho (∀ (X : Nat → Prop) W sq, TwoX B X W q r sq st → Calls Try.prog 24 #[.pointer (some ⟨r, 0, none⟩), .int .i64 vc] W fun e w' => (∃ ao cap, e = .returned (.slice ao (st.drop vc).2.length cap) ∧ w'.ownsRow W.heap.size 3 1 (.slice ao (st.drop vc).2.length cap) (st.drop vc).2.length (icells (st.drop vc).2)) ∧
            TwoX B X w' q r sq (st.drop vc).1 ∧ Fr (fun k => B ≤ k ∧ ¬ X k) W w') := Ho.mk fun X W sq h => t_rdrop h HWF.out vc
        have hrd := HRD.out
        rw [hL] at hlen htd hrd
        obtain ⟨m, hm⟩ : ∃ m, stL.length = m := ⟨_, rfl⟩
        rw [hm] at hlen htd hrd
        have HM := Ho.mk hm; have HRD2 := Ho.mk hrd
        clear hL hrd HRD hm
        refine htd.mono ?_
        clear htd
        rintro e w5 ⟨⟨ao, cap, rfl, ho5⟩, h5, f5⟩
        have hb5 := f5.block _ _ HBX.out (fun h => h.2 rfl)
        have d1 : w5.cell? ⟨f, 1, none⟩ = some (.int .i64 vc) := blk_cell hb5 1
        have HT5 := Ho.mk h5; have HF5 := Ho.mk (HF4.out.trans (f5.mono (fun _ _ h => h.1))); have HO5 := Ho.mk ho5
        clear h5 f5 HT4 HF4 hb5 ho5 b1 b2 b3
        go_wp2_with (fail)
        refine (HRD2.out _ _ _ HT5.out).mono ?_
        rintro e w6 ⟨⟨ao2, cap2, rfl, ho6⟩, h6, f6⟩
        have hain : ∀ k, (Value.slice ao m cap).ownBlock = some k → w4.heap.size ≤ k ∧ k < w5.heap.size := fun k hk => ⟨own_new HO5.out hk, by obtain ⟨cur, hc⟩ := own_blk HO5.out hk; exact lt_of_blk hc⟩
        have ho56 := own_fr HO5.out f6 (fun k hk h => h.2 (.inr (hain k hk)))
        have hs := SameInts_calls (.slice ao m cap) (.slice ao2 m cap2) stL w6 (by rw [← HM.out]; exact own_ints (by rw [HM.out]; exact ho56)) (by rw [← HM.out]; exact own_ints (by rw [HM.out]; exact ho6)) (by rw [HM.out]; omega)
        have HT6 := Ho.mk h6; have HF6 := Ho.mk (HF5.out.trans (f6.mono (fun _ _ h => h.1))); have HO6 := Ho.mk ho56; have HAI := Ho.mk hain
        clear h6 f6 HT5 HF5 ho6 ho56 d1 hain
        go_wp2_with (fail)
        refine hs.mono ?_
        clear hs
        rintro e w7 ⟨rfl, f7⟩
        have HT7 := Ho.mk (HT6.out.same f7); have HF7 := Ho.mk (HF6.out.trans (f7.mono (S' := fun k => B ≤ k) (fun _ _ h => h.elim))); have HO7 := Ho.mk (own_fr HO6.out f7 (fun _ _ h => h))
        clear f7 HT6 HF6 HO6 HO5
        go_wp2_with (fail)
        go_loopw [32] (fun kv wr => ∃ (k : Nat) (xs : List Value), k ≤ m ∧ kv = .int .i64 (k : Int) ∧ Ho (wr.ownsRow w4.heap.size 3 1 (.slice ao m cap) m xs) ∧ Ho (Fr (fun k => (Value.slice ao m cap).ownBlock = some k) w7 wr)) (fun kv _ => m - (intOf kv).toNat)
        case atStart => exact ⟨0, _, by omega, rfl, HO7, Ho.mk (Fr.refl _ _)⟩
        case' round =>
          obtain ⟨k, xs, hk, rfl, HOW, HFX⟩ := hrel
          by_cases hkm : k < m
          case pos =>
            have hkd : decide ((k : Int) < (m : Int)) = true := decide_eq_true (by omega)
            have hkd' : decide (k < m) = true := decide_eq_true hkm
            obtain ⟨g, rfl⟩ : ∃ g, ao = some ⟨g, 0, none⟩ := by
              rcases HOW.out.2 with ⟨_, h0⟩ | ⟨g, ca, cur, hv, _⟩
              · omega
              · injection hv with e1 _ _; exact ⟨g, e1⟩
            have hxl : k < xs.length := by have := HOW.out.1; omega
            have ck : wr.cell? ⟨g, k, none⟩ = some xs[k] := by rw [HOW.out.cellAt k (by omega), List.getElem?_eq_getElem hxl]
            obtain ⟨cur, hcur⟩ := own_blk HOW.out (k := g) rfl
            have zk : wr.frozen? ⟨g, k, none⟩ = false := blk_free hcur k
            have HON := Ho.mk (own_set HOW.out k (by omega) (.int .i64 (-7)))
            have HFN := Ho.mk (HFX.out.trans ((Fr.refl (fun k => (Value.slice (some ⟨g, 0, none⟩) m cap).ownBlock = some k) wr).set (p := ⟨g, k, none⟩) (.inr rfl) (.int .i64 (-7))))
            generalize xs[k] = vx at *
            clear hcur hxl HOW HFX HO7
            go_wp2_with (fail)
            go_roundw
            case rel => exact ⟨k + 1, _, by omega, by go_num, HON, HFN⟩
            case measure => simp [intOf]; omega
          case' neg =>
            obtain rfl : m = k := by omega
            have hkd : decide ((m : Int) < (m : Int)) = false := decide_eq_false (by omega)
            obtain ⟨w8, rfl⟩ : ∃ w8 : World, w8 = wr := ⟨_, rfl⟩
            obtain ⟨st8, HT8⟩ : ∃ s, Ho (TwoX B nob w8 q r s s) := ⟨_, Ho.mk ((HT7.out.fr HFX.out (fun k hk => .inl (.inr (HAI.out k hk)))).lessX (fun _ h => h.elim))⟩
            have HF8 := Ho.mk (HF7.out.trans (HFX.out.mono (S' := fun k => B ≤ k) (fun k _ hk => Nat.le_trans HB4.out (HAI.out k hk).1)))
            clear HT7 HF7 HO7 HOW HFX HAI HWF HBX HRD2 HM HB4
            go_upto_region 37 with (fail)
      case' inr.inr.inr.inr =>
        go_wp2_with (fail)
        have hd0 : Fr nob w4 w4.drew := (Fr.refl nob w4).drew
        have htd := HT4.out.same hd0
        have hfd : Fr (fun k => B ≤ k) w0 w4.drew := HF4.out.trans (hd0.mono (S' := fun k => B ≤ k) (fun _ _ h => h.elim))
        have hfx : Fr (fun k => B ≤ k ∧ ¬ k = f) w4 w4.drew := hd0.mono (S' := fun k => B ≤ k ∧ ¬ k = f) (fun _ _ h => h.elim)
        have HCB : Ho (∀ W, Fr (fun k => B ≤ k ∧ ¬ k = f) w4 W → W.cell? ⟨f, 1, none⟩ = some (.int .i64 vc) ∧ W.cell? ⟨f, 2, none⟩ = some (.int .i64 vs) ∧ W.cell? ⟨f, 3, none⟩ = some (.int .i64 vi)) := Ho.mk fun W h => by
          have hb := h.block _ _ HBX.out (fun h => h.2 rfl)
          exact ⟨blk_cell hb 1, blk_cell hb 2, blk_cell hb 3⟩
        have HTD := Ho.mk htd
        have HFD := Ho.mk hfd
        clear htd hfd hd0
        obtain ⟨es, hes⟩ : ∃ e, (st.put vc vs vi).2 = e := ⟨_, rfl⟩
        have hput := t_put HTD.out vc vs vi
        rw [hes] at hput
        have HES := Ho.mk hes; have HPUT := Ho.mk hput
        clear hes hput
        go_region_held3 (fun W => W.cell? ⟨f, 1, none⟩ = some (.int .i64 vc) ∧ W.cell? ⟨f, 2, none⟩ = some (.int .i64 vs) ∧ W.cell? ⟨f, 3, none⟩ = some (.int .i64 vi)) (first | exact ⟨by assumption, by assumption, by assumption⟩ | assumption)
          (first
            | (go_at_call 12; refine HPUT.out.mono ?_; rintro e w5 ⟨rfl, h5, f5⟩; have hx5 := hfx.trans f5; obtain ⟨g1, g2, g3⟩ := HCB.out w5 hx5; have HT5 := Ho.mk h5; have HF5 := Ho.mk (HFD.out.trans (f5.mono (fun _ _ h => h.1))); have hput := t_rput HT5.out HWF.out vc vs vi; rw [HES.out] at hput; have HPUT2 := Ho.mk hput; clear h5 f5 hput)
            | (go_at_call 25; refine HPUT2.out.mono ?_; rintro e w8 ⟨rfl, h6, f6⟩; have hx8 := hx5.trans f6; obtain ⟨m1, m2, m3⟩ := HCB.out w8 hx8; have HT6 := Ho.mk h6; have HF8 := Ho.mk (HF5.out.trans (f6.mono (fun _ _ h => h.1))); clear h6 f6))
        obtain ⟨st8, HT8⟩ : ∃ s, Ho (TwoX B nob w8 q r s s) := ⟨_, Ho.mk (HT6.out.lessX (fun _ h => h.elim))⟩
        clear HT6 HT5 HF5 HTD HFD HPUT HPUT2 HCB HWF HBX hx5 hx8 hfx HT4 HF4 g1 g2 g3 m1 m2 m3 b1 b2 b3 HES
        go_upto_region 37 with (fail)
      all_goals
        have HW8 := Ho.mk HT8.out.wfq
        have hrl : st8.ring.length ≤ 1024 := by have h1 := HW8.out.len; have h2 := HW8.out.cl.2; omega
        clear HT HFW
        go_wp2_with (fail)
        refine (t_len HT8.out).mono ?_
        rintro e w9 ⟨rfl, f9⟩
        have HT9 := Ho.mk (HT8.out.same f9); have HF9 := Ho.mk (HF8.out.trans (f9.mono (S' := fun k => B ≤ k) (fun _ _ h => h.elim)))
        clear f9 HT8 HF8
        go_wp2_with (fail)
        refine (t_rlen HT9.out HW8.out).mono ?_
        rintro e w10 ⟨rfl, f10⟩
        have HT10 := Ho.mk (HT9.out.same f10); have HF10 := Ho.mk (HF9.out.trans (f10.mono (S' := fun k => B ≤ k) (fun _ _ h => h.elim)))
        clear f10 HT9 HF9
        go_wp2_with (fail)
        refine (t_of HT10.out a5).mono ?_
        rintro e w11 ⟨rfl, f11⟩
        have HT11 := Ho.mk (HT10.out.same f11); have HF11 := Ho.mk (HF10.out.trans (f11.mono (S' := fun k => B ≤ k) (fun _ _ h => h.elim)))
        clear f11 HT10 HF10
        go_wp2_with (fail)
        refine (t_rof HT11.out HW8.out a5).mono ?_
        rintro e w12 ⟨rfl, f12⟩
        have HT12 := Ho.mk (HT11.out.same f12); have HF12 := Ho.mk (HF11.out.trans (f12.mono (S' := fun k => B ≤ k) (fun _ _ h => h.elim)))
        clear f12 HT11 HF11
        go_wp2_with (fail)
        refine (t_clients HT12.out).mono ?_
        rintro e w13 ⟨ao13, cap13, rfl, ho13, f13⟩
        have HT13 := Ho.mk (HT12.out.same f13); have HF13 := Ho.mk (HF12.out.trans (f13.mono (S' := fun k => B ≤ k) (fun _ _ h => h.elim))); have HO13 := Ho.mk ho13
        clear f13 HT12 HF12 ho13
        go_wp2_with (fail)
        refine (t_rclients HT13.out HW8.out).mono ?_
        rintro e w14 ⟨ao14, cap14, rfl, ho14, f14⟩
        have hs := SameInts_calls (.slice ao13 st8.ring.length cap13) (.slice ao14 st8.ring.length cap14) (st8.ring.map (·.n)) w14 (by have h := own_ints (l := st8.ring.map (·.n)) (ao := ao13) (cap := cap13) (B := w12.heap.size) (w := w14) (by rw [List.length_map]; exact own_fr HO13.out f14 (fun _ _ h => h)); rwa [List.length_map] at h)
          (by have h := own_ints (l := st8.ring.map (·.n)) (ao := ao14) (cap := cap14) (B := w13.heap.size) (w := w14) (by rw [List.length_map]; exact ho14); rwa [List.length_map] at h) (by rw [List.length_map]; omega)
        have HT14 := Ho.mk (HT13.out.same f14); have HF14 := Ho.mk (HF13.out.trans (f14.mono (S' := fun k => B ≤ k) (fun _ _ h => h.elim)))
        clear f14 HT13 HF13 ho14 HO13
        go_wp2_with (fail)
        refine hs.mono ?_
        clear hs
        rintro e w15 ⟨rfl, f15⟩
        have HT15 := Ho.mk (HT14.out.same f15); have HF15 := Ho.mk (HF14.out.trans (f15.mono (S' := fun k => B ≤ k) (fun _ _ h => h.elim)))
        clear f15 HT14 HF14
        go_wp2_with (fail)
        go_roundw
        case rel => exact ⟨i + 1, st8, by omega, by go_num, HT15, HF15⟩
        case measure => simp [intOf]; omega
    · obtain rfl : ln = i := by omega
      have hd0 : decide ((ln : Int) < (ln : Int)) = false := decide_eq_false (by omega)
      go_wp2_with (fail)
      refine (awake_calls wr).mono ?_
      rintro e w1 ⟨rfl, f1⟩
      have HF1 := Ho.mk (HFW.out.trans (f1.mono (S' := fun k => B ≤ k) (fun _ _ h => h.elim)))
      clear f1
      go_wp2_with (fail)
      go_ret
      exact ⟨rfl, HF1.out⟩
end Go.Proofs.Ytcpejmnmbioinaa
