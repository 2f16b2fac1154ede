/-
  DrrFair: the walk.
-/
import Derived.Test.YtcpejmnmbioinaaPK
import Derived.Test.YtcpejmnmbioinaaDG
import Derived.LoopTactic
namespace Go.Proofs.Ytcpejmnmbioinaa
open Go.RowKit
theorem cell_lt {w : World} {b o : Nat} {v : Value} (h : w.cell? ⟨b, o, none⟩ = some v) : b < w.heap.size := by
  rcases Nat.lt_or_ge b w.heap.size with h' | h'
  · exact h'
  · simp [World.cell?, Array.getElem?_eq_none h'] at h
theorem Fr.cell {S : Nat → Prop} {w w' : World} (h : Fr S w w') {b o : Nat} {v : Value} (hb : ¬ S b) (hc : w.cell? ⟨b, o, none⟩ = some v) : w'.cell? ⟨b, o, none⟩ = some v := by
  have hlt := cell_lt hc
  have hk := h.block b _ (Array.getElem?_eq_getElem hlt) hb
  unfold World.cell? at hc ⊢
  rw [hk]
  rw [Array.getElem?_eq_getElem hlt] at hc
  exact hc
/-- Integers that came in. -/
def IntsAt (B : Nat) (w : World) (a : Option Addr) (l : List Int) : Prop := l = [] ∨ ∃ b off, a = some ⟨b, off, none⟩ ∧ b < B ∧ ∀ i (h : i < l.length), w.cell? ⟨b, off + i, none⟩ = some (.int .i64 l[i])
theorem isRow_ints {w : World} {a : Option Addr} {len cap : Nat} {zs : List Int}
    (h : (a = none ∧ len = 0 ∧ cap = 0 ∧ zs = []) ∨ ∃ x, a = some x ∧ len ≤ cap ∧ cap ≤ maxLen ∧ zs.length = cap ∧ (∀ i, i < zs.length → w.cell? (x.add i) = some (.int .i64 (zs.getD i 0))) ∧ ∀ n ∈ zs, (Lit.int .i64 n).wf = true) :
    ∃ l : List Int, l.length = len ∧ IntsAt w.heap.size w a l ∧ len ≤ cap ∧ cap ≤ maxLen := by
  rcases h with ⟨rfl, rfl, rfl, rfl⟩ | ⟨x, rfl, hl, hm, hz, hc, hw⟩
  · exact ⟨[], rfl, .inl rfl, Nat.le_refl _, Nat.zero_le _⟩
  · refine ⟨zs.take len, by simp; omega, ?_, hl, hm⟩
    by_cases h0 : len = 0
    · left; subst h0; simp
    · right
      obtain ⟨b, off, sp⟩ := x
      have hsp : sp = none := by
        cases sp with
        | none => rfl
        | some s =>
          have h0 := hc 0 (by omega)
          simp [Addr.add, World.cell?] at h0
          split at h0
          · cases h0
          · cases h0
      subst hsp
      have hcell : ∀ i (h : i < (zs.take len).length), w.cell? ⟨b, off + i, none⟩ = some (.int .i64 (zs.take len)[i]) := by
        intro i hi
        have hi' : i < len ∧ i < zs.length := by simp at hi; omega
        have h1 := hc i hi'.2
        rw [Addr.add_lit] at h1
        rw [h1]
        simp [List.getD_eq_getElem?_getD, hi'.2]
      exact ⟨b, off, rfl, cell_lt (hcell 0 (by simp; omega)), hcell⟩
theorem IntsAt.fr {B : Nat} {w w' : World} {a : Option Addr} {l : List Int} {S : Nat → Prop} (h : IntsAt B w a l) (hf : Fr S w w') (hS : ∀ k, k < B → ¬ S k) : IntsAt B w' a l := by
  rcases h with h | ⟨b, off, h1, h2, h3⟩
  · exact .inl h
  · exact .inr ⟨b, off, h1, h2, fun i hi => hf.cell (hS b h2) (h3 i hi)⟩
/-- N integers. -/
def ints (N : Nat) (f : Nat → Int) : Array Value := ((List.range N).map fun i => Value.int .i64 (f i)).toArray
theorem ints_get (N : Nat) (f : Nat → Int) {i : Nat} (h : i < N) : (ints N f)[i]? = some (.int .i64 (f i)) := by simp [ints, h]
def updN (f : Nat → Int) (i : Nat) (v : Int) : Nat → Int := fun j => if j = i then v else f j
theorem ints_set (N : Nat) (f : Nat → Int) (i : Nat) (v : Int) : (ints N f).setIfInBounds i (.int .i64 v) = ints N (updN f i v) := by
  apply Array.ext_getElem?
  intro j
  rw [Array.getElem?_setIfInBounds]
  by_cases hj : j < N
  · rw [ints_get _ _ hj]
    by_cases h : i = j
    · subst h; simp [ints, hj, updN]
    · rw [if_neg h, ints_get _ _ hj]
      have : ¬ j = i := fun e => h e.symm
      simp [updN, this]
  · have h1 : (ints N (updN f i v))[j]? = none := by simp [ints]; omega
    have h2 : (ints N f)[j]? = none := by simp [ints]; omega
    rw [h1, h2]
    split
    · rename_i h; subst h
      have : ¬ i < (ints N f).size := by simp [ints]; omega
      simp [this]
    · rfl
theorem infoInt : ∃ i, Try.prog.info? 3 = some i ∧ i.zero = some (.int .i64 0) ∧ i.size = 1 ∧ i.bytes = 8 := by
  have h1 : (Try.prog.info? 3).map (fun i => (i.zero, i.size, i.bytes)) = some (some (.int .i64 0), 1, 8) := by kernel_rfl
  obtain ⟨i, h2, h3⟩ := Option.map_eq_some_iff.1 h1
  simp at h3
  exact ⟨i, h2, h3.1, h3.2.1, h3.2.2⟩
theorem make_ints (n : Nat) (hn : n ≤ 1000000) (W : World) : (Instr.makeSlice 22 (.int .i64 (n : Int)) (.int .i64 (n : Int))).run Try.prog W = .ok (.slice (some ⟨W.heap.size, 0, none⟩) n n) (W.alloc (.cells (ints n fun _ => 0) 3)) := by
  obtain ⟨i0, hi, hz0, hz1, hz2⟩ := infoInt
  rw [run_make W 22 3 i0 (.int .i64 0) Try.underlying22 hi hz0 .i64 .i64 n n (by omega) (by omega) (by rw [hz2]; omega) (by omega)]
  have e : madeCells (Value.cells (.int .i64 0)) ((n : Int).toNat * i0.size) = ints n fun _ => 0 := by
    rw [hz1, Int.toNat_natCast, Nat.mul_one]
    unfold madeCells ints
    apply Array.ext
    · simp
    · intro i h1 h2
      simp [Value.cells, Nat.mod_one]
  rw [e, Int.toNat_natCast]
set_option maxRecDepth 100000 in
set_option maxHeartbeats 4000000 in
theorem DrrFair_walk (a0 a1 a2 a4 a5 : Int) (a3 : Option Addr) (cap3 : Nat) (l : List Int) (w : World) (hl : IntsAt w.heap.size w a3 l) (hcap : l.length ≤ cap3) (hmax : cap3 ≤ maxLen) :
    Calls Try.prog 3 #[.int .i64 a0, .int .i64 a1, .int .i64 a2, .slice a3 l.length cap3, .int .i64 a4, .int .i64 a5] w fun e w' => e = .returned (.bool true) ∧ Fr (fun k => w.heap.size ≤ k) w w' := by
  suffices key : ∀ w0 B, w0 = w → B = w.heap.size → Calls Try.prog 3 #[.int .i64 a0, .int .i64 a1, .int .i64 a2, .slice a3 l.length cap3, .int .i64 a4, .int .i64 a5] w fun e w' => e = .returned (.bool true) ∧ Fr (fun k => B ≤ k) w0 w' from key w _ rfl rfl
  intro w0 B hw0 hB
  rw [← hB] at hl
  have hf : Fr (fun k => B ≤ k) w0 w := by rw [hw0]; exact Fr.refl _ w
  have hsz : ∀ w', Fr (fun k => B ≤ k) w0 w' → B ≤ w'.heap.size := fun w' h => by have := h.size; rw [hw0, ← hB] at this; exact this
  have HL := Ho.mk hl; have HF := Ho.mk hf; have HSZ := Ho.mk hsz
  clear hl hf hsz hw0 hB
  go_enter Try.func3, Try.ntmps3
  go_wp2_with (fail)
  refine (awake_calls w).mono ?_
  rintro r w1 ⟨rfl, f1⟩
  have hf1 := HF.out.trans (f1.mono (fun _ _ h => h.elim))
  have hl1 := HL.out.fr f1 (fun _ _ h => h)
  have HF1 := Ho.mk hf1; have HL1 := Ho.mk hl1
  clear f1 hf1 hl1 HF HL
  go_wp2_with (fail)
  have hp := Pick_calls a0 5 w1 (by omega)
  have hplo := pick_lo a0 5
  have hphi := pick_hi a0 5 (by omega)
  obtain ⟨N, hN⟩ : ∃ N : Nat, 2 + pick a0 5 = (N : Int) := ⟨(2 + pick a0 5).toNat, by omega⟩
  have hw2 : IntKind.i64.wrap (2 + pick a0 5) = (N : Int) := by rw [hN, IntKind.wrap_i64]; omega
  have hN1 : 2 ≤ N ∧ N ≤ 6 := by omega
  generalize pick a0 5 = p0 at *
  have HNN := Ho.mk hN1
  clear hplo hphi hN hN1
  refine hp.mono ?_
  clear hp
  rintro r w' ⟨rfl, rfl⟩
  go_wp2_with (fail)
  refine (shape_calls 0 0 a1 a2 w1).mono ?_
  rintro r w' ⟨rfl, rfl⟩
  have e1 := pick_lo a1 40; have e2 := pick_hi a1 40 (by omega)
  have e3 := pick_lo a2 (1 + pick a1 40); have e4 := pick_hi a2 (1 + pick a1 40) (by omega)
  obtain ⟨qn, hqn⟩ : ∃ qn, 1 + pick a1 40 = qn := ⟨_, rfl⟩
  obtain ⟨mo, hmo⟩ : ∃ mo, 1 + pick a2 (1 + pick a1 40) = mo := ⟨_, rfl⟩
  have hqm : 1 ≤ mo ∧ mo ≤ qn ∧ qn ≤ 40 := by omega
  rw [hmo, hqn]
  have HQM := Ho.mk hqm
  clear e1 e2 e3 e4 hqn hmo hqm
  by_cases hl0 : l.length = 0
  · have hz : ((l.length : Int) == 0) = true := by simp [hl0]
    have hz' : (l.length == 0) = true := by simp [hl0]
    go_wp2_with (fail)
    go_ret
    exact ⟨rfl, HF1.out⟩
  · have hz : ((l.length : Int) == 0) = false := by rw [beq_eq_false_iff_ne]; omega
    have hz' : (l.length == 0) = false := by rw [beq_eq_false_iff_ne]; omega
    by_cases hl60 : 60 < l.length
    · have hd : decide ((60 : Int) < (l.length : Int)) = true := decide_eq_true (by omega)
      have hd' : decide (60 < l.length) = true := decide_eq_true (by omega)
      go_wp2_with (fail)
      go_ret
      exact ⟨rfl, HF1.out⟩
    · have hd : decide ((60 : Int) < (l.length : Int)) = false := decide_eq_false (by omega)
      have hd' : decide (60 < l.length) = false := decide_eq_false (by omega)
      obtain ⟨b, off, rfl, hbB, hcell⟩ : ∃ b off, a3 = some ⟨b, off, none⟩ ∧ b < B ∧ ∀ i (h : i < l.length), w'.cell? ⟨b, off + i, none⟩ = some (.int .i64 l[i]) := by
        rcases HL1.out with h | h
        · rw [h] at hl0; exact absurd rfl hl0
        · exact h
      have HC := Ho.mk hcell; have HB := Ho.mk hbB; have HLE := Ho.mk (show 1 ≤ l.length ∧ l.length ≤ 60 by omega)
      clear HL1 hcell hbB hl0 hl60
      go_wp2_with (fail)
      obtain ⟨wa, rfl⟩ : ∃ wa : World, wa = w' := ⟨_, rfl⟩
      have hsa := HSZ.out wa HF1.out
      have hnew := new_calls (fun k => B ≤ k) wa N 2 qn mo (by have := HNN.out; omega) (by omega) (by have := HQM.out; omega) HQM.out.1 (fun k hk => Nat.le_trans hsa hk)
      refine hnew.mono ?_
      clear hnew
      rintro r w3 ⟨q, rfl, hq0, hQ3, f3⟩
      have HQ3 := Ho.mk hQ3
      have HF3 := Ho.mk (show Fr (fun k => B ≤ k) wa w3 from f3.mono (fun _ _ h => h.elim))
      have HSA := Ho.mk hsa
      have HFL := Ho.mk (show FillA (Qs.new N 2 qn mo) N qn mo 0 from fill_new N qn mo)
      have hread : ∀ W, Fr (fun k => B ≤ k) wa W → ∀ nn : Nat, ∃ v, W.cell? ⟨b, off + nn % l.length, none⟩ = some (.int .i64 v) := by
        intro W hW nn
        have hlt := Nat.mod_lt nn (show l.length > 0 by have := HLE.out; omega)
        exact ⟨_, hW.cell (fun h => by have := HB.out; omega) (HC.out _ hlt)⟩
      have HREAD := Ho.mk hread
      clear hq0 hQ3 f3 hsa hread
      unfold Pt
      have hN6 := HNN.out.2
      have hmo40 : mo ≤ 40 := by have := HQM.out; omega
      have hmo1 : 1 ≤ mo := HQM.out.1
      have hqn40 : qn ≤ 40 := HQM.out.2.2
      go_wp2_with (fail)
      go_loopw [16, 17] (fun sn sc wr => ∃ (c : Nat) (st : Qs), c ≤ N ∧ sn = .int .i64 ((2 * c : Nat) : Int) ∧ sc = .int .i64 (c : Int) ∧ Ho (QS (fun k => B ≤ k) wr q st) ∧ Ho (FillA st N qn mo c) ∧ Ho (Fr (fun k => B ≤ k) wa wr))
        (fun _ sc _ => N - (intOf sc).toNat)
      case atStart => exact ⟨0, _, by omega, rfl, rfl, HQ3, HFL, HF3⟩
      case round =>
        obtain ⟨c, st, hcN, rfl, rfl, HQ, HFA, HFW⟩ := hrel
        by_cases hlt : c < N
        · obtain ⟨wo, rfl⟩ : ∃ wo : World, wo = wr := ⟨_, rfl⟩
          go_wp2_with (fail)
          go_loopw [16, 18] (fun sn sk wz => ∃ (k nn : Nat) (st : Qs), k ≤ 2 ∧ Ho (nn = 2 * c + k) ∧ nn ≤ 20 ∧ sn = .int .i64 (nn : Int) ∧ sk = .int .i64 (k : Int) ∧ Ho (QS (fun k => B ≤ k) wz q st) ∧ Ho ((k = 0 ∧ FillA st N qn mo c) ∨ (k = 1 ∧ FillB st N qn mo c) ∨ (k = 2 ∧ FillA st N qn mo (c + 1))) ∧ Ho (Fr (fun k => B ≤ k) wa wz))
            (fun _ sk _ => 2 - (intOf sk).toNat)
          case atStart => exact ⟨0, 2 * c, _, by omega, Ho.mk rfl, by have := HNN.out; omega, rfl, rfl, HQ, Ho.mk (.inl ⟨rfl, HFA.out⟩), HFW⟩
          case round =>
            obtain ⟨k, nn, st', hk2, HNQ, hn20, rfl, rfl, HQ', HFK, HFW'⟩ := hrel
            by_cases hk : k < 2
            · obtain ⟨v, hv⟩ := HREAD.out wr HFW'.out nn
              have hmodlt := Nat.mod_lt nn (show l.length > 0 by have := HLE.out; omega)
              have hle := HLE.out
              have hlz : ((l.length : Int) == 0) = false := by rw [beq_eq_false_iff_ne]; omega
              go_wp2_with (fail)
              have hpk := Pick_calls v mo wr (by omega)
              have hplo := pick_lo v mo
              have hphi := pick_hi v mo hmo1
              obtain ⟨u, hu⟩ : ∃ u, 1 + pick v mo = u := ⟨_, rfl⟩
              have hwu : IntKind.i64.wrap (1 + pick v mo) = u := by rw [IntKind.wrap_i64]; omega
              have hu1 : 1 ≤ u := by omega
              have hu2 : u ≤ mo := by omega
              generalize pick v mo = pv at *
              have hfill : (st'.put c u u).2 = 0 ∧ ((k + 1 = 1 ∧ FillB (st'.put c u u).1 N qn mo c) ∨ (k + 1 = 2 ∧ FillA (st'.put c u u).1 N qn mo (c + 1))) := by
                rcases HFK.out with ⟨h0, h1⟩ | ⟨h0, h1⟩ | ⟨h0, _⟩
                · obtain ⟨k1, k2⟩ := fill0 h1 hlt hu1 hu2; exact ⟨k1, .inl ⟨by omega, k2⟩⟩
                · obtain ⟨k1, k2⟩ := fill1 h1 hu1 hu2; exact ⟨k1, .inr ⟨by omega, k2⟩⟩
                · omega
              have hput := put_calls (fun k => B ≤ k) wr q st' c u u HQ'.out (fun k hk => by
                have h1 := HSZ.out wr (HF1.out.trans HFW'.out); exact Nat.le_trans h1 hk)
              rw [hfill.1] at hput
              have HFILL := Ho.mk (show (k + 1 = 0 ∧ FillA (st'.put c u u).1 N qn mo c) ∨ (k + 1 = 1 ∧ FillB (st'.put c u u).1 N qn mo c) ∨ (k + 1 = 2 ∧ FillA (st'.put c u u).1 N qn mo (c + 1)) from .inr hfill.2)
              clear hfill hplo hphi hu hu1 hu2 hle
              refine hpk.mono ?_
              clear hpk
              rintro r w' ⟨rfl, rfl⟩
              go_wp2_with (fail)
              refine hput.mono ?_
              clear hput
              rintro r w5 ⟨rfl, h5, f5⟩
              have HQ5 := Ho.mk h5
              have HF5 := Ho.mk (HFW'.out.trans f5)
              have HNQ5 := Ho.mk (show nn + 1 = 2 * c + (k + 1) by have := HNQ.out; omega)
              have hn20' : nn + 1 ≤ 20 := by have := HNQ.out; omega
              clear h5 f5
              go_wp2_with (fail)
              go_roundw
              case rel => exact ⟨k + 1, nn + 1, _, by omega, HNQ5, hn20', by go_num, by go_num, HQ5, HFILL, HF5⟩
              case measure => simp [intOf]; omega
            · obtain rfl : k = 2 := by omega
              obtain ⟨h0, _⟩ | ⟨h0, _⟩ | ⟨_, hfa⟩ := HFK.out
              · cases h0
              · cases h0
              have HFA' := Ho.mk hfa
              clear hfa
              go_wp2_with (fail)
              go_roundw
              case rel => exact ⟨c + 1, st', by omega, by rw [HNQ.out]; go_num, by go_num, HQ', HFA', HFW'⟩
              case measure => simp [intOf]; omega
        · obtain rfl : N = c := by omega
          obtain ⟨hFull, hFair⟩ := fill_end HFA.out
          have hpar : st.quantum = qn ∧ st.most = mo := ⟨HFA.out.1.quantum, HFA.out.1.most⟩
          have hwf := HQ.out.1
          have hB0 : FairB qn mo N (fun _ => 0) := by
            have := hFair.bound hwf hFull; rw [hpar.1, hpar.2] at this; exact this
          go_wp2_with (fail)
          have hpf := Pick_calls a4 200 wr (by omega)
          have f1 := pick_lo a4 200; have f2 := pick_hi a4 200 (by omega)
          obtain ⟨fr, hfr⟩ : ∃ n : Nat, pick a4 200 = (n : Int) := ⟨(pick a4 200).toNat, by omega⟩
          rw [hfr] at hpf f2
          have g1 := pick_lo a5 (201 - (fr : Int)); have g2 := pick_hi a5 (201 - (fr : Int)) (by omega)
          obtain ⟨uq, huq⟩ : ∃ n : Nat, pick a5 (201 - (fr : Int)) = (n : Int) := ⟨(pick a5 (201 - (fr : Int))).toNat, by omega⟩
          rw [huq] at g2
          have hpu := Pick_calls a5 (201 - (fr : Int)) wr (by omega)
          rw [huq] at hpu
          obtain ⟨up, hup⟩ : ∃ n : Nat, fr + uq = n := ⟨_, rfl⟩
          have hup200 : up ≤ 200 := by omega
          have hwup : IntKind.i64.wrap ((fr : Int) + (uq : Int)) = (up : Int) := by rw [IntKind.wrap_i64]; omega
          have hmk := make_ints N (by omega)
          have HFull := Ho.mk hFull; have HFair := Ho.mk hFair; have HPar := Ho.mk hpar; have HB0 := Ho.mk hB0
          clear hFull hFair hpar hwf hB0 f1 g1 hfr huq hup
          obtain ⟨mm, hmm⟩ : ∃ mm, 201 - (fr : Int) = mm := ⟨_, rfl⟩
          have hwm : IntKind.i64.wrap (201 - (fr : Int)) = mm := by rw [IntKind.wrap_i64]; omega
          rw [hmm] at hpu
          clear hmm g2 f2
          refine hpf.mono ?_
          clear hpf
          rintro r w' ⟨rfl, rfl⟩
          go_wp2_with (fail)
          refine hpu.mono ?_
          clear hpu
          rintro r w' ⟨rfl, rfl⟩
          go_wp2_with (fail)
          have hfb := blk_new wr (.cells (ints N fun _ => 0) 3)
          have hff := (Fr.refl nob wr).alloc (.cells (ints N fun _ => 0) 3)
          have hBr := HSZ.out wr (HF1.out.trans HFW.out)
          obtain ⟨f, hf⟩ : ∃ f, wr.heap.size = f := ⟨_, rfl⟩
          have hBf : B ≤ f := by omega
          have HQw := Ho.mk (show QS (fun k => B ≤ k ∧ k ≠ f) (wr.alloc (.cells (ints N fun _ => 0) 3)) q st from
            (HQ.out.weak (fun k hk hB => ⟨hB, by omega⟩)).fr hff (fun _ _ h => h))
          have HFw := Ho.mk (show Fr (fun k => B ≤ k) wa (wr.alloc (.cells (ints N fun _ => 0) 3)) from HFW.out.trans (hff.mono (fun _ _ h => h.elim)))
          rw [hf] at hfb
          try rw [hf]
          generalize wr.alloc (.cells (ints N fun _ => 0) 3) = wb at *
          have HBf := Ho.mk hBf; have HFB := Ho.mk hfb
          have HI := Ho.mk (show Full st N ∧ FairI st (fun _ => 0) ∧ st.quantum = qn ∧ st.most = mo from ⟨HFull.out, HFair.out, HPar.out⟩)
          have HS := Ho.mk (show ∃ S0 : Int → Int, FairB qn mo N S0 ∧ ∀ c : Nat, c < N → (0 : Int) = (fun _ => 0 : Int → Int) c - S0 c from ⟨_, HB0.out, fun _ _ => rfl⟩)
          clear hfb hff hBr hf hBf hmk
          go_loopw [16, 21] (fun sn si wz => ∃ (i nn : Nat) (st : Qs) (S : Int → Int) (sp : Nat → Int), i ≤ up ∧ nn ≤ 20 + i ∧ sn = .int .i64 (nn : Int) ∧ si = .int .i64 (i : Int) ∧
              Ho (QS (fun k => B ≤ k ∧ k ≠ f) wz q st) ∧ Ho (Full st N ∧ FairI st S ∧ st.quantum = qn ∧ st.most = mo) ∧ Ho (∃ S0 : Int → Int, FairB qn mo N S0 ∧ ∀ c : Nat, c < N → sp c = S c - S0 c) ∧
              Ho (i ≤ fr → ∀ c, sp c = 0) ∧ Ho (∀ c, 0 ≤ sp c ∧ sp c ≤ 40 * (i : Int)) ∧ Ho (wz.heap[f]? = some (.cells (ints N sp) 3 (0, 0))) ∧ Ho (Fr (fun k => B ≤ k) wa wz))
            (fun _ si _ => up - (intOf si).toNat)
          case atStart => exact ⟨0, 2 * N, st, fun _ => 0, fun _ => 0, by omega, by omega, rfl, rfl, HQw, HI, HS, Ho.mk (fun _ _ => rfl), Ho.mk (fun _ => by simp), HFB, HFw⟩
          case round =>
            obtain ⟨i, nn, st2, S, sp, hiu, hnn, rfl, rfl, HQ2, HI2, HS2, HZ2, HP2, HFB2, HFW2⟩ := hrel
            clear HQw HFw HFB HI HS HFull HFair HPar HB0 HFA HFW HQ
            by_cases hlt : i < up
            · have hBz := HSZ.out wr (HF1.out.trans HFW2.out)
              have hflt : f < wr.heap.size := lt_of_blk HFB2.out
              obtain ⟨c, u, hn2, hu1, hu2, hc0, hcN, hstep⟩ := fair_step (N := N) (by have := HNN.out; omega) HQ2.out.1 HI2.out.1 HI2.out.2.1
              have hnext := next_calls (fun k => B ≤ k ∧ k ≠ f) wr q st2 HQ2.out (fun k hk => ⟨by omega, by omega⟩)
              rw [hn2] at hnext
              obtain ⟨cn, hcn⟩ : ∃ n : Nat, c = (n : Int) := ⟨c.toNat, by omega⟩
              subst hcn
              rw [HI2.out.2.2.2] at hu2 hstep
              rw [HI2.out.2.2.1] at hstep
              have HST := Ho.mk hstep; have HFLT := Ho.mk hflt; have HBZ := Ho.mk hBz
              have d1 : decide ((cn : Int) < 0) = false := decide_eq_false (by omega)
              have d2 : decide ((N : Int) ≤ (cn : Int)) = false := decide_eq_false (by omega)
              have d2' : decide (N ≤ cn) = false := decide_eq_false (by omega)
              have d3 : decide (u < 1) = false := decide_eq_false (by omega)
              have d4 : decide (mo < u) = false := decide_eq_false (by omega)
              have hcnN : cn < N := by omega
              clear hstep hflt hBz hn2 hc0 hcN
              go_wp2_with (fail)
              refine hnext.mono ?_
              clear hnext
              rintro r w5 ⟨rfl, h5, f5⟩
              have hb5 := f5.block f _ HFB2.out (fun h => h.2 rfl)
              have hF5 := HFW2.out.trans (f5.mono (fun _ _ h => h.1))
              have e5 : w5.cell? ⟨f, cn, none⟩ = some (.int .i64 (sp cn)) := (blk_cell hb5 cn).trans (ints_get N sp hcnN)
              have fe5 := blk_free hb5 cn
              have HQ5 := Ho.mk h5; have HB5 := Ho.mk hb5; have HF5 := Ho.mk hF5
              have hspb := HP2.out cn
              have hwsp : IntKind.i64.wrap (sp cn + u) = sp cn + u := by rw [IntKind.wrap_i64]; omega
              clear h5 hb5 hF5 f5 hspb
              obtain ⟨v, hv⟩ := HREAD.out w5 HF5.out nn
              have hmodlt := Nat.mod_lt nn (show l.length > 0 by have := HLE.out; omega)
              have hlz : ((l.length : Int) == 0) = false := by have := HLE.out; rw [beq_eq_false_iff_ne]; omega
              have hbf : b ≠ f := by have := HB.out; have := HBf.out; omega
              have hfb' : f ≠ b := fun h => hbf h.symm
              have hpk := Pick_calls v mo
              have hplo := pick_lo v mo
              have hphi := pick_hi v mo hmo1
              obtain ⟨u2, hu2'⟩ : ∃ u, 1 + pick v mo = u := ⟨_, rfl⟩
              have hwu : IntKind.i64.wrap (1 + pick v mo) = u2 := by rw [IntKind.wrap_i64]; omega
              have hv1 : 1 ≤ u2 := by omega
              have hv2 : u2 ≤ mo := by omega
              generalize pick v mo = pv at *
              obtain ⟨hput0, hpwf, hpfull, hpfair, hpq, hpm⟩ := HST.out u2 hv1 hv2
              have hwn : nn ≤ 220 := by omega
              have HNEXT := Ho.mk (And.intro hpfull (And.intro hpfair (And.intro hpq hpm)))
              have hbnd := hpfair.bound hpwf hpfull
              rw [hpq, hpm] at hbnd
              have HBND := Ho.mk hbnd; have HPUT := Ho.mk hput0
              clear hput0 hpwf hpfull hpfair hpq hpm hbnd hplo hphi hu2' hv1 hv2
              by_cases hfi : fr ≤ i
              case' pos =>
                have k1 : decide ((fr : Int) ≤ (i : Int)) = true := decide_eq_true (by omega)
                have k2 : decide (fr ≤ i) = true := decide_eq_true hfi
                go_wp2_with (fail)
                have hb6 := blk_set HB5.out cn (.int .i64 (sp cn + u))
                rw [ints_set] at hb6
                have hf6 := (Fr.refl (fun k => k = f) w5).set (p := ⟨f, cn, none⟩) (.inr rfl) (.int .i64 (sp cn + u))
                have HQ6 := Ho.mk (HQ5.out.fr hf6 (fun k hk h => hk.2 h))
                have HF6 := Ho.mk (HF5.out.trans (hf6.mono (S' := fun k => B ≤ k) (fun k _ h => by rw [h]; exact HBf.out)))
                have HB6 := Ho.mk hb6
                have HS6 := Ho.mk (show ∃ S0 : Int → Int, FairB qn mo N S0 ∧ ∀ c : Nat, c < N → updN sp cn (sp cn + u) c = upd S cn u c - S0 c by
                  obtain ⟨S0, h1, h2⟩ := HS2.out
                  refine ⟨S0, h1, fun c hc => ?_⟩
                  unfold updN upd
                  by_cases h3 : c = cn
                  · subst h3; rw [if_pos rfl, if_pos rfl, h2 c hc]; omega
                  · rw [if_neg h3, if_neg (by omega), h2 c hc])
                have HZ6 := Ho.mk (show i + 1 ≤ fr → ∀ c, updN sp cn (sp cn + u) c = 0 from fun h => by omega)
                have HP6 := Ho.mk (show ∀ c, 0 ≤ updN sp cn (sp cn + u) c ∧ updN sp cn (sp cn + u) c ≤ 40 * ((i + 1 : Nat) : Int) by
                  intro c
                  have h1 := HP2.out c
                  have h2 := HP2.out cn
                  unfold updN
                  split <;> omega)
                clear hb6 hf6 e5 fe5
                generalize w5.setCell ⟨f, cn, none⟩ (.int .i64 (sp cn + u)) = w6 at *
                generalize updN sp cn (sp cn + u) = sp6 at *
              case' neg =>
                have k1 : decide ((fr : Int) ≤ (i : Int)) = false := decide_eq_false (by omega)
                have k2 : decide (fr ≤ i) = false := decide_eq_false hfi
                go_wp2_with (fail)
                have HQ6 := HQ5
                have HF6 := HF5
                have HB6 := HB5
                have HS6 := Ho.mk (show ∃ S0 : Int → Int, FairB qn mo N S0 ∧ ∀ c : Nat, c < N → sp c = upd S cn u c - S0 c from
                  ⟨upd S cn u, HBND.out, fun c _ => by rw [HZ2.out (by omega) c]; omega⟩)
                have HZ6 := Ho.mk (show i + 1 ≤ fr → ∀ c, sp c = 0 from fun h => HZ2.out (by omega))
                have HP6 := Ho.mk (show ∀ c, 0 ≤ sp c ∧ sp c ≤ 40 * ((i + 1 : Nat) : Int) from fun c => by have := HP2.out c; omega)
                clear e5 fe5
                obtain ⟨w6, hw6⟩ : ∃ w6, w6 = w5 := ⟨_, rfl⟩
                subst hw6
                obtain ⟨sp6, hsp6⟩ : ∃ s, s = sp := ⟨_, rfl⟩
                subst hsp6
              all_goals
                refine (hpk w6 (by omega)).mono ?_
                clear hpk hv
                rintro r w' ⟨rfl, rfl⟩
                go_wp2_with (fail)
                have hput := put_calls (fun k => B ≤ k ∧ k ≠ f) w6 q st2.next.1 cn u2 u2 HQ6.out (fun k hk => by
                  have h1 := HSZ.out w6 (HF1.out.trans HF6.out)
                  have h2 := lt_of_blk HB6.out
                  exact ⟨by omega, by omega⟩)
                rw [HPUT.out] at hput
                refine hput.mono ?_
                clear hput
                rintro r w7 ⟨rfl, h7, f7⟩
                have HQ7 := Ho.mk h7
                have HB7 := Ho.mk (f7.block f _ HB6.out (fun h => h.2 rfl))
                have HF7 := Ho.mk (HF6.out.trans (f7.mono (fun _ _ h => h.1)))
                clear h7 f7
                go_wp2_with (fail)
                go_roundw
                case rel => exact ⟨i + 1, nn + 1, _, _, sp6, by omega, by omega, by go_num, by go_num, HQ7, HNEXT, HS6, HZ6, HP6, HB7, HF7⟩
                case measure => simp [intOf]; omega
            · obtain rfl : up = i := by omega
              have hS1 := HI2.out.2.1.bound HQ2.out.1 HI2.out.1
              rw [HI2.out.2.2.1, HI2.out.2.2.2] at hS1
              have hgap : ∀ x y : Nat, x < N → y < N → sp x - sp y ≤ 2 * qn + 2 * mo := by
                intro x y hx hy
                obtain ⟨S0, ⟨R0, h0⟩, h2⟩ := HS2.out
                obtain ⟨R1, h1⟩ := hS1
                have a1 := h1 x (by omega) (by omega); have a2 := h1 y (by omega) (by omega)
                have b1 := h0 x (by omega) (by omega); have b2 := h0 y (by omega) (by omega)
                rw [Int.add_mul, Int.one_mul] at a1 a2 b1 b2
                rw [h2 x hx, h2 y hy]
                omega
              have hspb : ∀ x, 0 ≤ sp x ∧ sp x ≤ 8000 := fun x => by have := HP2.out x; omega
              have HG := Ho.mk hgap; have HPB := Ho.mk hspb
              have hqn1 : 1 ≤ qn := by have := HQM.out; omega
              clear hS1 hgap hspb HQ2 HI2 HS2 HZ2 HP2
              obtain ⟨wo, rfl⟩ : ∃ wo : World, wo = wr := ⟨_, rfl⟩
              go_wp2_with (fail)
              go_loopw [26] (fun sa wz => ∃ x : Nat, x ≤ N ∧ sa = .int .i64 (x : Int) ∧ Ho (wz.heap[f]? = some (.cells (ints N sp) 3 (0, 0))) ∧ Ho (Fr (fun k => B ≤ k) wa wz)) (fun sa _ => N - (intOf sa).toNat)
              case atStart => exact ⟨0, by omega, rfl, HFB2, HFW2⟩
              case round =>
                obtain ⟨x, hxN, rfl, HX, HFX⟩ := hrel
                by_cases hx : x < N
                · obtain ⟨wp, rfl⟩ : ∃ wp : World, wp = wr := ⟨_, rfl⟩
                  go_wp2_with (fail)
                  go_loopw [27] (fun sb wz => ∃ y : Nat, y ≤ N ∧ sb = .int .i64 (y : Int) ∧ Ho (wz.heap[f]? = some (.cells (ints N sp) 3 (0, 0))) ∧ Ho (Fr (fun k => B ≤ k) wa wz)) (fun sb _ => N - (intOf sb).toNat)
                  case atStart => exact ⟨0, by omega, rfl, HX, HFX⟩
                  case round =>
                    obtain ⟨y, hyN, rfl, HY, HFY⟩ := hrel
                    by_cases hy : y < N
                    · have e1 : wr.cell? ⟨f, x, none⟩ = some (.int .i64 (sp x)) := (blk_cell HY.out x).trans (ints_get N sp hx)
                      have e2 : wr.cell? ⟨f, y, none⟩ = some (.int .i64 (sp y)) := (blk_cell HY.out y).trans (ints_get N sp hy)
                      have b1 := HPB.out x; have b2 := HPB.out y
                      have hg := HG.out x y hx hy
                      generalize sp x = vx at *
                      generalize sp y = vy at *
                      have k1 : IntKind.i64.wrap (vx - vy) = vx - vy := by rw [IntKind.wrap_i64]; omega
                      have k2 : IntKind.i64.wrap (2 * qn) = 2 * qn := by rw [IntKind.wrap_i64]; omega
                      have k3 : IntKind.i64.wrap (2 * mo) = 2 * mo := by rw [IntKind.wrap_i64]; omega
                      have k4 : IntKind.i64.wrap (2 * qn + 2 * mo) = 2 * qn + 2 * mo := by rw [IntKind.wrap_i64]; omega
                      have k5 : decide (2 * qn + 2 * mo < vx - vy) = false := decide_eq_false (by omega)
                      clear b1 b2 hg
                      go_wp2_with (fail)
                      go_quiet (fail)
                      go_wp2_with (fail)
                      go_roundw
                      case rel => exact ⟨y + 1, by omega, by go_num, Ho.mk HY.out, Ho.mk (HFY.out.drewN _)⟩
                      case measure => simp [intOf]; omega
                    · obtain rfl : N = y := by omega
                      go_wp2_with (fail)
                      go_roundw
                      case rel => exact ⟨x + 1, by omega, by go_num, HY, HFY⟩
                      case measure => simp [intOf]; omega
                · obtain rfl : N = x := by omega
                  go_wp2_with (fail)
                  go_ret
                  exact ⟨rfl, HF1.out.trans HFX.out⟩
end Go.Proofs.Ytcpejmnmbioinaa
