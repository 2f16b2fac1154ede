/-
  base.Decode.
-/
import Derived.Test.YtagbgenbhbgpoaaB3
import Derived.Test.YtagbgenbhbgpoaaA2
namespace Go.Proofs.Ytagbgenbhbgpoaa
open Go.RowKit
theorem lnum_dnum (i : Nat) (h : i < 256) : lnum 64 i = dnum i := by
  have : ∀ i : Fin 256, lnum 64 i.val = dnum i.val := by decide +kernel
  exact this ⟨i, h⟩
theorem own_fr {B : Nat} {e : TypeId} {v : Value} {n : Nat} {xs : List Value} {S : Nat → Prop} {w w' : World} (h : w.ownsRow B e 1 v n xs) (hf : Fr S w w') (hS : ∀ k c fz, S k → w.heap[k]? = some (.cells c e fz) → False) : w'.ownsRow B e 1 v n xs := by
  obtain ⟨h0, h1⟩ := h
  refine ⟨h0, ?_⟩
  rcases h1 with h1 | ⟨g, cap, cur, hv, hg, hh, r⟩
  · exact .inl h1
  · exact .inr ⟨g, cap, cur, hv, hg, hf.block g _ hh (fun hs => hS g _ _ hs hh), r⟩
theorem own_block {B : Nat} {e : TypeId} {v : Value} {n : Nat} {xs : List Value} {w : World} (h : w.ownsRow B e 1 v n xs) {k : Nat} (hk : v.ownBlock = some k) : B ≤ k ∧ ∃ c, w.heap[k]? = some (.cells c e (0, 0)) := by
  rcases h.2 with ⟨rfl, _⟩ | ⟨g, cap, cur, rfl, hg, hh, r⟩
  · simp [Value.ownBlock] at hk
  · simp only [Value.ownBlock, Option.some.injEq] at hk; subst hk; exact ⟨hg, _, hh⟩
/-- A byte's cell. -/
def IsByte (u : Value) : Prop := ∃ b : UInt8, u = .int .u8 b.toNat
/-- What Decode leaves: a slice of new memory that reads as the bytes, the fault. -/
def DecPost (r : List UInt8 × Int × Int) (w : World) (e : Ending) (w' : World) : Prop :=
  ∃ v, e = .returned (.tuple #[v, .agg #[.int .i64 r.2.1, .int .i64 r.2.2]]) ∧ w'.ownsRow w.heap.size 5 1 v r.1.length (Lib.byteCells r.1) ∧ AllQ IsByte 5 w' v ∧ Fr nob w w'
set_option maxRecDepth 100000 in
set_option maxHeartbeats 1000000 in
theorem Decode_calls (s : ByteArray) (w : World) (hs : s.size ≤ 100000) :
    Calls Try.prog 8 #[.string s] w (DecPost (dec s.data.toList) w) := by
  obtain ⟨i0, hi, hz0, hz1, hz2⟩ := info_parts infoByte
  have hz := zero39
  go_enter Try.func8, Try.ntmps8
  go_wp2_with (fail)
  refine (numbers_calls _).mono ?_
  rintro e w1 ⟨rfl, hF1⟩
  go_wp2_with (first
    | (refine wpList_store_row rfl 39 (.tmp 4) (.tmp 11) rfl w1.heap.size (tabA (lnum 64)) rfl rfl 39 (tabA fun _ => 0) (blk_new _ _) info256 (by rw [tabA_size, tabA_size]) (tabA_one _) ?_)
    | fail)
  have hlt1 : w.heap.size < w1.heap.size := by have := hF1.size; simp at this; omega
  have hFl1 : w1.heap[w.heap.size]? = some (.cells #[.int .i64 0, .int .i64 0] 26 (0, 0)) := hF1.block _ _ (blk_new _ _) (fun h => h)
  have hF1' : Fr nob w w1 := ((Fr.refl nob w).alloc _).call hF1 (fun _ _ h => h.elim)
  obtain ⟨g4, hg4⟩ : ∃ g, g = w1.heap.size := ⟨_, rfl⟩
  rw [← hg4] at hlt1 ⊢
  go_loopw [5, 14] (fun v i wr => ∃ k : Nat, k ≤ s.size ∧ i = .int .i64 k ∧ (∀ j, (hj : j < k) → (hj2 : j < s.size) → okL s[j] = true) ∧
      wr.ownsRow w.heap.size 5 1 v (decSt (s.data.toList.take k)).2.2.length (Lib.byteCells (decSt (s.data.toList.take k)).2.2) ∧ Ho (AllQ IsByte 5 wr v) ∧
      Bits (g4 + 1) (decSt (s.data.toList.take k)).1 (decSt (s.data.toList.take k)).2.1 wr ∧ wr.heap[g4]? = some (.cells (tabA (lnum 64)) 39 (0, 0)) ∧
      wr.heap[w.heap.size]? = some (.cells #[.int .i64 0, .int .i64 0] 26 (0, 0)) ∧ Fr nob w wr)
    (fun _ i _ => s.size - (intOf i).toNat)
  case atStart =>
    have hW : Fr nob w (w1.alloc (.cells (tabA fun _ => 0) 39)) := hF1'.alloc _
    have hsz : w.heap.size ≤ w1.heap.size := by omega
    refine ⟨0, by omega, rfl, fun j hj => by omega, World.ownsRow_nil _ _ _ _, ⟨AllQ_none _ _ _ _ _⟩, ?_, ?_, ?_, ?_⟩
    · exact blk_new' (by simp [hg4])
    · refine blk_old ?_ _
      rw [hg4]; exact setRow_heap _ _ _ _ _ _ (blk_new _ _)
    · refine blk_old ?_ _
      rw [setRow_other _ _ _ _ (by omega)]
      exact blk_old hFl1 _
    · exact (hW.setRow (.inl (by omega)) _).alloc _
  case round =>
    obtain ⟨k, hk, rfl, hgood, hO, HQA, hB, hT, hFl, hF⟩ := hrel
    generalize hst : decSt (s.data.toList.take k) = st at *
    obtain ⟨n, c, out⟩ := st
    simp only at hO hB
    have hsl : s.data.toList.length = s.size := Array.length_toList
    have hok : n < 2 ^ c ∧ c < 8 ∧ 8 * out.length + c = 6 * k := by
      have h := decSt_ok (s.data.toList.take k) (by
        intro b hb
        obtain ⟨i, hi, rfl⟩ := List.mem_iff_getElem.1 hb
        have hi2 : i < k := by simp at hi; omega
        rw [List.getElem_take]
        exact hgood i hi2 (by simp at hi; omega))
      rw [hst] at h
      rw [List.length_take, hsl, Nat.min_eq_left hk] at h
      exact h
    obtain ⟨h1, h2, h3⟩ := hok
    have HST := Ho.mk hst; clear hst
    have H3 := Ho.mk h3; clear h3
    have HG := Ho.mk hgood; clear hgood
    have HSL := Ho.mk hsl; clear hsl
    by_cases hlt : k < s.size
    · have hxb : s[k].toNat < 256 := s[k].toNat_lt
      have c1 : wr.cell? ⟨g4, s[k].toNat, none⟩ = some (.int .u8 (dnum s[k].toNat)) := by
        rw [← lnum_dnum _ hxb]; exact (blk_cell hT _).trans (tabA_get _ hxb)
      have HO := Ho.mk hO; have HB := Ho.mk hB; have HT := Ho.mk hT; have HFl := Ho.mk hFl
      clear hO hB hT
      have hsk : s.data.toList[k]'(by simpa using hlt) = s[k] := rfl
      have HSK := Ho.mk hsk; clear hsk
      by_cases h255 : dnum s[k].toNat = 255
      · have h255' : ((dnum s[k].toNat : Int) == 255) = true := by simp [h255]
        have HX := Ho.mk h255; clear h255
        have HG4 := Ho.mk hg4; clear hg4 hFl1
        have q0 := blk_cell hFl 0
        have q1 := blk_cell hFl 1
        have f0 := blk_free hFl 0
        have f1 := blk_free hFl 1
        clear hFl
        go_wp2_with (fail)
        have hb : ((wr.setCell ⟨w.heap.size, 0, none⟩ (.int .i64 4)).setCell ⟨w.heap.size, 1, none⟩ (.int .i64 k)).heap[w.heap.size]? = some (.cells #[.int .i64 4, .int .i64 k] 26 (0, 0)) := blk_set (blk_set HFl.out 0 (.int .i64 4)) 1 (.int .i64 k)
        refine bodyPost_ret (res_tc rfl _ _ w.heap.size 26 _ (0, 0) _ rfl hb Try.underlying26 rfl (by kernel_rfl)) rfl ?_
        have e : dec s.data.toList = ([], 4, (k : Int)) := dec_bad (by rw [HSL.out]; exact hlt) (fun i hi => HG.out i hi (by omega)) (by rw [HSK.out]; simp [okL, HX.out])
        rw [e]
        exact ⟨.slice none 0 0, rfl, World.ownsRow_nil _ _ _ _, AllQ_none _ _ _ _ _, (hF.set (.inl (Nat.le_refl _)) _).set (.inl (Nat.le_refl _)) _⟩
      · have hd64 : dnum s[k].toNat < 64 := (dnum_or _).resolve_right h255
        have h255' : ((dnum s[k].toNat : Int) == 255) = false := by simp; omega
        have hokk : okL s[k] = true := by simp [okL, hd64]
        have HOK := Ho.mk hokk
        clear h255 hokk
        have HG4 := Ho.mk hg4; have HL1 := Ho.mk hlt1; clear hg4 hFl1 hlt1 hFl
        have hnb : n < 256 := Nat.lt_of_lt_of_le h1 (Nat.pow_le_pow_right (n := 2) (by decide) (by omega : c ≤ 8))
        generalize hm : dnum s[k].toNat = m at *
        have HM := Ho.mk hm; clear hm
        go_wp2_with (fail)
        have hput := put_nat (g4 + 1) n c m 6 (m : Int) 6 wr HB.out rfl rfl (by omega) (by omega) hd64 (by omega)
        refine hput.mono ?_
        clear hput
        rintro e w2 ⟨rfl, hB2, hF2⟩
        have hF2' : Fr nob w w2 := hF.call hF2 (fun i _ h => .inl (by have := HL1.out; omega))
        have hgO : ∀ (k : Nat) (c : Array Value) (fz : Nat × Nat), k = g4 + 1 → wr.heap[k]? = some (.cells c 5 fz) → False := fun k c fz hk h => by subst hk; rw [HB.out] at h; simp at h
        have hO2 := own_fr HO.out hF2 hgO
        have HQ2 := Ho.mk (HQA.out.fr HO.out hF2 hgO)
        have hT2 := hF2.block _ _ HT.out (by omega)
        have hFl2 := hF2.block _ _ HFl.out (by have := HL1.out; omega)
        have HO2 := Ho.mk hO2; have HT2 := Ho.mk hT2; have HFl2 := Ho.mk hFl2; clear hO2 hT2 hFl2
        have q1 : w2.cell? ⟨g4 + 1, 1, none⟩ = some (.int .i64 ((c + 6 : Nat) : Int)) := blk_cell hB2 1
        have HB2 := Ho.mk hB2; clear hB2 c1
        obtain ⟨n2, hn2⟩ : ∃ n2, n2 = n * 64 + m := ⟨_, rfl⟩
        have HN2 := Ho.mk hn2; clear hn2
        have hst2 : decSt (s.data.toList.take (k + 1)) = dfeed (n, c, out) s[k] := by
          rw [decSt_take _ _ (by rw [HSL.out]; exact hlt), HST.out, HSK.out]
        have HST2 := Ho.mk hst2; clear hst2
        have hgood2 : ∀ j, (hj : j < k + 1) → (hj2 : j < s.size) → okL s[j] = true := by
          intro j hj hj2
          by_cases e : j = k
          · subst e; exact HOK.out
          · exact HG.out j (by omega) hj2
        have HG2 := Ho.mk hgood2; clear hgood2
        by_cases h8 : 8 ≤ c + 6
        · obtain ⟨d, hd⟩ : ∃ d, c + 6 = d + 8 := ⟨c + 6 - 8, by omega⟩
          have HD := Ho.mk hd; clear hd
          have hc8 : (8 : Int) ≤ (c : Int) + 6 := by omega
          obtain ⟨q, hq⟩ : ∃ q, q = n2 / 2 ^ d := ⟨_, rfl⟩
          obtain ⟨r, hr⟩ : ∃ r, r = n2 % 2 ^ d := ⟨_, rfl⟩
          have hn2b : n2 < 2 ^ (c + 6) := by rw [HN2.out, Nat.pow_add]; omega
          have hq256 : q < 256 := by
            rw [hq, Nat.div_lt_iff_lt_mul (Nat.two_pow_pos _), show (256 : Nat) = 2 ^ 8 from rfl, ← Nat.pow_add, show 8 + d = c + 6 from by have := HD.out; omega]
            exact hn2b
          have HQ := Ho.mk hq; have HR := Ho.mk hr; clear hq hr
          have hB2' : Bits (g4 + 1) n2 (d + 8 : Nat) w2 := by
            have h := HB2.out
            unfold Bits at h ⊢
            rw [show n * 2 ^ 6 + m = n2 from HN2.out.symm, HD.out] at h
            exact h
          have hn2c : n2 < 2 ^ 32 := Nat.lt_of_lt_of_le hn2b (Nat.pow_le_pow_right (n := 2) (by decide) (by omega))
          clear hn2b
          go_wp2_with (fail)
          have hget := get_nat (g4 + 1) n2 (d + 8) 8 q r d 8 w2 (by simpa using HQ.out) (by simpa using HR.out) (by omega) hB2' rfl hn2c (by omega) (by have := HD.out; omega)
          refine hget.mono ?_
          clear hget hB2'
          rintro e w3 ⟨rfl, hB3, hF3⟩
          have hF3' : Fr nob w w3 := hF2'.call hF3 (fun i _ h => .inl (by have := HL1.out; omega))
          have hgO3 : ∀ (k : Nat) (c : Array Value) (fz : Nat × Nat), k = g4 + 1 → w2.heap[k]? = some (.cells c 5 fz) → False := fun k c fz hk h => by subst hk; rw [HB2.out] at h; simp at h
          have hO3 := own_fr HO2.out hF3 hgO3
          have hQ3 := HQ2.out.fr HO2.out hF3 hgO3
          have hT3 := hF3.block _ _ HT2.out (by omega)
          have hFl3 := hF3.block _ _ HFl2.out (by have := HL1.out; omega)
          have HT3 := Ho.mk hT3; have HFl3 := Ho.mk hFl3; have HB3 := Ho.mk hB3; clear hT3 hFl3 hB3
          have e1 : IntKind.u8.wrap (q : Int) = q := by rw [IntKind.wrap_u8]; omega
          have hlen : out.length ≤ 200000 := by have := H3.out; omega
          have hsz3 := hF3'.size
          have hbq : IsByte (.int .u8 (q : Int)) := ⟨UInt8.ofNat q, by
            have : (UInt8.ofNat q).toNat = q := by simp; omega
            rw [this]⟩
          have hQ3a : AllQ IsByte 5 (w3.alloc (.cells #[.int .u8 (q : Int)] 5)) u5 := hQ3.fr hO3 ((Fr.refl nob w3).alloc _) (fun _ _ _ h => h.elim)
          have HQ3 := Ho.mk hQ3a; have HBQ := Ho.mk hbq; clear hQ3 hQ3a hbq
          go_wp2_with (refine wpList_append_Q IsByte rfl (.tmp 32) (.tmp 35) 22 rfl w.heap.size 5 i0 (.int .u8 0) Try.underlying22 hi hz0 hz1 rfl ⟨0, rfl⟩ _ _ _ rfl (hO3.alloc _) HQ3.out ⟨w3.heap.size, 0, none⟩ 1 1 [.int .u8 (q : Int)] rfl rfl (cell_one_new _ _ _) (by intro u hu; simp at hu; subst hu; rfl) (by intro u hu; simp at hu; subst hu; exact HBQ.out) (by unfold maxLen; omega) (by rw [hz2]; omega) (by simp; omega) ?_)
          intro ao' cap' w4 hown' hQ4 hgrow
          have hF4 : Fr nob w w4 := (hF3'.alloc _).grown hgrow (fun i hi => .inl (own_block hO3 hi).1)
          have hne : ∀ i, (∀ c : Array Value, w3.heap[i]? ≠ some (Obj.cells c 5 (0, 0))) → u5.ownBlock ≠ some i := fun i h hi => by
            obtain ⟨_, c, hc⟩ := own_block hO3 hi; exact h c hc
          have keep : ∀ i o, w3.heap[i]? = some o → (∀ c : Array Value, o ≠ Obj.cells c 5 (0, 0)) → w4.heap[i]? = some o := fun i o ho hn => by
            rw [hgrow.block i (by have := lt_of_blk ho; simp; omega) (fun e => hne i (fun c hc => hn c (by rw [ho] at hc; exact Option.some.inj hc)) e.symm)]
            exact blk_old ho _
          have hB4 := keep _ _ HB3.out (by intro c; simp)
          have hT4 := keep _ _ HT3.out (by intro c; simp)
          have hFl4 := keep _ _ HFl3.out (by intro c; simp)
          have HB4 := Ho.mk hB4; have HT4 := Ho.mk hT4; have HFl4 := Ho.mk hFl4; have HOW := Ho.mk hown'; have HQ4 := Ho.mk hQ4
          clear hB4 hT4 hFl4 hown' hO3 hgrow keep hne hQ4
          go_wp2
          go_roundw
          case rel =>
            rw [show ((k : Int) + 1) = ((k + 1 : Nat) : Int) from by omega]
            refine ⟨k + 1, by omega, rfl, HG2.out, ?_⟩
            have e2 : dfeed (n, c, out) s[k] = (r, d, out ++ [UInt8.ofNat q]) := by
              unfold dfeed
              simp only
              rw [if_pos h8, HM.out, HR.out, HQ.out, HN2.out, show c + 6 - 8 = d from by have := HD.out; omega]
            have e3 : (UInt8.ofNat q).toNat = q := by simp; omega
            rw [HST2.out, e2]
            refine ⟨?_, ⟨HQ4.out⟩, HB4.out, HT4.out, HFl4.out, hF4⟩
            have h := HOW.out
            simp only [Lib.byteCells, List.map_append, List.map_cons, List.map_nil, List.length_append, List.length_cons, List.length_nil, e3] at h ⊢
            exact h
          case measure => simp [intOf]; omega
        · have hc8 : ¬ (8 : Int) ≤ (c : Int) + 6 := by omega
          go_wp2
          go_roundw
          case rel =>
            rw [show ((k : Int) + 1) = ((k + 1 : Nat) : Int) from by omega]
            refine ⟨k + 1, by omega, rfl, HG2.out, ?_⟩
            have e2 : dfeed (n, c, out) s[k] = (n2, c + 6, out) := by
              unfold dfeed
              simp only
              rw [if_neg h8, HM.out, HN2.out]
            rw [HST2.out, e2]
            refine ⟨HO2.out, ⟨HQ2.out⟩, ?_, HT2.out, HFl2.out, hF2'⟩
            have h := HB2.out
            unfold Bits at h ⊢
            rw [show n * 2 ^ 6 + m = n2 from HN2.out.symm] at h
            exact h
          case measure => simp [intOf]; omega
    · obtain rfl : k = s.size := by omega
      have hall : ∀ b ∈ s.data.toList, okL b = true := by
        intro b hb
        obtain ⟨i, hi, rfl⟩ := List.mem_iff_getElem.1 hb
        have hi2 : i < s.size := by rw [HSL.out] at hi; exact hi
        exact HG.out i hi2 hi2
      have hdec := dec_good hall
      have hfull : s.data.toList.take s.size = s.data.toList := List.take_of_length_le (by rw [HSL.out]; omega)
      rw [hfull] at HST
      rw [HST.out, HSL.out] at hdec
      have HDEC := Ho.mk hdec
      have HO := Ho.mk hO; have HB := Ho.mk hB
      clear hdec hO hB hfull hall hT
      have HG4 := Ho.mk hg4; clear hg4 hFl1 hlt hlt1
      have q0 := blk_cell hFl 0
      have q1 := blk_cell hFl 1
      have f0 := blk_free hFl 0
      have f1 := blk_free hFl 1
      have q2 : wr.cell? ⟨g4 + 1, 0, none⟩ = some (.int .i64 n) := blk_cell HB.out 0
      have HFl := Ho.mk hFl; clear hFl
      go_wp2_with (fail)
      have hsize := Size_calls (s.size : Int) wr (by omega)
      refine hsize.mono ?_
      clear hsize
      rintro e w2 ⟨rfl, rfl⟩
      cases hsz : (sizeF (s.size : Int)).2 with
      | false =>
        have HSZ := Ho.mk hsz; clear hsz
        have e : dec s.data.toList = ([], 4, (s.size : Int)) := by rw [HDEC.out, if_pos HSZ.out]
        have HE := Ho.mk e; clear e
        go_wp2
        have hb : ((wr.setCell ⟨w.heap.size, 0, none⟩ (.int .i64 4)).setCell ⟨w.heap.size, 1, none⟩ (.int .i64 s.size)).heap[w.heap.size]? = some (.cells #[.int .i64 4, .int .i64 s.size] 26 (0, 0)) := blk_set (blk_set HFl.out 0 (.int .i64 4)) 1 (.int .i64 s.size)
        refine bodyPost_ret (res_tc rfl _ _ w.heap.size 26 _ (0, 0) _ rfl hb Try.underlying26 rfl (by kernel_rfl)) rfl ?_
        rw [HE.out]
        exact ⟨.slice none 0 0, rfl, World.ownsRow_nil _ _ _ _, AllQ_none _ _ _ _ _, (hF.set (.inl (Nat.le_refl _)) _).set (.inl (Nat.le_refl _)) _⟩
      | true =>
        have HSZ := Ho.mk hsz; clear hsz
        by_cases hn : n = 0
        · subst hn
          have e : dec s.data.toList = (out, 0, 0) := by rw [HDEC.out, if_neg (by rw [HSZ.out]; simp), if_neg (by simp)]
          have HE := Ho.mk e; clear e
          have hn0 : (((0 : Nat) : Int) != 0) = false := by decide
          go_wp2
          have hb : ((wr.setCell ⟨w.heap.size, 0, none⟩ (.int .i64 0)).setCell ⟨w.heap.size, 1, none⟩ (.int .i64 0)).heap[w.heap.size]? = some (.cells #[.int .i64 0, .int .i64 0] 26 (0, 0)) := blk_set (blk_set HFl.out 0 (.int .i64 0)) 1 (.int .i64 0)
          refine bodyPost_ret (res_tc rfl _ _ w.heap.size 26 _ (0, 0) _ rfl hb Try.underlying26 rfl (by kernel_rfl)) rfl ?_
          rw [HE.out]
          have hFs : Fr (· = w.heap.size) wr ((wr.setCell ⟨w.heap.size, 0, none⟩ (.int .i64 0)).setCell ⟨w.heap.size, 1, none⟩ (.int .i64 0)) := ((Fr.refl (· = w.heap.size) wr).set (.inr rfl) _).set (.inr rfl) _
          refine ⟨u5, rfl, ?_, ?_, (hF.set (.inl (Nat.le_refl _)) _).set (.inl (Nat.le_refl _)) _⟩
          · exact own_fr HO.out hFs (fun k c fz hk h => by subst hk; rw [HFl.out] at h; simp at h)
          · exact HQA.out.fr HO.out hFs (fun k c fz hk h => by subst hk; rw [HFl.out] at h; simp at h)
        · have e : dec s.data.toList = ([], 4, (s.size : Int) - 1) := by rw [HDEC.out, if_neg (by rw [HSZ.out]; simp), if_pos hn]
          have HE := Ho.mk e; clear e
          have hn0 : ((n : Int) != 0) = true := by rw [bne_iff_ne]; omega
          have hs1 : (1 : Int) ≤ s.size := by
            have : s.size ≠ 0 := by
              intro h0
              have := H3.out; rw [h0] at this
              have hc0 : c = 0 := by omega
              rw [hc0] at h1; omega
            omega
          clear hn
          go_wp2
          have hb : ((wr.setCell ⟨w.heap.size, 0, none⟩ (.int .i64 4)).setCell ⟨w.heap.size, 1, none⟩ (.int .i64 ((s.size : Int) - 1))).heap[w.heap.size]? = some (.cells #[.int .i64 4, .int .i64 ((s.size : Int) - 1)] 26 (0, 0)) := blk_set (blk_set HFl.out 0 (.int .i64 4)) 1 (.int .i64 ((s.size : Int) - 1))
          refine bodyPost_ret (res_tc rfl _ _ w.heap.size 26 _ (0, 0) _ rfl hb Try.underlying26 rfl (by kernel_rfl)) rfl ?_
          rw [HE.out]
          exact ⟨.slice none 0 0, rfl, World.ownsRow_nil _ _ _ _, AllQ_none _ _ _ _ _, (hF.set (.inl (Nat.le_refl _)) _).set (.inl (Nat.le_refl _)) _⟩
end Go.Proofs.Ytagbgenbhbgpoaa
