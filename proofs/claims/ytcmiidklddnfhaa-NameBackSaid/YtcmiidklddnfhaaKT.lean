/-
  ostiarykit: SameTexts, LentTexts, OverTexts, KeptTexts.
-/
import Derived.Test.YtcmiidklddnfhaaEF
import Derived.Laws.CopyOwn
import Derived.RegionTactic
import Derived.Deep.RegionHeld3
namespace Go.Proofs.Ytcmiidklddnfhaa
open Go.RowKit
theorem addr_add (b off j : Nat) : (⟨b, off, none⟩ : Addr).add j = ⟨b, off + j, none⟩ := by
  unfold Addr.add; split
  · rename_i h; subst h; rfl
  · rfl
theorem IsStrs.shape {w : World} {v : Value} {l : List Bs} (h : IsStrs w v l) : ∃ a cap, v = .slice a l.length cap := by obtain ⟨a, cap, h, _⟩ := h; exact ⟨a, cap, h⟩
set_option maxRecDepth 100000 in
theorem SameTexts_calls (v1 v2 : Value) (l1 l2 : List Bs) (w : World) (h1 : IsStrs w v1 l1) (h2 : IsStrs w v2 l2) (hl : l1.length ≤ 1000000) (hl2 : l2.length ≤ 1000000) :
    Calls Try.prog 15 #[v1, v2] w fun r w' => r = .returned (.bool (decide (l1 = l2))) ∧ Fr nob w w' := by
  obtain ⟨a1, cap1, rfl, hc1⟩ := h1
  obtain ⟨a2, cap2, rfl, hc2⟩ := h2
  have H1 := Ho.mk hc1; have H2 := Ho.mk hc2
  clear hc1 hc2
  by_cases hlen : l1.length = l2.length
  · have e1 : (((l1.length : Int)) != ((l2.length : Int))) = false := by simp [hlen]
    have e2 : (l1.length != l2.length) = false := by simp [hlen]
    have HL := Ho.mk hlen
    clear hlen
    go_enter Try.func15, Try.ntmps15
    go_wp2_with (fail)
    go_loopw [5] (fun si wr => ∃ i : Nat, i ≤ l1.length ∧ si = .int .i64 (i : Int) ∧ Ho (l1.take i = l2.take i) ∧ ∃ m, wr = w.drewN m) (fun si _ => l1.length - (intOf si).toNat)
    case atStart => exact ⟨0, by omega, rfl, Ho.mk rfl, 0, rfl⟩
    case round =>
      obtain ⟨i, hi, rfl, HT, m, rfl⟩ := hrel
      by_cases hlt : i < l1.length
      · have hlt2 : i < l2.length := by rw [← HL.out]; exact hlt
        obtain ⟨b1, o1, rfl, k1⟩ := H1.out i hlt
        obtain ⟨b2, o2, rfl, k2⟩ := H2.out i hlt2
        have ht1 := List.take_succ_eq_append_getElem hlt
        have ht2 := List.take_succ_eq_append_getElem hlt2
        have hne : l1[i] ≠ l2[i] → l1 ≠ l2 := fun h e => h (by subst e; rfl)
        have k1' : (w.drewN m).cell? ⟨b1, o1 + i, none⟩ = some (.string (mk l1[i])) := k1
        have k2' : (w.drewN m).cell? ⟨b2, o2 + i, none⟩ = some (.string (mk l2[i])) := k2
        generalize l1[i] = x at *
        generalize l2[i] = y at *
        obtain ⟨s, hs⟩ : ∃ s, mk x = s := ⟨_, rfl⟩
        obtain ⟨t, ht⟩ : ∃ t, mk y = t := ⟨_, rfl⟩
        have hsl : s.toList = x := by rw [← hs, Lib.toList_data]; rfl
        have htl : t.toList = y := by rw [← ht, Lib.toList_data]; rfl
        rw [hs] at k1'; rw [ht] at k2'
        generalize hwm : w.drewN m = wm at *
        have HW := Ho.mk hwm; have HT1 := Ho.mk ht1; have HT2 := Ho.mk ht2; have HNE := Ho.mk hne
        clear k1 k2 hwm ht1 ht2 hne hs ht
        by_cases hxy : x = y
        · have e3 : (s.toList == t.toList) = true := by rw [hsl, htl, hxy]; simp
          have HX := Ho.mk hxy
          clear hsl htl hxy
          go_wp2_with (fail)
          go_quiet (fail)
          go_wp2_with (fail)
          go_roundw
          case rel => exact ⟨i + 1, by omega, by go_num, ⟨by rw [HT1.out, HT2.out, HT.out, HX.out]⟩, m + nq, by rw [← HW.out, World.drewN_drewN]⟩
          case measure => simp [intOf]; omega
        · have e3 : (s.toList == t.toList) = false := by rw [hsl, htl]; simp [hxy]
          have HX := Ho.mk (HNE.out hxy)
          clear hsl htl hxy
          go_wp2_with (fail)
          go_quiet (fail)
          go_wp2_with (fail)
          go_ret
          refine ⟨by rw [decide_eq_false HX.out]; rfl, ?_⟩
          rw [← HW.out]; exact ((Fr.refl nob w).drewN m).drewN nq
      · obtain rfl : l1.length = i := by omega
        have he : l1 = l2 := by
          have h := HT.out
          rwa [List.take_length, HL.out, List.take_length] at h
        have HE := Ho.mk he
        clear he HT
        go_wp2_with (fail)
        go_ret
        exact ⟨by rw [decide_eq_true HE.out]; rfl, (Fr.refl nob w).drewN m⟩
  · have e1 : (((l1.length : Int)) != ((l2.length : Int))) = true := by simp; omega
    have e2 : (l1.length != l2.length) = true := by simp [hlen]
    have HN := Ho.mk (show l1 ≠ l2 from fun e => hlen (by rw [e]))
    clear hlen
    go_enter Try.func15, Try.ntmps15
    go_wp2_with (fail)
    go_ret
    exact ⟨by rw [decide_eq_false HN.out]; rfl, Fr.refl nob w⟩
/-- Texts as cells. -/
def strs (l : List Bs) : List Value := l.map str
theorem strs_len (l : List Bs) : (strs l).length = l.length := List.length_map ..
/-- Texts that are lent, when the marks below i are in. -/
def lentT : Bs := [108, 101, 110, 116]
def lentAt (l : List Bs) (i : Nat) : List Bs := (List.range (l.length + 3)).map fun j => if j < l.length then l.getD j [] else if j < i then lentT else []
def LT (l : List Bs) : List Bs := lentAt l (l.length + 3)
theorem lentAt_len (l : List Bs) (i : Nat) : (lentAt l i).length = l.length + 3 := by unfold lentAt; simp
theorem lentAt_set (l : List Bs) (i : Nat) (h : l.length ≤ i) : (lentAt l i).set i lentT = lentAt l (i + 1) := by
  unfold lentAt
  apply List.ext_getElem
  · simp
  · intro j h1 h2
    simp only [List.getElem_set, List.getElem_map, List.getElem_range]
    by_cases e : i = j
    · subst e; rw [if_pos rfl, if_neg (by omega), if_pos (by omega)]
    · rw [if_neg e]
      by_cases h3 : j < l.length
      · rw [if_pos h3, if_pos h3]
      · rw [if_neg h3, if_neg h3]
        by_cases h4 : j < i
        · rw [if_pos h4, if_pos (by omega)]
        · rw [if_neg h4, if_neg (by omega)]
theorem lentAt_start (l : List Bs) : splice (strs (List.replicate (l.length + 3) ([] : Bs))) 0 (strs l) = strs (lentAt l l.length) := by
  unfold splice lentAt strs
  apply List.ext_getElem
  · simp
  · intro j h1 h2
    simp at h1
    simp only [List.take_zero, List.nil_append, List.getElem_map, List.getElem_range]
    by_cases h3 : j < l.length
    · rw [List.getElem_append_left (by simpa using h3)]
      simp [h3]
    · rw [List.getElem_append_right (by simp; omega)]
      simp only [List.getElem_drop, List.getElem_map, List.getElem_replicate]
      rw [if_neg h3, if_neg h3]
theorem make_strs (n : Nat) (hn : n ≤ 1000000) (W : World) : (Instr.makeSlice 22 (.int .i64 (n : Int)) (.int .i64 (n : Int))).run Try.prog W = .ok (.slice (some ⟨W.heap.size, 0, none⟩) n n) (W.alloc (.cells (strs (List.replicate n ([] : Bs))).toArray 9)) := by
  obtain ⟨i0, hi, hz0, hz1, hz2⟩ := info_parts infoStr
  rw [run_make W 22 9 i0 (.string ⟨#[]⟩) Try.underlying22 hi hz0 .i64 .i64 n n (by omega) (by omega) (by rw [hz2]; omega) (by omega)]
  have e : madeCells (Value.cells (.string ⟨#[]⟩)) ((n : Int).toNat * i0.size) = (strs (List.replicate n ([] : Bs))).toArray := by
    rw [hz1, Int.toNat_natCast, Nat.mul_one]
    unfold madeCells strs
    apply Array.ext
    · simp
    · intro i h1 h2
      simp [Value.cells, str, mk, Nat.mod_one]
  rw [e]; rfl
theorem slice_h (a : Option Addr) (len cap k : Nat) (hk : k ≤ cap) (W : World) : (Instr.slice 22 (.slice a len cap) none (some (.int .i64 (k : Int))) none).run Try.prog W = .ok (.slice a k cap) W := by
  have hb := run_sliceBound (P := Try.prog) (w := W) .i64 (k : Int) cap .sliceAcap (by omega) (by omega)
  cases a with
  | none => simp [Instr.slice, Instr.sliceBounds, hb, go_sem]
  | some ad => simp [Instr.slice, Instr.sliceBounds, hb, go_sem]
theorem str_one (l : List Bs) : ∀ u ∈ strs l, u.oneCell' = true := by
  intro u hu
  obtain ⟨x, _, rfl⟩ := List.mem_map.1 hu
  rfl
set_option maxRecDepth 100000 in
set_option maxHeartbeats 1000000 in
theorem LentTexts_calls (v : Value) (l : List Bs) (w : World) (hl : l.length ≤ 100000) (hv : IsStrs w v l) :
    Calls Try.prog 10 #[v] w fun e w' => ∃ g, e = .returned (.slice (some ⟨g, 0, none⟩) l.length (l.length + 3)) ∧ w.heap.size ≤ g ∧ w'.heap[g]? = some (.cells (strs (LT l)).toArray 9 (0, 0)) ∧ Fr nob w w' := by
  obtain ⟨a, cap, rfl, hcell⟩ := hv
  obtain ⟨n, hn⟩ : ∃ n, n = l.length + 3 := ⟨_, rfl⟩
  have hnI : (l.length : Int) + 3 = (n : Int) := by omega
  have hmk := make_strs n (by omega)
  have hnn : n ≤ 200000 := by omega
  have HN := Ho.mk hn; have HC := Ho.mk hcell; clear hn hcell
  have hst := lentAt_start l
  rw [← HN.out] at hst
  have HST := Ho.mk hst; clear hst
  have hln : l.length ≤ n := by have := HN.out; omega
  go_enter Try.func10, Try.ntmps10
  go_wp2_with (with_reducible refine wpList_copy_splice rfl (.tmp 9) (.tmp 10) 22 22 rfl 9 Try.underlying22 (by kernel_rfl) _ _ _ _ _ _ rfl rfl w.heap.size 0 (strs (List.replicate n ([] : Bs))) 9 (blk_new _ _) (strs l) ?c1 ?c2 ?c3 ?c4 w.heap.size w ?c5 (Nat.le_refl _) ?_)
  case c1 => rw [strs_len]; exact (Nat.min_eq_left hln).symm
  case c2 =>
    intro hpos
    rw [strs_len] at hpos
    obtain ⟨b, off, rfl, hc0⟩ := HC.out 0 hpos
    refine ⟨_, rfl, fun j v hj => ?_⟩
    have hjl : j < l.length := by
      have := (List.getElem?_eq_some_iff.1 hj).1; rw [strs_len] at this; exact this
    obtain ⟨b', off', h, h2⟩ := HC.out j hjl
    injection h with h
    rw [h, addr_add]
    have h3 := ((Fr.refl nob w).alloc (.cells (strs (List.replicate n ([] : Bs))).toArray 9)).cell (fun h => h) h2
    rw [h3]
    simp [strs, hjl] at hj
    rw [hj]
  case c3 => rw [strs_len, strs_len, List.length_replicate]; omega
  case c4 => exact str_one l
  case c5 => exact (Below.refl _ _).alloc (Nat.le_refl _) _
  intro w1 hg1 hb1
  have HG := Ho.mk hg1.out; clear hg1
  have hF1 : Fr nob w w1 := (Fr.of_below hb1).mono (fun k hk h => by omega)
  rw [HST.out] at HG
  clear hmk hb1
  go_wp2_with (fail)
  go_loopw [4] (fun i wr => ∃ k : Nat, l.length ≤ k ∧ k ≤ n ∧ i = .int .i64 k ∧ Ho (wr.heap[w.heap.size]? = some (.cells (strs (lentAt l k)).toArray 9 (0, 0))) ∧ Fr nob w wr)
    (fun i _ => n - (intOf i).toNat)
  case atStart => exact ⟨l.length, Nat.le_refl _, hln, rfl, HG, hF1⟩
  case round =>
    obtain ⟨k, hk1, hk2, rfl, HB, hF⟩ := hrel
    by_cases hlt : k < n
    · have hkl : k < (lentAt l k).length := by rw [lentAt_len, ← HN.out]; exact hlt
      obtain ⟨y, hy⟩ : ∃ y, (lentAt l k)[k] = y := ⟨_, rfl⟩
      have c1 : wr.cell? ⟨w.heap.size, k, none⟩ = some (.string (mk y)) := by
        rw [blk_cell HB.out, ← hy]; simp [strs, hkl, str]
      have f1 := blk_free HB.out k
      clear hkl hy
      go_wp2
      go_roundw
      case rel =>
        have h := blk_set HB.out k (str lentT)
        have e3 : (strs (lentAt l k)).toArray.setIfInBounds k (str lentT) = (strs (lentAt l (k + 1))).toArray := by
          unfold strs
          rw [← lentAt_set l k hk1, List.map_set]
          simp
        rw [e3] at h
        exact ⟨k + 1, by omega, by omega, by go_num, ⟨h⟩, hF.set (.inl (Nat.le_refl _)) _⟩
      case measure => simp [intOf]; omega
    · obtain rfl : k = n := by omega
      have hsl := slice_h (some ⟨w.heap.size, 0, none⟩) k k l.length (by omega) wr
      go_wp2_with (fail)
      go_ret
      refine ⟨w.heap.size, ?_, Nat.le_refl _, ?_, hF⟩
      · rw [← HN.out]; rfl
      · unfold LT; rw [← HN.out]; exact HB.out
set_option maxRecDepth 100000 in
set_option maxHeartbeats 1000000 in
theorem OverTexts_calls (ao : Option Addr) (n cap : Nat) (xs : List Value) (B : Nat) (w : World) (hc : cap ≤ 9223372036854775807) (hown : w.ownsRow B 9 1 (.slice ao n cap) n xs) (hQ : AllQ IsStr 9 w (.slice ao n cap)) :
    Calls Try.prog 19 #[.slice ao n cap] w fun e w' => e = .returned (.tuple #[]) ∧ Fr (fun k => (Value.slice ao n cap).ownBlock = some k) w w' := by
  have hrow : ∀ (g : Nat), ao = some ⟨g, 0, none⟩ → ∃ cur : Array Value, w.heap[g]? = some (.cells cur 9 (0, 0)) ∧ cur.size = cap ∧ ∀ j u, 0 ≤ j → cur[j]? = some u → IsStr u := by
    intro g hg
    rcases hown.2 with ⟨h, _⟩ | ⟨g', cap', cur, h, hB, hh, h1, h2, h3, h4⟩
    · injection h with h _ _; rw [h] at hg; cases hg
    · injection h with e1 e2 e3
      rw [hg] at e1; injection e1 with e1; injection e1 with e1 _ _
      subst e1 e3
      exact ⟨cur, hh, by omega, fun j u _ hu => hQ g (by rw [hg]; rfl) cur _ hh u (Array.mem_toList_iff.2 (Array.mem_of_getElem? hu))⟩
  have hsome : 0 < cap → ∃ g, ao = some ⟨g, 0, none⟩ := by
    intro hp
    rcases hown.2 with ⟨h, _⟩ | ⟨g', cap', cur, h, _⟩
    · injection h with _ _ h; omega
    · injection h with e1 _ _; exact ⟨g', e1⟩
  have hsl := slice_h ao n cap cap (Nat.le_refl _)
  have HR := Ho.mk hrow; have HS := Ho.mk hsome; clear hrow hsome hown hQ
  go_enter Try.func19, Try.ntmps19
  go_wp2_with (fail)
  go_loopw [3] (fun i wr => ∃ k : Nat, k ≤ cap ∧ i = .int .i64 k ∧ Ho (∀ g, ao = some ⟨g, 0, none⟩ → ∃ cur : Array Value, wr.heap[g]? = some (.cells cur 9 (0, 0)) ∧ cur.size = cap ∧ ∀ j u, k ≤ j → cur[j]? = some u → IsStr u) ∧ Ho (Fr (fun k => (Value.slice ao n cap).ownBlock = some k) w wr))
    (fun i _ => cap - (intOf i).toNat)
  case atStart => exact ⟨0, Nat.zero_le _, rfl, HR, ⟨Fr.refl _ _⟩⟩
  case round =>
    obtain ⟨k, hk, rfl, HC, HF⟩ := hrel
    by_cases hlt : k < cap
    · obtain ⟨g, rfl⟩ := HS.out (by omega)
      obtain ⟨cur, hh, hsz, hall⟩ := HC.out g rfl
      have hks : k < cur.size := by omega
      obtain ⟨y, hy, hyb⟩ : IsStr cur[k] := hall k _ (Nat.le_refl _) (by simp [hks])
      have c1 : wr.cell? ⟨g, k, none⟩ = some (.string y) := by
        rw [blk_cell hh, ← hy]; simp [hks]
      have f1 := blk_free hh k
      have HH := Ho.mk hh; have HSZ := Ho.mk hsz; have HA := Ho.mk hall
      clear hh hsz hall hy hks
      go_wp2
      go_roundw
      case rel =>
        refine ⟨k + 1, by omega, by go_num, ⟨?_⟩, ⟨HF.out.set (p := ⟨g, k, none⟩) (.inr rfl) _⟩⟩
        intro g' hg'
        injection hg' with hg'; injection hg' with hg' _ _; subst hg'
        refine ⟨_, blk_set HH.out k _, by rw [Array.size_setIfInBounds]; exact HSZ.out, ?_⟩
        intro j u hj hu
        rw [Array.getElem?_setIfInBounds_ne (by omega)] at hu
        exact HA.out j u (by omega) hu
      case measure => simp [intOf]; omega
    · obtain rfl : k = cap := by omega
      go_wp2
      go_end0
      exact ⟨rfl, HF.out⟩
theorem strs_blk {w : World} {g c : Nat} {l : List Bs} {n : Nat} (hn : l.length = n) (h : w.heap[g]? = some (.cells (strs l).toArray 9 (0, 0))) : IsStrs w (.slice (some ⟨g, 0, none⟩) n c) l := by
  subst hn
  refine ⟨_, _, rfl, fun i hi => ⟨g, 0, rfl, ?_⟩⟩
  rw [blk_cell h, Nat.zero_add]; simp [strs, hi]
set_option maxRecDepth 100000 in
set_option maxHeartbeats 1000000 in
theorem KeptTexts_calls (g : Nat) (v : Value) (l : List Bs) (w : World) (hl : l.length ≤ 100000) (hg : w.heap[g]? = some (.cells (strs (LT l)).toArray 9 (0, 0))) (hv : IsStrs w v l) :
    Calls Try.prog 20 #[.slice (some ⟨g, 0, none⟩) l.length (l.length + 3), v] w fun e w' => e = .returned (.bool true) ∧ Fr nob w w' := by
  have HV := Ho.mk hv
  obtain ⟨a, cap, rfl, _⟩ := hv
  have HG := Ho.mk hg; clear hg
  obtain ⟨n, hn⟩ : ∃ n, n = l.length + 3 := ⟨_, rfl⟩
  have hnI : (l.length : Int) + 3 = (n : Int) := by omega
  have hlb : (LT l).length = n := by unfold LT; rw [lentAt_len, hn]
  have hsl1 := fun g : Nat => slice_h (some ⟨g, 0, none⟩) l.length n n (Nat.le_refl _)
  have hwr : IntKind.i64.wrap (n : Int) = n := by rw [IntKind.wrap_i64]; omega
  have hlent : ∀ W, Fr nob w W → Calls Try.prog 10 #[.slice a l.length cap] W fun e w' => ∃ g, e = .returned (.slice (some ⟨g, 0, none⟩) l.length (l.length + 3)) ∧ w'.heap[g]? = some (.cells (strs (LT l)).toArray 9 (0, 0)) ∧ Fr nob w w' := fun W hF =>
    (LentTexts_calls (.slice a l.length cap) l W hl (HV.out.same hF)).mono (by
      rintro e w' ⟨g, rfl, _, hh, h2⟩
      exact ⟨g, rfl, hh, hF.call h2 (fun _ _ h => h.elim)⟩)
  have hsame : ∀ g1 W, Fr nob w W → W.heap[g1]? = some (.cells (strs (LT l)).toArray 9 (0, 0)) → Calls Try.prog 15 #[.slice (some ⟨g, 0, none⟩) n n, .slice (some ⟨g1, 0, none⟩) n n] W fun e w' => e = .returned (.bool true) ∧ Fr nob w w' := fun g1 W hF hh =>
    (SameTexts_calls _ _ (LT l) (LT l) W (strs_blk hlb (hF.block _ _ HG.out (fun h => h))) (strs_blk hlb hh) (by omega) (by omega)).mono (by
      rintro e w' ⟨rfl, h2⟩
      exact ⟨by simp, hF.call h2 (fun _ _ h => h.elim)⟩)
  rw [← hn]
  rw [← hn] at hlent
  have HN := Ho.mk hn; have HLB := Ho.mk hlb; have HL := Ho.mk hlent; have HSM := Ho.mk hsame
  clear hn hlb hlent hsame
  go_enter Try.func20, Try.ntmps20
  go_wp2_with (fail)
  go_region_held3 (fun W => Fr nob w W) (first | exact Fr.refl _ _ | exact (Fr.refl nob w).drew | assumption)
    (first
    | (go_at_call 10; refine (HL.out _ ?_).mono ?_; assumption; rintro e w1 ⟨g1, rfl, hh1, hF1⟩; have HH1 := Ho.mk hh1; clear hh1)
    | (go_at_call 15; refine (HSM.out _ _ hF1 HH1.out).mono ?_; rintro e w2 ⟨rfl, hF2⟩))
  go_wp2
  go_ret
  exact ⟨by simp, by assumption⟩
end Go.Proofs.Ytcmiidklddnfhaa
