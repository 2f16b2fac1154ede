/-
  ostiarykit: LentBytes, OverBytes, KeptBytes.
-/
import Derived.Test.YtagbgenbhbgpoaaR2
import Derived.Laws.CopyOwn
import Derived.RegionTactic
import Derived.Deep.RegionHeld3
namespace Go.Proofs.Ytagbgenbhbgpoaa
open Go.RowKit
/-- Bytes that are lent, when the marks below i are in. -/
def lentAt (l : List UInt8) (i : Nat) : List UInt8 := (List.range (l.length + 3)).map fun j => if j < l.length then l.getD j 0 else if j < i then UInt8.ofNat (160 + j % 90) else 0
def LB (l : List UInt8) : List UInt8 := lentAt l (l.length + 3)
theorem lentAt_len (l : List UInt8) (i : Nat) : (lentAt l i).length = l.length + 3 := by unfold lentAt; simp
theorem lentAt_set (l : List UInt8) (i : Nat) (h : l.length ≤ i) : (lentAt l i).set i (UInt8.ofNat (160 + i % 90)) = lentAt l (i + 1) := by
  unfold lentAt
  apply List.ext_getElem
  · simp
  · intro j h1 h2
    simp only [List.getElem_set, List.getElem_map, List.getElem_range]
    by_cases e : i = j
    · subst e; rw [if_pos rfl, if_neg (by omega), if_pos (by omega)]
    · rw [if_neg e]
      by_cases h3 : j < l.length
      · rw [if_pos h3, if_pos h3]
      · rw [if_neg h3, if_neg h3]
        by_cases h4 : j < i
        · rw [if_pos h4, if_pos (by omega)]
        · rw [if_neg h4, if_neg (by omega)]
theorem lentAt_start (l : List UInt8) : splice (Lib.byteCells (List.replicate (l.length + 3) 0)) 0 (Lib.byteCells l) = Lib.byteCells (lentAt l l.length) := by
  unfold splice lentAt Lib.byteCells
  apply List.ext_getElem
  · simp
  · intro j h1 h2
    simp at h1
    simp only [List.take_zero, List.nil_append, List.getElem_map, List.getElem_range]
    by_cases h3 : j < l.length
    · rw [List.getElem_append_left (by simpa using h3)]
      simp [h3]
    · rw [List.getElem_append_right (by simp; omega)]
      simp only [List.getElem_drop, List.getElem_map, List.getElem_replicate]
      rw [if_neg h3, if_neg h3]
set_option maxRecDepth 100000 in
set_option maxHeartbeats 1000000 in
theorem LentBytes_calls (v : Value) (l : List UInt8) (w : World) (hl : l.length ≤ 100000) (hv : BS w.heap.size w v l) :
    Calls Try.prog 7 #[v] w fun e w' => ∃ g, e = .returned (.slice (some ⟨g, 0, none⟩) l.length (l.length + 3)) ∧ w.heap.size ≤ g ∧ w'.heap[g]? = some (.cells (Lib.byteCells (LB l)).toArray 5 (0, 0)) ∧ Fr nob w w' := by
  obtain ⟨a, cap, rfl, hcap, _, hcell⟩ := hv
  obtain ⟨n, hn⟩ : ∃ n, n = l.length + 3 := ⟨_, rfl⟩
  have hnI : (l.length : Int) + 3 = (n : Int) := by omega
  have hmk := make_bytes n (by omega)
  have hnn : n ≤ 200000 := by omega
  have HN := Ho.mk hn; have HC := Ho.mk hcell; clear hn hcell
  have hst := lentAt_start l
  rw [← HN.out] at hst
  have HST := Ho.mk hst; clear hst
  have hln : l.length ≤ n := by have := HN.out; omega
  go_enter Try.func7, Try.ntmps7
  go_wp2_with (with_reducible refine wpList_copy_splice rfl (.tmp 9) (.tmp 10) 22 22 rfl 5 Try.underlying22 (by kernel_rfl) _ _ _ _ _ _ rfl rfl w.heap.size 0 (Lib.byteCells (List.replicate n 0)) 5 (blk_new _ _) (Lib.byteCells l) ?c1 ?c2 ?c3 ?c4 w.heap.size w ?c5 (Nat.le_refl _) ?_)
  case c1 => rw [Lib.byteCells_length]; exact (Nat.min_eq_left hln).symm
  case c2 =>
    intro hpos
    rw [Lib.byteCells_length] at hpos
    obtain ⟨b, off, rfl, hb, hc0⟩ := HC.out 0 hpos
    refine ⟨_, rfl, fun j v hj => ?_⟩
    have hjl : j < l.length := by
      have := (List.getElem?_eq_some_iff.1 hj).1; rw [Lib.byteCells_length] at this; exact this
    obtain ⟨b', off', h, hb', h2⟩ := HC.out j hjl
    injection h with h
    rw [h, addr_add]
    have h3 := ((Fr.refl nob w).alloc (.cells (Lib.byteCells (List.replicate n 0)).toArray 5)).cell (fun h => h) h2
    rw [h3]
    simp [Lib.byteCells, hjl] at hj
    rw [hj]
  case c3 => rw [Lib.byteCells_length, Lib.byteCells_length, List.length_replicate]; omega
  case c4 => intro u hu; simp [Lib.byteCells] at hu; obtain ⟨b, _, rfl⟩ := hu; rfl
  case c5 => exact (Below.refl _ _).alloc (Nat.le_refl _) _
  intro w1 hg1 hb1
  have HG := Ho.mk hg1.out; clear hg1
  have hF1 : Fr nob w w1 := (Fr.of_below hb1).mono (fun k hk h => by omega)
  rw [HST.out] at HG
  clear hmk hb1
  go_wp2_with (fail)
  go_loopw [4] (fun i wr => ∃ k : Nat, l.length ≤ k ∧ k ≤ n ∧ i = .int .i64 k ∧ Ho (wr.heap[w.heap.size]? = some (.cells (Lib.byteCells (lentAt l k)).toArray 5 (0, 0))) ∧ Fr nob w wr)
    (fun i _ => n - (intOf i).toNat)
  case atStart => exact ⟨l.length, Nat.le_refl _, hln, rfl, HG, hF1⟩
  case round =>
    obtain ⟨k, hk1, hk2, rfl, HB, hF⟩ := hrel
    by_cases hlt : k < n
    · have hkl : k < (lentAt l k).length := by rw [lentAt_len, ← HN.out]; exact hlt
      obtain ⟨y, hy⟩ : ∃ y, (lentAt l k)[k] = y := ⟨_, rfl⟩
      have c1 : wr.cell? ⟨w.heap.size, k, none⟩ = some (.int .u8 y.toNat) := by
        rw [blk_cell HB.out, ← hy]; simp [Lib.byteCells, hkl]
      have f1 := blk_free HB.out k
      have hm : (160 + (k : Int) % 90) % 256 = (160 + (k : Int) % 90) := by omega
      clear hkl hy
      go_wp2
      go_roundw
      case rel =>
        have h := blk_set HB.out k (.int .u8 (160 + (k : Int) % 90))
        have e2 : (UInt8.ofNat (160 + k % 90)).toNat = 160 + k % 90 := ofN (by omega)
        have e3 : (Lib.byteCells (lentAt l k)).toArray.setIfInBounds k (.int .u8 (160 + (k : Int) % 90)) = (Lib.byteCells (lentAt l (k + 1))).toArray := by
          rw [← lentAt_set l k hk1]
          unfold Lib.byteCells
          rw [List.map_set, e2]
          simp
        rw [e3] at h
        exact ⟨k + 1, by omega, by omega, by go_num, ⟨h⟩, hF.set (.inl (Nat.le_refl _)) _⟩
      case measure => simp [intOf]; omega
    · obtain rfl : k = n := by omega
      have hsl := slice_h (some ⟨w.heap.size, 0, none⟩) k k l.length (by omega) wr
      go_wp2_with (fail)
      go_ret
      refine ⟨w.heap.size, ?_, Nat.le_refl _, ?_, hF⟩
      · rw [← HN.out]; rfl
      · unfold LB; rw [← HN.out]; exact HB.out
theorem xor_byte (y : UInt8) : ∃ b : UInt8, bits .xor .u8 (y.toNat : Int) 90 = b.toNat := by
  have hy := y.toNat_lt
  refine ⟨UInt8.ofNat (y.toNat ^^^ 90), ?_⟩
  have h1 : y.toNat ^^^ 90 < 256 := Nat.xor_lt_two_pow (n := 8) hy (by decide)
  rw [ofN h1]
  exact u8_xor_nat y.toNat 90 hy (by decide)
set_option maxRecDepth 100000 in
set_option maxHeartbeats 1000000 in
theorem OverBytes_calls (ao : Option Addr) (n cap : Nat) (xs : List Value) (B : Nat) (w : World) (hc : cap ≤ 9223372036854775807) (hown : w.ownsRow B 5 1 (.slice ao n cap) n xs) (hQ : AllQ IsByte 5 w (.slice ao n cap)) :
    Calls Try.prog 15 #[.slice ao n cap] w fun e w' => e = .returned (.tuple #[]) ∧ Fr (fun k => (Value.slice ao n cap).ownBlock = some k) w w' := by
  have hrow : ∀ (g : Nat), ao = some ⟨g, 0, none⟩ → ∃ cur : Array Value, w.heap[g]? = some (.cells cur 5 (0, 0)) ∧ cur.size = cap ∧ ∀ u ∈ cur.toList, IsByte u := by
    intro g hg
    rcases hown.2 with ⟨h, _⟩ | ⟨g', cap', cur, h, hB, hh, h1, h2, h3, h4⟩
    · injection h with h _ _; rw [h] at hg; cases hg
    · injection h with e1 e2 e3
      rw [hg] at e1; injection e1 with e1; injection e1 with e1 _ _
      subst e1 e3
      exact ⟨cur, hh, by omega, hQ g (by rw [hg]; rfl) cur _ hh⟩
  have hsome : 0 < cap → ∃ g, ao = some ⟨g, 0, none⟩ := by
    intro hp
    rcases hown.2 with ⟨h, _⟩ | ⟨g', cap', cur, h, _⟩
    · injection h with _ _ h; omega
    · injection h with e1 _ _; exact ⟨g', e1⟩
  have hsl := slice_h ao n cap cap (Nat.le_refl _)
  have HR := Ho.mk hrow; have HS := Ho.mk hsome; clear hrow hsome hown hQ
  go_enter Try.func15, Try.ntmps15
  go_wp2_with (fail)
  go_loopw [3] (fun i wr => ∃ k : Nat, k ≤ cap ∧ i = .int .i64 k ∧ Ho (∀ g, ao = some ⟨g, 0, none⟩ → ∃ cur : Array Value, wr.heap[g]? = some (.cells cur 5 (0, 0)) ∧ cur.size = cap ∧ ∀ u ∈ cur.toList, IsByte u) ∧ Ho (Fr (fun k => (Value.slice ao n cap).ownBlock = some k) w wr))
    (fun i _ => cap - (intOf i).toNat)
  case atStart => exact ⟨0, Nat.zero_le _, rfl, HR, ⟨Fr.refl _ _⟩⟩
  case round =>
    obtain ⟨k, hk, rfl, HC, HF⟩ := hrel
    by_cases hlt : k < cap
    · obtain ⟨g, rfl⟩ := HS.out (by omega)
      obtain ⟨cur, hh, hsz, hall⟩ := HC.out g rfl
      obtain ⟨y, hy⟩ : IsByte (cur[k]'(by omega)) := hall _ (by simp)
      have c1 : wr.cell? ⟨g, k, none⟩ = some (.int .u8 y.toNat) := by
        rw [blk_cell hh, ← hy]; simp
      have f1 := blk_free hh k
      obtain ⟨b, hb⟩ := xor_byte y
      have HB := Ho.mk hb; have HH := Ho.mk hh; have HSZ := Ho.mk hsz; have HA := Ho.mk hall
      have hyb : y.toNat < 256 := y.toNat_lt
      clear hb hh hsz hall hy
      go_wp2
      go_roundw
      case rel =>
        rw [HB.out]
        refine ⟨k + 1, by omega, by go_num, ⟨?_⟩, ⟨HF.out.set (p := ⟨g, k, none⟩) (.inr rfl) _⟩⟩
        intro g' hg'
        injection hg' with hg'; injection hg' with hg' _ _; subst hg'
        refine ⟨_, blk_set HH.out k _, by rw [Array.size_setIfInBounds]; exact HSZ.out, ?_⟩
        intro u hu
        rw [Array.toList_setIfInBounds] at hu
        rcases List.mem_or_eq_of_mem_set hu with h | h
        · exact HA.out u h
        · exact ⟨b, h⟩
      case measure => simp [intOf]; omega
    · obtain rfl : k = cap := by omega
      go_wp2
      go_end0
      exact ⟨rfl, HF.out⟩
theorem BS_blk {w : World} {g : Nat} {l : List UInt8} {n : Nat} (hn : l.length = n) (h : w.heap[g]? = some (.cells (Lib.byteCells l).toArray 5 (0, 0))) : BS w.heap.size w (.slice (some ⟨g, 0, none⟩) n n) l := by
  subst hn; exact BS_lit h
set_option maxRecDepth 100000 in
set_option maxHeartbeats 1000000 in
theorem KeptBytes_calls (g : Nat) (v : Value) (l : List UInt8) (w : World) (hl : l.length ≤ 100000) (hg : w.heap[g]? = some (.cells (Lib.byteCells (LB l)).toArray 5 (0, 0))) (hv : BS w.heap.size w v l) :
    Calls Try.prog 16 #[.slice (some ⟨g, 0, none⟩) l.length (l.length + 3), v] w fun e w' => e = .returned (.bool true) ∧ Fr nob w w' := by
  have HV := Ho.mk hv
  obtain ⟨a, cap, rfl, hcap, _, _⟩ := hv
  have HG := Ho.mk hg; clear hg
  obtain ⟨n, hn⟩ : ∃ n, n = l.length + 3 := ⟨_, rfl⟩
  have hnI : (l.length : Int) + 3 = (n : Int) := by omega
  have hlb : (LB l).length = n := by unfold LB; rw [lentAt_len, hn]
  have hsl1 := fun g : Nat => slice_h (some ⟨g, 0, none⟩) l.length n n (Nat.le_refl _)
  have hwr : IntKind.i64.wrap (n : Int) = n := i64_small (by omega) (by omega)
  have hlent : ∀ W, Fr nob w W → Calls Try.prog 7 #[.slice a l.length cap] W fun e w' => ∃ g, e = .returned (.slice (some ⟨g, 0, none⟩) l.length (l.length + 3)) ∧ w'.heap[g]? = some (.cells (Lib.byteCells (LB l)).toArray 5 (0, 0)) ∧ Fr nob w w' := fun W hF =>
    (LentBytes_calls (.slice a l.length cap) l W hl ((HV.out.fr hF (fun _ _ h => h)).mono hF.size)).mono (by
      rintro e w' ⟨g, rfl, _, hh, h2⟩
      exact ⟨g, rfl, hh, hF.call h2 (fun _ _ h => h.elim)⟩)
  rw [← hn]
  rw [← hn] at hlent
  have HN := Ho.mk hn; have HLB := Ho.mk hlb; have HL := Ho.mk hlent
  clear hn hlb hlent
  go_enter Try.func16, Try.ntmps16
  go_wp2_with (fail)
  go_region_held3 (fun W => Fr nob w W) (first | exact Fr.refl _ _ | exact (Fr.refl nob w).drew | assumption)
    (first
    | (go_at_call 7; refine (HL.out _ ?_).mono ?_; assumption; rintro e w1 ⟨g1, rfl, hh1, hF1⟩; have HH1 := Ho.mk hh1; clear hh1)
    | (go_at_call 14; refine (SameBytes_calls _ _ (LB l) (LB l) _ _ (BS_blk HLB.out (hF1.block _ _ HG.out (fun h => h))) (BS_blk HLB.out HH1.out)).mono ?_; rintro e w2 ⟨rfl, rfl⟩))
  go_wp2
  go_ret
  exact ⟨by simp, by assumption⟩
end Go.Proofs.Ytagbgenbhbgpoaa
