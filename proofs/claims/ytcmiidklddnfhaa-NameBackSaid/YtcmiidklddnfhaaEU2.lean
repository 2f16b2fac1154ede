/-
  package name: letter.
-/
import Derived.Test.YtcmiidklddnfhaaET
import Derived.Test.YtcmiidklddnfhaaEL
namespace Go.Proofs.Ytcmiidklddnfhaa
open Go.RowKit
/-- The digits of a byte. -/
def digs (c : UInt8) : Bs := [c / 100, c / 10 % 10, c % 10]
/-- A byte as it stands in a text. -/
def escB (c : UInt8) : Bs := if c = 46 ∨ c = 92 then [92, c] else if c < 33 ∨ 126 < c then 92 :: (digs c).map (48 + ·) else [c]
/-- A byte's cell. -/
def bc (d : UInt8) : Value := .int .u8 (d.toNat : Int)
theorem digs_len (c : UInt8) : (digs c).length = 3 := rfl
theorem digs_cells (c : UInt8) : ((digs c).map bc).toArray = #[.int .u8 ((c.toNat : Int) / 100), .int .u8 ((c.toNat : Int) / 10 % 10), .int .u8 ((c.toNat : Int) % 10)] := by
  unfold digs bc
  simp [UInt8.toNat_div, UInt8.toNat_mod]
theorem digs_small (c : UInt8) : ∀ d ∈ digs c, d.toNat ≤ 9 := by
  intro d hd
  have := c.toNat_lt
  unfold digs at hd
  simp only [List.mem_cons, List.not_mem_nil, or_false] at hd
  rcases hd with rfl | rfl | rfl
  · simp [UInt8.toNat_div]; omega
  · simp [UInt8.toNat_div, UInt8.toNat_mod]; omega
  · simp [UInt8.toNat_mod]; omega
theorem dig_toNat {d : UInt8} (h : d.toNat ≤ 9) : (48 + (d.toNat : Int)) = ((48 + d : UInt8).toNat : Int) := by
  rw [UInt8.toNat_add]; simp; omega
theorem FN.trans2 {b : Nat} {D D' : Nat → Prop} {w W w' : World} (h : Fr (FN b D) w W) (k : Fr (FN b D') W w') (hd : ∀ k, k < w.heap.size → D k → D' k) (hb : b < w.heap.size) : Fr (FN b D) w w' :=
  h.call k (fun i _ hi => by
    rcases hi with rfl | ⟨h1, h2⟩
    · exact .inr (.inl rfl)
    · by_cases hl : w.heap.size ≤ i
      · exact .inl hl
      · exact .inr (.inr ⟨h1, fun hD => h2 (hd i (by omega) hD)⟩))
set_option maxRecDepth 100000 in
set_option maxHeartbeats 2000000 in
theorem letter_calls (b : Nat) (D : Nat → Prop) (l : Bs) (c : UInt8) (w : World) (h : SN b D l w) (hD : ∀ k, D k → k < w.heap.size) (hlen : l.length + 10 ≤ 1000000) :
    Calls Try.prog 42 #[.pointer (some ⟨b, 0, none⟩), .int .u8 (c.toNat : Int)] w fun e w' => e = .returned (.tuple #[]) ∧ SN b D (l ++ escB c) w' ∧ Fr (FN b D) w w' := by
  have hlt := h.lt
  obtain ⟨x, hx⟩ : ∃ x : Nat, c.toNat = x := ⟨_, rfl⟩
  have hx8 : x < 256 := by rw [← hx]; exact c.toNat_lt
  by_cases h46 : c = 46 ∨ c = 92
  · have HE := Ho.mk (show escB c = [92, c] by unfold escB; rw [if_pos h46])
    have H1 := Ho.mk (WriteByte_n b D l 92 92 rfl w h hD (by omega))
    have H2 := Ho.mk (fun W (hs : SN b D (l ++ [92]) W) (hf : Fr (FN b D) w W) => WriteByte_n b D (l ++ [92]) c (c.toNat : Int) rfl W hs (fun k hk => Nat.lt_of_lt_of_le (hD k hk) hf.size) (by simp; omega))
    have HH := Ho.mk h
    clear h hD
    have hk : x = 46 ∨ x = 92 := by rw [← hx]; rcases h46 with rfl | rfl <;> simp
    rw [hx] at H2 ⊢
    clear h46 hx
    rcases hk with rfl | rfl
    all_goals
      go_enter Try.func42, Try.ntmps42
      go_wp2_with (fail)
      refine H1.out.mono ?_
      rintro e w1 ⟨rfl, hs1, hf1⟩
      have HS1 := Ho.mk hs1
      clear hs1
      go_wp2_with (fail)
      refine (H2.out _ HS1.out hf1).mono ?_
      rintro e w2 ⟨rfl, hs2, hf2⟩
      have HS2 := Ho.mk hs2
      clear hs2
      go_wp2_with (fail)
      go_end0
      exact ⟨rfl, by rw [HE.out]; have := HS2.out; rwa [List.append_assoc] at this, hf1.trans hf2⟩
  have hk1 : x ≠ 46 := fun e => h46 (.inl (UInt8.toNat_inj.1 (by rw [hx, e]; rfl)))
  have hk2 : x ≠ 92 := fun e => h46 (.inr (UInt8.toNat_inj.1 (by rw [hx, e]; rfl)))
  have q1 : ((x : Int) == 46) = false := by rw [beq_eq_false_iff_ne]; omega
  have q2 : ((x : Int) == 92) = false := by rw [beq_eq_false_iff_ne]; omega
  have hlt33 : c < 33 ↔ x < 33 := by rw [UInt8.lt_iff_toNat_lt, hx]; exact Iff.rfl
  have hgt126 : 126 < c ↔ 126 < x := by rw [UInt8.lt_iff_toNat_lt, hx]; exact Iff.rfl
  by_cases hp : c < 33 ∨ 126 < c
  · have HE := Ho.mk (show escB c = 92 :: (digs c).map (48 + ·) by unfold escB; rw [if_neg h46, if_pos hp])
    have hp' : x < 33 ∨ 126 < x := by rw [hlt33, hgt126] at hp; exact hp
    have H1 := Ho.mk (WriteByte_n b D l 92 92 rfl w h hD (by omega))
    have HH := Ho.mk h; have HD := Ho.mk hD; have HX := Ho.mk hx
    rw [hx]
    clear h hD hp h46 hlt33 hgt126 hk1 hk2 hx
    by_cases h33 : x < 33
    case' pos =>
      have q3 : decide ((x : Int) < 33) = true := decide_eq_true (by omega)
      have q3' : decide (x < 33) = true := decide_eq_true h33
    case' neg =>
      have q3 : decide ((x : Int) < 33) = false := decide_eq_false (by omega)
      have q3' : decide (x < 33) = false := decide_eq_false h33
      have q4 : decide ((126 : Int) < (x : Int)) = true := decide_eq_true (by omega)
      have q4' : decide (126 < x) = true := decide_eq_true (by omega)
    all_goals
      clear h33 hp'
      go_enter Try.func42, Try.ntmps42
      go_wp2_with (fail)
      refine H1.out.mono ?_
      rintro e w1 ⟨rfl, hs1, hf1⟩
      have HS1 := Ho.mk hs1
      clear hs1
      go_wp2_with (fail)
    all_goals
      obtain ⟨g, hg⟩ : ∃ g, w1.heap.size = g := ⟨_, rfl⟩
      have hcs := digs_cells c
      rw [HX.out] at hcs
      rw [hg, ← hcs]
      have hgb : w1.heap[g]? = none := by rw [← hg]; exact Array.getElem?_eq_none (Nat.le_refl _)
      have hblk : (w1.alloc (.cells ((digs c).map bc).toArray 5)).heap[g]? = some (.cells ((digs c).map bc).toArray 5 (0, 0)) := blk_new' hg.symm
      have hs2 : SN b (fun k => D k ∨ k = g) (l ++ [92] ++ ((digs c).map (48 + ·)).take 0) (w1.alloc (.cells ((digs c).map bc).toArray 5)) := by
        rw [List.take_zero, List.append_nil]
        have h0 : SN b (fun k => D k ∨ k = g) (l ++ [92]) w1 := HS1.out.more (fun k hk hd => by rcases hd with hd | hd; exact hd; omega)
        exact h0.fr ((Fr.refl _ w1).alloc _)
      have hf2 := hf1.alloc (.cells ((digs c).map bc).toArray 5)
      have hwg : w.heap.size ≤ g := by rw [← hg]; exact hf1.size
      have HB2 := Ho.mk hblk; have HS2 := Ho.mk hs2; have HF2 := Ho.mk hf2
      generalize w1.alloc (.cells ((digs c).map bc).toArray 5) = w2 at *
      clear hblk hs2 hf2 hf1 HS1 hcs hgb hg H1 HH
      go_loopw [39] (fun iv wr => ∃ k : Nat, k ≤ 3 ∧ iv = .int .i64 (k : Int) ∧ Ho (wr.heap[g]? = some (.cells ((digs c).map bc).toArray 5 (0, 0))) ∧ Ho (SN b (fun k => D k ∨ k = g) (l ++ [92] ++ ((digs c).map (48 + ·)).take k) wr) ∧ Ho (Fr (FN b D) w wr)) (fun iv _ => 3 - (intOf iv).toNat)
      case atStart => exact ⟨0, by omega, rfl, HB2, HS2, HF2⟩
      case round =>
        obtain ⟨k, hk, rfl, HB, HS, HF⟩ := hrel
        by_cases hlt3 : k < 3
        · have hkl : k < (digs c).length := hlt3
          have hd9 := digs_small c _ (List.getElem_mem hkl)
          have hcell : wr.cell? ⟨g, k, none⟩ = some (bc (digs c)[k]) := by
            rw [blk_cell HB.out]; simp [hkl]
          have htk : ((digs c).map (48 + ·)).take (k + 1) = ((digs c).map (48 + ·)).take k ++ [48 + (digs c)[k]] := by
            rw [List.take_succ_eq_append_getElem (by rw [List.length_map]; exact hkl)]; simp
          generalize (digs c)[k] = d at *
          unfold bc at hcell
          have hdn := dig_toNat hd9
          have HW := Ho.mk (WriteByte_n b (fun k => D k ∨ k = g) _ (48 + d) _ rfl wr HS.out (fun k hk => by
            rcases hk with hk | hk
            · have := HD.out k hk; have := HF.out.size; omega
            · rw [hk]; exact lt_of_blk HB.out) (by simp; omega))
          rw [← hdn] at HW
          obtain ⟨y, hy⟩ : ∃ y : Nat, d.toNat = y := ⟨_, rfl⟩
          rw [hy] at HW hcell hd9
          have HT := Ho.mk htk
          have hwr : IntKind.u8.wrap (48 + (y : Int)) = 48 + (y : Int) := by rw [IntKind.wrap_u8]; omega
          clear htk hdn hy
          go_wp2_with (fail)
          refine HW.out.mono ?_
          rintro e w3 ⟨rfl, hs3, hf3⟩
          have HS3 := Ho.mk hs3; have HF3 := Ho.mk hf3
          clear hs3 hf3
          go_wp2_with (fail)
          go_roundw
          case rel => 
            refine ⟨k + 1, by omega, by go_num, ⟨HF3.out.block _ _ HB.out ?_⟩, ⟨?_⟩, ⟨FN.trans2 HF.out HF3.out (fun k _ h => .inl h) hlt⟩⟩
            · rintro (h | ⟨_, h⟩)
              · omega
              · exact h (.inr rfl)
            · rw [HT.out, ← List.append_assoc]; exact HS3.out
          case measure => simp [intOf]; omega
        · obtain rfl : k = 3 := by omega
          go_wp2_with (fail)
          go_end0
          refine ⟨rfl, ?_, HF.out⟩
          have h3 := HS.out.more (D' := D) (fun k _ h => .inl h)
          rw [List.take_of_length_le (by simp [digs_len])] at h3
          rw [HE.out]
          rwa [List.append_assoc] at h3
  · have HE := Ho.mk (show escB c = [c] by unfold escB; rw [if_neg h46, if_neg hp])
    have h33 : ¬ x < 33 := fun e => hp (.inl (hlt33.2 e))
    have h126 : ¬ 126 < x := fun e => hp (.inr (hgt126.2 e))
    have q3 : decide ((x : Int) < 33) = false := decide_eq_false (by omega)
    have q3' : decide (x < 33) = false := decide_eq_false h33
    have q4 : decide ((126 : Int) < (x : Int)) = false := decide_eq_false (by omega)
    have q4' : decide (126 < x) = false := decide_eq_false h126
    have H1 := Ho.mk (WriteByte_n b D l c (x : Int) (by rw [← hx]) w h hD (by omega))
    rw [hx]
    clear h hD hp h46 hlt33 hgt126 hk1 hk2 hx h33 h126
    go_enter Try.func42, Try.ntmps42
    go_wp2_with (fail)
    refine H1.out.mono ?_
    rintro e w1 ⟨rfl, hs1, hf1⟩
    have HS1 := Ho.mk hs1
    clear hs1
    go_wp2_with (fail)
    go_end0
    exact ⟨rfl, by rw [HE.out]; exact HS1.out, hf1⟩
end Go.Proofs.Ytcmiidklddnfhaa
