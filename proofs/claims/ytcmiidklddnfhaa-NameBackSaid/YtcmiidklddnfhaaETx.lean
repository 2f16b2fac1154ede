/-
  package name: Text.
-/
import Derived.Test.YtcmiidklddnfhaaEU2
import Derived.Test.YtcmiidklddnfhaaEM
namespace Go.Proofs.Ytcmiidklddnfhaa
open Go.RowKit
/-- A label as it stands in a text. -/
def textL (l : Bs) : Bs := l.flatMap escB ++ [46]
def textN (ls : List Bs) : Bs := if ls = [] then [46] else ls.flatMap textL
def textP (n : Bs) : Bs × Int := if (labels n).2 = 0 then (textN (labels n).1, 0) else ([], (labels n).2)
def TextPost (n : Bs) (w : World) (e : Ending) (w' : World) : Prop := e = .returned (.tuple #[str (textP n).1, .int .i64 (textP n).2]) ∧ Fr nob w w'
theorem TextPost.mk' {n : Bs} {w w' : World} {s : ByteArray} {t : Bs} {e : Int} (h : textP n = (t, e)) (hs : mk t = s) (hf : Fr nob w w') : TextPost n w (.returned (.tuple #[.string s, .int .i64 e])) w' := ⟨by rw [h, ← hs]; rfl, hf⟩
theorem escB_len (c : UInt8) : (escB c).length ≤ 4 := by
  unfold escB; split
  · simp
  · split
    · simp [digs_len]
    · simp
theorem flat_len (f : UInt8 → Bs) (m : Nat) (hf : ∀ c, (f c).length ≤ m) (x : Bs) : (x.flatMap f).length ≤ m * x.length := by
  induction x with
  | nil => simp
  | cons c x ih => rw [List.flatMap_cons, List.length_append, List.length_cons, Nat.mul_add]; have := hf c; omega
theorem textL_len {x : Bs} (h : x.length ≤ 63) : (textL x).length ≤ 253 := by
  unfold textL
  have := flat_len escB 4 escB_len x
  rw [List.length_append]; simp only [List.length_cons, List.length_nil]; omega
theorem texts_len (ls : List Bs) (h : ∀ l ∈ ls, l.length ≤ 63) : (ls.flatMap textL).length ≤ 253 * ls.length := by
  induction ls with
  | nil => simp
  | cons l ls ih =>
    rw [List.flatMap_cons, List.length_append, List.length_cons, Nat.mul_add]
    have := textL_len (h l (by simp))
    have := ih (fun x hx => h x (List.mem_cons_of_mem _ hx))
    omega
theorem Fr.fn {b : Nat} {D : Nat → Prop} {w W w' : World} (h : Fr nob w W) (k : Fr (FN b D) W w') (hb : w.heap.size ≤ b) : Fr nob w w' :=
  h.call k (fun i _ hi => .inl (by rcases hi with rfl | ⟨h1, _⟩ <;> omega))
set_option maxRecDepth 100000 in
set_option maxHeartbeats 4000000 in
theorem Text_calls (n : Bs) (w : World) (hn : n.length ≤ 100000) : Calls Try.prog 33 #[.string (mk n)] w (TextPost n w) := by
  have hcn := Labels_calls n w hn
  unfold LabPost at hcn
  have hspec := labels_spec n
  obtain ⟨ll, en, hle⟩ : ∃ ll en, labels n = (ll, en) := ⟨_, _, rfl⟩
  have hp : textP n = if en = 0 then (textN ll, 0) else ([], en) := by unfold textP; rw [hle]
  rw [hle] at hcn hspec
  simp only at hcn hspec
  generalize mk n = tn at *
  have HP := Ho.mk hp; have HSP := Ho.mk hspec
  clear hp hspec hle
  go_enter Try.func33, Try.ntmps33
  go_wp2_with (fail)
  refine hcn.mono ?_
  clear hcn
  rintro r w1 ⟨v1, rfl, hown1, _, hf1⟩
  obtain ⟨a1, cap1, rfl⟩ := own_shape hown1
  have HS1 := Ho.mk (own_strs hown1); have HF1 := Ho.mk hf1
  clear hown1 hf1
  by_cases h1 : en = 0
  case neg =>
    have k1 : (en != 0) = true := by simp [h1]
    have HPP := Ho.mk (show textP n = ([], en) by rw [HP.out, if_neg h1])
    clear h1
    go_wp2_with (fail)
    go_ret2
    exact TextPost.mk' HPP.out rfl HF1.out
  have k1 : (en != 0) = false := by rw [h1]; rfl
  obtain ⟨hg, hn2, hn3⟩ := HSP.out h1
  have HPP := Ho.mk (show textP n = (textN ll, 0) by rw [HP.out, if_pos h1])
  clear HSP HP
  cases ll with
  | nil =>
    clear h1 hg hn2 hn3
    go_wp2_with (fail)
    go_ret2
    exact TextPost.mk' HPP.out rfl HF1.out
  | cons l0 ls0 =>
  have HT := Ho.mk (show textN (l0 :: ls0) = (l0 :: ls0).flatMap textL by unfold textN; rw [if_neg (by simp)])
  obtain ⟨ll, hll⟩ : ∃ ll, l0 :: ls0 = ll := ⟨_, rfl⟩
  have hl0 : 0 < ll.length := by rw [← hll]; simp
  rw [hll] at HPP HT hg hn2 HS1 ⊢
  have k2 : ((ll.length : Int) == 0) = false := by rw [beq_eq_false_iff_ne]; omega
  clear h1 hll
  go_wp2_with (fail)
  obtain ⟨b, hb⟩ : ∃ b, w1.heap.size = b := ⟨_, rfl⟩
  have hn0 := blk_new w1 (.cells #[.pointer none, .slice none 0 0] 55)
  have hf0 := (Fr.refl nob w1).alloc (.cells #[.pointer none, .slice none 0 0] 55)
  rw [hb] at hn0 ⊢
  have hs0 := SN.new nob hn0
  have HS0 := Ho.mk hs0; have HF0 := Ho.mk hf0
  have h63 : ∀ l ∈ ll, l.length ≤ 63 := fun l hl => (hg l hl).2
  have hllen : ll.length ≤ 255 := by have := enc_len2 ll; rw [← hn2] at this; omega
  have hb1 : w1.heap.size ≤ b := by omega
  have H63 := Ho.mk h63; have HB1 := Ho.mk hb1
  generalize w1.alloc (.cells #[.pointer none, .slice none 0 0] 55) = w2 at *
  obtain ⟨ln, hln⟩ : ∃ m, ll.length = m := ⟨_, rfl⟩
  rw [hln] at hl0 k2 hllen ⊢
  have HLN := Ho.mk hln
  clear hn0 hf0 hs0 hg hn2 hn3 h63 hb hb1 hln
  go_loopw [23] (fun iv wr => ∃ (k : Nat), k ≤ ln ∧ iv = .int .i64 (k : Int) ∧ Ho (SN b nob ((ll.take k).flatMap textL) wr) ∧ Ho (Fr nob w1 wr)) (fun iv _ => ln - (intOf iv).toNat)
  case atStart => exact ⟨0, by omega, rfl, HS0, HF0⟩
  case round =>
    obtain ⟨k, hk, rfl, HS, HF⟩ := hrel
    clear HS0 HF0
    by_cases hlt : k < ln
    · have hkl : k < ll.length := by rw [HLN.out]; exact hlt
      obtain ⟨a4, cap4, hav, hcells⟩ := HS1.out
      obtain ⟨b0, off, ha, hcell⟩ := hcells k hkl
      injection hav with hav1 _ hav3
      subst hav1 hav3
      subst ha
      have hcell := HF.out.cell (fun h => h) hcell
      have htk : (ll.take (k + 1)).flatMap textL = (ll.take k).flatMap textL ++ textL ll[k] := by
        rw [List.take_succ_eq_append_getElem hkl, List.flatMap_append]; simp
      have hx63 := H63.out _ (List.getElem_mem hkl)
      have hacc := texts_len (ll.take k) (fun l hl => H63.out l (List.mem_of_mem_take hl))
      rw [List.length_take] at hacc
      have hacc2 : ((ll.take k).flatMap textL).length ≤ 70000 := by omega
      generalize ll[k] = x at *
      generalize (ll.take k).flatMap textL = acc at *
      unfold str at hcell
      obtain ⟨s, hs⟩ : ∃ s, mk x = s := ⟨_, rfl⟩
      have hsz : s.size = x.length := by rw [← hs, mk_size]
      rw [hs] at hcell
      obtain ⟨sz, hsz2⟩ : ∃ m, s.size = m := ⟨_, rfl⟩
      have HSS := Ho.mk hs; have HSZ := Ho.mk hsz; have HTK := Ho.mk htk; have HSZ2 := Ho.mk hsz2
      have hsz3 : sz ≤ 63 := by omega
      clear hs hsz htk hacc hx63 hcells
      go_wp2_with (fail)
      have hsz4 : x.length = sz := by rw [← HSZ.out]; exact HSZ2.out
      have HX := Ho.mk hsz4
      clear hsz4
      go_loopw [29] (fun iv wi => ∃ (j : Nat), j ≤ sz ∧ iv = .int .i64 (j : Int) ∧ Ho (SN b nob (acc ++ (x.take j).flatMap escB) wi) ∧ Ho (Fr nob w1 wi)) (fun iv _ => sz - (intOf iv).toNat)
      case atStart => exact ⟨0, by omega, rfl, ⟨by rw [List.take_zero]; show SN b nob (acc ++ []) wr; rw [List.append_nil]; exact HS.out⟩, HF⟩
      case round =>
        obtain ⟨j, hj, rfl, HSi, HFi⟩ := hrel
        by_cases hjl : j < sz
        · have hjx : j < x.length := by rw [HX.out]; exact hjl
          have hjs : j < s.size := by rw [HSZ2.out]; exact hjl
          have htj : (x.take (j + 1)).flatMap escB = (x.take j).flatMap escB ++ escB x[j] := by
            rw [List.take_succ_eq_append_getElem hjx, List.flatMap_append]; simp
          have hsj : s[j] = x[j] := by
            have h := HSS.out; subst h; rfl
          have hal := flat_len escB 4 escB_len (x.take j)
          rw [List.length_take] at hal
          generalize x[j] = c at *
          have hlc := letter_calls b nob _ c wr HSi.out (fun _ h => h.elim) (by rw [List.length_append]; omega)
          have HLC := Ho.mk hlc; have HTJ := Ho.mk htj
          have hcc2 : c.toNat < 256 := c.toNat_lt
          clear hlc htj hal hjx
          go_wp2_with (fail)
          with_reducible refine HLC.out.mono ?_
          clear HLC
          rintro r w5 ⟨rfl, h5, f5⟩
          have HS5 := Ho.mk (show SN b nob (acc ++ (x.take (j + 1)).flatMap escB) w5 by rw [HTJ.out, ← List.append_assoc]; exact h5)
          have HF5 := Ho.mk (HFi.out.fn f5 HB1.out)
          clear h5 f5
          go_wp2_with (fail)
          go_roundw
          case rel => exact ⟨j + 1, by omega, by go_num, HS5, HF5⟩
          case measure => simp [intOf]; omega
        · obtain rfl : j = sz := by omega
          have hs6 := HSi.out
          rw [List.take_of_length_le (by rw [HX.out]; exact Nat.le_refl _)] at hs6
          have hal := flat_len escB 4 escB_len x
          rw [HX.out] at hal
          have HWB := Ho.mk (WriteByte_n b nob _ 46 46 rfl wr hs6 (fun _ h => h.elim) (by rw [List.length_append]; omega))
          clear hs6 hal HSi
          go_wp2_with (fail)
          with_reducible refine HWB.out.mono ?_
          clear HWB
          rintro r w5 ⟨rfl, h5, f5⟩
          have HS5 := Ho.mk (show SN b nob ((ll.take (k + 1)).flatMap textL) w5 by rw [HTK.out]; unfold textL; rw [← List.append_assoc]; exact h5)
          have HF5 := Ho.mk (HFi.out.fn f5 HB1.out)
          clear h5 f5
          go_wp2_with (fail)
          go_roundw
          case rel => exact ⟨k + 1, by omega, by go_num, HS5, HF5⟩
          case measure => simp [intOf]; omega
    · obtain rfl : k = ln := by omega
      have hs6 := HS.out
      rw [List.take_of_length_le (by rw [HLN.out]; exact Nat.le_refl _), ← HT.out] at hs6
      have hst := String_sb b b _ wr hs6.sb
      have HST := Ho.mk hst
      clear hs6 hst HS
      go_wp2_with (fail)
      refine HST.out.mono ?_
      clear HST
      rintro r w5 ⟨rfl, h5, f5⟩
      have HF5 := Ho.mk (HF1.out.trans (HF.out.sb f5 HB1.out HB1.out))
      clear h5 f5
      go_wp2_with (fail)
      go_ret2
      exact TextPost.mk' HPP.out rfl HF5.out
end Go.Proofs.Ytcmiidklddnfhaa
