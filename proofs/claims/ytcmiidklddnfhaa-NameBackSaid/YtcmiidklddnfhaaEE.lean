/-
  package name: Join.
-/
import Derived.Test.YtcmiidklddnfhaaEC
import Derived.Test.YtcmiidklddnfhaaBld2
namespace Go.Proofs.Ytcmiidklddnfhaa
open Go.RowKit
/-- The first label that may not be: the error. -/
def joinE : List Bs → Int
  | [] => 0
  | l :: ls => if l = [] then 2 else if 63 < l.length then 3 else joinE ls
/-- Join. -/
def joinP (ls : List Bs) : Bs × Int := if joinE ls ≠ 0 then ([], joinE ls) else if 255 < (encN ls).length then ([], 3) else (encN ls, 0)
theorem joinE_zero (ls : List Bs) : joinE ls = 0 ↔ ∀ l ∈ ls, goodL l := by
  induction ls with
  | nil => simp [joinE]
  | cons l ls ih =>
    unfold joinE
    by_cases h1 : l = []
    · rw [if_pos h1]; subst h1; simp [goodL]
    · rw [if_neg h1]
      have hl : 1 ≤ l.length := by cases l with | nil => exact absurd rfl h1 | cons a b => simp
      by_cases h2 : 63 < l.length
      · rw [if_pos h2]; simp [goodL]; omega
      · rw [if_neg h2, ih]; simp [goodL]; omega
theorem joinE_app (a b : List Bs) (h : joinE a = 0) : joinE (a ++ b) = joinE b := by
  induction a with
  | nil => rfl
  | cons l ls ih =>
    have hg := (joinE_zero (l :: ls)).1 h
    have hl := hg l (by simp)
    have e : joinE (l :: (ls ++ b)) = joinE (ls ++ b) := by
      rw [joinE, if_neg (by rintro rfl; simp [goodL] at hl), if_neg (by have := hl.2; omega)]
    refine e.trans ?_
    exact ih ((joinE_zero ls).2 (fun x hx => hg x (List.mem_cons_of_mem _ hx)))
theorem joinE_split (ls : List Bs) (k : Nat) (hk : k < ls.length) (h : joinE (ls.take k) = 0) : joinE ls = (if ls[k] = [] then 2 else if 63 < ls[k].length then 3 else joinE (ls.drop (k + 1))) := by
  have h1 : ls = ls.take k ++ ls[k] :: ls.drop (k + 1) := by rw [← List.drop_eq_getElem_cons hk, List.take_append_drop]
  have h2 : joinE ls = joinE (ls[k] :: ls.drop (k + 1)) := by
    conv => lhs; rw [h1]
    exact joinE_app _ _ h
  rw [h2]; rfl
theorem joinE_take (ls : List Bs) (k : Nat) (hk : k < ls.length) (h : joinE (ls.take k) = 0) (hg : goodL ls[k]) : joinE (ls.take (k + 1)) = 0 := by
  rw [List.take_succ_eq_append_getElem hk, joinE_app _ _ h]
  exact (joinE_zero _).2 (by simpa using hg)
theorem enc_take (ls : List Bs) (k : Nat) (hk : k < ls.length) : (ls.take (k + 1)).flatMap encL = (ls.take k).flatMap encL ++ [UInt8.ofNat ls[k].length] ++ ls[k] := by
  rw [List.take_succ_eq_append_getElem hk, List.flatMap_append]; simp [encL]
theorem enc_len (ls : List Bs) (h : joinE ls = 0) : (ls.flatMap encL).length ≤ 64 * ls.length := by
  have h := (joinE_zero ls).1 h
  induction ls with
  | nil => simp
  | cons l ls ih =>
    rw [List.flatMap_cons, List.length_append]
    have h1 := ih (by exact (joinE_zero ls).2 (fun x hx => h x (List.mem_cons_of_mem _ hx))) (fun x hx => h x (List.mem_cons_of_mem _ hx))
    have h2 := (h l (by simp)).2
    simp [encL] at h1 ⊢; omega
theorem joinP_bad {ls : List Bs} {e : Int} (h : joinE ls = e) (he : e ≠ 0) : joinP ls = ([], e) := by unfold joinP; rw [h, if_pos he]
theorem joinP_long {ls : List Bs} (h : joinE ls = 0) (h2 : 255 < (encN ls).length) : joinP ls = ([], 3) := by unfold joinP; rw [h, if_neg (by simp), if_pos h2]
theorem joinP_ok {ls : List Bs} (h : joinE ls = 0) (h2 : (encN ls).length ≤ 255) : joinP ls = (encN ls, 0) := by unfold joinP; rw [h, if_neg (by simp), if_neg (by omega)]
def JoinPost (ls : List Bs) (w : World) (e : Ending) (w' : World) : Prop := e = .returned (.tuple #[str (joinP ls).1, .int .i64 (joinP ls).2]) ∧ Fr nob w w'
theorem JoinPost.mk' {ls : List Bs} {w w' : World} {b : Bs} {s : ByteArray} {e : Int} (h : joinP ls = (b, e)) (hs : mk b = s) (hf : Fr nob w w') : JoinPost ls w (.returned (.tuple #[.string s, .int .i64 e])) w' :=
  ⟨by rw [h, ← hs]; rfl, hf⟩
set_option maxHeartbeats 2000000 in
set_option maxRecDepth 100000 in
theorem Join_calls (v : Value) (ls : List Bs) (w : World) (hv : IsStrs w v ls) (hl : ls.length ≤ 100000) : Calls Try.prog 13 #[v] w (JoinPost ls w) := by
  obtain ⟨a, cap, rfl, hc⟩ := hv
  have HC := Ho.mk hc
  clear hc
  obtain ⟨ln, hln⟩ : ∃ n, ls.length = n := ⟨_, rfl⟩
  rw [hln] at hl ⊢
  have HLN := Ho.mk hln
  clear hln
  go_enter Try.func13, Try.ntmps13
  go_wp2_with (fail)
  have hn0 := blk_new w (.cells #[.pointer none, .slice none 0 0] 55)
  have hf0 := (Fr.refl nob w).alloc (.cells #[.pointer none, .slice none 0 0] 55)
  have hs0 := SB.new' hn0
  have HS0 := Ho.mk hs0; have HF0 := Ho.mk hf0
  clear hn0 hf0 hs0
  go_loopw [9] (fun iv wr => ∃ (k : Nat), k ≤ ln ∧ iv = .int .i64 (k : Int) ∧ Ho (joinE (ls.take k) = 0) ∧ Ho (SB w.heap.size w.heap.size ((ls.take k).flatMap encL) wr) ∧ Ho (Fr nob w wr)) (fun iv _ => ln - (intOf iv).toNat)
  case atStart => exact ⟨0, by omega, rfl, Ho.mk rfl, HS0, HF0⟩
  case round =>
    obtain ⟨k, hk, rfl, HE, HS, HF⟩ := hrel
    clear HS0 HF0
    by_cases hlt : k < ln
    · have hkl : k < ls.length := by rw [HLN.out]; exact hlt
      obtain ⟨b0, off, rfl, hcell⟩ := HC.out k hkl
      have hcell := HF.out.cell (fun h => h) hcell
      have hsp := joinE_split ls k hkl HE.out
      have het := enc_take ls k hkl
      have hgt := joinE_take ls k hkl HE.out
      have hlen2 := enc_len _ HE.out
      rw [List.length_take] at hlen2
      generalize ls[k] = x at *
      unfold str at hcell
      obtain ⟨s, hs⟩ : ∃ s, mk x = s := ⟨_, rfl⟩
      have hsz : s.size = x.length := by rw [← hs, mk_size]
      rw [hs] at hcell
      have HSS := Ho.mk hs; have HSZ := Ho.mk hsz; have HSP := Ho.mk hsp; have HET := Ho.mk het; have HGT := Ho.mk hgt; have HLEN := Ho.mk hlen2
      clear hs hsz hsp het hgt hlen2
      by_cases h0 : s.size = 0
      · have k1 : ((s.size : Int) == 0) = true := by rw [h0]; rfl
        have HP := Ho.mk (joinP_bad (e := 2) (by rw [HSP.out, if_pos (List.eq_nil_of_length_eq_zero (by rw [← HSZ.out]; exact h0))]) (by decide))
        clear h0
        go_wp2_with (fail)
        go_ret2
        exact JoinPost.mk' HP.out rfl HF.out
      · have k1 : ((s.size : Int) == 0) = false := by rw [beq_eq_false_iff_ne]; omega
        have hx0 : x ≠ [] := by rintro rfl; exact h0 (by rw [HSZ.out]; rfl)
        by_cases h1 : 63 < s.size
        · have k2 : decide ((63 : Int) < (s.size : Int)) = true := decide_eq_true (by omega)
          have k2' : decide (63 < s.size) = true := decide_eq_true (by omega)
          have HP := Ho.mk (joinP_bad (e := 3) (by rw [HSP.out, if_neg hx0, if_pos (by rw [← HSZ.out]; exact h1)]) (by decide))
          clear h0 h1 hx0
          go_wp2_with (fail)
          go_ret2
          exact JoinPost.mk' HP.out rfl HF.out
        · have k2 : decide ((63 : Int) < (s.size : Int)) = false := decide_eq_false (by omega)
          have k2' : decide (63 < s.size) = false := decide_eq_false (by omega)
          have hs1 : 1 ≤ s.size := by omega
          have hs63 : s.size ≤ 63 := by omega
          have HG := Ho.mk (HGT.out ⟨by rw [← HSZ.out]; omega, by rw [← HSZ.out]; omega⟩)
          clear h0 h1 hx0
          go_wp2_with (fail)
          have hwb := WriteByte_sb w.heap.size w.heap.size ((ls.take k).flatMap encL) (UInt8.ofNat s.size) (s.size : Int) (by simp; omega) wr HS.out (by have := HLEN.out; omega)
          refine hwb.mono ?_
          clear hwb
          rintro r w1 ⟨rfl, h1, f1⟩
          have HF1 := Ho.mk (HF.out.sb f1 (Nat.le_refl _) (Nat.le_refl _))
          have hws := WriteString_sb w.heap.size w.heap.size _ x w1 h1 (by have := HLEN.out; have := HSZ.out; rw [List.length_append]; simp only [List.length_cons, List.length_nil]; omega)
          have e1 : (⟨x.toArray⟩ : ByteArray) = s := HSS.out
          rw [e1] at hws
          have HWS := Ho.mk hws
          clear h1 f1 hws e1
          go_wp2_with (fail)
          refine HWS.out.mono ?_
          clear HWS
          rintro r w2 ⟨rfl, h2, f2⟩
          have HF2 := Ho.mk (HF1.out.sb f2 (Nat.le_refl _) (Nat.le_refl _))
          have HS2 := Ho.mk (show SB w.heap.size w.heap.size ((ls.take (k + 1)).flatMap encL) w2 by rw [HET.out]; rw [HSZ.out] at h2; exact h2)
          clear h2 f2
          go_wp2_with (fail)
          go_roundw
          case rel => exact ⟨k + 1, by omega, by go_num, HG, HS2, HF2⟩
          case measure => simp [intOf]; omega
    · obtain rfl : ln = k := by omega
      have htk : ls.take ln = ls := List.take_of_length_le (by have := HLN.out; omega)
      have he := HE.out; have hs := HS.out
      rw [htk] at he hs
      have hlen := enc_len ls he
      have HE2 := Ho.mk he; have HLEN := Ho.mk hlen
      have hws := WriteString_sb w.heap.size w.heap.size _ [0] wr hs (by have := HLN.out; simp only [List.length_cons, List.length_nil]; omega)
      have HWS := Ho.mk hws
      clear htk he hs hlen hws HE HS
      go_wp2_with (fail)
      refine HWS.out.mono ?_
      clear HWS
      rintro r w2 ⟨rfl, h2, f2⟩
      have HF2 := Ho.mk (HF.out.sb f2 (Nat.le_refl _) (Nat.le_refl _))
      have hln := Len_sb w.heap.size w.heap.size _ w2 h2
      have hst := String_sb w.heap.size w.heap.size _ w2 h2
      have e2 : ls.flatMap encL ++ [0] = encN ls := rfl
      rw [e2] at hln hst
      have HST := Ho.mk hst
      clear h2 f2 e2 hst
      go_wp2_with (fail)
      refine hln.mono ?_
      clear hln
      rintro r w' ⟨rfl, rfl⟩
      by_cases hlong : 255 < (encN ls).length
      · have k1 : decide ((255 : Int) < ((encN ls).length : Int)) = true := decide_eq_true (by omega)
        have k1' : decide (255 < (encN ls).length) = true := decide_eq_true (by omega)
        have HP := Ho.mk (joinP_long HE2.out hlong)
        clear hlong
        go_wp2_with (fail)
        go_ret2
        exact JoinPost.mk' HP.out rfl HF2.out
      · have k1 : decide ((255 : Int) < ((encN ls).length : Int)) = false := decide_eq_false (by omega)
        have k1' : decide (255 < (encN ls).length) = false := decide_eq_false (by omega)
        have HP := Ho.mk (joinP_ok HE2.out (by omega))
        clear hlong
        go_wp2_with (fail)
        refine HST.out.mono ?_
        clear HST
        rintro r w3 ⟨rfl, h3, f3⟩
        have HF3 := Ho.mk (HF2.out.sb f3 (Nat.le_refl _) (Nat.le_refl _))
        clear h3 f3
        go_wp2_with (fail)
        go_ret2
        exact JoinPost.mk' HP.out rfl HF3.out
end Go.Proofs.Ytcmiidklddnfhaa
