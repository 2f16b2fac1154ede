/-
  package name: Within; faulty, awake, long.
-/
import Derived.Test.YtcmiidklddnfhaaEL
import Derived.Test.YtcmiidklddnfhaaER2
namespace Go.Proofs.Ytcmiidklddnfhaa
open Go.RowKit
/-- The address behind the first k elements. -/
def sl (a : Option Addr) (cap k : Nat) : Option Addr := if cap = k then a else a.map (·.add k)
theorem slice_lo (a : Option Addr) (n cap k : Nat) (hk : k ≤ n) (hn : n ≤ cap) (W : World) : (Instr.slice 22 (.slice a n cap) (some (.int .i64 (k : Int))) none none).run Try.prog W = .ok (.slice (sl a cap k) (n - k) (cap - k)) W := by
  have hb := run_sliceBound (P := Try.prog) (w := W) .i64 (k : Int) n .sliceB (by omega) (by omega)
  have hsz : Try.prog.cellsOf 9 = 1 := by kernel_rfl
  unfold sl
  cases a with
  | none => simp [Instr.slice, Instr.sliceBounds, hb, go_sem]
  | some ad =>
    by_cases h : cap = k
    · simp [Instr.slice, Instr.sliceBounds, hb, go_sem, h]
    · simp [Instr.slice, Instr.sliceBounds, hb, go_sem, h]
theorem IsStrs.tail {W : World} {a : Option Addr} {cap k : Nat} {l : List Bs} (h : IsStrs W (.slice a l.length cap) l) (hk : k ≤ l.length) (hcap : l.length ≤ cap) : IsStrs W (.slice (sl a cap k) (l.length - k) (cap - k)) (l.drop k) := by
  obtain ⟨a', cap', e, hc⟩ := h
  cases e
  refine ⟨_, _, by rw [List.length_drop], fun i hi => ?_⟩
  rw [List.length_drop] at hi
  obtain ⟨b, off, rfl, h1⟩ := hc (k + i) (by omega)
  refine ⟨b, off + k, ?_, ?_⟩
  · unfold sl; rw [if_neg (by omega)]; simp [addr_add]
  · rw [Nat.add_assoc, h1]; simp
theorem enc_len2 (ls : List Bs) : ls.length ≤ (encN ls).length := by
  induction ls with
  | nil => simp
  | cons l ls ih => rw [encN_cons]; simp; omega
theorem labels_len (n : Bs) : (labels n).1.length ≤ n.length := by
  unfold labels
  cases h : lab n with
  | none => simp
  | some ls =>
    simp only
    have h1 := (lab_some h).2
    have h2 := enc_len2 ls
    split
    · simp
    · rw [h1]; exact h2
theorem labels_small (n : Bs) : ∀ l ∈ (labels n).1, l.length ≤ 63 := by
  unfold labels
  cases h : lab n with
  | none => simp
  | some ls =>
    simp only
    split
    · simp
    · intro l hl; exact ((lab_some h).1 l hl).2
/-- Is a name in a zone? -/
def withinP (n z : Bs) : Bool := decide ((labels n).2 = 0 ∧ (labels z).2 = 0 ∧ (labels z).1.length ≤ (labels n).1.length ∧ ((labels n).1.drop ((labels n).1.length - (labels z).1.length)).map low = (labels z).1.map low)
theorem own_cap {B : Nat} {e : TypeId} {a : Option Addr} {n cap : Nat} {xs : List Value} {w : World} (h : w.ownsRow B e 1 (.slice a n cap) n xs) : n ≤ cap := by
  rcases h.2 with ⟨h1, h0⟩ | ⟨g, c, cur, h1, _, _, h2, _⟩
  · omega
  · cases h1; exact h2
def BoolPost (w : World) (b : Bool) (e : Ending) (w' : World) : Prop := e = .returned (.bool b) ∧ Fr nob w w'
theorem BoolPost.mk' {w w' : World} {b c : Bool} (h : b = c) (hf : Fr nob w w') : BoolPost w b (.returned (.bool c)) w' := ⟨by rw [h], hf⟩
set_option maxHeartbeats 4000000 in
set_option maxRecDepth 100000 in
theorem Within_calls (n z : Bs) (w : World) (hn : n.length ≤ 100000) (hz : z.length ≤ 100000) :
    Calls Try.prog 23 #[.string (mk n), .string (mk z)] w (BoolPost w (withinP n z)) := by
  have hln := labels_len n; have hlz := labels_len z
  have hcn := Labels_calls n w hn
  have hcz := fun W => Labels_calls z W hz
  have hw : withinP n z = decide ((labels n).2 = 0 ∧ (labels z).2 = 0 ∧ (labels z).1.length ≤ (labels n).1.length ∧ ((labels n).1.drop ((labels n).1.length - (labels z).1.length)).map low = (labels z).1.map low) := rfl
  unfold LabPost at hcn hcz
  have hsn : ∀ l ∈ (labels n).1, l.length ≤ 63 := labels_small n
  have hsz : ∀ l ∈ (labels z).1, l.length ≤ 63 := labels_small z
  obtain ⟨ll, en, hle⟩ : ∃ ll en, labels n = (ll, en) := ⟨_, _, rfl⟩
  obtain ⟨zl, ez, hze⟩ : ∃ zl ez, labels z = (zl, ez) := ⟨_, _, rfl⟩
  rw [hle] at hcn hln hw hsn
  simp only [hze] at hcz hlz hw hsz
  simp only at hcn hln hlz hw hsn hsz
  generalize withinP n z = R at *
  generalize mk n = tn at *
  generalize mk z = tz at *
  have HW := Ho.mk hw; have HCZ := Ho.mk hcz; have HSN := Ho.mk hsn; have HSZ := Ho.mk hsz
  have hll : ll.length ≤ 100000 := by omega
  have hzl : zl.length ≤ 100000 := by omega
  clear hw hcz hsn hsz hle hze hln hlz
  go_enter Try.func23, Try.ntmps23
  go_wp2_with (fail)
  refine hcn.mono ?_
  clear hcn
  rintro r w1 ⟨v1, rfl, hown1, _, hf1⟩
  obtain ⟨a1, cap1, rfl⟩ := own_shape hown1
  have HS1 := Ho.mk (own_strs hown1); have HF1 := Ho.mk hf1
  have hcap1 := own_cap hown1
  clear hown1 hf1
  go_wp2_with (fail)
  refine (HCZ.out w1).mono ?_
  clear HCZ
  rintro r w2 ⟨v2, rfl, hown2, _, hf2⟩
  obtain ⟨a2, cap2, rfl⟩ := own_shape hown2
  have HS2 := Ho.mk (own_strs hown2); have HF2 := Ho.mk (HF1.out.trans hf2); have HS12 := Ho.mk (HS1.out.same hf2)
  clear hown2 hf2 HS1
  by_cases h1 : en = 0
  · have k1 : (en != 0) = false := by rw [h1]; rfl
    by_cases h2 : ez = 0
    · have k2 : (ez != 0) = false := by rw [h2]; rfl
      by_cases h3 : ll.length < zl.length
      · have k3 : decide ((ll.length : Int) < (zl.length : Int)) = true := decide_eq_true (by omega)
        have k3' : decide (ll.length < zl.length) = true := decide_eq_true h3
        have HR := Ho.mk (show R = false by rw [HW.out]; exact decide_eq_false (fun h => by have := h.2.2.1; omega))
        clear h1 h2 h3
        go_wp2_with (fail)
        go_ret
        exact BoolPost.mk' HR.out HF2.out
      · have k3 : decide ((ll.length : Int) < (zl.length : Int)) = false := decide_eq_false (by omega)
        have k3' : decide (ll.length < zl.length) = false := decide_eq_false h3
        obtain ⟨d, hd⟩ : ∃ d, ll.length - zl.length = d := ⟨_, rfl⟩
        have hdI : (ll.length : Int) - (zl.length : Int) = (d : Int) := by omega
        have hlow := slice_lo a1 ll.length cap1 d (by omega) hcap1
        rw [show ll.length - d = zl.length by omega] at hlow
        have htail := HS12.out.tail (k := d) (by omega) hcap1
        rw [show ll.length - d = zl.length by omega] at htail
        have hwr : IntKind.i64.wrap ((ll.length : Int) - (zl.length : Int)) = (d : Int) := by rw [hdI]; exact IntWalk.i64_in _ (by omega)
        have HR := Ho.mk (show R = decide ((ll.drop d).map low = zl.map low) by rw [HW.out]; simp only [h1, h2, true_and, hd]; congr 1; simp; intro _; omega)
        have htl : (ll.drop d).length = zl.length := by rw [List.length_drop]; omega
        have hst : ∀ x ∈ ll.drop d, x.length ≤ 63 := fun x hx => HSN.out x (List.mem_of_mem_drop hx)
        generalize ll.drop d = tl at *
        have HTL := Ho.mk htail; have HTLEN := Ho.mk htl; have HST := Ho.mk hst
        generalize sl a1 cap1 d = a3 at *
        clear h1 h2 h3 hd htail htl hst HW
        go_wp2_with (fail)
        go_loopw [42] (fun iv wr => ∃ k : Nat, k ≤ zl.length ∧ iv = .int .i64 (k : Int) ∧ Ho ((tl.take k).map low = (zl.take k).map low) ∧ Ho (Fr nob w2 wr)) (fun iv _ => zl.length - (intOf iv).toNat)
        case atStart => exact ⟨0, by omega, rfl, Ho.mk rfl, Ho.mk (Fr.refl _ _)⟩
        case round =>
          obtain ⟨k, hk, rfl, HE, HF⟩ := hrel
          by_cases hlt : k < zl.length
          · have hlt' : k < tl.length := by have := HTLEN.out; omega
            obtain ⟨a4, cap4, hav, hint⟩ := HTL.out
            obtain ⟨a5, cap5, hav2, hint2⟩ := HS2.out
            have ha4 : a3 = a4 := by injection hav
            have ha5 : a2 = a5 := by injection hav2
            subst ha4 ha5
            obtain ⟨tb, toff, ht1, ht2⟩ := hint k hlt'
            obtain ⟨zb, zoff, hz1, hz2⟩ := hint2 k hlt
            subst ht1 hz1
            have ht3 := HF.out.cell (fun h => h) ht2
            have hz3 := HF.out.cell (fun h => h) hz2
            have e1 := List.take_succ_eq_append_getElem hlt'
            have e2 := List.take_succ_eq_append_getElem hlt
            have hx63 := HST.out _ (List.getElem_mem hlt')
            have hy63 := HSZ.out _ (List.getElem_mem hlt)
            have hne : low tl[k] ≠ low zl[k] → tl.map low ≠ zl.map low := fun h e => h (by
              have h1 := congrArg (fun l => l[k]?) e
              simpa [hlt, hlt'] using h1)
            unfold str at ht3 hz3
            generalize tl[k] = x at *
            generalize zl[k] = y at *
            have hcx := fun W => Lower_calls x W (by omega)
            have hcy := fun W => Lower_calls y W (by omega)
            obtain ⟨lx, hlx⟩ : ∃ t, mk (low x) = t := ⟨_, rfl⟩
            obtain ⟨ly, hly⟩ : ∃ t, mk (low y) = t := ⟨_, rfl⟩
            have hlxl : lx.toList = low x := by rw [← hlx, Lib.toList_data]; rfl
            have hlyl : ly.toList = low y := by rw [← hly, Lib.toList_data]; rfl
            rw [hlx] at hcx; rw [hly] at hcy
            obtain ⟨sx, hsx⟩ : ∃ t, mk x = t := ⟨_, rfl⟩
            obtain ⟨sy, hsy⟩ : ∃ t, mk y = t := ⟨_, rfl⟩
            rw [hsx] at hcx ht3; rw [hsy] at hcy hz3
            have HX := Ho.mk (fun W (hc : W.cell? ⟨zb, zoff + k, none⟩ = some (.string sy)) (hf : Fr nob wr W) => (hcx W).mono (R' := fun e w' => e = .returned (.string lx) ∧ w'.cell? ⟨zb, zoff + k, none⟩ = some (.string sy) ∧ Fr nob wr w') (fun e w' h => ⟨h.1, h.2.cell (fun h => h) hc, hf.trans h.2⟩))
            have HY := Ho.mk (fun W (hc : W.cell? ⟨zb, zoff + k, none⟩ = some (.string sy)) (hf : Fr nob wr W) => (hcy W).mono (R' := fun e w' => e = .returned (.string ly) ∧ w'.cell? ⟨zb, zoff + k, none⟩ = some (.string sy) ∧ Fr nob wr w') (fun e w' h => ⟨h.1, h.2.cell (fun h => h) hc, hf.trans h.2⟩))
            have HE1 := Ho.mk e1; have HE2 := Ho.mk e2; have HNE := Ho.mk hne
            clear hint hint2 hav hav2 ht2 hz2 e1 e2 hne hcx hcy hlx hly hsx hsy hx63 hy63
            have hf0 : Fr nob wr wr := Fr.refl _ _
            by_cases hxy : low x = low y
            · have k5 : (lx.toList == ly.toList) = true := by rw [hlxl, hlyl, hxy]; simp
              have HXY := Ho.mk hxy
              clear hlxl hlyl hxy
              go_wp2_with (fail)
              go_region_held3 (fun W => W.cell? ⟨zb, zoff + k, none⟩ = some (.string sy) ∧ Fr nob wr W) (first | exact ⟨by assumption, by assumption⟩ | exact ⟨by assumption, (Fr.refl nob wr).drew⟩ | assumption)
                (first
                | (go_at_call 26; (try go_split_ands); (with_reducible refine (HX.out _ ?_ ?_).mono ?_); assumption; assumption; rintro e w' ⟨rfl, hc', hf'⟩)
                | (go_at_call 26; (try go_split_ands); (with_reducible refine (HY.out _ ?_ ?_).mono ?_); assumption; assumption; rintro e w' ⟨rfl, hc', hf'⟩))
              try go_split_ands
              go_wp2_with (fail)
              go_roundw
              case rel => exact ⟨k + 1, by omega, by go_num, ⟨by rw [HE1.out, HE2.out, List.map_append, List.map_append, HE.out]; simp [HXY.out]⟩, ⟨HF.out.trans (by assumption)⟩⟩
              case measure => simp [intOf]; omega
            · have k5 : (lx.toList == ly.toList) = false := by rw [hlxl, hlyl]; simp [hxy]
              have HRF := Ho.mk (show R = false by rw [HR.out]; exact decide_eq_false (HNE.out hxy))
              clear hlxl hlyl hxy
              go_wp2_with (fail)
              go_region_held3 (fun W => W.cell? ⟨zb, zoff + k, none⟩ = some (.string sy) ∧ Fr nob wr W) (first | exact ⟨by assumption, by assumption⟩ | exact ⟨by assumption, (Fr.refl nob wr).drew⟩ | assumption)
                (first
                | (go_at_call 26; (try go_split_ands); (with_reducible refine (HX.out _ ?_ ?_).mono ?_); assumption; assumption; rintro e w' ⟨rfl, hc', hf'⟩)
                | (go_at_call 26; (try go_split_ands); (with_reducible refine (HY.out _ ?_ ?_).mono ?_); assumption; assumption; rintro e w' ⟨rfl, hc', hf'⟩))
              try go_split_ands
              go_wp2_with (fail)
              go_ret
              exact BoolPost.mk' HRF.out ((HF2.out.trans HF.out).trans (by assumption))
          · obtain rfl : zl.length = k := by omega
            have he : tl.map low = zl.map low := by
              have h := HE.out
              rwa [List.take_length, ← HTLEN.out, List.take_length] at h
            have HRT := Ho.mk (show R = true by rw [HR.out]; exact decide_eq_true he)
            clear he HE
            go_wp2_with (fail)
            go_ret
            exact BoolPost.mk' HRT.out (HF2.out.trans HF.out)
    · have k2 : (ez != 0) = true := by simp [h2]
      have HR := Ho.mk (show R = false by rw [HW.out]; exact decide_eq_false (fun h => h2 h.2.1))
      clear h1 h2
      go_wp2_with (fail)
      go_ret
      exact BoolPost.mk' HR.out HF2.out
  · have k1 : (en != 0) = true := by simp [h1]
    have HR := Ho.mk (show R = false by rw [HW.out]; exact decide_eq_false (fun h => h1 h.1))
    clear h1
    go_wp2_with (fail)
    go_ret
    exact BoolPost.mk' HR.out HF2.out
end Go.Proofs.Ytcmiidklddnfhaa
