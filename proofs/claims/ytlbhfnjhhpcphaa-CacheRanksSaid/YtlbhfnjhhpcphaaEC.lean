/-
  package name: Check, Count; the reference's Labels, Check; slices of strings that read as a list.
-/
import Derived.Test.YtlbhfnjhhpcphaaEB
import Derived.WalkSpells
import Derived.WalkLawsBesides
namespace Go.Proofs.Ytlbhfnjhhpcphaa
open Go.RowKit
theorem Fr.cell {S : Nat → Prop} {w w' : World} (hf : Fr S w w') {b o : Nat} (hS : ¬ S b) {v : Value} (h : w.cell? ⟨b, o, none⟩ = some v) : w'.cell? ⟨b, o, none⟩ = some v := by
  unfold World.cell? at h ⊢
  cases hb : w.heap[b]? with
  | none => rw [hb] at h; cases h
  | some x => rw [hb] at h; rw [hf.block b x hb hS]; exact h
/-- A slice of strings that reads as a list. -/
def IsStrs (w : World) (v : Value) (l : List Bs) : Prop := ∃ a cap, v = .slice a l.length cap ∧ ∀ i (h : i < l.length), ∃ b off, a = some ⟨b, off, none⟩ ∧ w.cell? ⟨b, off + i, none⟩ = some (str l[i])
theorem own_strs {B : Nat} {w : World} {v : Value} {l : List Bs} (h : w.ownsRow B 9 1 v l.length (l.map str)) : IsStrs w v l := by
  obtain ⟨ao, cap, rfl⟩ := own_shape h
  refine ⟨ao, cap, rfl, fun i hi => ?_⟩
  rcases h.2 with ⟨h1, h0⟩ | ⟨g, c, cur, hv, _, hh, _, _, _, ht⟩
  · omega
  · cases hv
    refine ⟨g, 0, rfl, ?_⟩
    rw [Nat.zero_add, blk_cell hh]
    have h1 : (l.map str)[i]? = some (str l[i]) := by simp [hi]
    rw [← ht, List.getElem?_take_of_lt (by omega)] at h1
    simpa using h1
theorem IsStrs.fr {w w' : World} {v : Value} {l : List Bs} {S : Nat → Prop} (h : IsStrs w v l) (hf : Fr S w w') (hS : ∀ k, v.ownBlock = some k → ¬ S k) : IsStrs w' v l := by
  obtain ⟨a, cap, rfl, hc⟩ := h
  refine ⟨a, cap, rfl, fun i hi => ?_⟩
  obtain ⟨b, off, rfl, h1⟩ := hc i hi
  exact ⟨b, off, rfl, hf.cell (hS b rfl) h1⟩
theorem IsStrs.same {w w' : World} {v : Value} {l : List Bs} (h : IsStrs w v l) (hf : Fr nob w w') : IsStrs w' v l := h.fr hf (fun _ _ h => h)
theorem Check_calls (n : Bs) (w : World) (hn : n.length ≤ 100000) :
    Calls Try.prog 42 #[.string (mk n)] w fun e w' => e = .returned (.int .i64 (labels n).2) ∧ Fr nob w w' := by
  have hcall := Labels_calls n w hn
  go_enter Try.func42, Try.ntmps42
  go_wp2_with (fail)
  refine hcall.mono ?_
  clear hcall
  rintro r w' ⟨v, rfl, hown, _, hf⟩
  clear hown
  go_wp2_with (fail)
  go_ret
  exact ⟨rfl, hf⟩
theorem labAt.none {n : Bs} {pre : List Bs} {c : UInt8} {t : Bs} (h : labAt n pre (c :: t)) (hb : (c = 0 ∧ t ≠ []) ∨ (c ≠ 0 ∧ (63 < c.toNat ∨ t.length < c.toNat))) : labels n = ([], 4) := by
  apply labels_bad; apply h.bad
  rw [lab_cons]
  rcases hb with ⟨h1, h2⟩ | ⟨h1, h2⟩
  · rw [if_pos h1, if_neg h2]
  · rw [if_neg h1, if_pos h2]
def RLabPost (n : Bs) (w : World) (e : Ending) (w' : World) : Prop :=
  ∃ v, e = .returned (.tuple #[v, .int .i64 (labels n).2]) ∧ w'.ownsRow w.heap.size 9 1 v (labels n).1.length ((labels n).1.map str) ∧ Fr nob w w'
theorem LabPost.mk' {n : Bs} {w w' : World} {v : Value} {l : List Bs} {e : Int} (h : labels n = (l, e)) (ho : w'.ownsRow w.heap.size 9 1 v l.length (l.map str)) (hf : Fr nob w w') : RLabPost n w (.returned (.tuple #[v, .int .i64 e])) w' :=
  ⟨v, by rw [h], by rw [h]; exact ho, hf⟩
set_option maxHeartbeats 2000000 in
set_option maxRecDepth 100000 in
theorem rLabels_calls (n : Bs) (w : World) (hn : n.length ≤ 100000) : Calls Try.prog 63 #[.string (mk n)] w (RLabPost n w) := by
  obtain ⟨i0, hi, hz0, hz1, hz2⟩ := info_parts infoStr
  obtain ⟨s, hs⟩ : ∃ s, mk n = s := ⟨_, rfl⟩
  have hsz : s.size = n.length := by rw [← hs, mk_size]
  rw [hs]
  have HS := Ho.mk hs; have HSZ := Ho.mk hsz
  clear hs hsz
  go_enter Try.func63, Try.ntmps63
  go_wp2_with (fail)
  go_loopw [4, 5] (fun ov av wr => ∃ (at_ : Nat) (pre : List Bs), at_ ≤ n.length ∧ av = .int .i64 (at_ : Int) ∧ Ho (labAt n pre (n.drop at_)) ∧ pre.length ≤ at_ ∧ wr.ownsRow w.heap.size 9 1 ov pre.length (pre.map str) ∧ Ho (Fr nob w wr)) (fun _ av _ => n.length - (intOf av).toNat)
  case atStart => exact ⟨0, [], by omega, rfl, Ho.mk (labAt.start n), by simp, World.ownsRow_nil _ _ _ _, Ho.mk (Fr.refl _ _)⟩
  case round =>
    obtain ⟨k, pre, hk, rfl, HAT, hpk, hown, HF⟩ := hrel
    obtain ⟨ao, cap, rfl⟩ := own_shape hown
    by_cases hlt : k < n.length
    · obtain ⟨c, hc⟩ : ∃ c, n[k] = c := ⟨_, rfl⟩
      have hat := HAT.out
      have hdrop : n.drop k = c :: n.drop (k + 1) := by rw [← hc]; exact List.drop_eq_getElem_cons hlt
      rw [hdrop] at hat
      have hks : k < s.size := by rw [HSZ.out]; exact hlt
      have hsb : s.size ≤ 100000 := by rw [HSZ.out]; exact hn
      have hg : s[k] = c := by rw [← hc]; have := HS.out; subst this; rfl
      have hc255 : c.toNat < 256 := c.toNat_lt
      have d0 : decide ((s.size : Int) ≤ (k : Int)) = false := decide_eq_false (by omega)
      have d0' : decide (s.size ≤ k) = false := decide_eq_false (by omega)
      have HC := Ho.mk hc; have HAT2 := Ho.mk hat
      clear hc hat HAT hdrop
      by_cases h0 : c = 0
      · have k1 : ((c.toNat : Int) == 0) = true := by rw [h0]; rfl
        by_cases hlast : k = n.length - 1
        · have hl2 : lab n = some pre := by
            have h := HAT2.out
            rw [h0, show n.drop (k + 1) = [] from List.drop_eq_nil_of_le (by omega)] at h
            exact h.done
          have HL2 := Ho.mk hl2
          have k3 : (((k : Int)) != (s.size : Int) - 1) = false := by have := HSZ.out; simp; omega
          by_cases hlong : 255 < n.length
          · have k4 : decide ((255 : Int) < (s.size : Int)) = true := decide_eq_true (by have := HSZ.out; omega)
            have k4' : decide (255 < s.size) = true := decide_eq_true (by have := HSZ.out; omega)
            have HP := Ho.mk (labels_long HL2.out hlong)
            clear h0 hlast hlong hl2
            go_wp2_with (fail)
            go_ret2
            exact LabPost.mk' HP.out (World.ownsRow_nil _ _ _ _) HF.out
          · have k4 : decide ((255 : Int) < (s.size : Int)) = false := decide_eq_false (by have := HSZ.out; omega)
            have k4' : decide (255 < s.size) = false := decide_eq_false (by have := HSZ.out; omega)
            have HP := Ho.mk (labels_ok HL2.out (by omega))
            clear h0 hlast hlong hl2
            go_wp2_with (fail)
            go_ret2
            exact LabPost.mk' HP.out hown HF.out
        · have HP := Ho.mk (HAT2.out.none (.inl ⟨h0, by intro e; have := congrArg List.length e; simp at this; omega⟩))
          have k3 : (((k : Int)) != (s.size : Int) - 1) = true := by have := HSZ.out; simp; omega
          clear h0 hlast
          go_wp2_with (fail)
          go_ret2
          exact LabPost.mk' HP.out (World.ownsRow_nil _ _ _ _) HF.out
      · have hc1 : c.toNat ≠ 0 := fun h => h0 (UInt8.toNat_inj.1 h)
        have k1 : ((c.toNat : Int) == 0) = false := by rw [beq_eq_false_iff_ne]; omega
        have hlen : (n.drop (k + 1)).length = n.length - (k + 1) := List.length_drop
        by_cases h1 : 63 < c.toNat
        · have k2 : decide ((63 : Int) < (c.toNat : Int)) = true := decide_eq_true (by omega)
          have k2' : decide (63 < c.toNat) = true := decide_eq_true (by omega)
          have HP := Ho.mk (HAT2.out.none (.inr ⟨h0, .inl h1⟩))
          clear h0 h1 hlen
          go_wp2_with (fail)
          go_ret2
          exact LabPost.mk' HP.out (World.ownsRow_nil _ _ _ _) HF.out
        · have k2 : decide ((63 : Int) < (c.toNat : Int)) = false := decide_eq_false (by omega)
          have k2' : decide (63 < c.toNat) = false := decide_eq_false (by omega)
          by_cases h2 : n.length < k + 1 + c.toNat
          · have k3 : decide ((s.size : Int) < (k : Int) + 1 + (c.toNat : Int)) = true := decide_eq_true (by have := HSZ.out; omega)
            have k3' : decide (s.size < k + 1 + c.toNat) = true := decide_eq_true (by have := HSZ.out; omega)
            have HP := Ho.mk (HAT2.out.none (.inr ⟨h0, .inr (by omega)⟩))
            clear h0 h1 h2 hlen
            go_wp2_with (fail)
            go_ret2
            exact LabPost.mk' HP.out (World.ownsRow_nil _ _ _ _) HF.out
          · have k3 : decide ((s.size : Int) < (k : Int) + 1 + (c.toNat : Int)) = false := decide_eq_false (by have := HSZ.out; omega)
            have k3' : decide (s.size < k + 1 + c.toNat) = false := decide_eq_false (by have := HSZ.out; omega)
            have hcs : k + 1 + c.toNat ≤ s.size := by have := HSZ.out; omega
            have hcn : k + 1 + c.toNat ≤ n.length := by omega
            have hst := HAT2.out.step h0 (by omega) (by omega)
            rw [List.drop_drop] at hst
            have hx : s.extract (k + 1) (k + 1 + c.toNat) = mk ((n.drop (k + 1)).take c.toNat) := by
              have := HS.out; subst this; apply Go.WideShapes.bytes_inj; rw [Lib.extract_data]; simp [mk]
            have HST := Ho.mk hst; have HX := Ho.mk hx
            clear h0 h1 h2 hlen hst hx
            go_wp2_with (at_builtin; refine wpList_append_own _ rfl _ _ 22 rfl w.heap.size 9 i0 (.string ⟨#[]⟩) 1 16 Try.underlying22 hi hz0 hz1 hz2 rfl (by decide) _ _ _ rfl (hown.alloc _) ⟨wr.heap.size, 0, none⟩ 1 1 [.string (s.extract (k + 1) (k + 1 + c.toNat))] rfl rfl (cell_one_new _ _ _) (by simp [Value.oneCell']) (by simp only [maxLen]; omega) (by omega) (by have := HF.out.size; simp; omega) ?_; intro v' w1 hown' hgrow _)
            have hf1 : Fr nob w w1 := HF.out.call (((Fr.refl (fun k => (Value.slice ao pre.length cap).ownBlock = some k) wr).alloc _).grown hgrow (fun k hk => .inr hk)) (fun i _ hi => .inl (by
              rcases hown.2 with ⟨h, _⟩ | ⟨g, cp, cur, h, hg, _⟩
              · rw [h] at hi; simp [Value.ownBlock] at hi
              · rw [h] at hi; simp only [Value.ownBlock, Option.some.injEq] at hi; omega))
            have HF1 := Ho.mk hf1; have HG := Ho.mk hgrow; have HOW := Ho.mk hown; have HOW' := Ho.mk hown'
            clear hf1 hgrow hown hown'
            go_wp2_with (fail)
            go_roundw
            case rel => exact ⟨k + 1 + c.toNat, _, by omega, by go_num, HST, by simp; omega, by have h := HOW'.out; rw [HX.out] at h; simpa [str] using h, HF1⟩
            case measure => simp [intOf]; omega
    · obtain rfl : n.length = k := by omega
      have d0 : decide ((s.size : Int) ≤ (n.length : Int)) = true := decide_eq_true (by have := HSZ.out; omega)
      have d0' : decide (s.size ≤ n.length) = true := decide_eq_true (by have := HSZ.out; omega)
      have HP := Ho.mk (labels_bad (HAT.out.bad (by rw [List.drop_length]; rfl)))
      clear HAT
      go_wp2_with (fail)
      go_ret2
      exact LabPost.mk' HP.out (World.ownsRow_nil _ _ _ _) HF.out
theorem rCheck_calls (n : Bs) (w : World) (hn : n.length ≤ 100000) :
    Calls Try.prog 50 #[.string (mk n)] w fun e w' => e = .returned (.int .i64 (labels n).2) ∧ Fr nob w w' := by
  have hcall := rLabels_calls n w hn
  go_enter Try.func50, Try.ntmps50
  go_wp2_with (fail)
  refine hcall.mono ?_
  clear hcall
  rintro r w' ⟨v, rfl, hown, hf⟩
  clear hown
  go_wp2_with (fail)
  go_ret
  exact ⟨rfl, hf⟩
end Go.Proofs.Ytlbhfnjhhpcphaa
