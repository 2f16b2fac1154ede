/-
  slices.Clone of texts.
-/
import Derived.Test.YtlbhfnjhhpcphaaCE
import Derived.Test.YtlbhfnjhhpcphaaSR
import Derived.Lib.SliceRun
namespace Go.Proofs.Ytlbhfnjhhpcphaa
open Go.RowKit
theorem rowStr : RowT 22 9 1 := by
  obtain ⟨i, hi, h1, h2, h3⟩ := info_parts infoStr
  exact ⟨Try.underlying22, ⟨i, _, hi, h1, h2, rfl, by omega⟩, by omega⟩
theorem strs_src {w : World} {ao : Option Addr} {cap : Nat} {l : List Bs} (h : IsStrs w (.slice ao l.length cap) l) : Src w ao l.length (l.map str) := by
  obtain ⟨a, c, hv, hc⟩ := h
  injection hv with e1 _ _
  subst e1
  by_cases h0 : l.length = 0
  · exact .inl h0
  · obtain ⟨b, off, ha, _⟩ := hc 0 (by omega)
    refine .inr ⟨_, ha, fun j u hj => ?_⟩
    have hjl : j < l.length := by have := (List.getElem?_eq_some_iff.1 hj).1; simpa using this
    obtain ⟨b', off', h1, h2⟩ := hc j hjl
    rw [ha] at h1
    injection h1 with h1
    injection h1 with e1 e2 _
    subst e1 e2
    rw [addr_add, h2, ← hj, List.getElem?_map, List.getElem?_eq_getElem hjl]; rfl
theorem strs_one (l : List Bs) : ∀ u ∈ l.map str, u.oneCell' = true := by
  intro u hu
  obtain ⟨x, _, rfl⟩ := List.mem_map.1 hu
  rfl
set_option maxRecDepth 100000 in
/-- CLONE. -/
theorem Clone_calls (ao : Option Addr) (cap : Nat) (l : List Bs) (w : World) (h : IsStrs w (.slice ao l.length cap) l) (hl : l.length ≤ 1000000) :
    Calls Try.prog 40 #[.slice ao l.length cap] w fun r w' => ∃ ao' cap', r = .returned (.slice ao' l.length cap') ∧ w'.ownsRow w.heap.size 9 1 (.slice ao' l.length cap') l.length (l.map str) ∧ Fr nob w w' := by
  cases ao with
  | none =>
    have h0 : l = [] := by
      obtain ⟨a, c, hv, hc⟩ := h
      injection hv with e1 _ _
      cases l with
      | nil => rfl
      | cons x l => obtain ⟨b, off, ha, _⟩ := hc 0 (by simp); rw [← e1] at ha; cases ha
    subst h0
    simp only [List.length_nil]
    clear h
    have hnil := fun W => Lib.run_eql_slice_nil (P := Try.prog) W 22 9 none 0 cap 0 0 Try.underlying22
    simp only [Option.isNone_none] at hnil
    go_enter Try.func40, Try.ntmps40
    go_wp2_with (fail)
    go_ret
    exact ⟨none, 0, rfl, World.ownsRow_nil _ _ _ _, Fr.refl _ _⟩
  | some ad =>
    have hf := (Fr.refl nob w).alloc (.cells #[] 9)
    have hs := strs_src (h.same hf)
    have hown := own_empty w 9 1
    have HF := Ho.mk hf; have HS := Ho.mk hs; have HOWN := Ho.mk hown
    obtain ⟨n, hn⟩ : ∃ n, l.length = n := ⟨_, rfl⟩
    have HN := Ho.mk hn
    rw [hn] at HS hl ⊢
    clear h hf hs hown hn
    have hnil := fun W => Lib.run_eql_slice_nil (P := Try.prog) W 22 9 (some ad) n cap 0 0 Try.underlying22
    simp only [Option.isNone_some] at hnil
    go_enter Try.func40, Try.ntmps40
    go_wp2_with (at_builtin; refine wpList_append_row rowStr rfl _ _ rfl w.heap.size (.slice (some ⟨w.heap.size, 0, none⟩) 0 0) 0 [] rfl HOWN.out (some ad) n cap (l.map str) rfl (by rw [List.length_map, HN.out, Nat.mul_one]) HS.out (strs_one l) (by omega) (by simp) ?_)
    intro ao5 cap5 w5 hown5 hf5 _
    have HF5 := Ho.mk (hf5 w HF.out (Nat.le_refl _)); have HO5 := Ho.mk hown5
    clear hown5 hf5
    go_wp2_with (fail)
    go_ret
    exact ⟨ao5, cap5, rfl, HO5.out, HF5.out⟩
theorem own_RT {D : Nat → Prop} {w : World} {B : Nat} {ao : Option Addr} {cap : Nat} {l : List Bs} (h : w.ownsRow B 9 1 (.slice ao l.length cap) l.length (l.map str)) (hD : ∀ k, B ≤ k → D k) : RT D w ao l := by
  intro j hj
  rcases h.2 with ⟨_, h0⟩ | ⟨g, cap', cur, hv, hB, hh, _, _, _, h4⟩
  · omega
  · injection hv with e1 _ _
    subst e1
    refine ⟨g, 0, cur, rfl, hD g hB, hh, ?_⟩
    have h5 : (l.map str)[j]? = some (str l[j]) := by rw [List.getElem?_map, List.getElem?_eq_getElem hj]; rfl
    rw [← h4, List.getElem?_take_of_lt (by omega)] at h5
    rw [Nat.zero_add]; simpa using h5
end Go.Proofs.Ytlbhfnjhhpcphaa
