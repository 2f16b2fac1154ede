/-
  NameZones, plain.
-/
import Derived.Test.YtcmiidklddnfhaaEU
namespace Go.Proofs.Ytcmiidklddnfhaa
theorem joinP_zero {ls : List Bs} (h : (joinP ls).2 = 0) : (∀ l ∈ ls, goodL l) ∧ (encN ls).length ≤ 255 ∧ joinP ls = (encN ls, 0) := by
  unfold joinP at h ⊢
  by_cases h1 : joinE ls = 0
  · rw [if_neg (by simp [h1])] at h ⊢
    by_cases h2 : 255 < (encN ls).length
    · rw [if_pos h2] at h; simp at h
    · rw [if_neg h2]
      exact ⟨(joinE_zero ls).1 h1, by omega, rfl⟩
  · rw [if_pos h1] at h; exact absurd h h1
theorem joinP_small (ls : List Bs) : (joinP ls).1.length ≤ 255 := by
  unfold joinP
  split
  · simp
  · split
    · simp
    · simp only; omega
theorem within_app {A Z : List Bs} (h1 : ∀ l ∈ A ++ Z, goodL l) (h2 : (encN (A ++ Z)).length ≤ 255) (h3 : ∀ l ∈ Z, goodL l) (h4 : (encN Z).length ≤ 255) : withinP (encN (A ++ Z)) (encN Z) = true := by
  have e1 := labels_enc _ h1 h2
  have e2 := labels_enc _ h3 h4
  rw [withinP_iff (by rw [e1]) (by rw [e2]), e1, e2]
  simp
theorem within_back {A Z : List Bs} (h1 : ∀ l ∈ A ++ Z, goodL l) (h2 : (encN (A ++ Z)).length ≤ 255) (h3 : ∀ l ∈ Z, goodL l) (h4 : (encN Z).length ≤ 255) : withinP (encN Z) (encN (A ++ Z)) = decide (A.length = 0) := by
  have e1 := labels_enc _ h1 h2
  have e2 := labels_enc _ h3 h4
  rw [Bool.eq_iff_iff, withinP_iff (by rw [e2]) (by rw [e1]), e1, e2, decide_eq_true_iff]
  constructor
  · intro h; have := h.1; simp only [List.length_append] at this; omega
  · intro h; obtain rfl := List.eq_nil_of_length_eq_zero h; simp
theorem enc_tail_len (l : Bs) (ls : List Bs) : (encN ls).length ≤ (encN (l :: ls)).length := by rw [encN_cons]; simp; omega
theorem within_glued {M z : Bs} {Z : List Bs} (hM : M ≠ []) (h1 : ∀ l ∈ (M ++ z) :: Z, goodL l) (h2 : (encN ((M ++ z) :: Z)).length ≤ 255) (h3 : ∀ l ∈ z :: Z, goodL l) (h4 : (encN (z :: Z)).length ≤ 255) : withinP (encN ((M ++ z) :: Z)) (encN (z :: Z)) = false := by
  have e1 := labels_enc _ h1 h2
  have e2 := labels_enc _ h3 h4
  rw [Bool.eq_false_iff]
  intro k
  rw [withinP_iff (by rw [e1]) (by rw [e2]), e1, e2] at k
  have k2 := k.2
  simp only [List.length_cons, Nat.sub_self, List.drop_zero, List.map_cons, List.cons.injEq] at k2
  have := congrArg List.length k2.1
  rw [low_len, low_len, List.length_append] at this
  exact hM (List.eq_nil_of_length_eq_zero (by omega))
/-- What NameZones asks. -/
theorem zone_facts {A Z : List Bs} {z : Bs} {M : Bs} (hz : (joinP (z :: Z)).2 = 0) (hn : (joinP (A ++ z :: Z)).2 = 0) (hM : M ≠ []) :
    parentP (joinP (z :: Z)).1 = (encN Z, true) ∧ withinP (joinP (A ++ z :: Z)).1 (encN Z) = true ∧ ((joinP ((M ++ z) :: Z)).2 = 0 → withinP (joinP ((M ++ z) :: Z)).1 (joinP (z :: Z)).1 = false ∧ withinP (joinP ((M ++ z) :: Z)).1 (encN Z) = true) := by
  obtain ⟨g1, g2, g3⟩ := joinP_zero hz
  obtain ⟨n1, n2, n3⟩ := joinP_zero hn
  have gz : ∀ l ∈ Z, goodL l := fun x hx => g1 x (List.mem_cons_of_mem _ hx)
  have gl : (encN Z).length ≤ 255 := Nat.le_trans (enc_tail_len z Z) g2
  have e2 := labels_enc _ g1 g2
  rw [g3, n3]
  refine ⟨parent_some (by rw [e2]) (by rw [e2]), ?_, fun hg => ?_⟩
  · have e : A ++ z :: Z = (A ++ [z]) ++ Z := by simp
    rw [e] at n1 n2 ⊢
    exact within_app n1 n2 gz gl
  · obtain ⟨k1, k2, k3⟩ := joinP_zero hg
    rw [k3]
    exact ⟨within_glued hM k1 k2 g1 g2, within_app (A := [M ++ z]) k1 k2 gz gl⟩
end Go.Proofs.Ytcmiidklddnfhaa
