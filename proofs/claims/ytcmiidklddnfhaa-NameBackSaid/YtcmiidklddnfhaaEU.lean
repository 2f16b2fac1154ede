/-
  NameOrders, plain.
-/
import Derived.Test.YtcmiidklddnfhaaEM
namespace Go.Proofs.Ytcmiidklddnfhaa
theorem lowB_low (c : UInt8) : lowB (lowB c) = lowB c := by
  unfold lowB
  by_cases h : 65 ≤ c.toNat ∧ c.toNat ≤ 90
  · rw [if_pos h, if_neg (by simp; omega)]
  · rw [if_neg h, if_neg h]
theorem low_low (s : Bs) : low (low s) = low s := by
  unfold low; rw [List.map_map]; apply List.map_congr_left; intro c _; exact lowB_low c
theorem map_low_low (l : List Bs) : (l.map low).map low = l.map low := by
  rw [List.map_map]; apply List.map_congr_left; intro c _; exact low_low c
theorem withinP_low (n z : Bs) : withinP (low n) (low z) = withinP n z := by
  unfold withinP
  rw [labels_low, labels_low]
  simp only [List.length_map, map_low_low, ← List.map_drop]
theorem withinP_congr {a b : Bs} (c : Bs) (h : low a = low b) : withinP a c = withinP b c ∧ withinP c a = withinP c b :=
  ⟨by rw [← withinP_low a, h, withinP_low], by rw [← withinP_low c, h, withinP_low]⟩
theorem compareP_ok {a b : Bs} (ha : (labels a).2 = 0) (hb : (labels b).2 = 0) : compareP a b = cmpL (labels a).1.reverse (labels b).1.reverse := if_pos ⟨ha, hb⟩
theorem compareP_neg (a b : Bs) : compareP b a = - compareP a b := by
  unfold compareP
  by_cases h : (labels a).2 = 0 ∧ (labels b).2 = 0
  · rw [if_pos h, if_pos ⟨h.2, h.1⟩, cmpL_neg]
  · rw [if_neg h, if_neg (fun k => h ⟨k.2, k.1⟩)]; rfl
theorem compareP_vals (a b : Bs) : compareP a b = 0 ∨ compareP a b = 1 ∨ compareP a b = -1 := by
  unfold compareP
  split
  · exact cmpL_vals _ _
  · exact .inl rfl
theorem compareP_zero {a b : Bs} (ha : (labels a).2 = 0) (hb : (labels b).2 = 0) : compareP a b = 0 ↔ low a = low b := by
  rw [compareP_ok ha hb, cmpL_eq]
  obtain ⟨ga, ea, _⟩ := labels_spec a ha
  obtain ⟨gb, eb, _⟩ := labels_spec b hb
  constructor
  · intro h
    rw [List.map_reverse, List.map_reverse, List.reverse_inj] at h
    rw [ea, eb, low_encN _ ga, low_encN _ gb, h]
  · intro h
    rw [ea, eb, low_encN _ ga, low_encN _ gb] at h
    have := encN_inj (good_low ga) (good_low gb) h
    rw [List.map_reverse, List.map_reverse, this]
theorem compareP_trans {a b c : Bs} (ha : (labels a).2 = 0) (hb : (labels b).2 = 0) (hc : (labels c).2 = 0) (h1 : compareP a b ≤ 0) (h2 : compareP b c ≤ 0) : compareP a c ≤ 0 := by
  rw [compareP_ok ha hb] at h1
  rw [compareP_ok hb hc] at h2
  rw [compareP_ok ha hc]
  exact cmpL_trans _ _ _ h1 h2
theorem cmpL_front (x y m : List Bs) (h : x.map low = y.map low) : 0 ≤ cmpL (x ++ m) y := by
  induction x generalizing y with
  | nil =>
    obtain rfl : y = [] := by cases y <;> simp_all
    cases m <;> simp [cmpL]
  | cons a x ih =>
    cases y with
    | nil => simp at h
    | cons b y =>
      simp only [List.map_cons, List.cons.injEq] at h
      show 0 ≤ cmpL (a :: (x ++ m)) (b :: y)
      simp only [cmpL]
      rw [if_pos ((cmpB_eq _ _).2 h.1)]
      exact ih y h.2
theorem withinP_iff {n z : Bs} (hn : (labels n).2 = 0) (hz : (labels z).2 = 0) : withinP n z = true ↔ (labels z).1.length ≤ (labels n).1.length ∧ ((labels n).1.drop ((labels n).1.length - (labels z).1.length)).map low = (labels z).1.map low := by
  unfold withinP
  rw [decide_eq_true_iff]
  exact ⟨fun h => h.2.2, fun h => ⟨hn, hz, h⟩⟩
theorem within_ahead {a b : Bs} (ha : (labels a).2 = 0) (hb : (labels b).2 = 0) (h : withinP a b = true) : 0 ≤ compareP a b := by
  rw [compareP_ok ha hb]
  rw [withinP_iff ha hb] at h
  obtain ⟨_, h⟩ := h
  generalize (labels b).1 = y at *
  generalize (labels a).1 = x at *
  have e : x.reverse = (x.drop (x.length - y.length)).reverse ++ (x.take (x.length - y.length)).reverse := by
    rw [← List.reverse_append, List.take_append_drop]
  rw [e]
  apply cmpL_front
  rw [List.map_reverse, List.map_reverse, h]
theorem within_self {a : Bs} (ha : (labels a).2 = 0) : withinP a a = true := by
  rw [withinP_iff ha ha]; simp
theorem within_root {a : Bs} (ha : (labels a).2 = 0) : withinP a [0] = true := by
  rw [withinP_iff ha (by decide)]
  have e : (labels [0]).1 = [] := by decide
  rw [e]; simp
theorem labels_tail {a : Bs} (ha : (labels a).2 = 0) {l : Bs} {ls : List Bs} (h : (labels a).1 = l :: ls) : labels (encN ls) = (ls, 0) := by
  obtain ⟨g, e, hl⟩ := labels_spec a ha
  rw [h] at g e
  apply labels_enc _ (fun x hx => g x (List.mem_cons_of_mem _ hx))
  rw [e, encN_cons] at hl
  simp at hl; omega
theorem parent_none {a : Bs} (h : (labels a).1 = []) : parentP a = ([], false) := by
  unfold parentP; rw [h]; simp
theorem parent_some {a : Bs} (ha : (labels a).2 = 0) {l : Bs} {ls : List Bs} (h : (labels a).1 = l :: ls) : parentP a = (encN ls, true) := by
  unfold parentP; rw [h, if_pos ⟨ha, by simp⟩]; rfl
theorem within_tail {a : Bs} (ha : (labels a).2 = 0) {l : Bs} {ls : List Bs} (h : (labels a).1 = l :: ls) : withinP a (encN ls) = true ∧ withinP (encN ls) a = false := by
  have ht := labels_tail ha h
  constructor
  · rw [withinP_iff ha (by rw [ht]), h, ht]
    simp
  · rw [Bool.eq_false_iff]
    intro k
    rw [withinP_iff (by rw [ht]) ha, h, ht] at k
    simp at k
end Go.Proofs.Ytcmiidklddnfhaa
