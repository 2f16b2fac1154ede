/-
  NameOrders: the walk, all inputs.
-/
import Derived.Test.YtcmiidklddnfhaaEV
namespace Go.Proofs.Ytcmiidklddnfhaa
open Go.RowKit
theorem ordF_of (a b c : Bs) (ha : (labels a).2 = 0) (hb : (labels b).2 = 0) (hc : (labels c).2 = 0) (h1 : a.length ≤ 400) (h2 : b.length ≤ 400) (h3 : c.length ≤ 400) :
    OrdF (mk a) (mk b) (mk c) (mk (low a)) (mk (low b)) (mk (parentP a).1) (compareP a b) (compareP b a) (compareP b c) (compareP a c) (sameP a b) (withinP a c) (withinP b c) (withinP c a) (withinP c b) (withinP a b) (parentP a).2 (withinP a (parentP a).1) (withinP (parentP a).1 a) (labels a).1.length (labels (parentP a).1).1.length := by
  have hp : (parentP a).1.length ≤ 100000 := by
    cases h : (labels a).1 with
    | nil => rw [parent_none h]; simp
    | cons l ls =>
      rw [parent_some ha h]
      have e := (labels_spec a ha).2.1
      rw [h, encN_cons] at e
      have := congrArg List.length e
      simp at this ⊢; omega
  constructor
  · intro W; have h := Check_calls a W (by omega); rw [ha] at h; exact h
  · intro W; have h := Check_calls b W (by omega); rw [hb] at h; exact h
  · intro W; have h := Check_calls c W (by omega); rw [hc] at h; exact h
  · intro W; exact Compare_calls a b W (by omega) (by omega)
  · intro W; exact Compare_calls b a W (by omega) (by omega)
  · intro W; exact Compare_calls b c W (by omega) (by omega)
  · intro W; exact Compare_calls a c W (by omega) (by omega)
  · intro W; exact Same_calls a b W (by omega) (by omega)
  · intro W; exact Lower_calls a W (by omega)
  · intro W; exact Lower_calls b W (by omega)
  · intro W; exact Within_calls a c W (by omega) (by omega)
  · intro W; exact Within_calls b c W (by omega) (by omega)
  · intro W; exact Within_calls c a W (by omega) (by omega)
  · intro W; exact Within_calls c b W (by omega) (by omega)
  · intro W; exact Within_calls a b W (by omega) (by omega)
  · intro W; have h := Within_calls a a W (by omega) (by omega); rw [within_self ha] at h; exact h
  · intro W; have h := Within_calls a [0] W (by omega) (by simp); rw [within_root ha] at h; exact h
  · intro W; exact Parent_calls a W (by omega)
  · intro W; exact Count_calls a W (by omega)
  · intro W; exact Count_calls _ W hp
  · intro W; exact Within_calls a _ W (by omega) hp
  · intro W; exact Within_calls _ a W hp (by omega)
  · rw [mk_size, mk_size, mk_size]; exact ⟨h1, h2, h3⟩
theorem sameP_iff {a b : Bs} (ha : (labels a).2 = 0) (hb : (labels b).2 = 0) : sameP a b = decide (low a = low b) := by
  unfold sameP; simp [ha, hb]
theorem ord_main (a b c : Bs) (ha : (labels a).2 = 0) (hb : (labels b).2 = 0) (hc : (labels c).2 = 0) (h1 : a.length ≤ 400) (h2 : b.length ≤ 400) (h3 : c.length ≤ 400) (w : World) :
    Calls Try.prog 6 #[.string (mk a), .string (mk b), .string (mk c)] w (BoolPost w true) := by
  have F := ordF_of a b c ha hb hc h1 h2 h3
  have hp : ((parentP a).2 = false ∧ (labels a).1.length = 0) ∨ ((parentP a).2 = true ∧ (labels a).1.length = (labels (parentP a).1).1.length + 1 ∧ withinP a (parentP a).1 = true ∧ withinP (parentP a).1 a = false) := by
    cases h : (labels a).1 with
    | nil => left; rw [parent_none h]; exact ⟨rfl, rfl⟩
    | cons l ls =>
      right
      rw [parent_some ha h]
      have ht := labels_tail ha h
      have hw := within_tail ha h
      refine ⟨rfl, ?_, hw.1, hw.2⟩
      rw [ht]; rfl
  have hn : (labels (parentP a).1).1.length ≤ 100000 := by
    rcases hp with ⟨h, h'⟩ | ⟨_, h, _⟩
    · have e : (labels a).1 = [] := List.eq_nil_of_length_eq_zero h'
      rw [parent_none e]; decide
    · have := labels_len a; omega
  have htr := fun k1 k2 => compareP_trans ha hb hc k1 k2
  rw [sameP_iff ha hb, compareP_neg a b] at F
  have hz := compareP_zero ha hb
  rcases compareP_vals a b with e | e | e
  · have el := hz.1 e
    have hcg := withinP_congr c el
    rw [e, decide_eq_true el] at F
    rw [e] at htr
    exact ord_eq F hp hn (by rw [el]) hcg.1 hcg.2 (fun k => htr (by omega) k) w
  · have el : ¬ low a = low b := fun k => by have := hz.2 k; omega
    rw [e, decide_eq_false el] at F
    exact ord_gt F hp hn (fun k => el (mk_inj.1 k)) w
  · have el : ¬ low a = low b := fun k => by have := hz.2 k; omega
    rw [e, decide_eq_false el] at F
    rw [e] at htr
    refine ord_lt F hp hn (fun k => el (mk_inj.1 k)) ?_ (fun k => htr (by omega) k) w
    rw [Bool.eq_false_iff]
    intro k
    have := within_ahead ha hb k
    omega
set_option maxHeartbeats 4000000 in
set_option maxRecDepth 100000 in
theorem NameOrders_walk (a b c : Bs) (w : World) (hla : a.length ≤ maxLen) (hlb : b.length ≤ maxLen) (hlc : c.length ≤ maxLen) :
    Calls Try.prog 6 #[.string (mk a), .string (mk b), .string (mk c)] w (BoolPost w true) := by
  unfold maxLen at hla hlb hlc
  by_cases hA : a.length ≤ 400
  case neg =>
    have k0 : decide ((400 : Int) < ((mk a).size : Int)) = true := decide_eq_true (by rw [mk_size]; omega)
    have k0' : decide (400 < (mk a).size) = true := decide_eq_true (by rw [mk_size]; omega)
    clear hA hla hlb hlc
    go_enter Try.func6, Try.ntmps6
    go_wp2_with (fail)
    refine (awake_calls w).mono ?_
    rintro r w1 ⟨rfl, f1⟩
    go_wp2_with (fail)
    go_ret
    exact ⟨rfl, f1⟩
  have k0 : decide ((400 : Int) < ((mk a).size : Int)) = false := decide_eq_false (by rw [mk_size]; omega)
  have k0' : decide (400 < (mk a).size) = false := decide_eq_false (by rw [mk_size]; omega)
  by_cases hB : b.length ≤ 400
  case neg =>
    have k1 : decide ((400 : Int) < ((mk b).size : Int)) = true := decide_eq_true (by rw [mk_size]; omega)
    have k1' : decide (400 < (mk b).size) = true := decide_eq_true (by rw [mk_size]; omega)
    clear hA hB hla hlb hlc
    go_enter Try.func6, Try.ntmps6
    go_wp2_with (fail)
    refine (awake_calls w).mono ?_
    rintro r w1 ⟨rfl, f1⟩
    go_wp2_with (fail)
    go_ret
    exact ⟨rfl, f1⟩
  have k1 : decide ((400 : Int) < ((mk b).size : Int)) = false := decide_eq_false (by rw [mk_size]; omega)
  have k1' : decide (400 < (mk b).size) = false := decide_eq_false (by rw [mk_size]; omega)
  by_cases hC : c.length ≤ 400
  case neg =>
    have k2 : decide ((400 : Int) < ((mk c).size : Int)) = true := decide_eq_true (by rw [mk_size]; omega)
    have k2' : decide (400 < (mk c).size) = true := decide_eq_true (by rw [mk_size]; omega)
    clear hA hB hC hla hlb hlc
    go_enter Try.func6, Try.ntmps6
    go_wp2_with (fail)
    refine (awake_calls w).mono ?_
    rintro r w1 ⟨rfl, f1⟩
    go_wp2_with (fail)
    go_ret
    exact ⟨rfl, f1⟩
  have k2 : decide ((400 : Int) < ((mk c).size : Int)) = false := decide_eq_false (by rw [mk_size]; omega)
  have k2' : decide (400 < (mk c).size) = false := decide_eq_false (by rw [mk_size]; omega)
  have HCA := Ho.mk (fun W => Check_calls a W (by omega)); have HCB := Ho.mk (fun W => Check_calls b W (by omega)); have HCC := Ho.mk (fun W => Check_calls c W (by omega))
  have HM := Ho.mk (fun x y z => ord_main a b c x y z hA hB hC w)
  clear hA hB hC hla hlb hlc
  generalize (labels a).2 = ea at *
  generalize (labels b).2 = eb at *
  generalize (labels c).2 = ec at *
  generalize mk a = ta at *
  generalize mk b = tb at *
  generalize mk c = tc at *
  by_cases hA : ea = 0
  case neg =>
    have k3 : (ea != 0) = true := by simp [hA]
    clear hA HM
    go_enter Try.func6, Try.ntmps6
    go_wp2_with (fail)
    refine (awake_calls w).mono ?_
    rintro r w1 ⟨rfl, f1⟩
    go_wp2_with (fail)
    refine (HCA.out w1).mono ?_
    rintro r w2 ⟨rfl, f2⟩
    go_wp2_with (fail)
    go_ret
    exact ⟨rfl, f1.trans f2⟩
  by_cases hB : eb = 0
  case neg =>
    have k3 : (ea != 0) = false := by rw [hA]; rfl
    have k4 : (eb != 0) = true := by simp [hB]
    clear hA hB HM
    go_enter Try.func6, Try.ntmps6
    go_wp2_with (fail)
    refine (awake_calls w).mono ?_
    rintro r w1 ⟨rfl, f1⟩
    go_wp2_with (fail)
    refine (HCA.out w1).mono ?_
    rintro r w2 ⟨rfl, f2⟩
    go_wp2_with (fail)
    refine (HCB.out w2).mono ?_
    rintro r w3 ⟨rfl, f3⟩
    go_wp2_with (fail)
    go_ret
    exact ⟨rfl, (f1.trans f2).trans f3⟩
  by_cases hC : ec = 0
  case neg =>
    have k3 : (ea != 0) = false := by rw [hA]; rfl
    have k4 : (eb != 0) = false := by rw [hB]; rfl
    have k5 : (ec != 0) = true := by simp [hC]
    clear hA hB hC HM
    go_enter Try.func6, Try.ntmps6
    go_wp2_with (fail)
    refine (awake_calls w).mono ?_
    rintro r w1 ⟨rfl, f1⟩
    go_wp2_with (fail)
    refine (HCA.out w1).mono ?_
    rintro r w2 ⟨rfl, f2⟩
    go_wp2_with (fail)
    refine (HCB.out w2).mono ?_
    rintro r w3 ⟨rfl, f3⟩
    go_wp2_with (fail)
    refine (HCC.out w3).mono ?_
    rintro r w4 ⟨rfl, f4⟩
    go_wp2_with (fail)
    go_ret
    exact ⟨rfl, ((f1.trans f2).trans f3).trans f4⟩
  exact HM.out hA hB hC
end Go.Proofs.Ytcmiidklddnfhaa
