/-
  NameOrders: the walk.
-/
import Derived.Test.YtcmiidklddnfhaaEU
import Derived.Test.YtcmiidklddnfhaaEQa
namespace Go.Proofs.Ytcmiidklddnfhaa
open Go.RowKit
theorem Calls.held {w : World} {P : Program} {f : Nat} {args : Array Value} {v : Value} (h : ∀ W, Calls P f args W (fun e w' => e = .returned v ∧ Fr nob W w')) : ∀ W, Fr nob w W → Calls P f args W (fun e w' => e = .returned v ∧ Fr nob w w') :=
  fun W hf => (h W).mono fun _ _ k => ⟨k.1, hf.trans k.2⟩
set_option hygiene false in
macro "ord_step" : tactic => `(tactic| (
    go_wp2_with (fail)
    first
    | (with_reducible refine (HA.out _ ?_).mono ?_; assumption)
    | (with_reducible refine (HKA.out _ ?_).mono ?_; assumption)
    | (with_reducible refine (HKB.out _ ?_).mono ?_; assumption)
    | (with_reducible refine (HKC.out _ ?_).mono ?_; assumption)
    | (with_reducible refine (HAB.out _ ?_).mono ?_; assumption)
    | (with_reducible refine (HBA.out _ ?_).mono ?_; assumption)
    | (with_reducible refine (HS.out _ ?_).mono ?_; assumption)
    | (with_reducible refine (HLA.out _ ?_).mono ?_; assumption)
    | (with_reducible refine (HLB.out _ ?_).mono ?_; assumption)
    | (with_reducible refine (HBC.out _ ?_).mono ?_; assumption)
    | (with_reducible refine (HAC.out _ ?_).mono ?_; assumption)
    | (with_reducible refine (HWAC.out _ ?_).mono ?_; assumption)
    | (with_reducible refine (HWBC.out _ ?_).mono ?_; assumption)
    | (with_reducible refine (HWCA.out _ ?_).mono ?_; assumption)
    | (with_reducible refine (HWCB.out _ ?_).mono ?_; assumption)
    | (with_reducible refine (HP.out _ ?_).mono ?_; assumption)
    | (with_reducible refine (HCA.out _ ?_).mono ?_; assumption)
    | (with_reducible refine (HCP.out _ ?_).mono ?_; assumption)
    | (with_reducible refine (HWAP.out _ ?_).mono ?_; assumption)
    | (with_reducible refine (HWPA.out _ ?_).mono ?_; assumption)
    | (with_reducible refine (HWAA.out _ ?_).mono ?_; assumption)
    | (with_reducible refine (HWA0.out _ ?_).mono ?_; assumption)
    | (with_reducible refine (HWAB.out _ ?_).mono ?_; assumption)
    rintro _ _ ⟨rfl, hfw⟩))
/-- What is known of the three names, and what is told of them. -/
structure OrdF (ta tb tc tla tlb tp : ByteArray) (cab cba cbc cac : Int) (sab wac wbc wca wcb wab pc wap wpa : Bool) (na np : Nat) : Prop where
  ca : ∀ W, Calls Try.prog 16 #[.string ta] W (fun e w' => e = .returned (.int .i64 0) ∧ Fr nob W w')
  cb : ∀ W, Calls Try.prog 16 #[.string tb] W (fun e w' => e = .returned (.int .i64 0) ∧ Fr nob W w')
  cc : ∀ W, Calls Try.prog 16 #[.string tc] W (fun e w' => e = .returned (.int .i64 0) ∧ Fr nob W w')
  ab : ∀ W, Calls Try.prog 31 #[.string ta, .string tb] W (fun e w' => e = .returned (.int .i64 cab) ∧ Fr nob W w')
  ba : ∀ W, Calls Try.prog 31 #[.string tb, .string ta] W (fun e w' => e = .returned (.int .i64 cba) ∧ Fr nob W w')
  bc : ∀ W, Calls Try.prog 31 #[.string tb, .string tc] W (fun e w' => e = .returned (.int .i64 cbc) ∧ Fr nob W w')
  ac : ∀ W, Calls Try.prog 31 #[.string ta, .string tc] W (fun e w' => e = .returned (.int .i64 cac) ∧ Fr nob W w')
  s : ∀ W, Calls Try.prog 28 #[.string ta, .string tb] W (fun e w' => e = .returned (.bool sab) ∧ Fr nob W w')
  la : ∀ W, Calls Try.prog 26 #[.string ta] W (fun e w' => e = .returned (.string tla) ∧ Fr nob W w')
  lb : ∀ W, Calls Try.prog 26 #[.string tb] W (fun e w' => e = .returned (.string tlb) ∧ Fr nob W w')
  wac : ∀ W, Calls Try.prog 23 #[.string ta, .string tc] W (fun e w' => e = .returned (.bool wac) ∧ Fr nob W w')
  wbc : ∀ W, Calls Try.prog 23 #[.string tb, .string tc] W (fun e w' => e = .returned (.bool wbc) ∧ Fr nob W w')
  wca : ∀ W, Calls Try.prog 23 #[.string tc, .string ta] W (fun e w' => e = .returned (.bool wca) ∧ Fr nob W w')
  wcb : ∀ W, Calls Try.prog 23 #[.string tc, .string tb] W (fun e w' => e = .returned (.bool wcb) ∧ Fr nob W w')
  wab : ∀ W, Calls Try.prog 23 #[.string ta, .string tb] W (fun e w' => e = .returned (.bool wab) ∧ Fr nob W w')
  waa : ∀ W, Calls Try.prog 23 #[.string ta, .string ta] W (fun e w' => e = .returned (.bool true) ∧ Fr nob W w')
  wa0 : ∀ W, Calls Try.prog 23 #[.string ta, .string ⟨#[0]⟩] W (fun e w' => e = .returned (.bool true) ∧ Fr nob W w')
  p : ∀ W, Calls Try.prog 24 #[.string ta] W (fun e w' => e = .returned (.tuple #[.string tp, .bool pc]) ∧ Fr nob W w')
  na : ∀ W, Calls Try.prog 18 #[.string ta] W (fun e w' => e = .returned (.int .i64 (na : Nat)) ∧ Fr nob W w')
  np : ∀ W, Calls Try.prog 18 #[.string tp] W (fun e w' => e = .returned (.int .i64 (np : Nat)) ∧ Fr nob W w')
  wap : ∀ W, Calls Try.prog 23 #[.string ta, .string tp] W (fun e w' => e = .returned (.bool wap) ∧ Fr nob W w')
  wpa : ∀ W, Calls Try.prog 23 #[.string tp, .string ta] W (fun e w' => e = .returned (.bool wpa) ∧ Fr nob W w')
  sz : ta.size ≤ 400 ∧ tb.size ≤ 400 ∧ tc.size ≤ 400
set_option hygiene false in
macro "ord_tail" : tactic => `(tactic| (
    rcases hp with ⟨rfl, rfl⟩ | ⟨rfl, rfl, rfl, rfl⟩
    · clear hn
      iterate 5 ord_step
      go_wp2_with (fail)
      go_ret
      exact ⟨by first | rfl | simp, by assumption⟩
    · have n1 : decide ((0 : Int) < ((np + 1 : Nat) : Int)) = true := decide_eq_true (by omega)
      have n1' : decide (0 < np + 1) = true := decide_eq_true (by omega)
      have n2 : IntKind.i64.wrap ((np : Int)) = (np : Int) := IntWalk.i64_in _ (by omega)
      have n3 : ((np + 1 : Nat) : Int) - 1 = (np : Int) := by omega
      have n4 : ((np : Int) == (np : Int)) = true := by simp
      have n5 : ((np : Int) != (np : Int)) = false := by simp
      iterate 9 ord_step
      go_wp2_with (fail)
      go_ret
      exact ⟨by first | rfl | simp, by assumption⟩))
set_option maxHeartbeats 8000000 in
set_option maxRecDepth 100000 in
theorem ord_eq {ta tb tc tla tlb tp : ByteArray} {cbc cac : Int} {wac wbc wca wcb wab pc wap wpa : Bool} {na np : Nat} (F : OrdF ta tb tc tla tlb tp (0) (0) cbc cac true wac wbc wca wcb wab pc wap wpa na np) (hp : (pc = false ∧ na = 0) ∨ (pc = true ∧ na = np + 1 ∧ wap = true ∧ wpa = false)) (hn : np ≤ 100000) (hl : tla = tlb) (hw1 : wac = wbc) (hw2 : wca = wcb) (hc : cbc ≤ 0 → cac ≤ 0) (w : World) :
    Calls Try.prog 6 #[.string ta, .string tb, .string tc] w (BoolPost w true) := by
  obtain ⟨z1, z2, z3⟩ := F.sz
  have k1 : decide ((400 : Int) < (ta.size : Int)) = false := decide_eq_false (by omega)
  have k1' : decide (400 < ta.size) = false := decide_eq_false (by omega)
  have k2 : decide ((400 : Int) < (tb.size : Int)) = false := decide_eq_false (by omega)
  have k2' : decide (400 < tb.size) = false := decide_eq_false (by omega)
  have k3 : decide ((400 : Int) < (tc.size : Int)) = false := decide_eq_false (by omega)
  have k3' : decide (400 < tc.size) = false := decide_eq_false (by omega)
  have hw : Fr nob w w := Fr.refl _ _
  have HA := Ho.mk (Calls.held (w := w) (fun W => awake_calls W))
  have HKA := Ho.mk (Calls.held (w := w) F.ca); have HKB := Ho.mk (Calls.held (w := w) F.cb); have HKC := Ho.mk (Calls.held (w := w) F.cc)
  have HAB := Ho.mk (Calls.held (w := w) F.ab); have HBA := Ho.mk (Calls.held (w := w) F.ba); have HBC := Ho.mk (Calls.held (w := w) F.bc); have HAC := Ho.mk (Calls.held (w := w) F.ac)
  have HS := Ho.mk (Calls.held (w := w) F.s); have HLA := Ho.mk (Calls.held (w := w) F.la); have HLB := Ho.mk (Calls.held (w := w) F.lb)
  have HWAC := Ho.mk (Calls.held (w := w) F.wac); have HWBC := Ho.mk (Calls.held (w := w) F.wbc); have HWCA := Ho.mk (Calls.held (w := w) F.wca); have HWCB := Ho.mk (Calls.held (w := w) F.wcb); have HWAB := Ho.mk (Calls.held (w := w) F.wab)
  have HWAA := Ho.mk (Calls.held (w := w) F.waa); have HWA0 := Ho.mk (Calls.held (w := w) F.wa0); have HP := Ho.mk (Calls.held (w := w) F.p); have HCA := Ho.mk (Calls.held (w := w) F.na); have HCP := Ho.mk (Calls.held (w := w) F.np); have HWAP := Ho.mk (Calls.held (w := w) F.wap); have HWPA := Ho.mk (Calls.held (w := w) F.wpa)
  clear F z1 z2 z3
  have e1 : (tla.toList == tlb.toList) = true := by rw [hl]; simp
  have e2 : (wac == wbc) = true := by rw [hw1]; simp
  have e3 : (wca == wcb) = true := by rw [hw2]; simp
  clear hl
  subst hw1 hw2
  go_enter Try.func6, Try.ntmps6
  iterate 10 ord_step
  by_cases hb : cbc ≤ 0
  · have q1 : decide (cbc ≤ 0) = true := decide_eq_true hb
    have q2 : decide (0 < cac) = false := decide_eq_false (by have := hc hb; omega)
    clear hb hc
    iterate 6 ord_step
    cases wab <;> ord_tail
  · have q1 : decide (cbc ≤ 0) = false := decide_eq_false hb
    clear hb hc
    iterate 5 ord_step
    cases wab <;> ord_tail
set_option maxHeartbeats 8000000 in
set_option maxRecDepth 100000 in
theorem ord_lt {ta tb tc tla tlb tp : ByteArray} {cbc cac : Int} {wac wbc wca wcb wab pc wap wpa : Bool} {na np : Nat} (F : OrdF ta tb tc tla tlb tp (-1) (1) cbc cac false wac wbc wca wcb wab pc wap wpa na np) (hp : (pc = false ∧ na = 0) ∨ (pc = true ∧ na = np + 1 ∧ wap = true ∧ wpa = false)) (hn : np ≤ 100000) (hl : tla ≠ tlb) (hw1 : wab = false) (hc : cbc ≤ 0 → cac ≤ 0) (w : World) :
    Calls Try.prog 6 #[.string ta, .string tb, .string tc] w (BoolPost w true) := by
  obtain ⟨z1, z2, z3⟩ := F.sz
  have k1 : decide ((400 : Int) < (ta.size : Int)) = false := decide_eq_false (by omega)
  have k1' : decide (400 < ta.size) = false := decide_eq_false (by omega)
  have k2 : decide ((400 : Int) < (tb.size : Int)) = false := decide_eq_false (by omega)
  have k2' : decide (400 < tb.size) = false := decide_eq_false (by omega)
  have k3 : decide ((400 : Int) < (tc.size : Int)) = false := decide_eq_false (by omega)
  have k3' : decide (400 < tc.size) = false := decide_eq_false (by omega)
  have hw : Fr nob w w := Fr.refl _ _
  have HA := Ho.mk (Calls.held (w := w) (fun W => awake_calls W))
  have HKA := Ho.mk (Calls.held (w := w) F.ca); have HKB := Ho.mk (Calls.held (w := w) F.cb); have HKC := Ho.mk (Calls.held (w := w) F.cc)
  have HAB := Ho.mk (Calls.held (w := w) F.ab); have HBA := Ho.mk (Calls.held (w := w) F.ba); have HBC := Ho.mk (Calls.held (w := w) F.bc); have HAC := Ho.mk (Calls.held (w := w) F.ac)
  have HS := Ho.mk (Calls.held (w := w) F.s); have HLA := Ho.mk (Calls.held (w := w) F.la); have HLB := Ho.mk (Calls.held (w := w) F.lb)
  have HWAC := Ho.mk (Calls.held (w := w) F.wac); have HWBC := Ho.mk (Calls.held (w := w) F.wbc); have HWCA := Ho.mk (Calls.held (w := w) F.wca); have HWCB := Ho.mk (Calls.held (w := w) F.wcb); have HWAB := Ho.mk (Calls.held (w := w) F.wab)
  have HWAA := Ho.mk (Calls.held (w := w) F.waa); have HWA0 := Ho.mk (Calls.held (w := w) F.wa0); have HP := Ho.mk (Calls.held (w := w) F.p); have HCA := Ho.mk (Calls.held (w := w) F.na); have HCP := Ho.mk (Calls.held (w := w) F.np); have HWAP := Ho.mk (Calls.held (w := w) F.wap); have HWPA := Ho.mk (Calls.held (w := w) F.wpa)
  clear F z1 z2 z3
  have e1 : (tla.toList == tlb.toList) = false := by
    rw [beq_eq_false_iff_ne]; intro h; apply hl; rw [← mk_of tla, ← mk_of tlb]; congr 1
    have h1 := Lib.toList_data tla; have h2 := Lib.toList_data tlb; rw [h1, h2] at h; exact h
  clear hl
  subst hw1
  go_enter Try.func6, Try.ntmps6
  iterate 10 ord_step
  by_cases hb : cbc ≤ 0
  · have q1 : decide (cbc ≤ 0) = true := decide_eq_true hb
    have q2 : decide (0 < cac) = false := decide_eq_false (by have := hc hb; omega)
    clear hb hc
    iterate 2 ord_step
    ord_tail
  · have q1 : decide (cbc ≤ 0) = false := decide_eq_false hb
    clear hb hc
    iterate 1 ord_step
    ord_tail
set_option maxHeartbeats 8000000 in
set_option maxRecDepth 100000 in
theorem ord_gt {ta tb tc tla tlb tp : ByteArray} {cbc cac : Int} {wac wbc wca wcb wab pc wap wpa : Bool} {na np : Nat} (F : OrdF ta tb tc tla tlb tp (1) (-1) cbc cac false wac wbc wca wcb wab pc wap wpa na np) (hp : (pc = false ∧ na = 0) ∨ (pc = true ∧ na = np + 1 ∧ wap = true ∧ wpa = false)) (hn : np ≤ 100000) (hl : tla ≠ tlb) (w : World) :
    Calls Try.prog 6 #[.string ta, .string tb, .string tc] w (BoolPost w true) := by
  obtain ⟨z1, z2, z3⟩ := F.sz
  have k1 : decide ((400 : Int) < (ta.size : Int)) = false := decide_eq_false (by omega)
  have k1' : decide (400 < ta.size) = false := decide_eq_false (by omega)
  have k2 : decide ((400 : Int) < (tb.size : Int)) = false := decide_eq_false (by omega)
  have k2' : decide (400 < tb.size) = false := decide_eq_false (by omega)
  have k3 : decide ((400 : Int) < (tc.size : Int)) = false := decide_eq_false (by omega)
  have k3' : decide (400 < tc.size) = false := decide_eq_false (by omega)
  have hw : Fr nob w w := Fr.refl _ _
  have HA := Ho.mk (Calls.held (w := w) (fun W => awake_calls W))
  have HKA := Ho.mk (Calls.held (w := w) F.ca); have HKB := Ho.mk (Calls.held (w := w) F.cb); have HKC := Ho.mk (Calls.held (w := w) F.cc)
  have HAB := Ho.mk (Calls.held (w := w) F.ab); have HBA := Ho.mk (Calls.held (w := w) F.ba); have HBC := Ho.mk (Calls.held (w := w) F.bc); have HAC := Ho.mk (Calls.held (w := w) F.ac)
  have HS := Ho.mk (Calls.held (w := w) F.s); have HLA := Ho.mk (Calls.held (w := w) F.la); have HLB := Ho.mk (Calls.held (w := w) F.lb)
  have HWAC := Ho.mk (Calls.held (w := w) F.wac); have HWBC := Ho.mk (Calls.held (w := w) F.wbc); have HWCA := Ho.mk (Calls.held (w := w) F.wca); have HWCB := Ho.mk (Calls.held (w := w) F.wcb); have HWAB := Ho.mk (Calls.held (w := w) F.wab)
  have HWAA := Ho.mk (Calls.held (w := w) F.waa); have HWA0 := Ho.mk (Calls.held (w := w) F.wa0); have HP := Ho.mk (Calls.held (w := w) F.p); have HCA := Ho.mk (Calls.held (w := w) F.na); have HCP := Ho.mk (Calls.held (w := w) F.np); have HWAP := Ho.mk (Calls.held (w := w) F.wap); have HWPA := Ho.mk (Calls.held (w := w) F.wpa)
  clear F z1 z2 z3
  have e1 : (tla.toList == tlb.toList) = false := by
    rw [beq_eq_false_iff_ne]; intro h; apply hl; rw [← mk_of tla, ← mk_of tlb]; congr 1
    have h1 := Lib.toList_data tla; have h2 := Lib.toList_data tlb; rw [h1, h2] at h; exact h
  clear hl
  go_enter Try.func6, Try.ntmps6
  iterate 10 ord_step
  cases wab <;> ord_tail
end Go.Proofs.Ytcmiidklddnfhaa
