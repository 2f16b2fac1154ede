/-
  package cache: PutSet refuses.
-/
import Derived.Test.YtlbhfnjhhpcphaaCQ
import Derived.Test.YtlbhfnjhhpcphaaCF
namespace Go.Proofs.Ytlbhfnjhhpcphaa
open Go.RowKit
theorem putOk_first (s : CSet) (rank now : Int) (h : ¬ putOk s rank now) : (¬ (s.ok)) ∨ ((s.ok) ∧ ¬ (s.cls = 1)) ∨ ((s.ok) ∧ (s.cls = 1) ∧ ¬ (s.typ ≠ 0)) ∨ ((s.ok) ∧ (s.cls = 1) ∧ (s.typ ≠ 0) ∧ ¬ (1 ≤ rank)) ∨ ((s.ok) ∧ (s.cls = 1) ∧ (s.typ ≠ 0) ∧ (1 ≤ rank) ∧ ¬ (rank ≤ 3)) ∨ ((s.ok) ∧ (s.cls = 1) ∧ (s.typ ≠ 0) ∧ (1 ≤ rank) ∧ (rank ≤ 3) ∧ ¬ (timeOk now)) := by
  by_cases k1 : s.ok
  · by_cases k2 : s.cls = 1
    · by_cases k3 : s.typ ≠ 0
      · by_cases k4 : 1 ≤ rank
        · by_cases k5 : rank ≤ 3
          · by_cases k6 : timeOk now
            · exact absurd ⟨k1, k2, k3, ⟨k4, k5⟩, k6⟩ h
            · exact .inr (.inr (.inr (.inr (.inr ⟨k1, k2, k3, k4, k5, k6⟩))))
          · exact .inr (.inr (.inr (.inr (.inl ⟨k1, k2, k3, k4, k5⟩))))
        · exact .inr (.inr (.inr (.inl ⟨k1, k2, k3, k4⟩)))
      · exact .inr (.inr (.inl ⟨k1, k2, k3⟩))
    · exact .inr (.inl ⟨k1, k2⟩)
  · exact .inl k1
set_option maxRecDepth 100000 in
set_option maxHeartbeats 4000000 in
theorem putSet_bad_calls (c bl : Nat) (w : World) (s : CSet) (ao : Option Addr) (cap : Nat) (rank now : Int) (hc : w.cell? ⟨c, 2, none⟩ = some (.pointer (some ⟨bl, 0, none⟩))) (hn : s.name.length ≤ 100000) (hd : IsStrs w (.slice ao s.data.length cap) s.data) (hbad : ¬ putOk s rank now) :
    Calls Try.prog 12 #[.pointer (some ⟨c, 0, none⟩), .agg #[.string (mk s.name), .int .i64 s.typ, .int .i64 s.cls, .int .i64 s.ttl, .slice ao s.data.length cap], .int .i64 rank, .int .i64 now] w fun r w' => r = .returned (.tuple #[.bool false, .int .i64 2]) ∧ Fr nob w w' := by
  have hf := (Fr.refl nob w).alloc (.cells #[.string (mk s.name), .int .i64 s.typ, .int .i64 s.cls, .int .i64 s.ttl, .slice ao s.data.length cap] 24)
  have hnb := blk_new w (.cells #[.string (mk s.name), .int .i64 s.typ, .int .i64 s.cls, .int .i64 s.ttl, .slice ao s.data.length cap] 24)
  have hc1 : (w.alloc (.cells #[.string (mk s.name), .int .i64 s.typ, .int .i64 s.cls, .int .i64 s.ttl, .slice ao s.data.length cap] 24)).cell? ⟨c, 2, none⟩ = some (.pointer (some ⟨bl, 0, none⟩)) := hf.cell (fun h => h) hc
  have HAB := Ho.mk (absent_calls c bl _ hc1)
  have HCK := Ho.mk (setsCheck_calls s ao cap _ hn (hd.same hf))
  have b0 : (w.alloc (.cells #[.string (mk s.name), .int .i64 s.typ, .int .i64 s.cls, .int .i64 s.ttl, .slice ao s.data.length cap] 24)).cell? ⟨w.heap.size, 0, none⟩ = some (.string (mk s.name)) := blk_cell hnb 0
  have b1 : (w.alloc (.cells #[.string (mk s.name), .int .i64 s.typ, .int .i64 s.cls, .int .i64 s.ttl, .slice ao s.data.length cap] 24)).cell? ⟨w.heap.size, 1, none⟩ = some (.int .i64 s.typ) := blk_cell hnb 1
  have b2 : (w.alloc (.cells #[.string (mk s.name), .int .i64 s.typ, .int .i64 s.cls, .int .i64 s.ttl, .slice ao s.data.length cap] 24)).cell? ⟨w.heap.size, 2, none⟩ = some (.int .i64 s.cls) := blk_cell hnb 2
  have b3 : (w.alloc (.cells #[.string (mk s.name), .int .i64 s.typ, .int .i64 s.cls, .int .i64 s.ttl, .slice ao s.data.length cap] 24)).cell? ⟨w.heap.size, 3, none⟩ = some (.int .i64 s.ttl) := blk_cell hnb 3
  have b4 : (w.alloc (.cells #[.string (mk s.name), .int .i64 s.typ, .int .i64 s.cls, .int .i64 s.ttl, .slice ao s.data.length cap] 24)).cell? ⟨w.heap.size, 4, none⟩ = some (.slice ao s.data.length cap) := blk_cell hnb 4
  have HF := Ho.mk hf; have HNB := Ho.mk hnb
  have hbf := putOk_first s rank now hbad
  clear hf hnb hc hc1 hd hbad hn
  go_enter Try.func12, Try.ntmps12
  go_wp2_with (fail)
  refine HAB.out.mono ?_
  clear HAB
  rintro r w1 ⟨rfl, rfl⟩
  go_wp2_with (fail)
  refine HCK.out.mono ?_
  clear HCK
  rintro r w2 ⟨ec, rfl, hec, f2⟩
  have hb2 := f2.block _ _ HNB.out (fun h => h)
  have g1 : w2.cell? ⟨w.heap.size, 1, none⟩ = some (.int .i64 s.typ) := blk_cell hb2 1
  have g2 : w2.cell? ⟨w.heap.size, 2, none⟩ = some (.int .i64 s.cls) := blk_cell hb2 2
  have HF2 := Ho.mk (HF.out.trans f2)
  clear f2 hb2 HF HNB b0 b1 b2 b3 b4
  have hw6 := within_calls now w2
  rcases hbf with k1 | ⟨k1, k2⟩ | ⟨k1, k2, k3⟩ | ⟨k1, k2, k3, k4⟩ | ⟨k1, k2, k3, k4, k5⟩ | ⟨k1, k2, k3, k4, k5, k6⟩
  case' inl => have q1 : (ec != 0) = true := (by rcases hec with ⟨h, _⟩ | ⟨_, h⟩; (· exact absurd h k1); rw [h]; rfl); clear k1 hec
  case' inr.inl => have q1 : (ec != 0) = false := (by rcases hec with ⟨_, h⟩ | ⟨h, _⟩; (· rw [h]; rfl); exact absurd k1 h); have q2 : (s.cls != 1) = true := (by simp [k2]); clear k1 k2 hec
  case' inr.inr.inl => have q1 : (ec != 0) = false := (by rcases hec with ⟨_, h⟩ | ⟨h, _⟩; (· rw [h]; rfl); exact absurd k1 h); have q2 : (s.cls != 1) = false := (by simp [k2]); have q3 : (s.typ == 0) = true := (by simp at k3; simp [k3]); clear k1 k2 k3 hec
  case' inr.inr.inr.inl => have q1 : (ec != 0) = false := (by rcases hec with ⟨_, h⟩ | ⟨h, _⟩; (· rw [h]; rfl); exact absurd k1 h); have q2 : (s.cls != 1) = false := (by simp [k2]); have q3 : (s.typ == 0) = false := (by simp [k3]); have q4 : decide (rank < 1) = true := decide_eq_true (by omega); clear k1 k2 k3 k4 hec
  case' inr.inr.inr.inr.inl => have q1 : (ec != 0) = false := (by rcases hec with ⟨_, h⟩ | ⟨h, _⟩; (· rw [h]; rfl); exact absurd k1 h); have q2 : (s.cls != 1) = false := (by simp [k2]); have q3 : (s.typ == 0) = false := (by simp [k3]); have q4 : decide (rank < 1) = false := decide_eq_false (by omega); have q5 : decide (3 < rank) = true := decide_eq_true (by omega); clear k1 k2 k3 k4 k5 hec
  case' inr.inr.inr.inr.inr => have q1 : (ec != 0) = false := (by rcases hec with ⟨_, h⟩ | ⟨h, _⟩; (· rw [h]; rfl); exact absurd k1 h); have q2 : (s.cls != 1) = false := (by simp [k2]); have q3 : (s.typ == 0) = false := (by simp [k3]); have q4 : decide (rank < 1) = false := decide_eq_false (by omega); have q5 : decide (3 < rank) = false := decide_eq_false (by omega); have q6 : decide (timeOk now) = false := decide_eq_false k6; clear k1 k2 k3 k4 k5 k6 hec
  all_goals
    try rw [q6] at hw6
    have HW6 := Ho.mk hw6
    clear hw6
    go_wp2_with (first | (go_at_call 35; refine HW6.out.mono ?_; rintro r w3 ⟨rfl, rfl⟩))
    go_ret2
    exact ⟨rfl, HF2.out⟩
end Go.Proofs.Ytlbhfnjhhpcphaa
