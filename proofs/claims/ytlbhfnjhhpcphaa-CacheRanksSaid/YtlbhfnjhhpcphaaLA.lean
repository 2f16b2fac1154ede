/-
  statements about the cache: set, a, big, SameSet, sameFound.
-/
import Derived.Test.YtlbhfnjhhpcphaaCZ
namespace Go.Proofs.Ytlbhfnjhhpcphaa
open Go.RowKit
deriving instance DecidableEq for CSet
/-- A set as a value; its data's slice. -/
def setV (s : CSet) (ao : Option Addr) (cap : Nat) : Value := .agg #[.string (mk s.name), .int .i64 s.typ, .int .i64 s.cls, .int .i64 s.ttl, .slice ao s.data.length cap]
def aN : Bs := [1, 97, 0]
def bigN : Bs := [1, 65, 0]
def setS (ttl : Int) : CSet := ⟨aN, 1, 1, ttl, [[120]]⟩
theorem a_calls (w : World) : Calls Try.prog 23 #[] w fun r w' => r = .returned (.string (mk aN)) ∧ w = w' := by
  go_enter Try.func23, Try.ntmps23
  go_wp2
  go_ret
  exact ⟨rfl, rfl⟩
theorem big_calls (w : World) : Calls Try.prog 32 #[] w fun r w' => r = .returned (.string (mk bigN)) ∧ w = w' := by
  go_enter Try.func32, Try.ntmps32
  go_wp2
  go_ret
  exact ⟨rfl, rfl⟩
def set5 (w : World) (k : Nat) (v0 v1 v2 v3 v4 : Value) : World :=
  ((((w.setCell ⟨k, 0, none⟩ v0).setCell ⟨k, 1, none⟩ v1).setCell ⟨k, 2, none⟩ v2).setCell ⟨k, 3, none⟩ v3).setCell ⟨k, 4, none⟩ v4
theorem set5_blk {w : World} {k : Nat} {a0 a1 a2 a3 a4 : Value} {t : TypeId} {fr : Nat × Nat} (h : w.heap[k]? = some (.cells #[a0, a1, a2, a3, a4] t fr)) (v0 v1 v2 v3 v4 : Value) :
    (set5 w k v0 v1 v2 v3 v4).heap[k]? = some (.cells #[v0, v1, v2, v3, v4] t fr) := by
  have h := (show _ = some (Obj.cells #[v0, a1, a2, a3, a4] t fr) from blk_set h 0 v0)
  have h := (show _ = some (Obj.cells #[v0, v1, a2, a3, a4] t fr) from blk_set h 1 v1)
  have h := (show _ = some (Obj.cells #[v0, v1, v2, a3, a4] t fr) from blk_set h 2 v2)
  have h := (show _ = some (Obj.cells #[v0, v1, v2, v3, a4] t fr) from blk_set h 3 v3)
  exact (show _ = some (Obj.cells #[v0, v1, v2, v3, v4] t fr) from blk_set h 4 v4)
theorem set5_fr (w : World) (k : Nat) (v0 v1 v2 v3 v4 : Value) : Fr (fun i => i = k) w (set5 w k v0 v1 v2 v3 v4) :=
  ((((setFr w k 0 v0).trans (setFr _ k 1 v1)).trans (setFr _ k 2 v2)).trans (setFr _ k 3 v3)).trans (setFr _ k 4 v4)
set_option maxRecDepth 100000 in
theorem set_calls (ttl : Int) (w : World) : Calls Try.prog 22 #[.int .i64 ttl] w fun r w' => ∃ g, w.heap.size ≤ g ∧ r = .returned (setV (setS ttl) (some ⟨g, 0, none⟩) 1) ∧ w'.heap[g]? = some (.cells #[.string (mk [120])] 9 (0, 0)) ∧ Fr nob w w' := by
  have hbd2 : ∀ (g : Addr) (W : World), (Instr.build 24 #[(0, .string (mk aN)), (1, .int .i64 1), (2, .int .i64 1), (3, .int .i64 ttl), (4, .slice (some g) 1 1)]).run Try.prog W = .ok (.agg #[.string (mk aN), .int .i64 1, .int .i64 1, .int .i64 ttl, .slice (some g) 1 1]) W := fun g W => by kernel_rfl
  have hca := a_calls
  go_enter Try.func22, Try.ntmps22
  go_wp2_with (fail)
  refine (hca _).mono ?_
  clear hca
  rintro r w1 ⟨rfl, rfl⟩
  go_wp2_with (fail)
  have hb := blk_old (blk_new w (.cells #[.string (mk aN), .int .i64 1, .int .i64 1, .int .i64 ttl, .slice (some ⟨w.heap.size + 1, 0, none⟩) 1 1] 24)) (.cells #[.string (mk [120])] 9)
  have hg := blk_new (w.alloc (.cells #[.string (mk aN), .int .i64 1, .int .i64 1, .int .i64 ttl, .slice (some ⟨w.heap.size + 1, 0, none⟩) 1 1] 24)) (.cells #[.string (mk [120])] 9)
  rw [show (w.alloc (.cells #[.string (mk aN), .int .i64 1, .int .i64 1, .int .i64 ttl, .slice (some ⟨w.heap.size + 1, 0, none⟩) 1 1] 24)).heap.size = w.heap.size + 1 by simp] at hg
  refine bodyPost_ret (res_c rfl _ _ w.heap.size 24 _ (0, 0) _ rfl hb Try.underlying24 rfl (by kernel_rfl)) rfl ?_
  exact ⟨w.heap.size + 1, by omega, rfl, hg, ((Fr.refl nob w).alloc _).alloc _⟩
/-- What a one-text block holds, as texts. -/
theorem one_strs {w : World} {g : Nat} {b : Bs} (h : w.heap[g]? = some (.cells #[.string (mk b)] 9 (0, 0))) : IsStrs w (.slice (some ⟨g, 0, none⟩) 1 1) [b] := by
  refine ⟨some ⟨g, 0, none⟩, 1, rfl, fun i hi => ⟨g, 0, rfl, ?_⟩⟩
  have h0 : i = 0 := by simp at hi; exact hi
  subst h0
  exact blk_cell h 0
theorem mk_beq {a b : Bs} (h : a ≠ b) : ((mk a).toList == (mk b).toList) = false := by
  rw [beq_eq_false_iff_ne, Lib.toList_data, Lib.toList_data]; exact h
set_option maxRecDepth 100000 in
set_option maxHeartbeats 4000000 in
theorem SameSet_calls (s t : CSet) (ao : Option Addr) (cap : Nat) (bo : Option Addr) (dap : Nat) (w : World) (h1 : IsStrs w (.slice ao s.data.length cap) s.data) (h2 : IsStrs w (.slice bo t.data.length dap) t.data) (hl : s.data.length ≤ 1000000) (hl2 : t.data.length ≤ 1000000) :
    Calls Try.prog 29 #[setV s ao cap, setV t bo dap] w fun r w' => r = .returned (.bool (decide (s = t))) ∧ Fr nob w w' := by
  obtain ⟨res, hres⟩ : ∃ b, decide (s = t) = b := ⟨_, rfl⟩
  rw [hres]
  have hsb : ∀ s' t' : CSet, s' = t' ↔ s'.name = t'.name ∧ s'.typ = t'.typ ∧ s'.cls = t'.cls ∧ s'.ttl = t'.ttl ∧ s'.data = t'.data := fun s' t' => by
    cases s'; cases t'; simp
  have hf := ((Fr.refl nob w).alloc (.cells #[.string (mk s.name), .int .i64 s.typ, .int .i64 s.cls, .int .i64 s.ttl, .slice ao s.data.length cap] 24)).alloc (.cells #[.string (mk t.name), .int .i64 t.typ, .int .i64 t.cls, .int .i64 t.ttl, .slice bo t.data.length dap] 24)
  have HF := Ho.mk hf
  have hcall := SameTexts_calls _ _ s.data t.data _ (h1.same hf) (h2.same hf) hl hl2
  have HC := Ho.mk hcall
  clear hf h1 h2 hl hl2 hcall
  unfold setV
  by_cases e1 : s.name = t.name
  case' neg =>
    have HR : Ho (res = false) := Ho.mk (by rw [← hres, decide_eq_false]; rw [hsb]; exact fun h => e1 h.1)
    have k1 := mk_beq e1
    generalize mk s.name = sa at *
    generalize mk t.name = sb at *
  case' pos =>
    by_cases e2 : s.typ = t.typ
    case' neg =>
      have HR : Ho (res = false) := Ho.mk (by rw [← hres, decide_eq_false]; rw [hsb]; exact fun h => e2 h.2.1)
      have k2 : (s.typ == t.typ) = false := beq_eq_false_iff_ne.2 e2
      rw [e1] at HF HC ⊢
    case' pos =>
      by_cases e3 : s.cls = t.cls
      case' neg =>
        have HR : Ho (res = false) := Ho.mk (by rw [← hres, decide_eq_false]; rw [hsb]; exact fun h => e3 h.2.2.1)
        have k3 : (s.cls == t.cls) = false := beq_eq_false_iff_ne.2 e3
        rw [e1, e2] at HF HC ⊢
      case' pos =>
        by_cases e4 : s.ttl = t.ttl
        case' neg =>
          have HR : Ho (res = false) := Ho.mk (by rw [← hres, decide_eq_false]; rw [hsb]; exact fun h => e4 h.2.2.2.1)
          have k4 : (s.ttl == t.ttl) = false := beq_eq_false_iff_ne.2 e4
          rw [e1, e2, e3] at HF HC ⊢
        case' pos =>
          have HR : Ho (res = decide (s.data = t.data)) := Ho.mk (by rw [← hres, decide_eq_decide, hsb]; exact ⟨fun h => h.2.2.2.2, fun h => ⟨e1, e2, e3, e4, h⟩⟩)
          rw [e1, e2, e3, e4] at HF HC ⊢
  all_goals
    clear hres hsb
    go_enter Try.func29, Try.ntmps29
    go_wp2_with (fail)
    first
      | (go_ret
         exact ⟨by rw [HR.out]; rfl, HF.out⟩)
      | (refine HC.out.mono ?_
         rintro r w2 ⟨rfl, f2⟩
         go_wp2_with (fail)
         go_ret
         exact ⟨by rw [HR.out]; rfl, HF.out.trans f2⟩)
end Go.Proofs.Ytlbhfnjhhpcphaa
