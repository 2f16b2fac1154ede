/-
  package name: all: the iterator over a name's labels.
-/
import Derived.Test.YtlbhfnjhhpcphaaChecked
import Derived.Test.YtlbhfnjhhpcphaaA
import Derived.Test.YtlbhfnjhhpcphaaNL
import Derived.RangeFuncNested
import Derived.RangeFuncBound
import Derived.RangeFuncCalls
import Derived.RangeFuncLeaves
import Derived.Shelf.Abstract
import Derived.Shelf.RegionOpen
import Derived.WalkKit
import Derived.OwnWalkIn
import Derived.TacticsInMore
import Derived.LoopNIn
import Derived.LoopIn
import Derived.Sort.QuietIn
import Derived.IntWalk
import Derived.Lib.Strings
namespace Go.Proofs.Ytlbhfnjhhpcphaa
open Go.RowKit Go.Shelf
attribute [local go_sem] Oper.semAt_some
theorem all_calls (s : ByteArray) (w : World) :
    Calls Try.prog 68 #[.string s] w fun e w' => e = .returned (.func (.func 69) #[] #[.pointer (some ⟨w.heap.size, 0, none⟩)]) ∧ w' = w.alloc (.cells #[.string s] 9) := by
  have hmf : ∀ (fn : Fn) (first cap : Array Value) (w : World), (Instr.makeFunc fn first cap).run Try.prog w = .ok (.func fn first cap) w := fun _ _ _ _ => rfl
  go_enter Try.func68, Try.ntmps68
  go_wp2_with (fail)
  go_ret
  exact ⟨rfl, rfl⟩
/-- The bytes in a box, how many. -/
def boxLen (w : World) (b : Nat) : Nat := match w.cell? ⟨b, 0, none⟩ with | some (.string s) => s.size | _ => 0
def Box (w : World) (b : Nat) (r : Bs) : Prop := w.heap[b]? = some (.cells #[.string (mk r)] 9 (0, 0))
set_option maxHeartbeats 2000000 in
set_option maxRecDepth 100000 in
theorem all1_in (l Bn : Nat) (n : Bs) (J : List Bs → World → Prop) (Jx : World → Prop)
    (hset : ∀ pre W v, J pre W → J pre (W.setCell ⟨Bn, 0, none⟩ v)) (hdrew : ∀ pre W m, J pre W → J pre (W.drewN m))
    (hY : ∀ pre x W r, J pre W → Box W Bn r → pre.length < n.length → x.length ≤ 63 → YieldAt Fence.wide 0 Try.prog l #[.string (mk x), .bool true] W fun e W' => e = .returned (.bool true) ∧ J (pre ++ [x]) W' ∧ Box W' Bn r)
    (hN : ∀ pre W, J pre W → YieldAt Fence.wide 0 Try.prog l #[.string ⟨#[]⟩, .bool false] W fun e W' => e = .returned (.bool false) ∧ Jx W')
    (W : World) (hb : Box W Bn n) (h0 : J [] W) :
    CallsIn Fence.wide 1 Try.prog 69 #[.func (.yield l) #[] #[], .pointer (some ⟨Bn, 0, none⟩)] W fun e W' => (∃ v, e = .returned v) ∧
      ((∃ ls, lab n = some ls ∧ J ls W') ∨ (lab n = none ∧ Jx W')) := by
  refine callsIn_of_wp Try.func69 rfl trivial ?_ rfl
  simp only [Try.ntmps69, List.size_toArray, List.length_cons, List.length_nil, Nat.reduceAdd, Nat.reduceSub, Array.replicate_succ, Array.replicate_zero, List.push_toArray, List.append_toArray, List.nil_append, List.cons_append]
  gi_wp2
  gi_loopw [3] (fun _ wr => ∃ pre r, labAt n pre r ∧ Ho (Box wr Bn r) ∧ J pre wr) (fun _ wr => boxLen wr Bn)
  case atStart => exact ⟨[], n, labAt.start n, Ho.mk hb, h0⟩
  case round =>
    obtain ⟨pre, r, hat, HB, hJ⟩ := hrel
    have hlen := hat.2
    by_cases hr0 : r = [0]
    · subst hr0
      have b0 : wr.cell? ⟨Bn, 0, none⟩ = some (.string ⟨#[0]⟩) := blk_cell HB.out 0
      gi_wp2
      refine bodyPost_ret (results_none rfl _ _ _) rfl ?_
      exact ⟨⟨_, rfl⟩, .inl ⟨pre, hat.done, hJ⟩⟩
    · cases r with
      | nil =>
        have b0 : wr.cell? ⟨Bn, 0, none⟩ = some (.string ⟨#[]⟩) := blk_cell HB.out 0
        have hbad := hat.bad lab_nil
        gi_wp2
        gi_quiet (fail)
        obtain ⟨fn, tmps, assign, body, hy, hR⟩ := hN pre (wr.drewN nq) (hdrew _ _ _ hJ)
        gi_wp2
        refine hR.mono ?_
        rintro e W' ⟨rfl, hJx⟩
        gi_wp2
        refine bodyPost_ret (results_none rfl _ _ _) rfl ?_
        exact ⟨⟨_, rfl⟩, .inr ⟨hbad, hJx⟩⟩
      | cons c t =>
        have b0 : wr.cell? ⟨Bn, 0, none⟩ = some (.string (mk (c :: t))) := blk_cell HB.out 0
        obtain ⟨s, hs⟩ : ∃ s, mk (c :: t) = s := ⟨_, rfl⟩
        have hsz : s.size = t.length + 1 := by rw [← hs, mk_size]; rfl
        have hne : (s.toList == [0]) = false := by
          rw [← hs]; simp only [mk, ByteArray.toList_mk]
          rw [beq_eq_false_iff_ne]; exact hr0
        rw [hs] at b0
        have hp : 0 < s.size := by omega
        have hg : s[0] = c := by subst hs; rfl
        have HS := Ho.mk hs; have HSZ := Ho.mk hsz
        clear hs hsz
        have hsz0 : (((s.size : Int)) == 0) = false := by rw [beq_eq_false_iff_ne]; omega
        have hc255 : c.toNat < 256 := c.toNat_lt
        have HBad : Ho (lab (c :: t) = none → lab n = none) := Ho.mk (fun h => hat.bad h)
        by_cases hbad : c = 0 ∨ 63 < c.toNat ∨ t.length < c.toNat
        · have hb0 : lab (c :: t) = none := by
            rw [lab_cons]
            by_cases h0 : c = 0
            · subst h0; rw [if_pos rfl, if_neg (by rintro rfl; exact hr0 rfl)]
            · rw [if_neg h0, if_pos (hbad.resolve_left h0)]
          have hbn := HBad.out hb0
          have HBN := Ho.mk hbn
          clear hbn hb0 HBad
          by_cases h0 : c = 0
          case' pos =>
            have k1 : ((c.toNat : Int) == 0) = true := by rw [h0]; rfl
            clear h0 hbad
            gi_wp2
            gi_quiet (fail)
          case' neg =>
            have hc1 : c.toNat ≠ 0 := fun h => h0 (UInt8.toNat_inj.1 h)
            have k1 : ((c.toNat : Int) == 0) = false := by rw [beq_eq_false_iff_ne]; omega
            by_cases h1 : 63 < c.toNat
            case' pos =>
              have k2 : decide ((63 : Int) < (c.toNat : Int)) = true := decide_eq_true (by omega)
              have k2' : decide (63 < c.toNat) = true := decide_eq_true (by omega)
              clear h0 hbad
              gi_wp2
              gi_quiet (fail)
            case' neg =>
              have h2 : t.length < c.toNat := (hbad.resolve_left h0).resolve_left h1
              have k2 : decide ((63 : Int) < (c.toNat : Int)) = false := decide_eq_false (by omega)
              have k2' : decide (63 < c.toNat) = false := decide_eq_false (by omega)
              have k3 : decide ((s.size : Int) ≤ (c.toNat : Int)) = true := decide_eq_true (by have := HSZ.out; omega)
              have k3' : decide (s.size ≤ c.toNat) = true := decide_eq_true (by have := HSZ.out; omega)
              clear h0 hbad
              gi_wp2
              gi_quiet (fail)
          all_goals
            obtain ⟨fn, tmps, assign, body, hy, hR⟩ := hN pre (wr.drewN nq) (hdrew _ _ _ hJ)
            gi_wp2
            refine hR.mono ?_
            rintro e W' ⟨rfl, hJx⟩
            gi_wp2
            refine bodyPost_ret (results_none rfl _ _ _) rfl ?_
            exact ⟨⟨_, rfl⟩, .inr ⟨HBN.out, hJx⟩⟩
        · have h0 : c ≠ 0 := fun h => hbad (.inl h)
          have h1 : c.toNat ≤ 63 := by omega
          have h2 : c.toNat ≤ t.length := by omega
          have hstep := hat.step h0 h1 h2
          have hc1 : 1 ≤ c.toNat := by
            rcases Nat.eq_zero_or_pos c.toNat with h | h
            · exact absurd (UInt8.toNat_inj.1 h) h0
            · exact h
          have k1 : ((c.toNat : Int) == 0) = false := by rw [beq_eq_false_iff_ne]; omega
          have k2 : decide ((63 : Int) < (c.toNat : Int)) = false := decide_eq_false (by omega)
          have k2' : decide (63 < c.toNat) = false := decide_eq_false (by omega)
          have k3 : decide ((s.size : Int) ≤ (c.toNat : Int)) = false := decide_eq_false (by have := HSZ.out; omega)
          have k3' : decide (s.size ≤ c.toNat) = false := decide_eq_false (by have := HSZ.out; omega)
          have hcs : 1 + c.toNat ≤ s.size := by have := HSZ.out; omega
          have HST := Ho.mk hstep
          clear hbad hstep
          gi_wp2
          gi_quiet (fail)
          gi_wp2
          have hJ2 := hdrew _ _ (nq + 1) hJ
          have hB2 : Box (wr.drewN (nq + 1)) Bn (c :: t) := HB.out
          have hb2 : (wr.drewN (nq + 1)).cell? ⟨Bn, 0, none⟩ = some (.string s) := b0
          have hlt : pre.length < n.length := by simp at hlen; omega
          have hx : mk (t.take c.toNat) = s.extract 1 (1 + c.toNat) := by
            rw [← HS.out]; apply Go.WideShapes.bytes_inj; rw [Lib.extract_data]; simp [mk]
          have hYY := hY pre (t.take c.toNat) (wr.drewN (nq + 1)) (c :: t) hJ2 hB2 hlt (by simp; omega)
          rw [hx] at hYY
          obtain ⟨fn, tmps, assign, body, hy, hR⟩ := hYY
          have hw5 : 1 + (c.toNat : Int) ≤ (s.size : Int) := by omega
          have hw2 : (0 : Int) ≤ 1 + (c.toNat : Int) := by omega
          have hw4 : (1 : Int) ≤ 1 + (c.toNat : Int) := by omega
          have hw0 : IntKind.i64.wrap (c.toNat : Int) = (c.toNat : Int) := IntWalk.i64_in _ (by omega)
          have hw1 : IntKind.i64.wrap (1 + (c.toNat : Int)) = 1 + (c.toNat : Int) := IntWalk.i64_in _ (by omega)
          have hw3 : (1 + (c.toNat : Int)).toNat = 1 + c.toNat := by omega
          gi_region_with (refine hR.mono ?_; rintro e W' ⟨rfl, hJ', hB'⟩)
          all_goals
            gi_wp2
            obtain ⟨W3, hW3⟩ : ∃ W3 : World, W3 = W'.drew := ⟨_, rfl⟩
            have hB3 : Box W'.drew Bn (c :: t) := hB'
            unfold Box at hB3
            rw [HS.out] at hB3
            have hb3 : W'.drew.cell? ⟨Bn, 0, none⟩ = some (.string s) := blk_cell hB3 0
            have hf3 : W'.drew.frozen? ⟨Bn, 0, none⟩ = false := blk_free hB3 0
            have hx4 : s.extract (1 + c.toNat) s.size = mk (t.drop c.toNat) := by
              have hsz := HSZ.out
              have hsl : s.data.toList = c :: t := by rw [← HS.out]; rfl
              apply Go.WideShapes.bytes_inj
              rw [Lib.extract_data, hsl, Nat.add_comm 1, List.drop_succ_cons]
              exact List.take_of_length_le (by simp; omega)
            have hJ3 := hdrew _ _ 1 (hset _ _ (.string (mk (t.drop c.toNat))) hJ')
            have hs4 := blk_set hB3 0 (.string (mk (t.drop c.toNat)))
            have HJ3 := Ho.mk hJ3; have HS4 := Ho.mk hs4; have HX4 := Ho.mk hx4
            have HB0 := Ho.mk b0
            clear hW3 hJ3 hs4 hx4
            gi_region
            all_goals
              gi_wp2
              rw [HX4.out]
              have hc1' : (wr.cell? ⟨Bn, 0, none⟩) = some (.string s) := HB0.out
              have hc2 : (((W'.setCell ⟨Bn, 0, none⟩ (.string (mk (t.drop c.toNat)))).drew).cell? ⟨Bn, 0, none⟩) = some (.string (mk (t.drop c.toNat))) := blk_cell HS4.out 0
              refine ⟨⟨_, _, HST.out, Ho.mk HS4.out, HJ3.out⟩, ?_⟩
              unfold boxLen
              rw [hc1', hc2]
              have hsz := HSZ.out
              simp only [mk_size, List.length_drop]
              omega
end Go.Proofs.Ytlbhfnjhhpcphaa
