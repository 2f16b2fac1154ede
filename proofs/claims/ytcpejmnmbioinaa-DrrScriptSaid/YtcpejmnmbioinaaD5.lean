/-
  package drr: Put of a new client.
-/
import Derived.Test.YtcpejmnmbioinaaD4
namespace Go.Proofs.Ytcpejmnmbioinaa
open Go.RowKit
theorem atE_none {E : List El} {n : Int} (h : ∀ x ∈ E, x.cl.n ≠ n) : atE E n = none := by
  unfold atE
  have : E.find? (fun x => x.cl.n == n) = none := by rw [List.find?_eq_none]; intro x hx; simpa using h x hx
  rw [this]; rfl
theorem atE_snoc {E : List El} {x : El} (h : ∀ y ∈ E, y.cl.n ≠ x.cl.n) : atE (E ++ [x]) x.cl.n = some (Pt x.e) ∧ ∀ m, m ≠ x.cl.n → atE (E ++ [x]) m = atE E m := by
  refine ⟨atE_mid E [] x h, fun m hm => ?_⟩
  unfold atE
  rw [List.find?_append]
  have : [x].find? (fun y => y.cl.n == m) = none := by
    rw [List.find?_eq_none]; intro y hy; simp at hy; subst hy; simpa using fun e => hm e.symm
  rw [this, Option.or_none]
theorem chain_len_quiet (bl : Nat) (L : List (Nat × Value)) (w : World) (h : Ring w bl L) (n : Nat) :
    Calls Try.prog 32 #[.pointer (some ⟨bl, 0, none⟩)] (w.drewN n) fun r w'' => r = .returned (.int .i64 L.length) ∧ ∃ m, w'' = w.drewN m := by
  refine Calls.quiet_of_same ((chain_len_calls bl L _ (h.same ((Fr.refl nob w).drewN n))).mono ?_)
  rintro r w' ⟨h1, rfl⟩
  exact ⟨h1, rfl⟩
theorem QI.push {w w' : World} {q bl mp e c : Nat} {ao : Option Addr} {cap : Nat} {cl : Cl} {E : List El} {st st' : Qs} {S : Nat → Prop} (h : QI w q bl mp E st) (hf : Fr S w w')
    (hS : ∀ k, S k → k = q ∨ k = mp ∨ RingB bl (E.map valE) k) (hc : w.heap.size ≤ c) (hao : ∀ k, inB ao k → w.heap.size ≤ k)
    (hx : ClAt w' ⟨e, c, ao, cap, cl⟩) (hr : Ring w' bl ((E ++ [(⟨e, c, ao, cap, cl⟩ : El)]).map valE)) (hm : MapF ikey w' mp (atE (E ++ [(⟨e, c, ao, cap, cl⟩ : El)])))
    (hhead : w'.heap[q]? = some (.cells (headCells st' bl mp (total st'.ring : Nat)) 52 (0, 0)))
    (hst : st'.ring = (E ++ [(⟨e, c, ao, cap, cl⟩ : El)]).map (·.cl)) : QI w' q bl mp (E ++ [(⟨e, c, ao, cap, cl⟩ : El)]) st' := by
  obtain ⟨⟨_, kq⟩, ⟨_, _, km⟩, ⟨_, kb⟩, ke⟩ := h.kinds
  refine ⟨hhead, hr, ?_, hm, ?_, hst⟩
  · intro y hy
    rcases List.mem_append.1 hy with hy | hy
    · obtain ⟨_, ⟨_, kyc⟩, kyi⟩ := ke y hy
      have kk : ∀ k, S k → (∃ cs, w.heap[k]? = some (.cells cs 52 (0, 0))) ∨ (∃ es c, w.heap[k]? = some (.map es c)) ∨ (∃ cs, w.heap[k]? = some (.cells cs 81 (0, 0))) ∨ (∃ cs, w.heap[k]? = some (.cells cs 79 (0, 0))) := by
        intro k hk
        rcases hS k hk with rfl | rfl | rfl | hk
        · exact .inl ⟨_, kq⟩
        · exact .inr (.inl ⟨_, _, km⟩)
        · exact .inr (.inr (.inl ⟨_, kb⟩))
        · obtain ⟨z, hz, rfl⟩ := List.mem_map.1 hk
          obtain ⟨u, hu, rfl⟩ := List.mem_map.1 hz
          exact .inr (.inr (.inr (ke u hu).1))
      refine (h.cls y hy).fr hf (fun hSk => ?_) (fun k hk hSk => ?_)
      · rcases kk _ hSk with ⟨_, e⟩ | ⟨_, _, e⟩ | ⟨_, e⟩ | ⟨_, e⟩ <;> rw [kyc] at e <;> simp at e
      · obtain ⟨_, ki⟩ := kyi k hk
        rcases kk _ hSk with ⟨_, e⟩ | ⟨_, _, e⟩ | ⟨_, e⟩ | ⟨_, e⟩ <;> rw [ki] at e <;> simp at e
    · obtain rfl : y = _ := by simpa using hy
      exact hx
  · rw [List.pairwise_append]
    refine ⟨h.apart, by simp, fun y hy z hz => ?_⟩
    obtain rfl : z = _ := by simpa using hz
    obtain ⟨_, ⟨_, kyc⟩, kyi⟩ := ke y hy
    refine ⟨fun e => ?_, fun k h1 h2 => ?_⟩
    · have := lt_of_blk kyc; simp only at e; omega
    · obtain ⟨_, ki⟩ := kyi k h1; have := lt_of_blk ki; have := hao k h2; omega
theorem Own.push {q bl mp e c : Nat} {ao : Option Addr} {cap : Nat} {cl : Cl} {E : List El} {B : Nat} (he : B ≤ e) (hc : B ≤ c) (hao : ∀ k, inB ao k → B ≤ k) {k : Nat} (h : Own q bl mp (E ++ [(⟨e, c, ao, cap, cl⟩ : El)]) k) : Own q bl mp E k ∨ B ≤ k := by
  rcases h with h | h | h | ⟨y, hy, h⟩
  · exact .inl (.inl h)
  · exact .inl (.inr (.inl h))
  · rcases h with h | h
    · exact .inl (.inr (.inr (.inl (.inl h))))
    · rw [List.map_append, List.map_append, List.mem_append] at h
      rcases h with h | h
      · exact .inl (.inr (.inr (.inl (.inr h))))
      · obtain rfl : k = e := by simpa [valE] using h
        exact .inr he
  · rcases List.mem_append.1 hy with hy | hy
    · exact .inl (.inr (.inr (.inr ⟨y, hy, h⟩)))
    · obtain rfl : y = _ := by simpa using hy
      rcases h with rfl | h
      · exact .inr hc
      · exact .inr (hao k h)
set_option maxRecDepth 100000 in
theorem put_many_calls (w : World) (q bl mp : Nat) (E : List El) (st : Qs) (n cost x : Int) (hQ : QI w q bl mp E st) (hn : ∀ a ∈ E, a.cl.n ≠ n) (hc1 : ¬ cost < 1) (hc2 : ¬ st.most < cost) (hfull : st.clients ≤ E.length) :
    Calls Try.prog 12 #[.pointer (some ⟨q, 0, none⟩), .int .i64 n, .int .i64 cost, .int .i64 x] w fun r w' => r = .returned (.int .i64 8) ∧ ∃ n, w' = w.drewN n := by
  obtain ⟨q0, q1, q2, q3, q4, q5, q6, q7⟩ := hQ.cells
  have hcall := none_calls q bl w q4
  have hl := MapF.lookup (t := 50) ikeys Try.underlying50 zeroE hQ.map n
  rw [atE_none hn] at hl
  have hl' : (Instr.lookup 50 (.map (some mp)) (.int .i64 n) true).run Try.prog w = .ok (.tuple #[.pointer none, .bool false]) w := hl
  have hlen := chain_len_quiet bl (E.map valE) w hQ.ring
  rw [List.length_map] at hlen
  have hd1 : decide (cost < 1) = false := decide_eq_false hc1
  have hd2 : decide (st.most < cost) = false := decide_eq_false hc2
  have hd3 : decide (st.clients ≤ (E.length : Int)) = true := decide_eq_true hfull
  clear hQ hn hc1 hc2 hfull hl
  go_enter Try.func12, Try.ntmps12
  go_wp2_with (fail)
  refine hcall.mono ?_
  clear hcall
  rintro r w' ⟨rfl, rfl⟩
  go_wp2_with (fail)
  go_quiet (exact hlen _)
  clear hlen
  go_wp2
  go_ret
  exact ⟨rfl, _, rfl⟩
end Go.Proofs.Ytcpejmnmbioinaa
