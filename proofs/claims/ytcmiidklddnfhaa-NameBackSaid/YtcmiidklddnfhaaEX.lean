/-
  Chapter 04's statements: faulty, awake, long.
-/
import Derived.Test.YtcmiidklddnfhaaEW
namespace Go.Proofs.Ytcmiidklddnfhaa
open Go.RowKit
set_option maxRecDepth 100000 in
theorem faulty_calls (s : Bs) (e a : Int) (w : World) (hs : s.length ≤ 100000) (h : parseP s = ([], e, a)) :
    Calls Try.prog 35 #[.string (mk s), .int .i64 e, .int .i64 a] w (BoolPost w true) := by
  have hp := Parse_calls s w hs
  unfold ParsePost FaultV at hp
  rw [h] at hp
  simp only at hp
  unfold str at hp
  have e1 : mk [] = ⟨#[]⟩ := rfl
  rw [e1] at hp
  generalize mk s = t at *
  have he : (e == e) = true := by simp
  have ha : (a == a) = true := by simp
  go_enter Try.func35, Try.ntmps35
  go_wp2_with (fail)
  refine hp.mono ?_
  clear hp
  rintro r w1 ⟨rfl, hf⟩
  go_wp2_with (fail)
  go_ret
  exact ⟨rfl, hf.alloc _⟩
set_option maxRecDepth 100000 in
theorem long_calls (v : Value) (l : List Bs) (w : World) (hv : IsStrs w v l) (hl : l.length ≤ 1000000) :
    Calls Try.prog 9 #[v] w (BoolPost w (l.any fun x => decide (100 < x.length))) := by
  obtain ⟨a, cap, rfl, hc⟩ := hv
  have HC := Ho.mk hc
  clear hc
  go_enter Try.func9, Try.ntmps9
  go_wp2_with (fail)
  go_loop [3] (fun iv => ∃ k : Nat, k ≤ l.length ∧ iv = .int .i64 (k : Int) ∧ Ho (∀ x ∈ l.take k, x.length ≤ 100)) (fun iv => l.length - (intOf iv).toNat)
  case atStart => exact ⟨0, by omega, rfl, ⟨by simp⟩⟩
  case round =>
    obtain ⟨k, hk, rfl, HA⟩ := hrel
    by_cases hlt : k < l.length
    · obtain ⟨b, off, rfl, h1⟩ := HC.out k hlt
      have e1 := List.take_succ_eq_append_getElem hlt
      have hm : l[k] ∈ l := List.getElem_mem hlt
      unfold str at h1
      generalize l[k] = x at *
      obtain ⟨sx, hsx⟩ : ∃ t, mk x = t := ⟨_, rfl⟩
      have hsz : sx.size = x.length := by rw [← hsx, mk_size]
      rw [hsx] at h1
      have HE := Ho.mk e1; have HM := Ho.mk hm; have HSZ := Ho.mk hsz
      clear e1 hm hsx hsz
      by_cases hx : 100 < sx.size
      · have k1 : decide ((100 : Int) < (sx.size : Int)) = true := decide_eq_true (by omega)
        have k1' : decide (100 < sx.size) = true := decide_eq_true hx
        have HR := Ho.mk (show (l.any fun x => decide (100 < x.length)) = true from List.any_eq_true.2 ⟨x, HM.out, decide_eq_true (by rw [← HSZ.out]; exact hx)⟩)
        clear hx
        go_wp2_with (fail)
        go_ret
        exact BoolPost.mk' HR.out (Fr.refl _ _)
      · have k1 : decide ((100 : Int) < (sx.size : Int)) = false := decide_eq_false (by omega)
        have k1' : decide (100 < sx.size) = false := decide_eq_false hx
        have HX := Ho.mk (show x.length ≤ 100 by rw [← HSZ.out]; omega)
        clear hx
        go_wp2_with (fail)
        go_round
        case rel => exact ⟨k + 1, by omega, by go_num, ⟨fun y hy => by
          rw [HE.out] at hy
          rcases List.mem_append.1 hy with h | h
          · exact HA.out y h
          · rw [List.mem_singleton] at h; rw [h]; exact HX.out⟩⟩
        case measure => simp [intOf]; omega
    · obtain rfl : l.length = k := by omega
      have HR := Ho.mk (show (l.any fun x => decide (100 < x.length)) = false from List.any_eq_false.2 (fun x hx => by
        have h := HA.out x (by rw [List.take_length]; exact hx)
        simp; omega))
      clear HA
      go_wp2_with (fail)
      go_ret
      exact BoolPost.mk' HR.out (Fr.refl _ _)
def t1 : Bs := [119, 119, 119, 46, 69, 120, 97, 109, 112, 108, 101, 46]
def t2 : Bs := [119, 119, 119, 46, 69, 120, 97, 109, 112, 108, 101]
def n1 : Bs := [3, 119, 119, 119, 7, 69, 120, 97, 109, 112, 108, 101, 0]
theorem p1 : parseP t1 = (n1, 0, 0) := by decide +kernel
theorem p2 : parseP t2 = (n1, 0, 0) := by decide +kernel
theorem p3 : parseP [97, 46, 46, 98] = ([], 4, 2) := by decide +kernel
theorem p4 : withinP [1, 97, 1, 66, 0] [1, 98, 0] = true := by decide +kernel
set_option maxRecDepth 100000 in
set_option maxHeartbeats 1000000 in
theorem awake_calls (w : World) : Calls Try.prog 21 #[] w (BoolPost w true) := by
  have h1 := Parse_calls t1 w (by decide)
  have h2 := fun W => Parse_calls t2 W (by decide)
  have h3 := fun W => faulty_calls [97, 46, 46, 98] 4 2 W (by decide) p3
  have h4 := fun W => Within_calls [1, 97, 1, 66, 0] [1, 98, 0] W (by decide) (by decide)
  unfold ParsePost FaultV at h1 h2
  have en : str n1 = .string ⟨#[3, 119, 119, 119, 7, 69, 120, 97, 109, 112, 108, 101, 0]⟩ := rfl
  rw [p1, en] at h1
  simp only [p2, en] at h2
  simp only [p4] at h4
  have H2 := Ho.mk h2; have H3 := Ho.mk h3; have H4 := Ho.mk h4
  clear h2 h3 h4
  go_enter Try.func21, Try.ntmps21
  go_wp2_with (fail)
  refine h1.mono ?_
  clear h1
  rintro r w1 ⟨rfl, hf1⟩
  go_wp2_with (fail)
  have hn1 := blk_new w1 (.cells #[.int .i64 0, .int .i64 0] 45)
  have hg1 := hf1.alloc (.cells #[.int .i64 0, .int .i64 0] 45)
  obtain ⟨f, hf⟩ : ∃ f, w1.heap.size = f := ⟨_, rfl⟩
  rw [hf] at hn1 ⊢
  generalize w1.alloc (.cells #[.int .i64 0, .int .i64 0] 45) = w2 at *
  have HN1 := Ho.mk hn1; have HG1 := Ho.mk hg1
  clear hn1 hg1 hf hf1
  refine (H2.out w2).mono ?_
  rintro r w3 ⟨rfl, hf3⟩
  have c1 : (w3.alloc (.cells #[.int .i64 0, .int .i64 0] 45)).cell? ⟨f, 0, none⟩ = some (.int .i64 0) := blk_cell (blk_old (hf3.block _ _ HN1.out (fun h => h)) _) 0
  have HG3 := Ho.mk ((HG1.out.trans hf3).alloc (.cells #[.int .i64 0, .int .i64 0] 45))
  clear hf3
  go_wp2_with (fail)
  refine (H3.out _).mono ?_
  rintro r w5 ⟨rfl, hf5⟩
  go_wp2_with (fail)
  refine (H4.out _).mono ?_
  rintro r w6 ⟨rfl, hf6⟩
  go_wp2_with (fail)
  go_ret
  exact ⟨rfl, (HG3.out.trans hf5).trans hf6⟩
end Go.Proofs.Ytcmiidklddnfhaa
