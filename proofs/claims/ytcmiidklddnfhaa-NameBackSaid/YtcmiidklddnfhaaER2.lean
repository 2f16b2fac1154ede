/-
  package name: Parse's deferred function; Parse.
-/
import Derived.Test.YtcmiidklddnfhaaEQ
import Derived.Defers
import Derived.Recover
namespace Go.Proofs.Ytcmiidklddnfhaa
open Go.RowKit
theorem run_isWrong (v : Value) (w : World) : (Instr.typeAssert (.iface 65 v) 20 65 true).run Try.prog w = .ok (.tuple #[v, .bool true]) w := by
  simp [Instr.typeAssert, run_underlying Try.underlying65]
set_option maxHeartbeats 400000 in
set_option maxRecDepth 100000 in
theorem catch_panicking (p q : Nat) (e a : Int) (older : List PanicEntry) (w : World) (x y z : Value) (hp : w.heap[p]? = some (.cells #[x] 9 (0, 0))) (hq : w.heap[q]? = some (.cells #[y, z] 45 (0, 0))) :
    CallsD Try.prog 43 #[.pointer (some ⟨p, 0, none⟩), .pointer (some ⟨q, 0, none⟩)] (.panicking ({ v := .iface 65 (.agg #[.int .i64 e, .int .i64 a]), recovered := false } :: older)) w fun r u' w' =>
      r = .returned (.tuple #[]) ∧ u' = .panicking ({ v := .iface 65 (.agg #[.int .i64 e, .int .i64 a]), recovered := true } :: older) ∧
      w'.heap[p]? = some (.cells #[.string ⟨#[]⟩] 9 (0, 0)) ∧ w'.heap[q]? = some (.cells #[.int .i64 e, .int .i64 a] 45 (0, 0)) ∧ Fr (fun k => k = p ∨ k = q) w w' := by
  have c0 : w.cell? ⟨p, 0, none⟩ = some x := blk_cell hp 0
  have d0 : w.cell? ⟨q, 0, none⟩ = some y := blk_cell hq 0
  have d1 : w.cell? ⟨q, 1, none⟩ = some z := blk_cell hq 1
  have HP := Ho.mk hp; have HQ := Ho.mk hq
  clear hp hq
  refine callsD_of_wpS Try.func43 rfl fun c₀ cs hu => ?_
  apply wpS_seq
  generalize hrest : Exit.thenS _ _ = K
  apply wpS_region
  simp [wpOpsS, go_sem, recoverD, hu, Try.ntmps43]
  have e15 : (Array.replicate 15 undef : Array Value) = #[undef, undef, undef, undef, undef, undef, undef, undef, undef, undef, undef, undef, undef, undef, undef] := rfl
  rw [e15]
  simp only [List.setIfInBounds_toArray, List.set_cons_zero, List.set_cons_succ, List.append_toArray, List.cons_append, List.nil_append]
  rw [← hrest]
  clear hrest K e15
  show Code.wpS _ _ _ _ _ _
  have ht := run_isWrong (.agg #[.int .i64 e, .int .i64 a]) w
  refine wpS_of_wp ?_
  generalize hQ : (fun (ex : Exit) (a' : Act) (w' : World) => bodyPostS Try.prog _ _ _ _ ex a' _ w') = Q
  go_wp2_with (fail)
  have hn1 := blk_new w (.cells #[.int .i64 e, .int .i64 a] 65)
  have hp1 := blk_old HP.out (.cells #[.int .i64 e, .int .i64 a] 65)
  have hq1 := blk_old HQ.out (.cells #[.int .i64 e, .int .i64 a] 65)
  have hf1 := (Fr.refl nob w).alloc (.cells #[.int .i64 e, .int .i64 a] 65)
  generalize w.alloc (.cells #[.int .i64 e, .int .i64 a] 65) = w1 at *
  have hpq : p ≠ q := fun h => by subst h; have := HP.out.symm.trans HQ.out; cases this
  obtain ⟨f, hf⟩ : ∃ f, w.heap.size = f := ⟨_, rfl⟩
  have hpf : p ≠ f := fun h => by have := lt_of_blk HP.out; omega
  have hqf : q ≠ f := fun h => by have := lt_of_blk HQ.out; omega
  rw [hf] at hn1 ⊢
  clear hf c0 d0 d1
  have c0 : w1.cell? ⟨p, 0, none⟩ = some x := blk_cell hp1 0
  have d0 : w1.cell? ⟨q, 0, none⟩ = some y := blk_cell hq1 0
  have d1 : w1.cell? ⟨q, 1, none⟩ = some z := blk_cell hq1 1
  have e0 : w1.cell? ⟨f, 0, none⟩ = some (.int .i64 e) := blk_cell hn1 0
  have e1 : w1.cell? ⟨f, 1, none⟩ = some (.int .i64 a) := blk_cell hn1 1
  have f0 : w1.frozen? ⟨p, 0, none⟩ = false := blk_free hp1 0
  have g0 : w1.frozen? ⟨q, 0, none⟩ = false := blk_free hq1 0
  have g1 : w1.frozen? ⟨q, 1, none⟩ = false := blk_free hq1 1
  have HP1 := Ho.mk hp1; have HQ1 := Ho.mk hq1; have HN1 := Ho.mk hn1; have HF1 := Ho.mk hf1; have HPQ := Ho.mk hpq
  clear hp1 hq1 hn1 hf1 
  go_region
  have hw4 : ((((w1.setCell ⟨p, 0, none⟩ (.string ⟨#[]⟩)).setCell ⟨q, 0, none⟩ (.int .i64 e)).setCell ⟨q, 1, none⟩ (.int .i64 a)).drew).heap[q]? = some (.cells #[.int .i64 e, .int .i64 a] 45 (0, 0)) := blk_set (blk_set (blk_far HQ1.out ⟨p, 0, none⟩ (fun h => HPQ.out h.symm) (.string ⟨#[]⟩)) 0 (.int .i64 e)) 1 (.int .i64 a)
  have hw3 : ((((w1.setCell ⟨p, 0, none⟩ (.string ⟨#[]⟩)).setCell ⟨q, 0, none⟩ (.int .i64 e)).setCell ⟨q, 1, none⟩ (.int .i64 a)).drew).heap[p]? = some (.cells #[.string ⟨#[]⟩] 9 (0, 0)) := blk_far (blk_far (blk_set HP1.out 0 (.string ⟨#[]⟩)) ⟨q, 0, none⟩ HPQ.out (.int .i64 e)) ⟨q, 1, none⟩ HPQ.out (.int .i64 a)
  have hf4 := (((((HF1.out.mono (S' := fun k => k = p ∨ k = q) (fun _ _ h => h.elim)).set (p := ⟨p, 0, none⟩) (.inr (.inl rfl)) (.string ⟨#[]⟩)).set (p := ⟨q, 0, none⟩) (.inr (.inr rfl)) (.int .i64 e)).set (p := ⟨q, 1, none⟩) (.inr (.inr rfl)) (.int .i64 a)).drew)
  have H4 := Ho.mk hw4; have H3 := Ho.mk hw3; have HF4 := Ho.mk hf4
  clear hw4 hw3 hf4 c0 d0 d1 e0 e1 f0 g0 g1
  generalize (((w1.setCell ⟨p, 0, none⟩ (.string ⟨#[]⟩)).setCell ⟨q, 0, none⟩ (.int .i64 e)).setCell ⟨q, 1, none⟩ (.int .i64 a)).drew = w4 at *
  go_wp2_with (fail)
  rw [← hQ]
  exact ⟨rfl, _, rfl, _, results_none rfl _ _ _, rfl, rfl, H3.out, H4.out, HF4.out⟩
theorem run_notWrong (w : World) : (Instr.typeAssert .nilIface 20 65 true).run Try.prog w = .ok (.tuple #[.agg #[.int .i64 0, .int .i64 0], .bool false]) w := by
  kernel_rfl
set_option maxHeartbeats 400000 in
set_option maxRecDepth 100000 in
theorem catch_idle (p q : Nat) (w : World) :
    CallsD Try.prog 43 #[.pointer (some ⟨p, 0, none⟩), .pointer (some ⟨q, 0, none⟩)] .returning w fun r u' w' =>
      r = .returned (.tuple #[]) ∧ u' = .returning ∧ Fr nob w w' := by
  refine callsD_of_wpS Try.func43 rfl fun c₀ cs hu => ?_
  apply wpS_seq
  generalize hrest : Exit.thenS _ _ = K
  apply wpS_region
  simp [wpOpsS, go_sem, recoverD, hu, Try.ntmps43]
  have e15 : (Array.replicate 15 undef : Array Value) = #[undef, undef, undef, undef, undef, undef, undef, undef, undef, undef, undef, undef, undef, undef, undef] := rfl
  rw [e15]
  simp only [List.setIfInBounds_toArray, List.set_cons_zero, List.set_cons_succ, List.append_toArray, List.cons_append, List.nil_append]
  rw [← hrest]
  clear hrest K e15
  show Code.wpS _ _ _ _ _ _
  have ht := run_notWrong w
  refine wpS_of_wp ?_
  generalize hQ : (fun (ex : Exit) (a' : Act) (w' : World) => bodyPostS Try.prog _ _ _ _ ex a' _ w') = Q
  go_wp2_with (fail)
  rw [← hQ]
  exact ⟨rfl, _, by rw [← hu], _, results_none rfl _ _ _, rfl, rfl, (Fr.refl nob w).alloc _⟩
def FaultV (x : Int × Int) : Value := .agg #[.int .i64 x.1, .int .i64 x.2]
theorem labelP_at {s : Bs} {a : Nat} {b r' : Bs} {a' : Nat} (ha : a < s.length) (h : labelP (s.drop a) a = .ok (b, r', a')) : r' = s.drop a' ∧ a < a' ∧ a' ≤ s.length + 1 := by
  rw [List.drop_eq_getElem_cons ha] at h
  by_cases h0 : s[a] = 46
  · rw [h0, labelP_dot] at h; cases h
  · cases hl : lbl (s[a] :: s.drop (a + 1)) a [] with
    | error e => rw [labelP_err h0 hl] at h; cases h
    | ok x =>
      obtain ⟨b1, r1, a1⟩ := x
      have hat := lbl_at s _ _ a [] b1 r1 a1 (Nat.le_refl _) (List.drop_eq_getElem_cons ha).symm (by omega) hl
      by_cases h1 : 63 < b1.length
      · rw [labelP_long h0 hl h1] at h; cases h
      · rw [labelP_ok h0 hl (by omega)] at h
        cases h
        obtain ⟨g1, g2, g3, _⟩ := hat
        exact ⟨by rw [g1, List.drop_drop], by omega, by omega⟩
theorem par_head {s : Bs} {a : Nat} {acc : List Bs} (ha : a < s.length) : par (s.drop a) a acc = par (s[a] :: s.drop (a + 1)) a acc := by rw [← List.drop_eq_getElem_cons ha]
/-- Between two labels. -/
structure PI (s : Bs) (w : World) (a : Nat) (acc : List Bs) (lv : Value) (W : World) : Prop where
  r0 : W.heap[w.heap.size]? = some (.cells #[.string ⟨#[]⟩] 9 (0, 0))
  r1 : W.heap[w.heap.size + 1]? = some (.cells #[.int .i64 0, .int .i64 0] 45 (0, 0))
  blk : PBlk W (w.heap.size + 1 + 1) s a lv
  own : W.ownsRow (w.heap.size + 3) 9 1 lv acc.length (acc.map str)
  fr : Fr nob w W
/-- Parse's answer. -/
def ParsePost (s : Bs) (w : World) (e : Ending) (w' : World) : Prop := e = .returned (.tuple #[str (parseP s).1, FaultV (parseP s).2]) ∧ Fr nob w w'
theorem door_read {w W : World} {u0 u1 : Value} {x : Bs} {e a : Int} {ts : List Value} (h0 : W.heap[w.heap.size]? = some (.cells #[str x] 9 (0, 0))) (h1 : W.heap[w.heap.size + 1]? = some (.cells #[.int .i64 e, .int .i64 a] 45 (0, 0))) :
    (results Try.f34 (u0 :: u1 :: .pointer (some ⟨w.heap.size, 0, none⟩) :: .pointer (some ⟨w.heap.size + 1, 0, none⟩) :: ts).toArray).run Try.prog W = .ok (.tuple #[str x, FaultV (e, a)]) W := by
  have c0 : W.cell? ⟨w.heap.size, 0, none⟩ = some (str x) := blk_cell h0 0
  have d0 : W.cell? ⟨w.heap.size + 1, 0, none⟩ = some (.int .i64 e) := blk_cell h1 0
  have d1 : W.cell? ⟨w.heap.size + 1, 1, none⟩ = some (.int .i64 a) := blk_cell h1 1
  simp [results, Try.f34, go_sem, c0, d0, d1, FaultV]
theorem door_panic {s : Bs} {w W : World} {u0 u1 x y z : Value} {e a : Int} {ts : List Value} (hp : parseP s = ([], e, a)) (h0 : W.heap[w.heap.size]? = some (.cells #[x] 9 (0, 0))) (h1 : W.heap[w.heap.size + 1]? = some (.cells #[y, z] 45 (0, 0))) (hf : Fr nob w W) :
    bodyPostD Try.prog Try.f34 (ParsePost s w) (Exit.panic [{ v := .iface 65 (.agg #[.int .i64 e, .int .i64 a]), recovered := false }])
      { tmps := (u0 :: u1 :: .pointer (some ⟨w.heap.size, 0, none⟩) :: .pointer (some ⟨w.heap.size + 1, 0, none⟩) :: ts).toArray, defers := [{ target := .fn (.func 43) #[.pointer (some ⟨w.heap.size, 0, none⟩), .pointer (some ⟨w.heap.size + 1, 0, none⟩)], args := #[] }] } W := by
  refine leaves_cons (f := 43) (args := #[.pointer (some ⟨w.heap.size, 0, none⟩), .pointer (some ⟨w.heap.size + 1, 0, none⟩)]) (by simp) (by simp [go_sem]) ?_
  refine (catch_panicking w.heap.size (w.heap.size + 1) e a [] W x y z h0 h1).mono ?_
  rintro r u' w' ⟨rfl, rfl, g0, g1, gf⟩
  refine ⟨_, door_read (x := []) g0 g1, by rw [hp], hf.call gf (fun i _ hi => .inl (by rcases hi with h | h <;> omega))⟩
theorem door_ret {s : Bs} {w W : World} {u0 u1 : Value} {x : Bs} {e a : Int} {ts : List Value} (hp : parseP s = (x, e, a)) (h0 : W.heap[w.heap.size]? = some (.cells #[str x] 9 (0, 0))) (h1 : W.heap[w.heap.size + 1]? = some (.cells #[.int .i64 e, .int .i64 a] 45 (0, 0))) (hf : Fr nob w W) :
    bodyPostD Try.prog Try.f34 (ParsePost s w) Exit.ret
      { tmps := (u0 :: u1 :: .pointer (some ⟨w.heap.size, 0, none⟩) :: .pointer (some ⟨w.heap.size + 1, 0, none⟩) :: ts).toArray, defers := [{ target := .fn (.func 43) #[.pointer (some ⟨w.heap.size, 0, none⟩), .pointer (some ⟨w.heap.size + 1, 0, none⟩)], args := #[] }] } W := by
  refine leaves_cons (f := 43) (args := #[.pointer (some ⟨w.heap.size, 0, none⟩), .pointer (some ⟨w.heap.size + 1, 0, none⟩)]) (by simp) (by simp [go_sem]) ?_
  refine (catch_idle w.heap.size (w.heap.size + 1) W).mono ?_
  rintro r u' w' ⟨rfl, rfl, gf⟩
  exact ⟨_, door_read (gf.block _ _ h0 (fun h => h)) (gf.block _ _ h1 (fun h => h)), by rw [hp], hf.call gf (fun i _ hi => hi.elim)⟩
set_option maxHeartbeats 4000000 in
set_option maxRecDepth 100000 in
theorem Parse_calls (s : Bs) (w : World) (hs : s.length ≤ 100000) : Calls Try.prog 34 #[.string (mk s)] w (ParsePost s w) := by
  have hmf : ∀ (fn : Fn) (first cap : Array Value) (w : World), (Instr.makeFunc fn first cap).run Try.prog w = .ok (.func fn first cap) w := fun _ _ _ _ => rfl
  obtain ⟨t, ht⟩ : ∃ t, mk s = t := ⟨_, rfl⟩
  have htl : t.toList = s := by rw [← ht, Lib.toList_data]; rfl
  have htz : t.size = s.length := by rw [← ht, mk_size]
  rw [ht]
  have HT := Ho.mk ht; have HTZ := Ho.mk htz
  clear ht htz
  by_cases h0 : s = []
  · have k1 : (t.toList == []) = true := by rw [htl, h0]; rfl
    have k1' : t.toList.isEmpty = true := by rw [htl, h0]; rfl
    have HP := Ho.mk (show parseP s = ([], 4, 0) by unfold parseP; rw [if_pos h0])
    clear h0 htl
    go_enter_defers Try.func34, Try.ntmps34
    go_wp2_with (fail)
    refine (fails_calls _ _ _ _).mono ?_
    rintro r w' ⟨rfl, rfl⟩
    exact door_panic HP.out (blk_old (blk_old (blk_new w _) _) _) (blk_old (blk_new' (by simp)) _) ((((Fr.refl nob w).alloc _).alloc _).alloc _)
  · have k1 : (t.toList == []) = false := by rw [htl, beq_eq_false_iff_ne]; exact h0
    have k1' : t.toList.isEmpty = false := by rw [htl]; cases s with | nil => exact absurd rfl h0 | cons a b => rfl
    by_cases h46 : s = [46]
    · have k2 : (t.toList == [46]) = true := by rw [htl, h46]; rfl
      have HP := Ho.mk (show parseP s = ([0], 0, 0) by unfold parseP; rw [if_neg h0, if_pos h46])
      clear h0 h46 htl
      go_enter_defers Try.func34, Try.ntmps34
      go_wp2_with (fail)
      exact door_ret (x := [0]) HP.out (blk_old (blk_old (blk_new w _) _) _) (blk_old (blk_new' (by simp)) _) ((((Fr.refl nob w).alloc _).alloc _).alloc _)
    · have k2 : (t.toList == [46]) = false := by rw [htl, beq_eq_false_iff_ne]; exact h46
      have hpar : parseP s = match par s 0 [] with
          | .error (e, a) => ([], e, a)
          | .ok ls => if (joinP ls).2 = 0 then ((joinP ls).1, 0, 0) else ([], (joinP ls).2, 0) := by unfold parseP; rw [if_neg h0, if_neg h46]; rfl
      have HPAR := Ho.mk hpar; have HS := Ho.mk hs
      clear h0 h46 htl hpar
      go_enter_defers Try.func34, Try.ntmps34
      go_wp2_with (fail)
      have hr0 := blk_old (blk_old (blk_new w (.cells #[.string ⟨#[]⟩] 9)) (.cells #[.int .i64 0, .int .i64 0] 45)) (.cells #[.string t, .int .i64 0, .slice none 0 0] 71)
      have hr1 : ((((w.alloc (.cells #[.string ⟨#[]⟩] 9)).alloc (.cells #[.int .i64 0, .int .i64 0] 45)).alloc (.cells #[.string t, .int .i64 0, .slice none 0 0] 71))).heap[w.heap.size + 1]? = some (.cells #[.int .i64 0, .int .i64 0] 45 (0, 0)) := blk_old (blk_new' (by simp)) _
      have hr2 : ((((w.alloc (.cells #[.string ⟨#[]⟩] 9)).alloc (.cells #[.int .i64 0, .int .i64 0] 45)).alloc (.cells #[.string t, .int .i64 0, .slice none 0 0] 71))).heap[w.heap.size + 1 + 1]? = some (.cells #[.string t, .int .i64 0, .slice none 0 0] 71 (0, 0)) := blk_new' (by simp)
      have hf0 := (((Fr.refl nob w).alloc (.cells #[.string ⟨#[]⟩] 9)).alloc (.cells #[.int .i64 0, .int .i64 0] 45)).alloc (.cells #[.string t, .int .i64 0, .slice none 0 0] 71)
      have HI : PI s w 0 [] (.slice none 0 0) (((w.alloc (.cells #[.string ⟨#[]⟩] 9)).alloc (.cells #[.int .i64 0, .int .i64 0] 45)).alloc (.cells #[.string t, .int .i64 0, .slice none 0 0] 71)) :=
        ⟨hr0, hr1, by unfold PBlk; rw [HT.out]; exact hr2, World.ownsRow_nil _ _ _ _, hf0⟩
      clear hr0 hr1 hr2 hf0
      go_loopw [] (fun wr => ∃ (a : Nat) (acc : List Bs) (lv : Value), Ho (par s 0 [] = par (s.drop a) a acc) ∧ a ≤ s.length + 1 ∧ acc.length ≤ a ∧ acc.length ≤ s.length ∧ PI s w a acc lv wr) (fun wr => s.length + 1 - atOf wr (w.heap.size + 1 + 1))
      case atStart => exact ⟨0, [], _, Ho.mk rfl, by omega, by simp, by simp, HI⟩
      case round =>
        obtain ⟨a, acc, lv, HPA, ha, hal, hal2, HI2⟩ := hrel
        clear HI
        have c0 : wr.cell? ⟨w.heap.size + 1 + 1, 0, none⟩ = some (.string t) := by have h := blk_cell HI2.blk 0; rw [← HT.out]; exact h
        have c1 : wr.cell? ⟨w.heap.size + 1 + 1, 1, none⟩ = some (.int .i64 (a : Int)) := blk_cell HI2.blk 1
        by_cases hlt : a < s.length
        · have k0 : decide ((a : Int) < (t.size : Int)) = true := decide_eq_true (by have := HTZ.out; omega)
          have k0' : decide (a < t.size) = true := decide_eq_true (by have := HTZ.out; omega)
          go_wp2_with (fail)
          go_quiet (fail)
          go_wp2_with (fail)
          have HI3 : PI s w a acc lv (wr.drewN nq) := ⟨HI2.r0, HI2.r1, HI2.blk, HI2.own, HI2.fr.drewN nq⟩
          have hlab := label_calls s a (w.heap.size + 1 + 1) (w.heap.size + 3) acc lv (wr.drewN nq) HI3.blk HI3.own (by have := lt_of_blk HI3.blk; omega) hlt HS.out (by have := HS.out; omega)
          refine hlab.mono ?_
          clear hlab
          intro r w5 hpo
          unfold LabelPost at hpo
          cases hl : labelP (s.drop a) a with
          | error eo =>
            obtain ⟨er, o⟩ := eo
            rw [hl] at hpo
            obtain ⟨rfl, hf5⟩ := hpo
            have hps : parseP s = ([], er, (o : Int)) := by
              rw [HPAR.out, HPA.out, par_head hlt, par_err (by rw [← List.drop_eq_getElem_cons hlt]; exact hl)]
            exact door_panic hps (hf5.block _ _ HI3.r0 (by show ¬ _ = _; omega)) (hf5.block _ _ HI3.r1 (by show ¬ _ = _; omega)) (HI3.fr.call hf5 (fun i _ hi => .inl (by have : i = w.heap.size + 1 + 1 := hi; omega)))
          | ok x =>
            obtain ⟨b, r', a'⟩ := x
            rw [hl] at hpo
            obtain ⟨rfl, lv', hp5, ho5, hf5⟩ := hpo
            obtain ⟨e1, e2, e3⟩ := labelP_at hlt hl
            have hn : ∀ k, k < w.heap.size + 2 → ¬ (k = w.heap.size + 1 + 1 ∨ lv.ownBlock = some k) := fun k hk h => by
              rcases h with h | h
              · omega
              · rcases HI3.own.2 with ⟨rfl, _⟩ | ⟨g, cap, cur, rfl, hg, _⟩
                · simp [Value.ownBlock] at h
                · simp only [Value.ownBlock, Option.some.injEq] at h; omega
            have HI5 : PI s w a' (acc ++ [b]) lv' w5 := ⟨hf5.block _ _ HI3.r0 (hn _ (by omega)), hf5.block _ _ HI3.r1 (hn _ (by omega)), hp5, by simpa using ho5, HI3.fr.call hf5 (fun i _ hi => .inl (by
              rcases Nat.lt_or_ge i (w.heap.size + 2) with h | h
              · exact absurd hi (hn i h)
              · omega))⟩
            have HPA5 := Ho.mk (show par s 0 [] = par (s.drop a') a' (acc ++ [b]) by
              rw [HPA.out, par_head hlt, par_ok (by rw [← List.drop_eq_getElem_cons hlt]; exact hl), e1])
            have hms : atOf w5 (w.heap.size + 1 + 1) = a' := hp5.atOf
            have hmw : atOf wr (w.heap.size + 1 + 1) = a := HI2.blk.atOf
            have HMS := Ho.mk hms; have HMW := Ho.mk hmw
            clear hl hp5 ho5 hf5 e1 HI3 c0 c1 HPA HI2 hms hmw hn
            go_wp2_with (fail)
            go_roundw
            case rel => exact ⟨a', acc ++ [b], lv', HPA5, e3, by simp; omega, by simp; omega, HI5⟩
            case measure => rw [HMS.out, HMW.out]; omega
        · have k0 : decide ((a : Int) < (t.size : Int)) = false := decide_eq_false (by have := HTZ.out; omega)
          have k0' : decide (a < t.size) = false := decide_eq_false (by have := HTZ.out; omega)
          have hpe : parseP s = if (joinP acc).2 = 0 then ((joinP acc).1, 0, 0) else ([], (joinP acc).2, 0) := by
            rw [HPAR.out, HPA.out, List.drop_eq_nil_of_le (by omega), par_nil]
          have hacc : acc.length ≤ 100000 := by have := HS.out; omega
          have HPE := Ho.mk hpe
          clear hpe
          go_wp2_with (fail)
          go_quiet (fail)
          have HI3 : PI s w a acc lv (wr.drewN nq) := ⟨HI2.r0, HI2.r1, HI2.blk, HI2.own, HI2.fr.drewN nq⟩
          have c2 : (wr.drewN nq).cell? ⟨w.heap.size + 1 + 1, 1 + 1, none⟩ = some lv := blk_cell HI3.blk 2
          generalize wr.drewN nq = w4 at *
          obtain ⟨lao, lcap, rfl⟩ := own_shape HI3.own
          have c2' : w4.cell? ⟨w.heap.size + 1 + 1, 2, none⟩ = some (.slice lao acc.length lcap) := c2
          clear HI2 c0 c1 HPA
          go_wp2_with (fail)
          refine (Join_calls _ acc w4 (own_strs HI3.own) hacc).mono ?_
          rintro r w5 ⟨rfl, hf5⟩
          have hr0 := hf5.block _ _ HI3.r0 (fun h => h)
          have hr1 := hf5.block _ _ HI3.r1 (fun h => h)
          have hff := HI3.fr.call hf5 (fun i _ hi => hi.elim)
          have c0 : w5.cell? ⟨w.heap.size, 0, none⟩ = some (.string ⟨#[]⟩) := blk_cell hr0 0
          have f0 : w5.frozen? ⟨w.heap.size, 0, none⟩ = false := blk_free hr0 0
          have q0 : w5.cell? ⟨w.heap.size + 1, 0, none⟩ = some (.int .i64 0) := blk_cell hr1 0
          have q1 : w5.cell? ⟨w.heap.size + 1, 1, none⟩ = some (.int .i64 0) := blk_cell hr1 1
          have q2 : w5.frozen? ⟨w.heap.size + 1, 0, none⟩ = false := blk_free hr1 0
          have q3 : w5.frozen? ⟨w.heap.size + 1, 1, none⟩ = false := blk_free hr1 1
          obtain ⟨nm, er, hj⟩ : ∃ nm er, joinP acc = (nm, er) := ⟨_, _, rfl⟩
          have hpe := HPE.out
          rw [hj] at hpe ⊢
          have hr0' := blk_set hr0 0 (str nm)
          have hr1' := blk_far hr1 ⟨w.heap.size, 0, none⟩ (by show w.heap.size + 1 ≠ w.heap.size; omega) (str nm)
          have hff' := hff.set (p := ⟨w.heap.size, 0, none⟩) (.inl (Nat.le_refl _)) (str nm)
          have HR0 := Ho.mk hr0'; have HR1 := Ho.mk hr1'; have HFF := Ho.mk hff'
          have HPE2 := Ho.mk hpe
          clear hj hpe HPE hr0 hr1 hff hf5 HI3 hr0' hr1' hff' c2 c2'
          unfold str
          by_cases he : er = 0
          · have k3 : (er == 0) = true := by rw [he]; rfl
            subst he
            unfold str at HR0 HR1 HFF
            have d0 : (w5.setCell ⟨w.heap.size, 0, none⟩ (.string (mk nm))).cell? ⟨w.heap.size, 0, none⟩ = some (.string (mk nm)) := blk_cell HR0.out 0
            have g0 : (w5.setCell ⟨w.heap.size, 0, none⟩ (.string (mk nm))).frozen? ⟨w.heap.size, 0, none⟩ = false := blk_free HR0.out 0
            go_wp2_with (fail)
            have hps : parseP s = (nm, 0, 0) := by rw [HPE2.out]; simp
            exact door_ret hps (blk_far (blk_far (blk_set HR0.out 0 (.string (mk nm))) ⟨w.heap.size + 1, 0, none⟩ (by show w.heap.size ≠ w.heap.size + 1; omega) (.int .i64 0)) ⟨w.heap.size + 1, 1, none⟩ (by show w.heap.size ≠ w.heap.size + 1; omega) (.int .i64 0))
              (blk_set (blk_set (blk_far HR1.out ⟨w.heap.size, 0, none⟩ (by show w.heap.size + 1 ≠ w.heap.size; omega) (.string (mk nm))) 0 (.int .i64 0)) 1 (.int .i64 0))
              (((HFF.out.set (p := ⟨w.heap.size, 0, none⟩) (.inl (Nat.le_refl _)) (.string (mk nm))).set (p := ⟨w.heap.size + 1, 0, none⟩) (.inl (Nat.le_succ _)) (.int .i64 0)).set (p := ⟨w.heap.size + 1, 1, none⟩) (.inl (Nat.le_succ _)) (.int .i64 0))
          · have k3 : (er == 0) = false := by rw [beq_eq_false_iff_ne]; exact he
            have HP := Ho.mk (show parseP s = ([], er, 0) by rw [HPE2.out]; simp [he])
            clear he
            go_wp2_with (fail)
            refine (fails_calls _ _ _ _).mono ?_
            rintro r w' ⟨rfl, rfl⟩
            exact door_panic HP.out HR0.out HR1.out HFF.out
end Go.Proofs.Ytcmiidklddnfhaa
