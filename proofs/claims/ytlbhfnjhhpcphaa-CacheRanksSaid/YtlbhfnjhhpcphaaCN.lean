/-
  package cache: of, live.
-/
import Derived.Test.YtlbhfnjhhpcphaaCM
namespace Go.Proofs.Ytlbhfnjhhpcphaa
open Go.RowKit
theorem run_isEntry (v : Value) (w : World) : (Instr.typeAssert (.iface 93 v) 20 93 true).run Try.prog w = .ok (.tuple #[v, .bool true]) w := by
  simp [Instr.typeAssert, run_underlying Try.underlying93]
set_option maxRecDepth 100000 in
theorem of_calls (e : Nat) (n : ByteArray) (k : Int) (T : TypeId) (v : Value) (w : World) (a b y : Value) (h : w.heap[e]? = some (.cells #[.iface 93 (.agg #[.string n, .int .i64 k, .iface T v]), a, b, y] 115 (0, 0))) :
    Calls Try.prog 45 #[.pointer (some ⟨e, 0, none⟩)] w fun r w' => r = .returned (.agg #[.string n, .int .i64 k, .iface T v]) ∧ Fr nob w w' := by
  have c0 : w.cell? ⟨e, 0, none⟩ = some (.iface 93 (.agg #[.string n, .int .i64 k, .iface T v])) := blk_cell h 0
  have hlt := lt_of_blk h
  have hta := run_isEntry (.agg #[.string n, .int .i64 k, .iface T v])
  have hf1 := (Fr.refl nob w).alloc (.cells #[.string ⟨#[]⟩, .int .i64 0, .nilIface] 93)
  have c1 : (w.alloc (.cells #[.string ⟨#[]⟩, .int .i64 0, .nilIface] 93)).cell? ⟨e, 0, none⟩ = some (.iface 93 (.agg #[.string n, .int .i64 k, .iface T v])) := blk_cell (hf1.block _ _ h (fun h => h)) 0
  clear h hf1
  go_enter Try.func45, Try.ntmps45
  go_wp2
  exact bodyPost_ret (v := .agg #[.string n, .int .i64 k, .iface T v]) (by simp [results, Try.results45, go_sem]) rfl ⟨rfl, ((Fr.refl nob w).alloc _).alloc _⟩
theorem thV_shape (x : ElC) : ∃ T v, thV x = .iface T v := by
  unfold thV
  split
  · exact ⟨_, _, rfl⟩
  · exact ⟨_, _, rfl⟩
theorem of_el (x : ElC) (w : World) (a b y : Value) (h : w.heap[x.e]? = some (.cells #[(valC x).2, a, b, y] 115 (0, 0))) :
    Calls Try.prog 45 #[.pointer (some ⟨x.e, 0, none⟩)] w fun r w' => r = .returned (entV x) ∧ Fr nob w w' := by
  obtain ⟨T, v, hv⟩ := thV_shape x
  unfold entV
  simp only [valC, entV, hv, str] at h ⊢
  exact of_calls x.e _ _ T v w a b y h
theorem run_entry_x (n : ByteArray) (k : Int) (T : TypeId) (v : Value) (w : World) : (Instr.field 93 (.agg #[.string n, .int .i64 k, .iface T v]) 1).run Try.prog w = .ok (.iface T v) w := by
  kernel_rfl
theorem run_entry_k (n : ByteArray) (k : Int) (T : TypeId) (v : Value) (w : World) : (Instr.field 93 (.agg #[.string n, .int .i64 k, .iface T v]) 0).run Try.prog w = .ok (.agg #[.string n, .int .i64 k]) w := by
  kernel_rfl
theorem run_until_none (n : Int) (w : World) : (method 240 82 (.agg #[.int .i64 n]) "ostiary/cache.until").run Try.prog w = .ok (87, .agg #[.int .i64 n]) w := by
  kernel_rfl
theorem run_until_known (xs : Array Value) (w : World) : (method 240 84 (.agg xs) "ostiary/cache.until").run Try.prog w = .ok (88, .agg xs) w := by
  kernel_rfl
/-- live. -/
theorem find_split {E : List ElC} {n : Bs} {k : Int} : (E.find? (fun x => isK n k x.th) = none ∧ ∀ x ∈ E, x.th.key ≠ (n, k)) ∨ ∃ A x B, E = A ++ x :: B ∧ x.th.key = (n, k) ∧ (∀ y ∈ A, y.th.key ≠ (n, k)) ∧ E.find? (fun x => isK n k x.th) = some x := by
  cases h : E.find? (fun x => isK n k x.th) with
  | none =>
    refine .inl ⟨rfl, fun x hx e => ?_⟩
    have := List.find?_eq_none.1 h x hx
    rw [isK_iff.2 e] at this; simp at this
  | some x =>
    obtain ⟨h1, A, B, h2, h3⟩ := List.find?_eq_some_iff_append.1 h
    refine .inr ⟨A, x, B, h2, isK_iff.1 h1, fun y hy e => ?_, rfl⟩
    have := h3 y hy
    rw [isK_iff.2 e] at this; simp at this
theorem find_th {E : List ElC} {st : Ca} (h : st.L = E.map (·.th)) (n : Bs) (k : Int) : st.find n k = (E.find? (fun x => isK n k x.th)).map (·.th) := by
  unfold Ca.find
  rw [h, List.find?_map]; rfl
theorem zeroE (w : World) : (zeroValue 90).run Try.prog w = .ok (.pointer none) w := by
  kernel_rfl
theorem lookC {w : World} {mp : Nat} {E : List ElC} (h : MapF ckey w mp (atC E)) (n : Bs) (k : Int) :
    (Instr.lookup 32 (.map (some mp)) (.agg #[.string (mk n), .int .i64 k]) true).run Try.prog w = .ok (.tuple #[(atC E (n, k)).getD (.pointer none), .bool (atC E (n, k)).isSome]) w :=
  MapF.lookup (t := 32) ckeys Try.underlying32 zeroE h (n, k)
set_option maxRecDepth 100000 in
set_option maxHeartbeats 2000000 in
theorem live_none_calls (D : Nat → Prop) (w : World) (c bl mp : Nat) (E : List ElC) (st : Ca) (n : Bs) (k : Int) (h : CI D w c bl mp E st) (hn : E.find? (fun x => isK n k x.th) = none) :
    Calls Try.prog 37 #[.pointer (some ⟨c, 0, none⟩), .agg #[.string (mk n), .int .i64 k]] w fun r w' => r = .returned .nilIface ∧ Fr nob w w' := by
  obtain ⟨c0, c1, c2, c3⟩ := h.cells
  have hl := fun W (hW : Fr nob w W) => lookC (h.map.fr hW (fun h => h)) n k
  have ha : atC E (n, k) = none := by unfold atC; rw [hn]; rfl
  rw [ha] at hl
  have hfb := (Fr.refl nob w).alloc (.cells #[.string (mk n), .int .i64 k] 77)
  have hl2 : ∀ m, (Instr.lookup 32 (.map (some mp)) (.agg #[.string (mk n), .int .i64 k]) true).run Try.prog ((w.alloc (.cells #[.string (mk n), .int .i64 k] 77)).drewN m) = .ok (.tuple #[.pointer none, .bool false]) ((w.alloc (.cells #[.string (mk n), .int .i64 k] 77)).drewN m) := fun m => hl _ (hfb.drewN m)
  have c3' : (w.alloc (.cells #[.string (mk n), .int .i64 k] 77)).cell? ⟨c, 3, none⟩ = some (.map (some mp)) := hfb.cell (fun h => h) c3
  have HFB := Ho.mk hfb
  clear h hl ha hn hfb
  go_enter Try.func37, Try.ntmps37
  go_wp2_with (fail)
  go_quiet (fail)
  go_wp2_with (fail)
  go_quiet (fail)
  go_wp2_with (fail)
  go_ret
  exact ⟨rfl, (HFB.out.drewN _).drewN _⟩
set_option maxRecDepth 100000 in
set_option maxHeartbeats 2000000 in
theorem live_some_none_calls (D : Nat → Prop) (w : World) (c bl mp : Nat) (E : List ElC) (st : Ca) (n : Bs) (k : Int) (x : ElC) (h : CI D w c bl mp E st) (hn : E.find? (fun x => isK n k x.th) = some x) (hst : x.th.st = none) :
    Calls Try.prog 37 #[.pointer (some ⟨c, 0, none⟩), .agg #[.string (mk n), .int .i64 k]] w fun r w' => r = .returned (if x.th.fin ≤ st.now then .nilIface else thV x) ∧ Fr nob w w' := by
  obtain ⟨c0, c1, c2, c3⟩ := h.cells
  have hl := fun W (hW : Fr nob w W) => lookC (h.map.fr hW (fun h => h)) n k
  have ha : atC E (n, k) = some (Pt x.e) := by unfold atC; rw [hn]; rfl
  rw [ha] at hl
  have hfb := (Fr.refl nob w).alloc (.cells #[.string (mk n), .int .i64 k] 77)
  have hl2 : ∀ m, (Instr.lookup 32 (.map (some mp)) (.agg #[.string (mk n), .int .i64 k]) true).run Try.prog ((w.alloc (.cells #[.string (mk n), .int .i64 k] 77)).drewN m) = .ok (.tuple #[.pointer (some ⟨x.e, 0, none⟩), .bool true]) ((w.alloc (.cells #[.string (mk n), .int .i64 k] 77)).drewN m) := fun m => hl _ (hfb.drewN m)
  have c3' : (w.alloc (.cells #[.string (mk n), .int .i64 k] 77)).cell? ⟨c, 3, none⟩ = some (.map (some mp)) := hfb.cell (fun h => h) c3
  have c1' : (w.alloc (.cells #[.string (mk n), .int .i64 k] 77)).cell? ⟨c, 1, none⟩ = some (.int .i64 st.now) := hfb.cell (fun h => h) c1
  obtain ⟨na, nb, hnode⟩ := h.ring.node (valC x) (List.mem_map_of_mem (List.mem_of_find?_eq_some hn))
  have HOF : Ho (∀ W, Fr nob w W → Calls Try.prog 45 #[.pointer (some ⟨x.e, 0, none⟩)] W fun r w' => r = .returned (.agg #[.string (mk x.th.name), .int .i64 x.th.kind, .iface 82 (.agg #[.int .i64 x.th.fin])]) ∧ Fr nob W w') := Ho.mk fun W hW => by
    have h1 := of_el x W na nb (Pt bl) (hW.block _ _ hnode (fun h => h))
    unfold entV thV at h1
    rw [hst] at h1; exact h1
  have hex := run_entry_x (mk x.th.name) x.th.kind 82 (.agg #[.int .i64 x.th.fin])
  have hum := run_until_none x.th.fin
  have HT := Ho.mk (show thV x = .iface 82 (.agg #[.int .i64 x.th.fin]) by unfold thV; simp only [hst]; try rfl)
  have HFB := Ho.mk hfb
  clear h hl ha hn hfb hnode hst
  obtain ⟨res, hres⟩ : ∃ v, (if x.th.fin ≤ st.now then Value.nilIface else thV x) = v := ⟨_, rfl⟩
  rw [hres]
  have HRES := Ho.mk hres
  clear hres
  go_enter Try.func37, Try.ntmps37
  go_wp2_with (fail)
  go_quiet (fail)
  have HFQ := Ho.mk (HFB.out.drewN nq)
  have c1q : ((w.alloc (.cells #[.string (mk n), .int .i64 k] 77)).drewN nq).cell? ⟨c, 1, none⟩ = some (.int .i64 st.now) := c1'
  clear hl2 c3' c1' HFB
  go_wp2_with (fail)
  generalize (w.alloc (.cells #[.string (mk n), .int .i64 k] 77)).drewN nq = w2 at *
  have hfd : Fr nob w2 w2.drew := (Fr.refl nob w2).drew
  by_cases hfin : x.th.fin ≤ st.now
  case' pos => have hd : decide (x.th.fin ≤ st.now) = true := decide_eq_true hfin
  case' neg => have hd : decide (x.th.fin ≤ st.now) = false := decide_eq_false hfin
  all_goals
    have HIF := Ho.mk hfin
    clear hfin
    go_region_held3 (fun W => W.cell? ⟨c, 1, none⟩ = some (.int .i64 st.now) ∧ Fr nob w2 W) (first | exact ⟨by assumption, by assumption⟩ | assumption)
      (first
      | (go_at_call 45; refine (HOF.out _ (HFQ.out.trans (by assumption))).mono ?_; rintro r w3 ⟨rfl, f3⟩; have hf3 := hfd.trans f3; have hc3 := hf3.cell (fun h => h) c1q; clear f3)
      | (go_at_call 87; refine (until_none_calls _ _).mono ?_; rintro r w4 ⟨rfl, f4⟩; have hf4 := hf3.trans f4; have hc4 := hf4.cell (fun h => h) c1q; clear f4))
    have HF4 := Ho.mk (HFQ.out.trans hf4)
    clear hf3 hf4 hc3 hc4 hfd
    go_wp2_with (fail)
    first
      | (go_ret
         rw [← HRES.out, if_pos (by have := HIF.out; omega)]
         exact ⟨rfl, HF4.out⟩)
      | (refine (HOF.out _ HF4.out).mono ?_
         rintro r w5 ⟨rfl, f5⟩
         have HF5 := Ho.mk (HF4.out.trans f5)
         clear f5
         go_wp2_with (fail)
         go_ret
         rw [← HRES.out, if_neg (by have := HIF.out; omega), HT.out]
         exact ⟨rfl, HF5.out⟩)
set_option maxRecDepth 100000 in
set_option maxHeartbeats 2000000 in
theorem live_some_known_calls (D : Nat → Prop) (w : World) (c bl mp : Nat) (E : List ElC) (st : Ca) (n : Bs) (k : Int) (x : ElC) (h : CI D w c bl mp E st) (hn : E.find? (fun x => isK n k x.th) = some x) (s : CSet) (rk : Int) (hst : x.th.st = some (s, rk)) :
    Calls Try.prog 37 #[.pointer (some ⟨c, 0, none⟩), .agg #[.string (mk n), .int .i64 k]] w fun r w' => r = .returned (if x.th.fin ≤ st.now then .nilIface else thV x) ∧ Fr nob w w' := by
  obtain ⟨c0, c1, c2, c3⟩ := h.cells
  have hl := fun W (hW : Fr nob w W) => lookC (h.map.fr hW (fun h => h)) n k
  have ha : atC E (n, k) = some (Pt x.e) := by unfold atC; rw [hn]; rfl
  rw [ha] at hl
  have hfb := (Fr.refl nob w).alloc (.cells #[.string (mk n), .int .i64 k] 77)
  have hl2 : ∀ m, (Instr.lookup 32 (.map (some mp)) (.agg #[.string (mk n), .int .i64 k]) true).run Try.prog ((w.alloc (.cells #[.string (mk n), .int .i64 k] 77)).drewN m) = .ok (.tuple #[.pointer (some ⟨x.e, 0, none⟩), .bool true]) ((w.alloc (.cells #[.string (mk n), .int .i64 k] 77)).drewN m) := fun m => hl _ (hfb.drewN m)
  have c3' : (w.alloc (.cells #[.string (mk n), .int .i64 k] 77)).cell? ⟨c, 3, none⟩ = some (.map (some mp)) := hfb.cell (fun h => h) c3
  have c1' : (w.alloc (.cells #[.string (mk n), .int .i64 k] 77)).cell? ⟨c, 1, none⟩ = some (.int .i64 st.now) := hfb.cell (fun h => h) c1
  obtain ⟨na, nb, hnode⟩ := h.ring.node (valC x) (List.mem_map_of_mem (List.mem_of_find?_eq_some hn))
  have HOF : Ho (∀ W, Fr nob w W → Calls Try.prog 45 #[.pointer (some ⟨x.e, 0, none⟩)] W fun r w' => r = .returned (.agg #[.string (mk x.th.name), .int .i64 x.th.kind, .iface 84 (.agg #[.string (mk s.name), .int .i64 s.typ, .int .i64 s.cls, .int .i64 s.ttl, .slice x.ao s.data.length x.cap, .int .i64 rk, .int .i64 x.th.fin])]) ∧ Fr nob W w') := Ho.mk fun W hW => by
    have h1 := of_el x W na nb (Pt bl) (hW.block _ _ hnode (fun h => h))
    unfold entV thV at h1
    rw [hst] at h1; exact h1
  have hex := run_entry_x (mk x.th.name) x.th.kind 84 (.agg #[.string (mk s.name), .int .i64 s.typ, .int .i64 s.cls, .int .i64 s.ttl, .slice x.ao s.data.length x.cap, .int .i64 rk, .int .i64 x.th.fin])
  have hum := run_until_known (#[.string (mk s.name), .int .i64 s.typ, .int .i64 s.cls, .int .i64 s.ttl, .slice x.ao s.data.length x.cap, .int .i64 rk, .int .i64 x.th.fin])
  have HT := Ho.mk (show thV x = .iface 84 (.agg #[.string (mk s.name), .int .i64 s.typ, .int .i64 s.cls, .int .i64 s.ttl, .slice x.ao s.data.length x.cap, .int .i64 rk, .int .i64 x.th.fin]) by unfold thV; simp only [hst]; try rfl)
  have HFB := Ho.mk hfb
  clear h hl ha hn hfb hnode hst
  obtain ⟨res, hres⟩ : ∃ v, (if x.th.fin ≤ st.now then Value.nilIface else thV x) = v := ⟨_, rfl⟩
  rw [hres]
  have HRES := Ho.mk hres
  clear hres
  go_enter Try.func37, Try.ntmps37
  go_wp2_with (fail)
  go_quiet (fail)
  have HFQ := Ho.mk (HFB.out.drewN nq)
  have c1q : ((w.alloc (.cells #[.string (mk n), .int .i64 k] 77)).drewN nq).cell? ⟨c, 1, none⟩ = some (.int .i64 st.now) := c1'
  clear hl2 c3' c1' HFB
  go_wp2_with (fail)
  generalize (w.alloc (.cells #[.string (mk n), .int .i64 k] 77)).drewN nq = w2 at *
  have hfd : Fr nob w2 w2.drew := (Fr.refl nob w2).drew
  by_cases hfin : x.th.fin ≤ st.now
  case' pos => have hd : decide (x.th.fin ≤ st.now) = true := decide_eq_true hfin
  case' neg => have hd : decide (x.th.fin ≤ st.now) = false := decide_eq_false hfin
  all_goals
    have HIF := Ho.mk hfin
    clear hfin
    go_region_held3 (fun W => W.cell? ⟨c, 1, none⟩ = some (.int .i64 st.now) ∧ Fr nob w2 W) (first | exact ⟨by assumption, by assumption⟩ | assumption)
      (first
      | (go_at_call 45; refine (HOF.out _ (HFQ.out.trans (by assumption))).mono ?_; rintro r w3 ⟨rfl, f3⟩; have hf3 := hfd.trans f3; have hc3 := hf3.cell (fun h => h) c1q; clear f3)
      | (go_at_call 88; refine (until_known_calls _ _ _ _ _ _ _ _ _ rfl (by simp [Value.oneCell'])).mono ?_; rintro r w4 ⟨rfl, f4⟩; have hf4 := hf3.trans f4; have hc4 := hf4.cell (fun h => h) c1q; clear f4))
    have HF4 := Ho.mk (HFQ.out.trans hf4)
    clear hf3 hf4 hc3 hc4 hfd
    go_wp2_with (fail)
    first
      | (go_ret
         rw [← HRES.out, if_pos (by have := HIF.out; omega)]
         exact ⟨rfl, HF4.out⟩)
      | (refine (HOF.out _ HF4.out).mono ?_
         rintro r w5 ⟨rfl, f5⟩
         have HF5 := Ho.mk (HF4.out.trans f5)
         clear f5
         go_wp2_with (fail)
         go_ret
         rw [← HRES.out, if_neg (by have := HIF.out; omega), HT.out]
         exact ⟨rfl, HF5.out⟩)
theorem live_calls (D : Nat → Prop) (w : World) (c bl mp : Nat) (E : List ElC) (st : Ca) (n : Bs) (k : Int) (h : CI D w c bl mp E st) :
    Calls Try.prog 37 #[.pointer (some ⟨c, 0, none⟩), .agg #[.string (mk n), .int .i64 k]] w fun r w' => ((r = .returned .nilIface ∧ st.live n k = none) ∨ ∃ A x B, E = A ++ x :: B ∧ x.th.key = (n, k) ∧ r = .returned (thV x) ∧ st.live n k = some x.th ∧ st.now < x.th.fin) ∧ Fr nob w w' := by
  have hfind := find_th h.st n k
  rcases find_split (E := E) (n := n) (k := k) with ⟨h1, h2⟩ | ⟨A, x, B, h1, h2, h3, h4⟩
  · refine (live_none_calls D w c bl mp E st n k h h1).mono ?_
    rintro r w' ⟨rfl, hf⟩
    rw [h1] at hfind
    exact ⟨.inl ⟨rfl, by unfold Ca.live; rw [hfind]; rfl⟩, hf⟩
  · rw [h4] at hfind
    have key : Calls Try.prog 37 #[.pointer (some ⟨c, 0, none⟩), .agg #[.string (mk n), .int .i64 k]] w fun r w' => r = .returned (if x.th.fin ≤ st.now then .nilIface else thV x) ∧ Fr nob w w' := by
      cases hst : x.th.st with
      | none => exact live_some_none_calls D w c bl mp E st n k x h h4 hst
      | some p => exact live_some_known_calls D w c bl mp E st n k x h h4 p.1 p.2 hst
    refine key.mono ?_
    rintro r w' ⟨rfl, hf⟩
    refine ⟨?_, hf⟩
    by_cases hfin : x.th.fin ≤ st.now
    · rw [if_pos hfin]
      refine .inl ⟨rfl, ?_⟩
      unfold Ca.live; rw [hfind]
      have : ¬ st.now < x.th.fin := by omega
      simp [Option.filter, this]
    · rw [if_neg hfin]
      have hlt : st.now < x.th.fin := by omega
      refine .inr ⟨A, x, B, h1, h2, rfl, ?_, hlt⟩
      unfold Ca.live; rw [hfind]
      simp [Option.filter, hlt]
end Go.Proofs.Ytlbhfnjhhpcphaa
