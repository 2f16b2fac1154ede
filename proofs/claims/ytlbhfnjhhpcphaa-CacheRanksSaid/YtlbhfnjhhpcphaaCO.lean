/-
  package cache: out.
-/
import Derived.Test.YtlbhfnjhhpcphaaCN
namespace Go.Proofs.Ytlbhfnjhhpcphaa
open Go.RowKit
def outE (E : List ElC) (n : Bs) (k : Int) : List ElC := E.filter fun x => !isK n k x.th
theorem outE_th {E : List ElC} {st : Ca} (h : st.L = E.map (·.th)) (n : Bs) (k : Int) : outL st.L n k = (outE E n k).map (·.th) := by
  unfold outL outE; rw [h, List.filter_map]; rfl
theorem outE_none {E : List ElC} {n : Bs} {k : Int} (h : ∀ x ∈ E, x.th.key ≠ (n, k)) : outE E n k = E := List.filter_eq_self.2 fun x hx => by
  cases he : isK n k x.th with
  | false => rfl
  | true => exact absurd (isK_iff.1 he) (h x hx)
theorem outE_mid {A B : List ElC} {x : ElC} {n : Bs} {k : Int} (hx : x.th.key = (n, k)) (hA : ∀ y ∈ A, y.th.key ≠ (n, k)) (hB : ∀ y ∈ B, y.th.key ≠ (n, k)) : outE (A ++ x :: B) n k = A ++ B := by
  have h1 := outE_none hA; have h2 := outE_none hB
  unfold outE at *
  rw [List.filter_append, List.filter_cons_of_neg (by simp [isK_iff.2 hx]), h1, h2]
theorem keysE {E : List ElC} {st : Ca} (hw : st.wf) (h : st.L = E.map (·.th)) : (E.map (·.th.key)).Nodup := by
  have h1 := hw.keys
  rw [h, List.map_map] at h1; exact h1
theorem atC_mid {A B : List ElC} {x : ElC} (hA : ∀ y ∈ A, y.th.key ≠ x.th.key) (hB : ∀ y ∈ B, y.th.key ≠ x.th.key) : atC (A ++ x :: B) x.th.key = some (Pt x.e) ∧ atC (A ++ B) x.th.key = none ∧ ∀ y, y ≠ x.th.key → atC (A ++ B) y = atC (A ++ x :: B) y := by
  have hne : ∀ L : List ElC, (∀ y ∈ L, y.th.key ≠ x.th.key) → L.find? (fun y => isK x.th.key.1 x.th.key.2 y.th) = none := fun L h => List.find?_eq_none.2 fun y hy hk => h y hy (isK_iff.1 hk)
  refine ⟨?_, ?_, fun y hy => ?_⟩
  · unfold atC
    rw [List.find?_append, hne A hA, List.find?_cons_of_pos (by simp [isK_iff, Th.key])]; rfl
  · unfold atC
    rw [List.find?_append, hne A hA, hne B hB]; rfl
  · unfold atC
    rw [List.find?_append, List.find?_append, List.find?_cons_of_neg (by intro hk; exact hy (isK_iff.1 hk).symm)]
theorem CI.cR {D : Nat → Prop} {w : World} {c bl mp : Nat} {E : List ElC} {st : Ca} (h : CI D w c bl mp E st) : ¬ RingB bl (E.map valC) c := by
  rintro (rfl | hk)
  · obtain ⟨_, _, kb⟩ := h.ring.root; rw [h.head] at kb; simp at kb
  · obtain ⟨z, hz, rfl⟩ := List.mem_map.1 hk
    obtain ⟨_, _, k1⟩ := h.ring.node z hz; rw [h.head] at k1; simp at k1
theorem CI.mR {D : Nat → Prop} {w : World} {c bl mp : Nat} {E : List ElC} {st : Ca} (h : CI D w c bl mp E st) : ¬ RingB bl (E.map valC) mp := by
  obtain ⟨_, _, kq, _⟩ := h.map
  rintro (rfl | hk)
  · obtain ⟨_, _, kb⟩ := h.ring.root; rw [kq] at kb; simp at kb
  · obtain ⟨z, hz, rfl⟩ := List.mem_map.1 hk
    obtain ⟨_, _, k1⟩ := h.ring.node z hz; rw [kq] at k1; simp at k1
theorem CI.cm {D : Nat → Prop} {w : World} {c bl mp : Nat} {E : List ElC} {st : Ca} (h : CI D w c bl mp E st) : c ≠ mp := by
  rintro rfl; obtain ⟨_, _, kq, _⟩ := h.map; rw [h.head] at kq; simp at kq
/-- A block of texts is none of the cache's. -/
theorem CI.strNot {D : Nat → Prop} {w : World} {c bl mp : Nat} {E : List ElC} {st : Ca} (h : CI D w c bl mp E st) {k : Nat} {cur : Array Value} (hk : w.heap[k]? = some (.cells cur 9 (0, 0))) : ¬ OwnC c bl mp E k := by
  rintro (rfl | rfl | rfl | hm)
  · rw [h.head] at hk; simp at hk
  · obtain ⟨_, _, kq, _⟩ := h.map; rw [kq] at hk; simp at hk
  · obtain ⟨_, _, kb⟩ := h.ring.root; rw [kb] at hk; simp at hk
  · obtain ⟨z, hz, rfl⟩ := List.mem_map.1 hm
    obtain ⟨_, _, k1⟩ := h.ring.node z hz; rw [k1] at hk; simp at hk
set_option maxRecDepth 100000 in
set_option maxHeartbeats 2000000 in
theorem out_none_calls (D : Nat → Prop) (w : World) (c bl mp : Nat) (E : List ElC) (st : Ca) (n : Bs) (k : Int) (h : CI D w c bl mp E st) (hn : E.find? (fun x => isK n k x.th) = none) :
    Calls Try.prog 39 #[.pointer (some ⟨c, 0, none⟩), .agg #[.string (mk n), .int .i64 k]] w fun r w' => r = .returned (.tuple #[]) ∧ Fr nob w w' := by
  obtain ⟨c0, c1, c2, c3⟩ := h.cells
  have hl := fun W (hW : Fr nob w W) => lookC (h.map.fr hW (fun h => h)) n k
  have ha : atC E (n, k) = none := by unfold atC; rw [hn]; rfl
  rw [ha] at hl
  have hfb := (Fr.refl nob w).alloc (.cells #[.string (mk n), .int .i64 k] 77)
  have hl2 : ∀ m, (Instr.lookup 32 (.map (some mp)) (.agg #[.string (mk n), .int .i64 k]) true).run Try.prog ((w.alloc (.cells #[.string (mk n), .int .i64 k] 77)).drewN m) = .ok (.tuple #[.pointer none, .bool false]) ((w.alloc (.cells #[.string (mk n), .int .i64 k] 77)).drewN m) := fun m => hl _ (hfb.drewN m)
  have c3' : (w.alloc (.cells #[.string (mk n), .int .i64 k] 77)).cell? ⟨c, 3, none⟩ = some (.map (some mp)) := hfb.cell (fun h => h) c3
  have HFB := Ho.mk hfb
  clear h hl ha hn hfb
  go_enter Try.func39, Try.ntmps39
  go_wp2_with (fail)
  go_quiet (fail)
  go_wp2_with (fail)
  go_end0
  exact ⟨rfl, HFB.out.drewN _⟩
set_option maxRecDepth 100000 in
set_option maxHeartbeats 2000000 in
theorem out_some_calls (D : Nat → Prop) (w : World) (c bl mp : Nat) (A B : List ElC) (x : ElC) (st : Ca) (h : CI D w c bl mp (A ++ x :: B) st) (hA : ∀ y ∈ A, y.th.key ≠ x.th.key) (hB : ∀ y ∈ B, y.th.key ≠ x.th.key) (hlen : (A ++ x :: B).length < 2 ^ 40) :
    Calls Try.prog 39 #[.pointer (some ⟨c, 0, none⟩), .agg #[.string (mk x.th.name), .int .i64 x.th.kind]] w fun r w' => r = .returned (.tuple #[]) ∧ Ring w' bl ((A ++ B).map valC) ∧ MapF ckey w' mp (atC (A ++ B)) ∧ Fr (fun k => k = mp ∨ RingB bl ((A ++ x :: B).map valC) k) w w' := by
  obtain ⟨c0, c1, c2, c3⟩ := h.cells
  obtain ⟨a1, a2, a3⟩ := atC_mid hA hB
  have hl := fun W (hW : Fr nob w W) => lookC (h.map.fr hW (fun h => h)) x.th.name x.th.kind
  have ha : atC (A ++ x :: B) (x.th.name, x.th.kind) = some (Pt x.e) := a1
  rw [ha] at hl
  have hfb := (Fr.refl nob w).alloc (.cells #[.string (mk x.th.name), .int .i64 x.th.kind] 77)
  have hnb := blk_new w (.cells #[.string (mk x.th.name), .int .i64 x.th.kind] 77)
  have hl2 : ∀ m, (Instr.lookup 32 (.map (some mp)) (.agg #[.string (mk x.th.name), .int .i64 x.th.kind]) true).run Try.prog ((w.alloc (.cells #[.string (mk x.th.name), .int .i64 x.th.kind] 77)).drewN m) = .ok (.tuple #[.pointer (some ⟨x.e, 0, none⟩), .bool true]) ((w.alloc (.cells #[.string (mk x.th.name), .int .i64 x.th.kind] 77)).drewN m) := fun m => hl _ (hfb.drewN m)
  have c3' : (w.alloc (.cells #[.string (mk x.th.name), .int .i64 x.th.kind] 77)).cell? ⟨c, 3, none⟩ = some (.map (some mp)) := hfb.cell (fun h => h) c3
  have HFB := Ho.mk hfb; have HNB := Ho.mk hnb; have HC := Ho.mk h; have HA2 := Ho.mk (show atC (A ++ B) (x.th.name, x.th.kind) = none from a2); have HA3 := Ho.mk (show ∀ y, y ≠ (x.th.name, x.th.kind) → atC (A ++ B) y = atC (A ++ x :: B) y from a3); have HLEN := Ho.mk hlen
  generalize x.th.name = xn at *
  clear h hl ha hfb hnb a1 a2 a3 hlen hA hB
  go_enter Try.func39, Try.ntmps39
  go_wp2_with (fail)
  go_quiet (fail)
  have HF2 := Ho.mk (HFB.out.drewN nq)
  have HN2 := Ho.mk (show ((w.alloc (.cells #[.string (mk xn), .int .i64 x.th.kind] 77)).drewN nq).heap[w.heap.size]? = some (.cells #[.string (mk xn), .int .i64 x.th.kind] 77 (0, 0)) from HNB.out)
  clear hl2 c3' c0 c1 c2 c3 HFB HNB
  go_wp2_with (fail)
  generalize hkb : w.heap.size = kb at *
  generalize (w.alloc (.cells #[.string (mk xn), .int .i64 x.th.kind] 77)).drewN nq = w2 at *
  clear hkb
  have hc2 := HC.out.fr HF2.out (fun _ _ h => h) (fun _ _ _ _ h => h)
  obtain ⟨c0, c1, c2, c3⟩ := hc2.cells
  have k0 : w2.cell? ⟨kb, 0, none⟩ = some (.string (mk xn)) := blk_cell HN2.out 0
  have k1 : w2.cell? ⟨kb, 1, none⟩ = some (.int .i64 x.th.kind) := blk_cell HN2.out 1
  obtain ⟨o, hD, hm7⟩ := MapF.delete (ty := 0) (w := w2.drew) (t := 32) ckeys Try.underlying32 (hc2.map.fr ((Fr.refl nob w2).drew) (fun h => h)) (xn, x.th.kind)
  have hf7 : Fr (fun k => k = mp) w2 { w2.drew with heap := w2.drew.heap.setIfInBounds mp o } := ((Fr.refl (fun k => k = mp) w2).drew).setObj (.inr rfl) o
  have HC2 := Ho.mk hc2
  clear hc2 c0 c1
  go_still_tail 5, (by kernel_rfl)
  change wpList _ _ _ _ _ w2.drew
  generalize hw7 : ({ w2.drew with heap := w2.drew.heap.setIfInBounds mp o } : World) = w7 at *
  generalize w2.drew = w6d at hD ⊢
  have HM7 := Ho.mk hm7; have HF7 := Ho.mk hf7; have HW7 := Ho.mk hw7
  clear hm7 hf7 hw7
  have c2' : w7.cell? ⟨c, 2, none⟩ = some (.pointer (some ⟨bl, 0, none⟩)) := blk_cell (HF7.out.block _ _ HC2.out.head HC2.out.cm) 2
  clear c2 c3 k0 k1
  unfold ckey at hD
  go_wp2_with (fail)
  clear hD
  have hmid : ((A ++ x :: B).map valC) = A.map valC ++ valC x :: B.map valC := by simp
  have hr7 := HC2.out.ring.fr HF7.out (fun k hk h => HC2.out.mR (h ▸ hk))
  rw [hmid] at hr7
  have hcall := chain_remove_calls bl x.e (valC x).2 (A.map valC) (B.map valC) w7 hr7 (by have := HLEN.out; simpa using this)
  have HMID := Ho.mk hmid
  clear hr7 hmid
  refine hcall.mono ?_
  clear hcall
  rintro r w8 ⟨rfl, h8, f8⟩
  have H8 := Ho.mk h8; have F8 := Ho.mk f8
  clear h8 f8 c2'
  go_wp2_with (fail)
  go_end0
  refine ⟨rfl, ?_, ?_, ?_⟩
  · rw [List.map_append]; exact H8.out
  · refine MapF.fr (HM7.out _ HA2.out (fun y hy => HA3.out y hy)) F8.out ?_
    have := HC2.out.mR; rw [HMID.out] at this; exact this
  · refine ((HF2.out.mono (fun _ _ h => h.elim)).trans (HF7.out.mono (fun _ _ h => .inl h))).trans (F8.out.mono (fun k _ h => .inr ?_))
    rw [HMID.out]; exact h
theorem CI.key {D : Nat → Prop} {w : World} {c bl mp : Nat} {E : List ElC} {st : Ca} (h : CI D w c bl mp E st) (hw : st.wf) : E.length < 2 ^ 40 := by
  have h1 := hw.len; have h2 := hw.most.2
  rw [h.st, List.length_map] at h1; omega
/-- OUT. -/
theorem out_calls (D : Nat → Prop) (w : World) (c bl mp : Nat) (E : List ElC) (st : Ca) (n : Bs) (k : Int) (hk : (E.map (·.th.key)).Nodup) (hl : E.length < 2 ^ 40) (h : CI D w c bl mp E st) :
    Calls Try.prog 39 #[.pointer (some ⟨c, 0, none⟩), .agg #[.string (mk n), .int .i64 k]] w fun r w' => r = .returned (.tuple #[]) ∧ CI D w' c bl mp (outE E n k) { st with L := outL st.L n k } ∧ Fr (fun k => k = mp ∨ RingB bl (E.map valC) k) w w' := by
  rcases find_split (E := E) (n := n) (k := k) with ⟨h1, h2⟩ | ⟨A, x, B, h1, h2, h3, h4⟩
  · refine (out_none_calls D w c bl mp E st n k h h1).mono ?_
    rintro r w' ⟨rfl, hf⟩
    refine ⟨rfl, ?_, hf.mono (fun _ _ h => h.elim)⟩
    have h5 := h.fr hf (fun _ _ h => h) (fun _ _ _ _ h => h)
    rw [outE_none h2]
    have e : outL st.L n k = st.L := outL_none fun t ht => by rw [h.st] at ht; obtain ⟨y, hy, rfl⟩ := List.mem_map.1 ht; exact h2 y hy
    rw [e]; exact h5
  · subst h1
    have hB : ∀ y ∈ B, y.th.key ≠ (n, k) := fun y hy e => by
      rw [List.map_append, List.map_cons, List.nodup_append, List.nodup_cons] at hk
      exact hk.2.1.1 (by rw [h2, ← e]; exact List.mem_map_of_mem hy)
    have h2' : x.th.name = n ∧ x.th.kind = k := by simpa [Th.key] using h2
    obtain ⟨rfl, rfl⟩ := h2'
    refine (out_some_calls D w c bl mp A B x st h h3 hB hl).mono ?_
    rintro r w' ⟨rfl, hr, hm, hf⟩
    refine ⟨rfl, ?_, hf⟩
    have e : outE (A ++ x :: B) x.th.name x.th.kind = A ++ B := outE_mid rfl h3 hB
    have e2 := outE_th h.st x.th.name x.th.kind
    rw [e] at e2 ⊢
    rw [e2]
    refine ⟨hf.block _ _ h.head ?_, hr, hm, fun y hy s r hs => ?_, rfl⟩
    · rintro (h1 | h1)
      · exact h.cm h1
      · exact h.cR h1
    · have h1 := h.data y (by simp at hy ⊢; rcases hy with h | h <;> simp [h]) s r hs
      exact ⟨h1.1.fr hf (fun k cur _ hc hS => h.strNot hc (hS.elim (fun h => .inr (.inl h)) (fun h => .inr (.inr h)))), h1.2⟩
end Go.Proofs.Ytlbhfnjhhpcphaa
