/-
  package chain: the contracts of its functions.
-/
import Derived.Test.YtlbhfnjhhpcphaaC1
import Derived.LaidEqlPtr
namespace Go.Proofs.Ytlbhfnjhhpcphaa
open Go.RowKit
theorem Ring.lastP {w : World} {bl : Nat} {L : List (Nat × Value)} (h : Ring w bl L) :
    Seg w bl (L.map (·.1)) ∧ w.cell? ⟨lastOf bl (L.map (·.1)), 2, none⟩ = some (.pointer (some ⟨bl, 0, none⟩)) ∧ w.cell? ⟨bl, 1, none⟩ = some (.pointer (some ⟨lastOf bl (L.map (·.1)), 0, none⟩)) := by
  have h1 := (seg_append w _ bl [bl]).1 h.seg
  exact ⟨h1.1, h1.2.1, h1.2.2.1⟩
theorem Ring.free {w : World} {bl : Nat} {L : List (Nat × Value)} (h : Ring w bl L) {k : Nat} (hk : RingB bl L k) (o : Nat) : w.frozen? ⟨k, o, none⟩ = false := by
  rcases hk with rfl | hk
  · obtain ⟨a, b, h1⟩ := h.root; exact blk_free h1 o
  · obtain ⟨x, hx, rfl⟩ := List.mem_map.1 hk
    obtain ⟨a, b, h1⟩ := h.node x hx; exact blk_free h1 o
theorem lastOf_ringB (bl : Nat) (L : List (Nat × Value)) : RingB bl L (lastOf bl (L.map (·.1))) := by
  have := lastOf_mem bl (L.map (·.1))
  rcases List.mem_cons.1 this with h | h
  · exact .inl h
  · exact .inr h
/-- A list behind 'last'. -/
theorem ring_last {w : World} {bl e p : Nat} {v a0 b0 : Value} {L : List (Nat × Value)} (h : Ring w bl L)
    (he : w.heap[e]? = some (.cells #[v, a0, b0, Pt bl] 115 (0, 0))) (hne : e ∉ L.map (·.1)) (hp : lastOf bl (L.map (·.1)) = p) :
    Ring (((((w.setCell ⟨e, 1, none⟩ (Pt p)).setCell ⟨e, 2, none⟩ (Pt bl)).setCell ⟨p, 2, none⟩ (Pt e)).setCell ⟨bl, 1, none⟩ (Pt e)).setCell ⟨bl, 4, none⟩ (.int .i64 ((L.length : Int) + 1))) bl (L ++ [(e, v)]) := by
  obtain ⟨hs, hp2, hb1⟩ := h.lastP
  have hpB := lastOf_ringB bl L
  have hrne := h.root_ne
  have hbe : bl ≠ e := by obtain ⟨ra, rb, hroot⟩ := h.root; rintro rfl; rw [hroot] at he; simp at he
  rw [hp] at hpB hp2
  have hpe : p ≠ e := by
    rintro rfl
    rcases hpB with h1 | h1
    · exact hbe h1.symm
    · exact hne h1
  have ce1 : w.cell? ⟨e, 1, none⟩ = some a0 := blk_cell he 1
  have ce2 : w.cell? ⟨e, 2, none⟩ = some b0 := blk_cell he 2
  refine ⟨?_, ?_, ?_, ?_⟩
  · have h1 := root_len (root_set (root_set (root_set (root_set h.root e 1 (Pt p) (.inl rfl)) e 2 (Pt bl) (.inr rfl)) p 2 (Pt e) (.inr rfl)) bl 1 (Pt e) (.inl rfl)) (.int .i64 ((L.length : Int) + 1))
    simpa using h1
  · intro x hx
    have hxb : x.1 ≠ bl := by
      rcases List.mem_append.1 hx with hx | hx
      · intro e'; exact hrne (e' ▸ List.mem_map_of_mem hx)
      · obtain rfl : x = (e, v) := by simpa using hx
        exact fun e' => hbe e'.symm
    have hx0 : ∃ a b, w.heap[x.1]? = some (.cells #[x.2, a, b, Pt bl] 115 (0, 0)) := by
      rcases List.mem_append.1 hx with hx | hx
      · exact h.node x hx
      · obtain rfl : x = (e, v) := by simpa using hx
        exact ⟨a0, b0, he⟩
    exact node_far (node_set (node_set (node_set (node_set hx0 e 1 (Pt p) (.inl rfl)) e 2 (Pt bl) (.inr rfl)) p 2 (Pt e) (.inr rfl)) bl 1 (Pt e) (.inl rfl)) hxb 4 _
  · rw [List.map_append, List.nodup_append]
    exact ⟨h.nodup, by simp, fun a ha b hb => by simp at hb; subst hb; exact fun e => hne (e ▸ ha)⟩
  · rw [List.map_append, List.append_assoc, seg_append]
    refine ⟨?_, ?_⟩
    · refine seg_same _ bl (fun x hx => ?_) (fun x hx => ?_) hs
      · have hxp : x ≠ p := by
          intro e'
          have hnd : (bl :: L.map (·.1)).Nodup := List.nodup_cons.2 ⟨hrne, h.nodup⟩
          have hd := List.dropLast_concat_getLast (l := bl :: L.map (·.1)) (by simp)
          have hlast : (bl :: L.map (·.1)).getLast (by simp) = p := hp
          rw [← hd, List.nodup_append] at hnd
          exact hnd.2.2 x hx p (by rw [hlast]; simp) e'
        have hxe : x ≠ e := by
          intro e'
          rcases List.mem_cons.1 (List.dropLast_subset _ hx) with h1 | h1
          · exact hbe (h1.symm.trans e')
          · exact hne (e' ▸ h1)
        rw [cell_off (by simp), cell_off (by simp), cell_blk (by simpa using fun h => hxp h.symm), cell_blk (by simpa using fun h => hxe h.symm), cell_off (by simp)]
      · have hxb : x ≠ bl := fun e' => hrne (e' ▸ hx)
        have hxe : x ≠ e := fun e' => hne (e' ▸ hx)
        rw [cell_off (by simp), cell_blk (by simpa using fun h => hxb h.symm), cell_off (by simp), cell_off (by simp), cell_blk (by simpa using fun h => hxe h.symm)]
    · rw [hp]
      refine ⟨?_, ?_, ?_, ?_, trivial⟩
      · rw [cell_off (by simp), cell_off (by simp)]
        refine cell_set_same (u := Pt bl) ?_ _
        rw [cell_blk (by simpa using fun h => hpe h.symm), cell_off (by simp)]; exact hp2
      · rw [cell_off (by simp), cell_blk (by simpa using hbe), cell_off (by simp), cell_off (by simp)]
        exact cell_set_same ce1 _
      · rw [cell_off (by simp), cell_off (by simp), cell_blk (by simpa using hpe)]
        refine cell_set_same (u := b0) ?_ _
        rw [cell_off (by simp)]; exact ce2
      · rw [cell_off (by simp)]
        refine cell_set_same (u := Pt p) ?_ _
        rw [cell_off (by simp), cell_off (by simp), cell_blk (by simpa using fun h => hbe h.symm)]
        rw [← hp]; exact hb1
set_option maxRecDepth 100000 in
theorem chain_last_calls (bl e : Nat) (v a0 b0 : Value) (L : List (Nat × Value)) (w : World) (h : Ring w bl L) (hlen : L.length < 2 ^ 40)
    (he : w.heap[e]? = some (.cells #[v, a0, b0, Pt bl] 115 (0, 0))) (hne : e ∉ L.map (·.1)) :
    Calls Try.prog 67 #[.pointer (some ⟨bl, 0, none⟩), .pointer (some ⟨e, 0, none⟩)] w fun r w' => r = .returned (.tuple #[]) ∧ Ring w' bl (L ++ [(e, v)]) ∧ Fr (fun k => RingB bl L k ∨ k = e) w w' := by
  obtain ⟨hs, hp2, hb1⟩ := h.lastP
  have hpB := lastOf_ringB bl L
  obtain ⟨ra, rb, hroot⟩ := h.root
  have hbe : bl ≠ e := by rintro rfl; rw [hroot] at he; simp at he
  generalize hp : lastOf bl (L.map (·.1)) = p at *
  have hpe : p ≠ e := by
    rintro rfl
    rcases hpB with h1 | h1
    · exact hbe h1.symm
    · exact hne h1
  have hpe' : e ≠ p := fun h => hpe h.symm
  have hbe' : e ≠ bl := fun h => hbe h.symm
  have q4 : w.cell? ⟨bl, 4, none⟩ = some (.int .i64 L.length) := blk_cell hroot 4
  have e1 : w.cell? ⟨e, 1, none⟩ = some a0 := blk_cell he 1
  have e2 : w.cell? ⟨e, 2, none⟩ = some b0 := blk_cell he 2
  have f1 := blk_free he 1
  have f2 := blk_free he 2
  have f3 := h.free hpB 2
  have f4 := h.free (.inl rfl : RingB bl L bl) 1
  have f5 := h.free (.inl rfl : RingB bl L bl) 4
  have HS := Ho.mk hs; have HP := Ho.mk hp; have HR := Ho.mk h; have HE := Ho.mk he; have HRoot := Ho.mk hroot; have HN := Ho.mk hne; have HPB := Ho.mk hpB
  clear hs hp h he hroot hne hpB
  go_enter Try.func67, Try.ntmps67
  go_wp2
  go_region
  go_wp2
  go_end0
  refine ⟨rfl, ?_, ?_⟩
  · exact (ring_last HR.out HE.out HN.out HP.out).fr (S := nob) ((Fr.refl _ _).drew) (fun _ _ h => h)
  · refine (((((((Fr.refl _ w).set (p := ⟨e, 1, none⟩) (.inr (.inr rfl)) _).set (p := ⟨e, 2, none⟩) (.inr (.inr rfl)) _).set (p := ⟨p, 2, none⟩) (.inr (.inl HPB.out)) _).set (p := ⟨bl, 1, none⟩) (.inr (.inl (.inl rfl))) _).set (p := ⟨bl, 4, none⟩) (.inr (.inl (.inl rfl))) _).drew)
/-- The first of a list, or what stands behind it. -/
def headOf (l : List Nat) (b : Nat) : Nat := l.headD b
theorem cons_headOf (l : List Nat) (b : Nat) : ∃ r, l ++ [b] = headOf l b :: r ∧ (∀ x ∈ r, x = b ∨ x ∈ l.tail) ∧ (l = [] → r = []) ∧ (l ≠ [] → r = l.tail ++ [b]) := by
  cases l with
  | nil => exact ⟨[], rfl, by simp, fun _ => rfl, fun h => absurd rfl h⟩
  | cons a l => exact ⟨l ++ [b], rfl, by intro x hx; simp at hx ⊢; exact hx.symm, (fun h => by cases h), fun _ => rfl⟩
theorem Ring.midP {w : World} {bl e : Nat} {v : Value} {L1 L2 : List (Nat × Value)} (h : Ring w bl (L1 ++ (e, v) :: L2)) :
    Seg w bl (L1.map (·.1)) ∧ w.cell? ⟨lastOf bl (L1.map (·.1)), 2, none⟩ = some (Pt e) ∧ w.cell? ⟨e, 1, none⟩ = some (Pt (lastOf bl (L1.map (·.1)))) ∧
    w.cell? ⟨e, 2, none⟩ = some (Pt (headOf (L2.map (·.1)) bl)) ∧ w.cell? ⟨headOf (L2.map (·.1)) bl, 1, none⟩ = some (Pt e) ∧
    ∀ r, L2.map (·.1) ++ [bl] = headOf (L2.map (·.1)) bl :: r → Seg w (headOf (L2.map (·.1)) bl) r := by
  have h1 := h.seg
  rw [List.map_append, List.append_assoc, seg_append] at h1
  obtain ⟨s1, s2⟩ := h1
  simp only [List.map_cons, List.cons_append] at s2
  obtain ⟨t1, t2, t3⟩ := s2
  obtain ⟨r, hr, _⟩ := cons_headOf (L2.map (·.1)) bl
  rw [hr] at t3
  obtain ⟨u1, u2, u3⟩ := t3
  refine ⟨s1, t1, t2, u1, u2, fun r' hr' => ?_⟩
  rw [hr] at hr'
  injection hr' with _ hr'
  subst hr'; exact u3
/-- A list behind 'out'. -/
theorem ring_out {w : World} {bl e p q : Nat} {v : Value} {L1 L2 : List (Nat × Value)} (h : Ring w bl (L1 ++ (e, v) :: L2)) (hp : lastOf bl (L1.map (·.1)) = p) (hq : headOf (L2.map (·.1)) bl = q) :
    Ring (((w.setCell ⟨p, 2, none⟩ (Pt q)).setCell ⟨q, 1, none⟩ (Pt p)).setCell ⟨bl, 4, none⟩ (.int .i64 (((L1 ++ (e, v) :: L2).length : Int) - 1))) bl (L1 ++ L2) := by
  obtain ⟨s1, s2, s3, s4, s5, s6⟩ := h.midP
  have hrne := h.root_ne
  rw [hp] at s2 s3; rw [hq] at s4 s5 s6
  have hnd := h.nodup
  rw [List.map_append, List.map_cons, List.nodup_append, List.nodup_cons] at hnd
  obtain ⟨nd1, ⟨nd2, nd3⟩, nd4⟩ := hnd
  have hpm : p = bl ∨ p ∈ L1.map (·.1) := by rw [← hp]; exact lastOf_ringB bl L1
  obtain ⟨r, hr, hr2, hr3, hr4⟩ := cons_headOf (L2.map (·.1)) bl
  rw [hq] at hr
  have hqm : q = bl ∨ q ∈ L2.map (·.1) := by
    have : q ∈ L2.map (·.1) ++ [bl] := by rw [hr]; simp
    rcases List.mem_append.1 this with h1 | h1
    · exact .inr h1
    · exact .inl (by simpa using h1)
  have hb1 : bl ∉ L1.map (·.1) := fun h1 => hrne (by rw [List.map_append]; exact List.mem_append_left _ h1)
  have hb2 : bl ∉ L2.map (·.1) := fun h1 => hrne (by rw [List.map_append, List.map_cons]; exact List.mem_append_right _ (List.mem_cons_of_mem _ h1))
  refine ⟨?_, ?_, ?_, ?_⟩
  · have h1 := root_len (root_set (root_set h.root p 2 (Pt q) (.inr rfl)) q 1 (Pt p) (.inl rfl)) (.int .i64 (((L1 ++ (e, v) :: L2).length : Int) - 1))
    have e1 : (((L1 ++ (e, v) :: L2).length : Int) - 1) = ((L1 ++ L2).length : Int) := by simp; omega
    rw [e1] at h1 ⊢; exact h1
  · intro x hx
    have hx' : x ∈ L1 ++ (e, v) :: L2 := by
      rcases List.mem_append.1 hx with h1 | h1
      · exact List.mem_append_left _ h1
      · exact List.mem_append_right _ (List.mem_cons_of_mem _ h1)
    have hxb : x.1 ≠ bl := fun e' => hrne (e' ▸ List.mem_map_of_mem hx')
    exact node_far (node_set (node_set (h.node x hx') p 2 (Pt q) (.inr rfl)) q 1 (Pt p) (.inl rfl)) hxb 4 _
  · rw [List.map_append, List.nodup_append]
    exact ⟨nd1, nd3, fun a ha b hb => nd4 a ha b (List.mem_cons_of_mem _ hb)⟩
  · rw [List.map_append, List.append_assoc, seg_append, hr, hp]
    refine ⟨?_, ?_, ?_, ?_⟩
    · refine seg_same _ bl (fun x hx => ?_) (fun x hx => ?_) s1
      · have hxp : x ≠ p := by
          intro e'
          have hn : (bl :: L1.map (·.1)).Nodup := List.nodup_cons.2 ⟨hb1, nd1⟩
          have hd := List.dropLast_concat_getLast (l := bl :: L1.map (·.1)) (by simp)
          have hlast : (bl :: L1.map (·.1)).getLast (by simp) = p := hp
          rw [← hd, List.nodup_append] at hn
          exact hn.2.2 x hx p (by rw [hlast]; simp) e'
        rw [cell_off (by simp), cell_off (by simp), cell_blk (by simpa using fun h => hxp h.symm)]
      · have hxq : q ≠ x := by
          rintro rfl
          rcases hqm with h1 | h1
          · exact hb1 (h1 ▸ hx)
          · exact nd4 q hx q (List.mem_cons_of_mem _ h1) rfl
        rw [cell_off (by simp), cell_blk (by simpa using hxq), cell_off (by simp)]
    · rw [cell_off (by simp), cell_off (by simp)]
      exact cell_set_same s2 _
    · rw [cell_off (by simp)]
      refine cell_set_same (u := Pt e) ?_ _
      rw [cell_off (by simp)]; exact s5
    · refine seg_same _ q (fun x hx => ?_) (fun x hx => ?_) (s6 r hr)
      · -- x is q or one of r but its last one: all of L2
        have hxm : x ∈ L2.map (·.1) := by
          have h1 : (q :: r).dropLast = L2.map (·.1) := by rw [← hr]; simp
          rw [h1] at hx; exact hx
        have hxp : p ≠ x := by
          rintro rfl
          rcases hpm with h1 | h1
          · exact hb2 (h1 ▸ hxm)
          · exact nd4 p h1 p (List.mem_cons_of_mem _ hxm) rfl
        rw [cell_off (by simp), cell_off (by simp), cell_blk (by simpa using hxp)]
      · have hxq : q ≠ x := by
          rintro rfl
          have hn : (q :: r).Nodup := by
            rw [← hr, List.nodup_append]
            exact ⟨nd3, by simp, fun a ha b hb => by simp at hb; subst hb; exact fun e => hb2 (e ▸ ha)⟩
          exact (List.nodup_cons.1 hn).1 hx
        rw [cell_off (by simp), cell_blk (by simpa using hxq), cell_off (by simp)]
set_option maxRecDepth 100000 in
theorem chain_out_calls (bl e : Nat) (v : Value) (L1 L2 : List (Nat × Value)) (w : World) (h : Ring w bl (L1 ++ (e, v) :: L2)) (hlen : (L1 ++ (e, v) :: L2).length < 2 ^ 40) :
    Calls Try.prog 66 #[.pointer (some ⟨bl, 0, none⟩), .pointer (some ⟨e, 0, none⟩)] w fun r w' => r = .returned (.tuple #[]) ∧ Ring w' bl (L1 ++ L2) ∧ (∃ a b, w'.heap[e]? = some (.cells #[v, a, b, Pt bl] 115 (0, 0))) ∧ Fr (RingB bl (L1 ++ (e, v) :: L2)) w w' := by
  obtain ⟨s1, s2, s3, s4, s5, s6⟩ := h.midP
  have hpB : RingB bl (L1 ++ (e, v) :: L2) (lastOf bl (L1.map (·.1))) := by
    rcases lastOf_ringB bl L1 with h1 | h1
    · exact .inl h1
    · exact .inr (by rw [List.map_append]; exact List.mem_append_left _ h1)
  have hqB : RingB bl (L1 ++ (e, v) :: L2) (headOf (L2.map (·.1)) bl) := by
    cases L2 with
    | nil => exact .inl rfl
    | cons x L2 => exact .inr (by simp [headOf])
  have hnode := h.node (e, v) (by simp)
  have hne1 : lastOf bl (L1.map (·.1)) ≠ e := by
    intro he
    have hnd := h.nodup
    rw [List.map_append, List.map_cons, List.nodup_append] at hnd
    rcases lastOf_ringB bl L1 with h1 | h1
    · exact h.root_ne (by rw [← h1, he]; simp)
    · exact hnd.2.2 _ h1 e (by simp) he
  have hne2 : headOf (L2.map (·.1)) bl ≠ e := by
    intro he
    have hnd := h.nodup
    rw [List.map_append, List.map_cons, List.nodup_append, List.nodup_cons] at hnd
    cases L2 with
    | nil => exact h.root_ne (by rw [show bl = e from he]; simp)
    | cons x L2 => exact hnd.2.1.1 (by rw [← he]; simp [headOf])
  obtain ⟨ra, rb, hroot⟩ := h.root
  have q4 : w.cell? ⟨bl, 4, none⟩ = some (.int .i64 (L1 ++ (e, v) :: L2).length) := blk_cell hroot 4
  generalize hp : lastOf bl (L1.map (·.1)) = p at *
  generalize hq : headOf (L2.map (·.1)) bl = q at *
  have s2' : w.cell? ⟨p, 2, none⟩ = some (.pointer (some ⟨e, 0, none⟩)) := s2
  have s3' : w.cell? ⟨e, 1, none⟩ = some (.pointer (some ⟨p, 0, none⟩)) := s3
  have s4' : w.cell? ⟨e, 2, none⟩ = some (.pointer (some ⟨q, 0, none⟩)) := s4
  have s5' : w.cell? ⟨q, 1, none⟩ = some (.pointer (some ⟨e, 0, none⟩)) := s5
  have f1 := h.free hpB 2
  have f2 := h.free hqB 1
  have f3 := h.free (.inl rfl : RingB bl (L1 ++ (e, v) :: L2) bl) 4
  have hn1 : 1 ≤ (L1 ++ (e, v) :: L2).length := by simp; omega
  obtain ⟨n, hn⟩ : ∃ n, (L1 ++ (e, v) :: L2).length = n := ⟨_, rfl⟩
  rw [hn] at q4 hn1 hlen
  have HR := Ho.mk h; have HP := Ho.mk hp; have HQ := Ho.mk hq; have HND := Ho.mk hnode; have HN := Ho.mk hn; have HPB := Ho.mk hpB; have HQB := Ho.mk hqB
  clear s1 s2 s3 s4 s5 s6 h hp hq hnode hroot hn hpB hqB
  go_enter Try.func66, Try.ntmps66
  go_wp2
  go_region
  go_wp2
  go_end0
  refine ⟨rfl, ?_, ?_, ?_⟩
  · have h1 := ring_out HR.out HP.out HQ.out
    rw [HN.out] at h1
    exact h1.fr (S := nob) ((Fr.refl _ _).drew) (fun _ _ h => h)
  · have hbe : e ≠ bl := fun h => HR.out.root_ne (by rw [← h]; simp)
    exact node_far (node_set (node_set HND.out p 2 (Pt q) (.inr rfl)) q 1 (Pt p) (.inl rfl)) hbe 4 _
  · exact ((((Fr.refl _ w).set (p := ⟨p, 2, none⟩) (.inr HPB.out) _).set (p := ⟨q, 1, none⟩) (.inr HQB.out) _).set (p := ⟨bl, 4, none⟩) (.inr (.inl rfl)) _).drew
/-- A pointer to the first element; nil: there is none. -/
def PtHead (l : List Nat) : Value := match l with | [] => .pointer none | e :: _ => Pt e
theorem chain_front_calls (bl : Nat) (L : List (Nat × Value)) (w : World) (h : Ring w bl L) :
    Calls Try.prog 43 #[.pointer (some ⟨bl, 0, none⟩)] w fun r w' => r = .returned (PtHead (L.map (·.1))) ∧ w = w' := by
  obtain ⟨ra, rb, hroot⟩ := h.root
  have q4 : w.cell? ⟨bl, 4, none⟩ = some (.int .i64 L.length) := blk_cell hroot 4
  cases L with
  | nil =>
    have h0 : (((0 : Nat) : Int) == 0) = true := by decide
    simp only [List.length_nil] at q4
    clear hroot h
    go_enter Try.func43, Try.ntmps43
    go_wp2
    go_ret
    exact ⟨rfl, rfl⟩
  | cons x L =>
    obtain ⟨e, v⟩ := x
    have q2 : w.cell? ⟨bl, 2, none⟩ = some (.pointer (some ⟨e, 0, none⟩)) := by
      have h1 := h.seg
      simp only [List.map_cons, List.cons_append] at h1
      exact h1.1
    obtain ⟨n, hn⟩ : ∃ n, ((e, v) :: L).length = n := ⟨_, rfl⟩
    have hn0 : ((n : Int) == 0) = false := by rw [beq_eq_false_iff_ne]; simp at hn; omega
    rw [hn] at q4
    clear hroot h hn
    go_enter Try.func43, Try.ntmps43
    go_wp2
    go_ret
    exact ⟨rfl, rfl⟩
theorem sizeE : (Try.prog.info? 115).map (·.size) = some 4 := by kernel_rfl
theorem sizeL : (Try.prog.info? 117).map (·.size) = some 5 := by kernel_rfl
theorem eqE_same (w : World) (a : Addr) : (binOp .eql 90 (.pointer (some a)) (.pointer (some a))).run Try.prog w = .ok (.bool true) w := by
  obtain ⟨j, hj, _⟩ := Option.map_eq_some_iff.1 sizeE
  exact run_eql_ptr_same w a Try.underlying90 hj
theorem eqE_other (w : World) {a b : Nat} {ca cb : Array Value} {ta tb : TypeId} (hne : a ≠ b) (ha : w.heap[a]? = some (.cells ca ta (0, 0))) (hb : w.heap[b]? = some (.cells cb tb (0, 0))) : (binOp .eql 90 (.pointer (some ⟨a, 0, none⟩)) (.pointer (some ⟨b, 0, none⟩))).run Try.prog w = .ok (.bool false) w := by
  obtain ⟨j, hj, hs⟩ := Option.map_eq_some_iff.1 sizeE
  exact run_eql_ptr_other w Try.underlying90 hj (by omega) (fun h => hne (by cases h; rfl)) ha hb
theorem eqL_same (w : World) (a : Addr) : (binOp .eql 31 (.pointer (some a)) (.pointer (some a))).run Try.prog w = .ok (.bool true) w := by
  obtain ⟨j, hj, _⟩ := Option.map_eq_some_iff.1 sizeL
  exact run_eql_ptr_same w a Try.underlying31 hj
set_option maxRecDepth 100000 in
theorem chain_next_calls (bl e : Nat) (v : Value) (L1 L2 : List (Nat × Value)) (w : World) (h : Ring w bl (L1 ++ (e, v) :: L2)) :
    Calls Try.prog 44 #[.pointer (some ⟨e, 0, none⟩)] w fun r w' => r = .returned (PtHead (L2.map (·.1))) ∧ ∃ n, w' = w.drewN n := by
  obtain ⟨s1, s2, s3, s4, s5, s6⟩ := h.midP
  obtain ⟨a, b, hnode⟩ := h.node (e, v) (by simp)
  have q3 : w.cell? ⟨e, 3, none⟩ = some (.pointer (some ⟨bl, 0, none⟩)) := blk_cell hnode 3
  have hne := h.root_ne
  cases L2 with
  | nil =>
    have q2 : w.cell? ⟨e, 2, none⟩ = some (.pointer (some ⟨bl, 0, none⟩)) := s4
    have he := fun n => eqE_same (w.drewN n) ⟨bl, 0, none⟩
    clear s1 s2 s3 s4 s5 s6 h hnode hne
    go_enter Try.func44, Try.ntmps44
    go_wp2
    go_quiet (fail)
    go_wp2
    go_ret
    exact ⟨rfl, _, rfl⟩
  | cons x L2 =>
    obtain ⟨f, u⟩ := x
    have q2 : w.cell? ⟨e, 2, none⟩ = some (.pointer (some ⟨f, 0, none⟩)) := s4
    obtain ⟨c, d, hnf⟩ := h.node (f, u) (by simp)
    obtain ⟨ra, rb, hroot⟩ := h.root
    have hfb : f ≠ bl := fun hf => hne (by rw [← hf]; simp)
    have he := fun n => eqE_other (w.drewN n) hfb hnf hroot
    clear s1 s2 s3 s4 s5 s6 h hnode hne hnf hroot hfb
    go_enter Try.func44, Try.ntmps44
    go_wp2
    go_quiet (fail)
    go_wp2
    go_ret
    exact ⟨rfl, _, rfl⟩
end Go.Proofs.Ytlbhfnjhhpcphaa
