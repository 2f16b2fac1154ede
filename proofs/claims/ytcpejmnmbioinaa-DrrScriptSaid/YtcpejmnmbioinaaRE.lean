/-
  The scheduler and the reference, both in one memory.
-/
import Derived.Test.YtcpejmnmbioinaaRD
namespace Go.Proofs.Ytcpejmnmbioinaa
open Go.RowKit
theorem RQ.weak {D D' : Nat → Prop} {w : World} {r : Nat} {st : Qs} (h : RQ D w r st) (hD : ∀ k, k < w.heap.size → D k → D' k) : RQ D' w r st := by
  obtain ⟨v, R, hh, hrow, hd, hri, hDr, hst, hne⟩ := h
  refine ⟨v, R, hh, hrow, fun k hk => hD k ?_ (hd k hk), fun x hx => ⟨fun j hj => ?_, (hri x hx).2⟩, hD r (lt_of_blk hh) hDr, hst, hne⟩
  · rcases hrow.2 with ⟨rfl, _⟩ | ⟨g, cap, cur, rfl, _, hb, _⟩
    · simp [Value.ownBlock] at hk
    · simp only [Value.ownBlock, Option.some.injEq] at hk
      subst hk; exact lt_of_blk hb
  · obtain ⟨g, off, cur, h1, h2, h3, h4⟩ := (hri x hx).1 j hj
    exact ⟨g, off, cur, h1, hD g (lt_of_blk h3) h2, h3, h4⟩
/-- Both lie in memory from B on, in blocks of their own, none of which is one of X. -/
def TwoX (B : Nat) (X : Nat → Prop) (w : World) (q r : Nat) (sq sr : Qs) : Prop :=
  ∃ Dm Dr : Nat → Prop, (∀ k, Dm k → B ≤ k ∧ k < w.heap.size ∧ ¬ Dr k ∧ ¬ X k) ∧ (∀ k, Dr k → B ≤ k ∧ k < w.heap.size ∧ ¬ X k) ∧ (∀ k, X k → k < w.heap.size) ∧ B ≤ w.heap.size ∧ QS Dm w q sq ∧ RQ Dr w r sr
theorem TwoX.fr {B : Nat} {X S : Nat → Prop} {w w' : World} {q r : Nat} {sq sr : Qs} (h : TwoX B X w q r sq sr) (hf : Fr S w w') (hS : ∀ k, S k → X k ∨ k < B ∨ w.heap.size ≤ k) : TwoX B X w' q r sq sr := by
  obtain ⟨Dm, Dr, h1, h2, h3, h4, h5, h6⟩ := h
  have hsz := hf.size
  refine ⟨Dm, Dr, fun k hk => ?_, fun k hk => ?_, fun k hk => ?_, by omega, h5.fr hf fun k hk hs => ?_, h6.fr hf fun k hk hs => ?_⟩
  · have := h1 k hk; exact ⟨this.1, by omega, this.2.2⟩
  · have := h2 k hk; exact ⟨this.1, by omega, this.2.2⟩
  · have := h3 k hk; omega
  · have := h1 k hk
    rcases hS k hs with h | h | h
    · exact this.2.2.2 h
    · omega
    · omega
  · have := h2 k hk
    rcases hS k hs with h | h | h
    · exact this.2.2 h
    · omega
    · omega
theorem TwoX.same {B : Nat} {X : Nat → Prop} {w w' : World} {q r : Nat} {sq sr : Qs} (h : TwoX B X w q r sq sr) (hf : Fr nob w w') : TwoX B X w' q r sq sr := h.fr hf (fun _ h => h.elim)
theorem TwoX.grow {B : Nat} {X : Nat → Prop} {w w' : World} {q r : Nat} {sq sr : Qs} (h : TwoX B X w q r sq sr) (hf : Fr nob w w') : TwoX B (fun k => X k ∨ (w.heap.size ≤ k ∧ k < w'.heap.size)) w' q r sq sr := by
  obtain ⟨Dm, Dr, h1, h2, h3, h4, h5, h6⟩ := h
  have hsz := hf.size
  refine ⟨Dm, Dr, fun k hk => ?_, fun k hk => ?_, ?_, by omega, h5.fr hf fun _ _ h => h, h6.fr hf fun _ _ h => h⟩
  · have := h1 k hk; exact ⟨this.1, by omega, this.2.2.1, by rintro (h | h); exact this.2.2.2 h; omega⟩
  · have := h2 k hk; exact ⟨this.1, by omega, by rintro (h | h); exact this.2.2 h; omega⟩
  · rintro k (h | h)
    · have := h3 k h; omega
    · exact h.2
theorem TwoX.lessX {B : Nat} {X X' : Nat → Prop} {w : World} {q r : Nat} {sq sr : Qs} (h : TwoX B X w q r sq sr) (hX : ∀ k, X' k → X k) : TwoX B X' w q r sq sr := by
  obtain ⟨Dm, Dr, h1, h2, h3, h4, h5, h6⟩ := h
  exact ⟨Dm, Dr, fun k hk => ⟨(h1 k hk).1, (h1 k hk).2.1, (h1 k hk).2.2.1, fun h => (h1 k hk).2.2.2 (hX k h)⟩, fun k hk => ⟨(h2 k hk).1, (h2 k hk).2.1, fun h => (h2 k hk).2.2 (hX k h)⟩, fun k hk => h3 k (hX k hk), h4, h5, h6⟩
theorem two_mach {B : Nat} {X : Nat → Prop} {w : World} {q r : Nat} {sq sr sq' : Qs} {f : FuncId} {args : Array Value} {E : Ending → World → Prop} (h : TwoX B X w q r sq sr)
    (hc : ∀ D : Nat → Prop, QS D w q sq → (∀ k, w.heap.size ≤ k → D k) → Calls Try.prog f args w fun e w' => E e w' ∧ QS D w' q sq' ∧ Fr D w w') :
    Calls Try.prog f args w fun e w' => E e w' ∧ TwoX B X w' q r sq' sr ∧ Fr (fun k => B ≤ k ∧ ¬ X k) w w' := by
  obtain ⟨Dm, Dr, h1, h2, h3, h4, h5, h6⟩ := h
  refine (hc (fun k => Dm k ∨ w.heap.size ≤ k) (h5.weak fun k _ hk => .inl hk) (fun k hk => .inr hk)).mono ?_
  rintro e w' ⟨he, hq, hf⟩
  have hsz := hf.size
  refine ⟨he, ⟨fun k => (Dm k ∨ w.heap.size ≤ k) ∧ k < w'.heap.size, Dr, ?_, fun k hk => ?_, fun k hk => ?_, by omega, hq.weak fun k hk hd => ⟨hd, hk⟩, h6.fr hf ?_⟩, hf.mono ?_⟩
  · rintro k ⟨hk | hk, hlt⟩
    · have := h1 k hk; exact ⟨this.1, hlt, this.2.2⟩
    · exact ⟨by omega, hlt, fun h => by have := h2 k h; omega, fun h => by have := h3 k h; omega⟩
  · have := h2 k hk; exact ⟨this.1, by omega, this.2.2⟩
  · have := h3 k hk; omega
  · rintro k hk (h | h)
    · exact (h1 k h).2.2.1 hk
    · have := h2 k hk; omega
  · rintro k hlt (h | h)
    · exact ⟨(h1 k h).1, (h1 k h).2.2.2⟩
    · omega
theorem two_ref {B : Nat} {X : Nat → Prop} {w : World} {q r : Nat} {sq sr sr' : Qs} {f : FuncId} {args : Array Value} {E : Ending → World → Prop} (h : TwoX B X w q r sq sr)
    (hc : ∀ D : Nat → Prop, RQ D w r sr → (∀ k, w.heap.size ≤ k → D k) → Calls Try.prog f args w fun e w' => E e w' ∧ RQ D w' r sr' ∧ Fr D w w') :
    Calls Try.prog f args w fun e w' => E e w' ∧ TwoX B X w' q r sq sr' ∧ Fr (fun k => B ≤ k ∧ ¬ X k) w w' := by
  obtain ⟨Dm, Dr, h1, h2, h3, h4, h5, h6⟩ := h
  refine (hc (fun k => Dr k ∨ w.heap.size ≤ k) (h6.weak fun k _ hk => .inl hk) (fun k hk => .inr hk)).mono ?_
  rintro e w' ⟨he, hq, hf⟩
  have hsz := hf.size
  refine ⟨he, ⟨Dm, fun k => (Dr k ∨ w.heap.size ≤ k) ∧ k < w'.heap.size, fun k hk => ?_, ?_, fun k hk => ?_, by omega, h5.fr hf ?_, hq.weak fun k hk hd => ⟨hd, hk⟩⟩, hf.mono ?_⟩
  · have := h1 k hk
    exact ⟨this.1, by omega, by rintro ⟨h | h, _⟩; exact this.2.2.1 h; omega, this.2.2.2⟩
  · rintro k ⟨hk | hk, hlt⟩
    · have := h2 k hk; exact ⟨this.1, hlt, this.2.2⟩
    · exact ⟨by omega, hlt, fun h => by have := h3 k h; omega⟩
  · have := h3 k hk; omega
  · rintro k hk (h | h)
    · exact (h1 k hk).2.2.1 h
    · have := h1 k hk; omega
  · rintro k hlt (h | h)
    · exact ⟨(h2 k h).1, (h2 k h).2.2⟩
    · omega
/-- The scheduler's Drop: what is new is none of its blocks. -/
theorem two_drop {B : Nat} {X : Nat → Prop} {w : World} {q r : Nat} {sq sr sq' : Qs} {f : FuncId} {args : Array Value} {E : Ending → World → Prop} (h : TwoX B X w q r sq sr)
    (hc : ∀ D : Nat → Prop, QS D w q sq → Calls Try.prog f args w fun e w' => E e w' ∧ QS D w' q sq' ∧ Fr D w w') :
    Calls Try.prog f args w fun e w' => E e w' ∧ TwoX B (fun k => X k ∨ (w.heap.size ≤ k ∧ k < w'.heap.size)) w' q r sq' sr ∧ Fr (fun k => B ≤ k ∧ ¬ X k) w w' := by
  obtain ⟨Dm, Dr, h1, h2, h3, h4, h5, h6⟩ := h
  refine (hc Dm h5).mono ?_
  rintro e w' ⟨he, hq, hf⟩
  have hsz := hf.size
  refine ⟨he, ⟨Dm, Dr, fun k hk => ?_, fun k hk => ?_, ?_, by omega, hq, h6.fr hf ?_⟩, hf.mono ?_⟩
  · have := h1 k hk; exact ⟨this.1, by omega, this.2.2.1, by rintro (h | h); exact this.2.2.2 h; omega⟩
  · have := h2 k hk; exact ⟨this.1, by omega, by rintro (h | h); exact this.2.2 h; omega⟩
  · rintro k (h | h)
    · have := h3 k h; omega
    · exact h.2
  · intro k hk h; exact (h1 k h).2.2.1 hk
  · intro k hlt h; exact ⟨(h1 k h).1, (h1 k h).2.2.2⟩
theorem TwoX.wfq {B : Nat} {X : Nat → Prop} {w : World} {q r : Nat} {sq sr : Qs} (h : TwoX B X w q r sq sr) : sq.wf := by
  obtain ⟨Dm, Dr, h1, h2, h3, h4, h5, h6⟩ := h; exact h5.1
theorem TwoX.base {B : Nat} {X : Nat → Prop} {w : World} {q r : Nat} {sq sr : Qs} (h : TwoX B X w q r sq sr) : B ≤ w.heap.size := by
  obtain ⟨Dm, Dr, h1, h2, h3, h4, h5, h6⟩ := h; exact h4
theorem t_next {B : Nat} {X : Nat → Prop} {w : World} {q r : Nat} {sq sr : Qs} (h : TwoX B X w q r sq sr) :
    Calls Try.prog 13 #[.pointer (some ⟨q, 0, none⟩)] w fun e w' => e = .returned (.tuple #[.int .i64 sq.next.2.1, .int .i64 sq.next.2.2.1, .bool sq.next.2.2.2]) ∧ TwoX B X w' q r sq.next.1 sr ∧ Fr (fun k => B ≤ k ∧ ¬ X k) w w' :=
  two_mach (E := fun e _ => e = _) h fun D hq hD => next_calls D w q sq hq hD
theorem t_put {B : Nat} {X : Nat → Prop} {w : World} {q r : Nat} {sq sr : Qs} (h : TwoX B X w q r sq sr) (n cost x : Int) :
    Calls Try.prog 12 #[.pointer (some ⟨q, 0, none⟩), .int .i64 n, .int .i64 cost, .int .i64 x] w fun e w' => e = .returned (.int .i64 (sq.put n cost x).2) ∧ TwoX B X w' q r (sq.put n cost x).1 sr ∧ Fr (fun k => B ≤ k ∧ ¬ X k) w w' :=
  two_mach (E := fun e _ => e = _) h fun D hq hD => put_calls D w q sq n cost x hq hD
theorem t_drop {B : Nat} {X : Nat → Prop} {w : World} {q r : Nat} {sq sr : Qs} (h : TwoX B X w q r sq sr) (n : Int) :
    Calls Try.prog 18 #[.pointer (some ⟨q, 0, none⟩), .int .i64 n] w fun e w' => (∃ ao cap, e = .returned (.slice ao (sq.drop n).2.length cap) ∧ w'.ownsRow w.heap.size 3 1 (.slice ao (sq.drop n).2.length cap) (sq.drop n).2.length (icells (sq.drop n).2)) ∧
      TwoX B (fun k => X k ∨ (w.heap.size ≤ k ∧ k < w'.heap.size)) w' q r (sq.drop n).1 sr ∧ Fr (fun k => B ≤ k ∧ ¬ X k) w w' :=
  two_drop (E := fun e w' => ∃ ao cap, e = .returned (.slice ao (sq.drop n).2.length cap) ∧ w'.ownsRow w.heap.size 3 1 (.slice ao (sq.drop n).2.length cap) (sq.drop n).2.length (icells (sq.drop n).2)) h fun D hq => (drop_calls D w q sq n hq).mono fun e w' ⟨ao, cap, he, ho, hq, hf⟩ => ⟨⟨ao, cap, he, ho⟩, hq, hf⟩
theorem t_peek {B : Nat} {X : Nat → Prop} {w : World} {q r : Nat} {sq sr : Qs} (h : TwoX B X w q r sq sr) :
    Calls Try.prog 22 #[.pointer (some ⟨q, 0, none⟩)] w fun e w' => e = .returned (.tuple #[.int .i64 sq.next.2.1, .int .i64 sq.next.2.2.1, .bool sq.next.2.2.2]) ∧ Fr nob w w' := by
  obtain ⟨Dm, Dr, h1, h2, h3, h4, h5, h6⟩ := h
  exact peek_calls Dm w q sq h5
theorem t_rnext {B : Nat} {X : Nat → Prop} {w : World} {q r : Nat} {sq sr : Qs} (h : TwoX B X w q r sq sr) (hw : sr.wf) :
    Calls Try.prog 21 #[.pointer (some ⟨r, 0, none⟩)] w fun e w' => e = .returned (.tuple #[.int .i64 sr.next.2.1, .int .i64 sr.next.2.2.1, .bool sr.next.2.2.2]) ∧ TwoX B X w' q r sq sr.next.1 ∧ Fr (fun k => B ≤ k ∧ ¬ X k) w w' :=
  two_ref (E := fun e _ => e = _) h fun D hq hD => (rNext_calls D w r sr hw hq hD).mono fun e w' ⟨he, hq', hf⟩ => ⟨he, hq', hf.mono fun k _ hk => by subst hk; obtain ⟨_, _, _, _, _, _, h, _⟩ := hq; exact h⟩
theorem t_rput {B : Nat} {X : Nat → Prop} {w : World} {q r : Nat} {sq sr : Qs} (h : TwoX B X w q r sq sr) (hw : sr.wf) (n cost x : Int) :
    Calls Try.prog 25 #[.pointer (some ⟨r, 0, none⟩), .int .i64 n, .int .i64 cost, .int .i64 x] w fun e w' => e = .returned (.int .i64 (sr.put n cost x).2) ∧ TwoX B X w' q r sq (sr.put n cost x).1 ∧ Fr (fun k => B ≤ k ∧ ¬ X k) w w' :=
  two_ref (E := fun e _ => e = _) h fun D hq hD => rPut_calls D w r sr n cost x hw hq hD
theorem t_rdrop {B : Nat} {X : Nat → Prop} {w : World} {q r : Nat} {sq sr : Qs} (h : TwoX B X w q r sq sr) (hw : sr.wf) (n : Int) :
    Calls Try.prog 24 #[.pointer (some ⟨r, 0, none⟩), .int .i64 n] w fun e w' => (∃ ao cap, e = .returned (.slice ao (sr.drop n).2.length cap) ∧ w'.ownsRow w.heap.size 3 1 (.slice ao (sr.drop n).2.length cap) (sr.drop n).2.length (icells (sr.drop n).2)) ∧
      TwoX B X w' q r sq (sr.drop n).1 ∧ Fr (fun k => B ≤ k ∧ ¬ X k) w w' :=
  two_ref (E := fun e w' => ∃ ao cap, e = .returned (.slice ao (sr.drop n).2.length cap) ∧ w'.ownsRow w.heap.size 3 1 (.slice ao (sr.drop n).2.length cap) (sr.drop n).2.length (icells (sr.drop n).2)) h fun D hq hD => (rDrop_calls D w r sr n hw hq hD).mono fun e w' ⟨ao, cap, he, ho, hq', hf⟩ => ⟨⟨ao, cap, he, ho⟩, hq', hf.mono fun k _ hk => by subst hk; obtain ⟨_, _, _, _, _, _, h, _⟩ := hq; exact h⟩
theorem t_rpeek {B : Nat} {X : Nat → Prop} {w : World} {q r : Nat} {sq sr : Qs} (h : TwoX B X w q r sq sr) (hw : sr.wf) :
    Calls Try.prog 23 #[.pointer (some ⟨r, 0, none⟩)] w fun e w' => e = .returned (.tuple #[.int .i64 sr.next.2.1, .int .i64 sr.next.2.2.1, .bool sr.next.2.2.2]) ∧ Fr nob w w' := by
  obtain ⟨Dm, Dr, h1, h2, h3, h4, h5, h6⟩ := h
  exact rPeek_calls (fun k => Dr k ∨ w.heap.size ≤ k) w r sr hw (h6.weak fun k _ hk => .inl hk) (fun k hk => .inr hk)
theorem t_len {B : Nat} {X : Nat → Prop} {w : World} {q r : Nat} {sq sr : Qs} (h : TwoX B X w q r sq sr) :
    Calls Try.prog 19 #[.pointer (some ⟨q, 0, none⟩)] w fun e w' => e = .returned (.int .i64 (total sq.ring : Nat)) ∧ Fr nob w w' := by
  obtain ⟨Dm, Dr, h1, h2, h3, h4, h5, h6⟩ := h
  exact (len_calls Dm w q sq h5).mono fun e w' ⟨he, hw⟩ => ⟨he, by rw [hw]; exact Fr.refl _ _⟩
theorem t_rlen {B : Nat} {X : Nat → Prop} {w : World} {q r : Nat} {sq sr : Qs} (h : TwoX B X w q r sq sr) (hw : sr.wf) :
    Calls Try.prog 26 #[.pointer (some ⟨r, 0, none⟩)] w fun e w' => e = .returned (.int .i64 (total sr.ring : Nat)) ∧ Fr nob w w' := by
  obtain ⟨Dm, Dr, h1, h2, h3, h4, h5, h6⟩ := h
  exact rLen_calls Dr w r sr hw h6
theorem t_of {B : Nat} {X : Nat → Prop} {w : World} {q r : Nat} {sq sr : Qs} (h : TwoX B X w q r sq sr) (n : Int) :
    Calls Try.prog 14 #[.pointer (some ⟨q, 0, none⟩), .int .i64 n] w fun e w' => e = .returned (.int .i64 (sq.of n)) ∧ Fr nob w w' := by
  obtain ⟨Dm, Dr, h1, h2, h3, h4, h5, h6⟩ := h
  exact (ofn_calls Dm w q sq n h5).mono fun e w' ⟨he, hw⟩ => ⟨he, by rw [hw]; exact Fr.refl _ _⟩
theorem t_rof {B : Nat} {X : Nat → Prop} {w : World} {q r : Nat} {sq sr : Qs} (h : TwoX B X w q r sq sr) (hw : sr.wf) (n : Int) :
    Calls Try.prog 27 #[.pointer (some ⟨r, 0, none⟩), .int .i64 n] w fun e w' => e = .returned (.int .i64 (sr.of n)) ∧ Fr nob w w' := by
  obtain ⟨Dm, Dr, h1, h2, h3, h4, h5, h6⟩ := h
  exact rOf_calls Dr w r sr n hw h6
theorem t_clients {B : Nat} {X : Nat → Prop} {w : World} {q r : Nat} {sq sr : Qs} (h : TwoX B X w q r sq sr) :
    Calls Try.prog 15 #[.pointer (some ⟨q, 0, none⟩)] w fun e w' => ∃ ao cap, e = .returned (.slice ao sq.ring.length cap) ∧ w'.ownsRow w.heap.size 3 1 (.slice ao sq.ring.length cap) sq.ring.length (icells (sq.ring.map (·.n))) ∧ Fr nob w w' := by
  obtain ⟨Dm, Dr, h1, h2, h3, h4, h5, h6⟩ := h
  exact clients_calls Dm w q sq h5
theorem t_rclients {B : Nat} {X : Nat → Prop} {w : World} {q r : Nat} {sq sr : Qs} (h : TwoX B X w q r sq sr) (hw : sr.wf) :
    Calls Try.prog 28 #[.pointer (some ⟨r, 0, none⟩)] w fun e w' => ∃ ao cap, e = .returned (.slice ao sr.ring.length cap) ∧ w'.ownsRow w.heap.size 3 1 (.slice ao sr.ring.length cap) sr.ring.length (icells (sr.ring.map (·.n))) ∧ Fr nob w w' := by
  obtain ⟨Dm, Dr, h1, h2, h3, h4, h5, h6⟩ := h
  exact rClients_calls Dr w r sr hw h6
end Go.Proofs.Ytcpejmnmbioinaa
