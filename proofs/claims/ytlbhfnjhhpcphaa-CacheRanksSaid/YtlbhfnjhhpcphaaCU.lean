/-
  package cache: use.
-/
import Derived.Test.YtlbhfnjhhpcphaaCH
namespace Go.Proofs.Ytlbhfnjhhpcphaa
open Go.RowKit
/-- What is found, as a value; its data's slice. -/
def fdV (f : Fd) (ao : Option Addr) (cap : Nat) : Value := .agg #[.int .i64 f.kind, .string (mk f.set.name), .int .i64 f.set.typ, .int .i64 f.set.cls, .int .i64 f.set.ttl, .slice ao f.set.data.length cap, .int .i64 f.ttl]
theorem MapF.look1 {P : Program} {κ : Type} {kv : κ → Value} {k t e : TypeId} {w : World} {b : Nat} {m : κ → Option Value} (K : KLaw P k kv) (ht : P.underlying t = some (.map k e)) {z : Value} (hz : ∀ w, (zeroValue e).run P w = .ok z w) (h : MapF kv w b m) (x : κ) :
    (Instr.lookup t (.map (some b)) (kv x) false).run P w = .ok ((m x).getD z) w := by
  obtain ⟨es, c, h1, h2, h3, h4⟩ := h
  rcases K.find w x es.toList h2 with ⟨hf, hn⟩ | ⟨j, e0, hf, hj, hx⟩
  · have hm : m x = none := by
      cases hc : m x with
      | none => rfl
      | some v => obtain ⟨e1, he1, hk1, _⟩ := (h4 x v).1 hc; exact absurd hk1 (hn e1 he1)
    rw [hm]
    simp [Instr.lookup, run_underlying ht, MapKept.run_getObj_map h1, K.check w _ x, hf, hz, Result.andThen]
  · have hm : m x = some e0.val := (h4 x _).2 ⟨e0, List.mem_of_getElem? hj, hx, rfl⟩
    rw [hm]
    simp [Instr.lookup, run_underlying ht, MapKept.run_getObj_map h1, K.check w _ x, hf, Result.andThen]
theorem atC_move {A B : List ElC} {x : ElC} (hA : ∀ y ∈ A, y.th.key ≠ x.th.key) (hB : ∀ y ∈ B, y.th.key ≠ x.th.key) : atC (A ++ B ++ [x]) = atC (A ++ x :: B) := by
  funext y
  unfold atC
  have hne : ∀ L : List ElC, (∀ y ∈ L, y.th.key ≠ x.th.key) → y = x.th.key → L.find? (fun z => isK y.1 y.2 z.th) = none := fun L h e => List.find?_eq_none.2 fun z hz hk => h z hz ((isK_iff.1 hk).trans e)
  by_cases hy : y = x.th.key
  · rw [List.find?_append, List.find?_append, List.find?_append, hne A hA hy, hne B hB hy, List.find?_cons_of_pos (by rw [isK_iff]; exact hy.symm), List.find?_cons_of_pos (by rw [isK_iff]; exact hy.symm)]; rfl
  · rw [List.find?_append, List.find?_append, List.find?_append, List.find?_cons_of_neg (by intro hk; exact hy (isK_iff.1 hk).symm), List.find?_cons_of_neg (by intro hk; exact hy (isK_iff.1 hk).symm)]
    simp
theorem CI.move {D : Nat → Prop} {w w' : World} {c bl mp : Nat} {A B : List ElC} {x : ElC} {st : Ca} {S : Nat → Prop} (h : CI D w c bl mp (A ++ x :: B) st) (hf : Fr S w w') (hS : ∀ k, S k → RingB bl ((A ++ x :: B).map valC) k)
    (hr : Ring w' bl (A.map valC ++ B.map valC ++ [valC x])) (hA : ∀ y ∈ A, y.th.key ≠ x.th.key) (hB : ∀ y ∈ B, y.th.key ≠ x.th.key) : CI D w' c bl mp (A ++ B ++ [x]) { st with L := outL st.L x.th.name x.th.kind ++ [x.th] } := by
  refine ⟨hf.block _ _ h.head (fun hc => h.cR (hS c hc)), by rw [List.map_append, List.map_append]; exact hr, ?_, fun y hy s r hs => ?_, ?_⟩
  · rw [atC_move hA hB]
    exact h.map.fr hf (fun hc => h.mR (hS mp hc))
  · have h1 := h.data y (by simp at hy ⊢; rcases hy with h | h | h <;> simp [h]) s r hs
    exact ⟨h1.1.fr hf (fun k cur _ hc hk => h.strNot hc (.inr (.inr (hS k hk)))), h1.2⟩
  · show outL st.L x.th.name x.th.kind ++ [x.th] = _
    rw [outE_th h.st, outE_mid rfl hA hB]; simp
theorem run_found_none (k n : Int) (w : World) : (Instr.build 42 #[(0, .int .i64 k), (2, .int .i64 n)]).run Try.prog w = .ok (.agg #[.int .i64 k, .string ⟨#[]⟩, .int .i64 0, .int .i64 0, .int .i64 0, .slice none 0 0, .int .i64 n]) w := by
  kernel_rfl
theorem run_found_zero (w : World) : (Instr.build 42 #[]).run Try.prog w = .ok (.agg #[.int .i64 0, .string ⟨#[]⟩, .int .i64 0, .int .i64 0, .int .i64 0, .slice none 0 0, .int .i64 0]) w := by
  kernel_rfl
theorem run_found_set (a : ByteArray) (t c l : Int) (d : Option Addr) (n cap : Nat) (m : Int) (w : World) : (Instr.build 42 #[(0, .int .i64 1), (1, .agg #[.string a, .int .i64 t, .int .i64 c, .int .i64 l, .slice d n cap]), (2, .int .i64 m)]).run Try.prog w = .ok (.agg #[.int .i64 1, .string a, .int .i64 t, .int .i64 c, .int .i64 l, .slice d n cap, .int .i64 m]) w := by
  kernel_rfl
end Go.Proofs.Ytlbhfnjhhpcphaa
