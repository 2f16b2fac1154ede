/-
  Maps in memory, as functions from what the keys stand for to the values.
-/
import Derived.Test.YtlbhfnjhhpcphaaChecked
import Derived.Test.YtlbhfnjhhpcphaaA
import Derived.Maps.Keyed
namespace Go.Proofs.Ytlbhfnjhhpcphaa
open Go.RowKit
open Go.MapKept
/-- What a type of keys answers to. -/
structure KLaw (P : Program) (k : TypeId) {κ : Type} (kv : κ → Value) : Prop where
  inj : ∀ {a b : κ}, kv a = kv b → a = b
  check : ∀ (w : World) (em : Bool) (x : κ), (Instr.checkKey em 10000 k (kv x)).run P w = .ok () w
  find : ∀ (w : World) (x : κ) (es : List MapEntry), (∀ e ∈ es, ∃ y, e.key = kv y) →
    ((Instr.findKey k (kv x) es).run P w = .ok none w ∧ ∀ e ∈ es, e.key ≠ kv x) ∨ ∃ j e, (Instr.findKey k (kv x) es).run P w = .ok (some (j, e.val)) w ∧ es[j]? = some e ∧ e.key = kv x
  stays : ∀ (w : World) (x : κ), (Instr.keyThatStays (kv x) (kv x)).run P w = .ok (kv x) w
theorem int_klaw {P : Program} {k : TypeId} {q : IntKind} (hk : P.underlying k = some (.int q)) : KLaw P k (fun x : Int => .int q x) := by
  have isK : ∀ x, IsKey (.int q) (.int q x) := fun x => by simp [IsKey]
  refine ⟨fun h => by simpa using h, fun w em x => run_checkKey hk (isK x) em 9999, ?_, fun w x => run_keyThatStays (isK x)⟩
  intro w x es hes
  have hks : ∀ y ∈ es, IsKey (.int q) y.key := fun y hy => by
    obtain ⟨l, hl⟩ := hes y hy
    rw [hl]; exact isK l
  rcases findNow_spec (isK x) es 0 hks with ⟨h1, h2⟩ | ⟨j, e0, h1, h2, h3⟩
  · exact .inl ⟨run_findKey hk h1, h2⟩
  · exact .inr ⟨j, e0, by simpa using run_findKey hk h1, h2, h3⟩
/-- Block b is a map, and this is what stands in it. -/
def MapF {κ : Type} (kv : κ → Value) (w : World) (b : Nat) (m : κ → Option Value) : Prop :=
  ∃ es clock, w.heap[b]? = some (.map es clock) ∧ (∀ e ∈ es.toList, ∃ y, e.key = kv y) ∧ (es.toList.map (·.key)).Nodup ∧ ∀ x v, m x = some v ↔ ∃ e ∈ es.toList, e.key = kv x ∧ e.val = v
variable {P : Program} {κ : Type} {kv : κ → Value} {k t e : TypeId} {w : World} {b : Nat} {m : κ → Option Value}
theorem MapF.fr {S : Nat → Prop} {w' : World} (h : MapF kv w b m) (hf : Fr S w w') (hb : ¬ S b) : MapF kv w' b m := by
  obtain ⟨es, c, h1, h2⟩ := h
  exact ⟨es, c, hf.block b _ h1 hb, h2⟩
theorem MapF.lt (h : MapF kv w b m) : b < w.heap.size := by obtain ⟨es, c, h1, _⟩ := h; exact lt_of_blk h1
theorem MapF.new (w : World) : MapF kv (w.alloc (.map #[] 0)) w.heap.size (fun _ => none) :=
  ⟨#[], 0, blk_new w _, fun _ h => by simp at h, by simp, fun x v => by simp⟩
theorem nodup_key {es : List MapEntry} (h : (es.map (·.key)).Nodup) {a c : MapEntry} (ha : a ∈ es) (hc : c ∈ es) (hk : a.key = c.key) : a = c := by
  induction es with
  | nil => simp at ha
  | cons x l ih =>
    rw [List.map_cons, List.nodup_cons] at h
    rcases List.mem_cons.1 ha with rfl | ha' <;> rcases List.mem_cons.1 hc with rfl | hc'
    · rfl
    · exact absurd (show a.key ∈ l.map (·.key) from List.mem_map.2 ⟨c, hc', hk.symm⟩) h.1
    · exact absurd (show c.key ∈ l.map (·.key) from List.mem_map.2 ⟨a, ha', hk⟩) h.1
    · exact ih h.2 ha' hc'
/-- 'v, is := m[x]'. -/
theorem MapF.lookup (K : KLaw P k kv) (ht : P.underlying t = some (.map k e)) {z : Value} (hz : ∀ w, (zeroValue e).run P w = .ok z w) (h : MapF kv w b m) (x : κ) :
    (Instr.lookup t (.map (some b)) (kv x) true).run P w = .ok (.tuple #[(m x).getD z, .bool (m x).isSome]) w := by
  obtain ⟨es, c, h1, h2, h3, h4⟩ := h
  rcases K.find w x es.toList h2 with ⟨hf, hn⟩ | ⟨j, e0, hf, hj, hx⟩
  · have hm : m x = none := by
      cases hc : m x with
      | none => rfl
      | some v => obtain ⟨e1, he1, hk1, _⟩ := (h4 x v).1 hc; exact absurd hk1 (hn e1 he1)
    rw [hm]
    simp [Instr.lookup, run_underlying ht, MapKept.run_getObj_map h1, K.check w _ x, hf, hz, Result.andThen]
  · have hm : m x = some e0.val := (h4 x _).2 ⟨e0, List.mem_of_getElem? hj, hx, rfl⟩
    rw [hm]
    simp [Instr.lookup, run_underlying ht, MapKept.run_getObj_map h1, K.check w _ x, hf, Result.andThen]
/-- 'm[x] = v'. -/
theorem MapF.update (K : KLaw P k kv) (ht : P.underlying t = some (.map k e)) (h : MapF kv w b m) (x : κ) (v : Value) :
    ∃ o, (Instr.mapUpdate t (.map (some b)) (kv x) v).run P w = .ok () { w with heap := w.heap.setIfInBounds b o } ∧
      ∀ m', m' x = some v → (∀ y, y ≠ x → m' y = m y) → MapF kv { w with heap := w.heap.setIfInBounds b o } b m' := by
  obtain ⟨es, c, h1, h2, h3, h4⟩ := h
  have hlt := lt_of_blk h1
  rcases K.find w x es.toList h2 with ⟨hf, hn⟩ | ⟨j, e0, hf, hj, hx⟩
  · refine ⟨.map (es.push ⟨kv x, v, c⟩) (c + 1), ?_, ?_⟩
    · simp [Instr.mapUpdate, run_underlying ht, MapKept.run_getObj_map h1, K.check w false x, hf, MapKept.run_setObj_map _ h1, Result.andThen]
    · intro m' hm1 hm2
      refine ⟨es.push ⟨kv x, v, c⟩, c + 1, by simp [hlt], ?_, ?_, ?_⟩
      · intro e' he'
        simp only [Array.toList_push, List.mem_append, List.mem_singleton] at he'
        rcases he' with he' | rfl
        · exact h2 e' he'
        · exact ⟨x, rfl⟩
      · rw [Array.toList_push, List.map_append, List.nodup_append]
        refine ⟨h3, by simp, fun a ha b' hb' => ?_⟩
        simp at hb'; subst hb'
        obtain ⟨e1, he1, rfl⟩ := List.mem_map.1 ha
        exact hn e1 he1
      · intro y u
        by_cases hy : y = x
        · subst hy
          rw [hm1]
          constructor
          · rintro h; cases h; exact ⟨⟨kv y, v, c⟩, by simp, rfl, rfl⟩
          · rintro ⟨e1, he1, hk1, rfl⟩
            simp only [Array.toList_push, List.mem_append, List.mem_singleton] at he1
            rcases he1 with he1 | rfl
            · exact absurd hk1 (hn e1 he1)
            · rfl
        · rw [hm2 y hy, h4]
          constructor
          · rintro ⟨e1, he1, hk⟩; exact ⟨e1, by simp [Array.toList_push]; left; simpa using he1, hk⟩
          · rintro ⟨e1, he1, hk1, hk2⟩
            simp only [Array.toList_push, List.mem_append, List.mem_singleton] at he1
            rcases he1 with he1 | rfl
            · exact ⟨e1, he1, hk1, hk2⟩
            · exact absurd (K.inj hk1).symm hy
  · have hj' : es[j]? = some e0 := by simpa using hj
    have hjlt : j < es.size := (Array.getElem?_eq_some_iff.1 hj').1
    refine ⟨.map (es.modify j fun e => { e with key := kv x, val := v }) c, ?_, ?_⟩
    · simp [Instr.mapUpdate, run_underlying ht, MapKept.run_getObj_map h1, K.check w false x, hf, hj', hx, K.stays w x, MapKept.run_setObj_map _ h1, Result.andThen]
    · intro m' hm1 hm2
      have hl : (es.modify j fun e => { e with key := kv x, val := v }).toList = es.toList.set j ⟨kv x, v, e0.born⟩ := by
        rw [Array.toList_modify, List.modify_eq_set, hj]
        simp
      have hsplit : es.toList = es.toList.take j ++ e0 :: es.toList.drop (j + 1) := by
        have hjl : j < es.toList.length := by simpa using hjlt
        have : es.toList[j] = e0 := by rw [List.getElem?_eq_getElem hjl] at hj; exact Option.some.inj hj
        rw [← this, ← List.drop_eq_getElem_cons hjl, List.take_append_drop]
      have hl2 : (es.modify j fun e => { e with key := kv x, val := v }).toList = es.toList.take j ++ (⟨kv x, v, e0.born⟩ : MapEntry) :: es.toList.drop (j + 1) := by
        rw [hl, List.set_eq_take_append_cons_drop, if_pos (by simpa using hjlt)]
      have h3' := h3
      rw [hsplit, List.map_append, List.map_cons, hx] at h3'
      have hother : ∀ e1, e1 ∈ es.toList.take j ∨ e1 ∈ es.toList.drop (j + 1) → e1.key ≠ kv x := by
        intro e1 h e2
        rw [List.nodup_append, List.nodup_cons] at h3'
        rcases h with h | h
        · exact h3'.2.2 _ (List.mem_map_of_mem h) (kv x) (by simp) e2
        · exact h3'.2.1.1 (e2 ▸ List.mem_map_of_mem h)
      refine ⟨_, c, by simp [hlt]; rfl, ?_, ?_, ?_⟩
      · intro e' he'
        rw [hl2] at he'
        rcases List.mem_append.1 he' with h | h
        · exact h2 e' (by rw [hsplit]; exact List.mem_append_left _ h)
        · rcases List.mem_cons.1 h with rfl | h
          · exact ⟨x, rfl⟩
          · exact h2 e' (by rw [hsplit]; exact List.mem_append_right _ (List.mem_cons_of_mem _ h))
      · rw [hl2, List.map_append, List.map_cons]; exact h3'
      · intro y u
        rw [hl2]
        by_cases hy : y = x
        · subst hy
          rw [hm1]
          constructor
          · rintro h; cases h; exact ⟨⟨kv y, v, e0.born⟩, by simp, rfl, rfl⟩
          · rintro ⟨e1, he1, hk1, rfl⟩
            rcases List.mem_append.1 he1 with h | h
            · exact absurd hk1 (hother e1 (.inl h))
            · rcases List.mem_cons.1 h with rfl | h
              · rfl
              · exact absurd hk1 (hother e1 (.inr h))
        · rw [hm2 y hy, h4]
          constructor
          · rintro ⟨e1, he1, hk1, hk2⟩
            rw [hsplit] at he1
            rcases List.mem_append.1 he1 with h | h
            · exact ⟨e1, List.mem_append_left _ h, hk1, hk2⟩
            · rcases List.mem_cons.1 h with rfl | h
              · exact absurd (K.inj (hk1.symm.trans hx)) hy
              · exact ⟨e1, List.mem_append_right _ (List.mem_cons_of_mem _ h), hk1, hk2⟩
          · rintro ⟨e1, he1, hk1, hk2⟩
            rcases List.mem_append.1 he1 with h | h
            · exact ⟨e1, by rw [hsplit]; exact List.mem_append_left _ h, hk1, hk2⟩
            · rcases List.mem_cons.1 h with rfl | h
              · exact absurd (K.inj hk1).symm hy
              · exact ⟨e1, by rw [hsplit]; exact List.mem_append_right _ (List.mem_cons_of_mem _ h), hk1, hk2⟩
/-- 'delete(m, x)'. -/
theorem MapF.delete {ty : TypeId} (K : KLaw P k kv) (ht : P.underlying t = some (.map k e)) (h : MapF kv w b m) (x : κ) :
    ∃ o, (Builtin.delete_ #[t, k] ty #[.map (some b), kv x]).run P w = .ok (.tuple #[]) { w with heap := w.heap.setIfInBounds b o } ∧
      ∀ m', m' x = none → (∀ y, y ≠ x → m' y = m y) → MapF kv { w with heap := w.heap.setIfInBounds b o } b m' := by
  obtain ⟨es, c, h1, h2, h3, h4⟩ := h
  have hlt := lt_of_blk h1
  rcases K.find w x es.toList h2 with ⟨hf, hn⟩ | ⟨j, e0, hf, hj, hx⟩
  · refine ⟨.map es c, ?_, ?_⟩
    · simp [Builtin.delete_, run_underlying ht, MapKept.run_getObj_map h1, K.check w _ x, hf, MapKept.run_setObj_map _ h1, Result.andThen]
    · intro m' hm1 hm2
      refine ⟨es, c, by simp [hlt], h2, h3, fun y u => ?_⟩
      by_cases hy : y = x
      · subst hy
        rw [hm1]
        constructor
        · rintro h; cases h
        · rintro ⟨e1, he1, hk1, _⟩; exact absurd hk1 (hn e1 he1)
      · rw [hm2 y hy, h4]
  · have hj' : es[j]? = some e0 := by simpa using hj
    have hjlt : j < es.size := (Array.getElem?_eq_some_iff.1 hj').1
    have hsub : (es.eraseIdxIfInBounds j).toList = es.toList.eraseIdx j := by
      unfold Array.eraseIdxIfInBounds
      rw [dif_pos hjlt]
      simp
    have hsplit : es.toList = es.toList.take j ++ e0 :: es.toList.drop (j + 1) := by
      have hjl : j < es.toList.length := by simpa using hjlt
      have : es.toList[j] = e0 := by rw [List.getElem?_eq_getElem hjl] at hj; exact Option.some.inj hj
      rw [← this, ← List.drop_eq_getElem_cons hjl, List.take_append_drop]
    have h3' := h3
    rw [hsplit, List.map_append, List.map_cons, hx] at h3'
    have hother : ∀ e1, e1 ∈ es.toList.take j ∨ e1 ∈ es.toList.drop (j + 1) → e1.key ≠ kv x := by
      intro e1 h e2
      rw [List.nodup_append, List.nodup_cons] at h3'
      rcases h with h | h
      · exact h3'.2.2 _ (List.mem_map_of_mem h) (kv x) (by simp) e2
      · exact h3'.2.1.1 (e2 ▸ List.mem_map_of_mem h)
    refine ⟨.map (es.eraseIdxIfInBounds j) c, ?_, ?_⟩
    · simp [Builtin.delete_, run_underlying ht, MapKept.run_getObj_map h1, K.check w _ x, hf, MapKept.run_setObj_map _ h1, Result.andThen]
    · intro m' hm1 hm2
      refine ⟨_, c, by simp [hlt]; rfl, ?_, ?_, ?_⟩
      · intro e' he'
        rw [hsub] at he'
        exact h2 e' ((List.eraseIdx_sublist _ _).subset he')
      · rw [hsub]
        exact h3.sublist ((List.eraseIdx_sublist _ _).map _)
      · intro y u
        rw [hsub, List.eraseIdx_eq_take_drop_succ]
        by_cases hy : y = x
        · subst hy
          rw [hm1]
          constructor
          · rintro h; cases h
          · rintro ⟨e1, he1, hk1, _⟩; exact absurd hk1 (hother e1 (List.mem_append.1 he1))
        · rw [hm2 y hy, h4]
          constructor
          · rintro ⟨e1, he1, hk1, hk2⟩
            rw [hsplit] at he1
            rcases List.mem_append.1 he1 with h | h
            · exact ⟨e1, List.mem_append_left _ h, hk1, hk2⟩
            · rcases List.mem_cons.1 h with rfl | h
              · exact absurd (K.inj (hk1.symm.trans hx)) hy
              · exact ⟨e1, List.mem_append_right _ h, hk1, hk2⟩
          · rintro ⟨e1, he1, hk1, hk2⟩
            rcases List.mem_append.1 he1 with h | h
            · exact ⟨e1, by rw [hsplit]; exact List.mem_append_left _ h, hk1, hk2⟩
            · exact ⟨e1, by rw [hsplit]; exact List.mem_append_right _ (List.mem_cons_of_mem _ h), hk1, hk2⟩
end Go.Proofs.Ytlbhfnjhhpcphaa
