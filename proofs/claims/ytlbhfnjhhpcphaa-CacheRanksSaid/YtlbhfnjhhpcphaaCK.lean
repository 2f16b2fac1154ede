/-
  package cache: keys that are a name and a type.
-/
import Derived.Test.YtlbhfnjhhpcphaaM1
import Derived.Test.YtlbhfnjhhpcphaaNL
import Derived.Test.YtlbhfnjhhpcphaaEA
import Derived.WideKeyRuns
import Derived.Laws.StructEq
namespace Go.Proofs.Ytlbhfnjhhpcphaa
open Go.RowKit
def ckey (x : Bs × Int) : Value := .agg #[.string (mk x.1), .int .i64 x.2]
theorem ckey_check (w : World) (em : Bool) (x : Bs × Int) : (Instr.checkKey em 10000 77 (ckey x)).run Try.prog w = .ok () w := by
  kernel_rfl
theorem ckey_equal (w : World) (x y : Bs × Int) : ∃ r, (Op.equal 77 (ckey x) (ckey y)).run Try.prog w = .ok r w ∧ (r = true ↔ x = y) := by
  have hp : Try.prog.stoodInHeld 77 = false := by kernel_rfl
  have hf : ∃ f g : Field, (Try.prog.fieldsOf 77).toList = [f, g] ∧ f.name ≠ "_" ∧ g.name ≠ "_" ∧ f.type = 9 ∧ g.type = 3 ∧ f.offset = 0 ∧ g.offset = 1 := by
    simp only [Program.fieldsOf, Try.underlying77]
    exact ⟨_, _, rfl, by decide, by decide, rfl, rfl, rfl, rfl⟩
  have hu : Try.prog.underlying 77 = some (.struct (Try.prog.fieldsOf 77)) := by simp only [Program.fieldsOf, Try.underlying77]
  have p0 : ∀ v : Bs × Int, (part 9 #[.string (mk v.1), .int .i64 v.2] 0).run Try.prog w = .ok (.string (mk v.1)) w := fun _ => by kernel_rfl
  have p1 : ∀ v : Bs × Int, (part 3 #[.string (mk v.1), .int .i64 v.2] 1).run Try.prog w = .ok (.int .i64 v.2) w := fun _ => by kernel_rfl
  obtain ⟨f, g, h0, h1, h2, h3, h4, h5, h6⟩ := hf
  refine ⟨(mk x.1).toList == (mk y.1).toList && x.2 == y.2, ?_, ?_⟩
  · show (Op.equalIn (9998 + 1 + 1) 77 (ckey x) (ckey y)).run Try.prog w = _
    unfold ckey
    rw [run_equalIn_struct w (9998 + 1) 77 _ _ hu hp, h0]
    simp only [Op.eqFields, h1, h2, h3, h4, h5, h6, ne_eq, not_false_eq_true, if_true, Sem.run_bind, p0, Result.andThen_ok, run_equalIn_string w _ _ _ _ Try.underlying9]
    have e3 : ∀ a b : Int, (Op.equalIn 9999 3 (.int .i64 a) (.int .i64 b)).run Try.prog w = .ok (a == b) w := fun a b => run_equalIn_int w 9998 _ _ _ a b Try.underlying3
    cases (mk x.1).toList == (mk y.1).toList <;> cases hb : x.2 == y.2 <;> simp [p1, e3, hb, Result.andThen]
  · obtain ⟨a, b⟩ := x
    obtain ⟨c, d⟩ := y
    have e : ∀ l : Bs, (mk l).toList = l := fun l => by rw [ByteArray.toList_eq]; rfl
    simp [e]
theorem ckey_inj {x y : Bs × Int} (h : ckey x = ckey y) : x = y := by
  obtain ⟨a, b⟩ := x
  obtain ⟨c, d⟩ := y
  simp only [ckey, Value.agg.injEq] at h
  have h2 := congrArg Array.toList h
  simp at h2
  obtain ⟨h3, h4⟩ := h2
  have h5 : a = c := congrArg (fun b : ByteArray => b.data.toList) h3
  rw [h5, h4]
theorem ckey_stays (w : World) (x : Bs × Int) : (Instr.keyThatStays (ckey x) (ckey x)).run Try.prog w = .ok (ckey x) w := by
  have h : Instr.sameBits 10000 (ckey x) (ckey x) = true := by
    show Instr.sameBits (9998 + 1 + 1) _ _ = true
    simp only [ckey, Instr.sameBits, beq_self_eq_true, List.zip_cons_cons, List.all_cons, Bool.true_and]
    rw [beq_toListBytes]; simp
  simp [Instr.keyThatStays, h]
theorem ckey_asking (w : World) (x : Bs × Int) : ∀ (es : List MapEntry) (i : Nat), (∀ e ∈ es, ∃ y, e.key = ckey y) →
    ((Instr.findAsking 77 (ckey x) es i).run Try.prog w = .ok none w ∧ ∀ e ∈ es, e.key ≠ ckey x) ∨
    ∃ j e, (Instr.findAsking 77 (ckey x) es i).run Try.prog w = .ok (some (i + j, e.val)) w ∧ es[j]? = some e ∧ e.key = ckey x
  | [], i, _ => Or.inl ⟨by simp [Instr.findAsking], by simp⟩
  | e :: es, i, hall => by
    obtain ⟨y, hy⟩ := hall e (by simp)
    obtain ⟨r, hr, hiff⟩ := ckey_equal w x y
    rw [← hy] at hr
    cases r
    · have hne : e.key ≠ ckey x := fun h => by
        rw [hy] at h
        have := hiff.2 (ckey_inj h).symm
        cases this
      rcases ckey_asking w x es (i + 1) (fun y hy => hall y (by simp [hy])) with ⟨h1, h2⟩ | ⟨j, e', h1, h2, h3⟩
      · left
        refine ⟨by simp [Instr.findAsking, hr, h1], fun y hy => ?_⟩
        rcases List.mem_cons.1 hy with rfl | hy
        · exact hne
        · exact h2 y hy
      · right
        exact ⟨j + 1, e', by simp [Instr.findAsking, hr, h1, Nat.add_assoc, Nat.add_comm 1 j], by simpa using h2, h3⟩
    · right
      exact ⟨0, e, by simp [Instr.findAsking, hr], rfl, by rw [hy, hiff.1 rfl]⟩
theorem ckeys : KLaw Try.prog 77 ckey := by
  refine ⟨fun h => ckey_inj h, fun w em x => ckey_check w em x, fun w x es hes => ?_, fun w x => ckey_stays w x⟩
  rw [run_findKey_eq w (by simp only [Try.underlying77])]
  rcases ckey_asking w x es 0 hes with ⟨h1, h2⟩ | ⟨j, e0, h1, h2, h3⟩
  · exact Or.inl ⟨h1, h2⟩
  · exact Or.inr ⟨j, e0, by simpa using h1, h2, h3⟩
end Go.Proofs.Ytlbhfnjhhpcphaa
