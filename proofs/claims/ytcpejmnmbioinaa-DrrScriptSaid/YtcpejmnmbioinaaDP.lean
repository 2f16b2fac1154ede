/-
  Calls that came in: a slice of structs of four integers, opened.
-/
import Derived.Test.YtcpejmnmbioinaaDH
import Derived.Deep.Slices
import Derived.Lib.SmallJoins
namespace Go.Proofs.Ytcpejmnmbioinaa
open Go.RowKit Go.ChangeShapes Go.WideShapes Go.Deep
structure ActV where
  kind : Int
  client : Int
  cost : Int
  item : Int
/-- Calls that lie in memory, below block B. -/
def ActsAt (B : Nat) (w : World) (a : Option Addr) (l : List ActV) : Prop :=
  ∀ i (h : i < l.length), ∃ b off, a = some ⟨b, off, none⟩ ∧ b < B ∧ w.cell? ⟨b, off + i * 4, none⟩ = some (.int .i64 l[i].kind) ∧ w.cell? ⟨b, off + i * 4 + 1, none⟩ = some (.int .i64 l[i].client) ∧
    w.cell? ⟨b, off + i * 4 + 2, none⟩ = some (.int .i64 l[i].cost) ∧ w.cell? ⟨b, off + i * 4 + 3, none⟩ = some (.int .i64 l[i].item)
theorem ActsAt.fr {B : Nat} {w w' : World} {a : Option Addr} {l : List ActV} {S : Nat → Prop} (h : ActsAt B w a l) (hf : Fr S w w') (hS : ∀ k, k < B → ¬ S k) : ActsAt B w' a l := by
  intro i hi
  obtain ⟨b, off, h1, h2, c0, c1, c2, c3⟩ := h i hi
  exact ⟨b, off, h1, h2, hf.cell (hS b h2) c0, hf.cell (hS b h2) c1, hf.cell (hS b h2) c2, hf.cell (hS b h2) c3⟩
theorem no_spot {w : World} {b off s : Nat} {v : Value} (h : w.cell? ((⟨b, off, some s⟩ : Addr).add 0) = some v) : False := by
  simp [Addr.add, World.cell?] at h
  try (split at h <;> cases h)
theorem cells4 {w : World} {base : Nat} {a : Addr} {cs : List Value} (h : w.cells? base a 4 = some cs) : ∃ c0 c1 c2 c3, cs = [c0, c1, c2, c3] ∧ w.cell? (a.add 0) = some c0 ∧ w.cell? (a.add 1) = some c1 ∧ w.cell? (a.add 2) = some c2 ∧ w.cell? (a.add 3) = some c3 := by
  unfold World.cells? at h
  split at h
  · rw [show List.range 4 = [0, 1, 2, 3] from rfl] at h
    simp only [List.mapM_cons, List.mapM_nil, Option.bind_eq_bind, Option.pure_def] at h
    obtain ⟨c0, e0, h⟩ := Option.bind_eq_some_iff.1 h
    obtain ⟨t1, h1, h⟩ := Option.bind_eq_some_iff.1 h
    obtain ⟨c1, e1, h1⟩ := Option.bind_eq_some_iff.1 h1
    obtain ⟨t2, h2, h1⟩ := Option.bind_eq_some_iff.1 h1
    obtain ⟨c2, e2, h2⟩ := Option.bind_eq_some_iff.1 h2
    obtain ⟨t3, h3, h2⟩ := Option.bind_eq_some_iff.1 h2
    obtain ⟨c3, e3, h3⟩ := Option.bind_eq_some_iff.1 h3
    cases h3; cases h2; cases h1; cases h
    exact ⟨c0, c1, c2, c3, rfl, e0, e1, e2, e3⟩
  · cases h
instance : Inhabited ActV := ⟨⟨0, 0, 0, 0⟩⟩
theorem open_acts {H : Type} {enc : TypeId × Value → H} {w : World} {base : Nat} {spare : Nat → Bool} {held : Bool} {fuel : Nat} {a : Option Addr} {len cap : Nat} {x : DataW H × List MemPlace}
    (h : DataW.trod enc Try.prog w base spare held fuel 35 [.slice a len cap] = some x) : ∃ l : List ActV, l.length = len ∧ ActsAt w.heap.size w a l ∧ len ≤ cap ∧ cap ≤ maxLen := by
  rcases open_slice Try.underlying35 h with ⟨h1, _⟩ | ⟨ad, len', cap', m, n, D, Pl, hcs, _, hl, hm, hmm, _, hx⟩
  · cases h1
    exact ⟨[], rfl, fun i hi => by simp at hi, Nat.le_refl _, Nat.zero_le _⟩
  · cases hcs
    have hlm : len ≤ m := by rw [hmm]; split <;> omega
    have hc4 : Try.prog.cellsOf 37 = 4 := by kernel_rfl
    have hc1 : Try.prog.cellsOf 3 = 1 := by kernel_rfl
    rw [hc4] at hx
    have key : ∀ i, i < len → ∃ v : ActV, ∃ b off, ad = ⟨b, off, none⟩ ∧ b < w.heap.size ∧ w.cell? ⟨b, off + i * 4, none⟩ = some (.int .i64 v.kind) ∧ w.cell? ⟨b, off + i * 4 + 1, none⟩ = some (.int .i64 v.client) ∧
        w.cell? ⟨b, off + i * 4 + 2, none⟩ = some (.int .i64 v.cost) ∧ w.cell? ⟨b, off + i * 4 + 3, none⟩ = some (.int .i64 v.item) := by
      intro i hi
      obtain ⟨cs', h1, h2⟩ := hx i (by omega)
      obtain ⟨c0, c1, c2, c3, rfl, e0, e1, e2, e3⟩ := cells4 h1
      obtain ⟨y0, y1, y2, y3, n', _, _, t0, t1, t2, t3⟩ := Go.Joins.trod_struct4 Try.underlying37 h2
      simp only [hc1, List.drop_zero, List.drop_succ_cons, List.take_succ_cons, List.take_zero] at t0 t1 t2 t3
      obtain ⟨k0, hk0, _⟩ := DataW.trod_int Try.underlying3 t0
      obtain ⟨k1, hk1, _⟩ := DataW.trod_int Try.underlying3 t1
      obtain ⟨k2, hk2, _⟩ := DataW.trod_int Try.underlying3 t2
      obtain ⟨k3, hk3, _⟩ := DataW.trod_int Try.underlying3 t3
      cases hk0; cases hk1; cases hk2; cases hk3
      obtain ⟨b, off, sp⟩ := ad
      have hsp : sp = none := by
        cases sp with
        | none => rfl
        | some s =>
          obtain ⟨cs0, h10, _⟩ := hx 0 (by omega)
          obtain ⟨d0, _, _, _, _, f0, _⟩ := cells4 h10
          rw [Nat.zero_mul] at f0
          have e : ((⟨b, off, some s⟩ : Addr).add 0) = ⟨b, off, some s⟩ := by simp [Addr.add]
          rw [e] at f0
          exact (no_spot f0).elim
      subst hsp
      rw [Addr.add_lit] at e0 e1 e2 e3
      rw [Addr.add_lit] at e0 e1 e2 e3
      exact ⟨⟨k0, k1, k2, k3⟩, b, off, rfl, cell_lt e0, e0, e1, e2, e3⟩
    obtain ⟨f, hf⟩ := choose_lt (p := fun i (v : ActV) => ∃ b off, ad = ⟨b, off, none⟩ ∧ b < w.heap.size ∧ w.cell? ⟨b, off + i * 4, none⟩ = some (.int .i64 v.kind) ∧ w.cell? ⟨b, off + i * 4 + 1, none⟩ = some (.int .i64 v.client) ∧
        w.cell? ⟨b, off + i * 4 + 2, none⟩ = some (.int .i64 v.cost) ∧ w.cell? ⟨b, off + i * 4 + 3, none⟩ = some (.int .i64 v.item)) key
    refine ⟨(List.range len).map f, by simp, fun i hi => ?_, hl, hm⟩
    have hi' : i < len := by simpa using hi
    obtain ⟨b, off, h1, h2, h3⟩ := hf i hi'
    refine ⟨b, off, by rw [h1], h2, ?_⟩
    simpa using h3
end Go.Proofs.Ytcpejmnmbioinaa
