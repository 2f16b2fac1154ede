/-
  The reference's two kinds of rows.
-/
import Derived.Test.YtcpejmnmbioinaaDY
import Derived.Test.YtcpejmnmbioinaaSR
namespace Go.Proofs.Ytcpejmnmbioinaa
open Go.RowKit
theorem infoLine : ∃ i z, Try.prog.info? 75 = some i ∧ i.zero = some z ∧ i.size = 4 ∧ z.cells.size = 4 ∧ i.bytes = 48 := by
  have h : (Try.prog.info? 75).map (fun i => (i.zero.map (·.cells.size), i.size, i.bytes)) = some (some 4, 4, 48) := by kernel_rfl
  obtain ⟨i, h1, h2⟩ := Option.map_eq_some_iff.1 h
  simp only [Prod.mk.injEq] at h2
  obtain ⟨z, hz, hz2⟩ := Option.map_eq_some_iff.1 h2.1
  exact ⟨i, z, h1, hz, h2.2.1, hz2, h2.2.2⟩
theorem infoRItem : ∃ i z, Try.prog.info? 77 = some i ∧ i.zero = some z ∧ i.size = 2 ∧ z.cells.size = 2 ∧ i.bytes = 16 := by
  have h : (Try.prog.info? 77).map (fun i => (i.zero.map (·.cells.size), i.size, i.bytes)) = some (some 2, 2, 16) := by kernel_rfl
  obtain ⟨i, h1, h2⟩ := Option.map_eq_some_iff.1 h
  simp only [Prod.mk.injEq] at h2
  obtain ⟨z, hz, hz2⟩ := Option.map_eq_some_iff.1 h2.1
  exact ⟨i, z, h1, hz, h2.2.1, hz2, h2.2.2⟩
end Go.Proofs.Ytcpejmnmbioinaa
