/-
  Bytes that came in: a row of integers, as the guide's frame tells it, as bytes.
-/
import Derived.Test.YtagbgenbhbgpoaaB5
import Derived.ProofKit
import Derived.OpenShut
namespace Go.Proofs.Ytagbgenbhbgpoaa
open Go.RowKit
theorem wf_u8 {n : Int} (h : (Lit.int .u8 n).wf = true) : 0 ≤ n ∧ n ≤ 255 := by
  have := bounds_u8 h; omega
theorem isRow_BS {w : World} {a : Option Addr} {len cap : Nat} {zs : List Int}
    (h : (a = none ∧ len = 0 ∧ cap = 0 ∧ zs = []) ∨ ∃ x, a = some x ∧ len ≤ cap ∧ cap ≤ maxLen ∧ zs.length = cap ∧ (∀ i, i < zs.length → w.cell? (x.add i) = some (.int .u8 (zs.getD i 0))) ∧ ∀ n ∈ zs, (Lit.int .u8 n).wf = true) :
    ∃ l : List UInt8, l.length = len ∧ BS w.heap.size w (.slice a len cap) l ∧ len ≤ 9223372036854775807 := by
  rcases h with ⟨rfl, rfl, rfl, rfl⟩ | ⟨x, rfl, hl, hm, hz, hc, hw⟩
  · exact ⟨[], rfl, BS_nil _ _, by omega⟩
  · refine ⟨(zs.take len).map (fun z => UInt8.ofNat z.toNat), by simp; omega, ?_, by unfold maxLen at hm; omega⟩
    refine ⟨some x, cap, by simp; omega, by simp; omega, (fun h => by cases h), fun i hi => ?_⟩
    have hi' : i < len ∧ i < zs.length := by simp at hi; omega
    have h1 := hc i hi'.2
    have h2 : zs.getD i 0 = zs[i]'hi'.2 := by simp [List.getD_eq_getElem?_getD, hi'.2]
    have h3 := wf_u8 (hw (zs[i]'hi'.2) (List.getElem_mem _))
    rw [h2] at h1
    obtain ⟨b, off, sp⟩ := x
    have hsp : sp = none := by
      cases sp with
      | none => rfl
      | some s =>
        have h0 := hc 0 (by omega)
        simp [Addr.add, World.cell?] at h0
        split at h0
        · cases h0
        · cases h0
    subst hsp
    rw [addr_add] at h1
    refine ⟨b, off, rfl, cell_lt h1, ?_⟩
    rw [h1]
    simp only [List.getElem_map, List.getElem_take]
    congr 1
    have : (UInt8.ofNat (zs[i]'hi'.2).toNat).toNat = (zs[i]'hi'.2).toNat := by simp; omega
    rw [this]
    congr 1
    omega
theorem byte_of {n : Int} (h : (Lit.int .u8 n).wf = true) : ∃ b : UInt8, n = b.toNat := by
  have := wf_u8 h
  refine ⟨UInt8.ofNat n.toNat, ?_⟩
  have h2 : (UInt8.ofNat n.toNat).toNat = n.toNat := by simp; omega
  rw [h2]; omega
theorem size_of {S : List UInt8} (h : (⟨S.toArray⟩ : ByteArray).size ≤ maxLen) : S.length ≤ 9223372036854775807 := by
  have h1 : S.toArray.size ≤ maxLen := h
  unfold maxLen at h1
  simpa using h1
theorem int_hi {n : Int} (h : (Lit.int .i64 n).wf = true) : n < 2 ^ 63 := by
  have := bounds_i64 h; omega
theorem int_lo {n : Int} (h : (Lit.int .i64 n).wf = true) : -2 ^ 63 ≤ n := by
  have := bounds_i64 h; omega
end Go.Proofs.Ytagbgenbhbgpoaa
