/-
  Texts that came in: a slice of strings, opened.
-/
import Derived.Test.YtcmiidklddnfhaaEY
import Derived.SliceStrings
namespace Go.Proofs.Ytcmiidklddnfhaa
open Go.RowKit Go.ChangeShapes Go.WideShapes
/-- Texts that lie in memory, below block B. -/
def StrsAt (B : Nat) (w : World) (a : Option Addr) (l : List Bs) : Prop := ∀ i (h : i < l.length), ∃ b off, a = some ⟨b, off, none⟩ ∧ b < B ∧ w.cell? ⟨b, off + i, none⟩ = some (str l[i])
theorem StrsAt.is {B cap : Nat} {w : World} {a : Option Addr} {l : List Bs} (h : StrsAt B w a l) : IsStrs w (.slice a l.length cap) l :=
  ⟨a, cap, rfl, fun i hi => by obtain ⟨b, off, h1, _, h2⟩ := h i hi; exact ⟨b, off, h1, h2⟩⟩
theorem no_spot {w : World} {b off s : Nat} {v : Value} (h : w.cell? ((⟨b, off, some s⟩ : Addr).add 0) = some v) : False := by
  simp [Addr.add, World.cell?] at h
  try (split at h <;> cases h)
theorem cell_lt {w : World} {b o : Nat} {v : Value} (h : w.cell? ⟨b, o, none⟩ = some v) : b < w.heap.size := by
  unfold World.cell? at h
  cases hb : w.heap[b]? with
  | none => rw [hb] at h; cases h
  | some x => exact lt_of_blk hb
theorem open_texts {H : Type} {enc : TypeId × Value → H} {w : World} {base : Nat} {spare : Nat → Bool} {held : Bool} {fuel : Nat} {a : Option Addr} {len cap : Nat} {x : DataW H × List MemPlace}
    (h : DataW.trod enc Try.prog w base spare held fuel 22 [.slice a len cap] = some x) : ∃ l : List Bs, l.length = len ∧ StrsAt w.heap.size w a l ∧ len ≤ cap ∧ cap ≤ maxLen := by
  rcases open_strings Try.underlying22 Try.underlying9 (by kernel_rfl) h with ⟨h1, _⟩ | ⟨ad, len', cap', ss, hcs, _, hl, hm, hz, _, hcell, hsz⟩
  · cases h1
    exact ⟨[], rfl, fun i hi => by simp at hi, Nat.le_refl _, Nat.zero_le _⟩
  · cases hcs
    have hls : len ≤ ss.length := by rw [hz]; split <;> omega
    refine ⟨(ss.take len).map fun s => s.data.toList, by simp; omega, fun i hi => ?_, hl, hm⟩
    have hi' : i < len := by simp at hi; omega
    have hci := hcell i (by omega)
    obtain ⟨b, off, sp⟩ := ad
    have hsp : sp = none := by
      cases sp with
      | none => rfl
      | some s => exact (no_spot (hcell 0 (by omega))).elim
    subst hsp
    rw [addr_add] at hci
    have hci2 : w.cell? ⟨b, off + i, none⟩ = some (str (((ss.take len).map fun s => s.data.toList)[i])) := by
      rw [hci]
      have hil : i < ss.length := by omega
      simp [str, mk, List.getD_eq_getElem?_getD, hil]
    exact ⟨b, off, rfl, cell_lt hci, hci2⟩
theorem str_of (s : ByteArray) : ∃ S : Bs, s = mk S := ⟨s.data.toList, (mk_of s).symm⟩
end Go.Proofs.Ytcmiidklddnfhaa
