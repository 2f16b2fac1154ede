/-
  No cell of these rows narrows 'for every input' (looked for: loops, veiled, ifaces, maps, wideKeys, modest, calm, conditions, laid).
  DERIVED. THE GIVEN ROWS OF THIS SEAT. 4 by the template 'for every input the law returns true; each argument reads behind the call as it read before'; 0 by the template 'total and deterministic' (their statements: YtagbgenbhbgpoaaTotals.lean).
  GIVEN WITH THE SEED: the statements are not yours to turn. If you find one false, say at which input.
  Laid BY PROGRAM, IN A SANDBOX (cutbox-rows.mjs): the forced cells as the released guide's own fill.sh prints them over the translation 7667ac2a0ccd6a0a… (all of the seat's roots in one cut). By AI agents, Wed Nov 11 2026. No macro, syntax, notation, axiom, sorry.
-/
import Derived.Test.YtagbgenbhbgpoaaChecked
import GoSem.Claim
import GoSem.ClaimJoined
import GoSem.ClaimMapViews
import Derived.JoinedTies
import Derived.KernelRfl
namespace Go.Proofs.Ytagbgenbhbgpoaa
/- THE CELL 'sum', in the pinned program and in every row, IS THE sha256 OF THE DUMP (.gsa) THAT YtagbgenbhbgpoaaProg.lean LOADS. Nothing in Lean hashes anything: it is a label: what it is worth is what the hold of that sum in a sandbox is worth. -/
noncomputable def Try.pinned : Pinned := { name := "ytagbgenbhbgpoaa", sum := "7667ac2a0ccd6a0afc19c7619dde3163b0d5cb0b1d4160f85a68e7ff3571027e", checked := Try.checked }
namespace Rows
def none {H : Type} : Left H := { results := [], args := [] }

/-- 'ostiarylaw11.BaseTells': WHATEVER THE INPUT: true; the input reads as it did. -/
def baseTellsSpec : ChangeSpec := { name := "baseTells", fn := fun _ => fun
  | [d1, d2, d3] => { results := [.lit (.bool true)], args := [d1, d2, d3] }
  | _ => none }
def baseTellsRow : OpenClaim := { program := "ytagbgenbhbgpoaa", sum := "7667ac2a0ccd6a0afc19c7619dde3163b0d5cb0b1d4160f85a68e7ff3571027e", func := "ostiary/ostiarylaw11.BaseTells", spec := "baseTells", inPlace := ["internal/abi.NoEscape"], apart := false }
def BaseTellsSaid : Prop := baseTellsRow.holds Try.pinned (OpenSpec.ofChange baseTellsSpec)

/-- ITS FALSE NEIGHBOUR: 'it returns false'. Refute it at one input. -/
def baseTellsWrong : ChangeSpec := { name := "baseTells", fn := fun _ => fun
  | [d1, d2, d3] => { results := [.lit (.bool false)], args := [d1, d2, d3] }
  | _ => none }
def BaseTellsWrongFalsely : Prop := baseTellsRow.holds Try.pinned (OpenSpec.ofChange baseTellsWrong)

/-- 'ostiarylaw11.BaseBack': WHATEVER THE INPUT: true; the input reads as it did. -/
def baseBackSpec : ChangeSpec := { name := "baseBack", fn := fun _ => fun
  | [d1, d2, d3, d4] => { results := [.lit (.bool true)], args := [d1, d2, d3, d4] }
  | _ => none }
def baseBackRow : OpenClaim := { program := "ytagbgenbhbgpoaa", sum := "7667ac2a0ccd6a0afc19c7619dde3163b0d5cb0b1d4160f85a68e7ff3571027e", func := "ostiary/ostiarylaw11.BaseBack", spec := "baseBack", inPlace := ["internal/abi.NoEscape"], apart := false }
def BaseBackSaid : Prop := baseBackRow.holds Try.pinned (OpenSpec.ofChange baseBackSpec)

/-- ITS FALSE NEIGHBOUR: 'it returns false'. Refute it at one input. -/
def baseBackWrong : ChangeSpec := { name := "baseBack", fn := fun _ => fun
  | [d1, d2, d3, d4] => { results := [.lit (.bool false)], args := [d1, d2, d3, d4] }
  | _ => none }
def BaseBackWrongFalsely : Prop := baseBackRow.holds Try.pinned (OpenSpec.ofChange baseBackWrong)

/-- 'ostiarylaw11.BaseParts': WHATEVER THE INPUT: true; the input reads as it did. -/
def basePartsSpec : ChangeSpec := { name := "baseParts", fn := fun _ => fun
  | [d1, d2] => { results := [.lit (.bool true)], args := [d1, d2] }
  | _ => none }
def basePartsRow : OpenClaim := { program := "ytagbgenbhbgpoaa", sum := "7667ac2a0ccd6a0afc19c7619dde3163b0d5cb0b1d4160f85a68e7ff3571027e", func := "ostiary/ostiarylaw11.BaseParts", spec := "baseParts", inPlace := ["internal/abi.NoEscape"], apart := false }
def BasePartsSaid : Prop := basePartsRow.holds Try.pinned (OpenSpec.ofChange basePartsSpec)

/-- ITS FALSE NEIGHBOUR: 'it returns false'. Refute it at one input. -/
def basePartsWrong : ChangeSpec := { name := "baseParts", fn := fun _ => fun
  | [d1, d2] => { results := [.lit (.bool false)], args := [d1, d2] }
  | _ => none }
def BasePartsWrongFalsely : Prop := basePartsRow.holds Try.pinned (OpenSpec.ofChange basePartsWrong)

/-- 'ostiarylaw11.BaseKnown': WHATEVER THE INPUT: true; the input reads as it did. -/
def baseKnownSpec : ChangeSpec := { name := "baseKnown", fn := fun _ => fun
  | [] => { results := [.lit (.bool true)], args := [] }
  | _ => none }
def baseKnownRow : OpenClaim := { program := "ytagbgenbhbgpoaa", sum := "7667ac2a0ccd6a0afc19c7619dde3163b0d5cb0b1d4160f85a68e7ff3571027e", func := "ostiary/ostiarylaw11.BaseKnown", spec := "baseKnown", inPlace := ["internal/abi.NoEscape"], apart := false }
def BaseKnownSaid : Prop := baseKnownRow.holds Try.pinned (OpenSpec.ofChange baseKnownSpec)

/-- ITS FALSE NEIGHBOUR: 'it returns false'. Refute it at one input. -/
def baseKnownWrong : ChangeSpec := { name := "baseKnown", fn := fun _ => fun
  | [] => { results := [.lit (.bool false)], args := [] }
  | _ => none }
def BaseKnownWrongFalsely : Prop := baseKnownRow.holds Try.pinned (OpenSpec.ofChange baseKnownWrong)

/- THE SECOND FORM. 'bulk': how many values and letters a reading holds, each counted each time it is reached (what is shared counts as often as it is met; a slice's spare places count too). A statement '..UptoSaid' is the law's where the arguments, and the package variables that the reading takes, are together of bulk at most 1048576: NARROWER than '..Said'. Prove '..Said' where nothing that the law and all that it calls make is longer than what came in: it says more and counts as full. Else prove '..UptoSaid'. A law counts once. -/
mutual
def uptoBulk {H : Type} : DataW H → Nat
  | .lit (.string bytes) => bytes.length + 1
  | .lit _ => 1
  | .nil => 1
  | .ptr d => uptoBulk d + 1
  | .slice elems spare => uptoBulkAll elems + uptoBulkAll spare + 1
  | .agg parts => uptoBulkAll parts + 1
  | .iface _ d => uptoBulk d + 1
  | .map entries => uptoBulkEntries entries + 1
  | .held _ => 1
def uptoBulkAll {H : Type} : List (DataW H) → Nat
  | [] => 0
  | d :: r => uptoBulk d + uptoBulkAll r
def uptoBulkEntries {H : Type} : List (Lit × DataW H) → Nat
  | [] => 0
  | x :: r => uptoBulkEntry x + uptoBulkEntries r
def uptoBulkEntry {H : Type} : Lit × DataW H → Nat
  | (.string bytes, d) => bytes.length + uptoBulk d + 1
  | (_, d) => uptoBulk d + 1
 end
def uptoSmall : (H : Type) → List (DataW H) → Bool := fun _ ds => decide (uptoBulkAll ds ≤ 1048576)
def OpenSpec.upto (s : _root_.Go.ChangeSpec) : _root_.Go.OpenSpec := { _root_.Go.OpenSpec.ofChange s with cond := some uptoSmall }

/-- 'ostiarylaw11.BaseTells', WHERE WHAT IT READS IS OF BULK AT MOST 1048576: true; the input reads as it did. -/
def baseTellsUptoRow : OpenClaim := { program := "ytagbgenbhbgpoaa", sum := "7667ac2a0ccd6a0afc19c7619dde3163b0d5cb0b1d4160f85a68e7ff3571027e", func := "ostiary/ostiarylaw11.BaseTells", spec := "baseTells", inPlace := ["internal/abi.NoEscape"], apart := false, narrowed := true }
def BaseTellsUptoSaid : Prop := baseTellsUptoRow.holds Try.pinned (OpenSpec.upto baseTellsSpec)

/-- 'ostiarylaw11.BaseBack', WHERE WHAT IT READS IS OF BULK AT MOST 1048576: true; the input reads as it did. -/
def baseBackUptoRow : OpenClaim := { program := "ytagbgenbhbgpoaa", sum := "7667ac2a0ccd6a0afc19c7619dde3163b0d5cb0b1d4160f85a68e7ff3571027e", func := "ostiary/ostiarylaw11.BaseBack", spec := "baseBack", inPlace := ["internal/abi.NoEscape"], apart := false, narrowed := true }
def BaseBackUptoSaid : Prop := baseBackUptoRow.holds Try.pinned (OpenSpec.upto baseBackSpec)

/-- 'ostiarylaw11.BaseParts', WHERE WHAT IT READS IS OF BULK AT MOST 1048576: true; the input reads as it did. -/
def basePartsUptoRow : OpenClaim := { program := "ytagbgenbhbgpoaa", sum := "7667ac2a0ccd6a0afc19c7619dde3163b0d5cb0b1d4160f85a68e7ff3571027e", func := "ostiary/ostiarylaw11.BaseParts", spec := "baseParts", inPlace := ["internal/abi.NoEscape"], apart := false, narrowed := true }
def BasePartsUptoSaid : Prop := basePartsUptoRow.holds Try.pinned (OpenSpec.upto basePartsSpec)

/-- 'ostiarylaw11.BaseKnown', WHERE WHAT IT READS IS OF BULK AT MOST 1048576: true; the input reads as it did. -/
def baseKnownUptoRow : OpenClaim := { program := "ytagbgenbhbgpoaa", sum := "7667ac2a0ccd6a0afc19c7619dde3163b0d5cb0b1d4160f85a68e7ff3571027e", func := "ostiary/ostiarylaw11.BaseKnown", spec := "baseKnown", inPlace := ["internal/abi.NoEscape"], apart := false, narrowed := true }
def BaseKnownUptoSaid : Prop := baseKnownUptoRow.holds Try.pinned (OpenSpec.upto baseKnownSpec)

end Rows
end Go.Proofs.Ytagbgenbhbgpoaa
