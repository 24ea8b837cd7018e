/-
  No cell of these rows narrows 'for every input' (looked for: loops, veiled, ifaces, maps, wideKeys, modest, calm, conditions, laid).
  DERIVED. THE GIVEN ROWS OF THIS SEAT. 6 by the template 'for every input the law returns true; each argument reads behind the call as it read before'; 0 by the template 'total and deterministic' (their statements: YtjnoigekhdjkcaaTotals.lean).
  GIVEN WITH THE SEED: the statements are not yours to turn. If you find one false, say at which input.
  Laid BY PROGRAM, IN A SANDBOX (cutbox-rows.mjs): the forced cells as the released guide's own fill.sh prints them over the translation c24c790dba24a1d2… (all of the seat's roots in one cut). By AI agents, Wed Nov 11 2026. No macro, syntax, notation, axiom, sorry.
-/
import Derived.Test.YtjnoigekhdjkcaaChecked
import GoSem.Claim
import GoSem.ClaimJoined
import GoSem.ClaimMapViews
import Derived.JoinedTies
import Derived.KernelRfl
namespace Go.Proofs.Ytjnoigekhdjkcaa
/- THE CELL 'sum', in the pinned program and in every row, IS THE sha256 OF THE DUMP (.gsa) THAT YtjnoigekhdjkcaaProg.lean LOADS. Nothing in Lean hashes anything: it is a label: what it is worth is what the hold of that sum in a sandbox is worth. -/
noncomputable def Try.pinned : Pinned := { name := "ytjnoigekhdjkcaa", sum := "c24c790dba24a1d21fa9f21197d76513627bb0630a12682c30edcdcd137b45a7", checked := Try.checked }
namespace Rows
def none {H : Type} : Left H := { results := [], args := [] }

/-- 'tailracelaw03.GaussMuls': WHATEVER THE INPUT: true; the input reads as it did. -/
def gaussMulsSpec : ChangeSpec := { name := "gaussMuls", fn := fun _ => fun
  | [d1, d2] => { results := [.lit (.bool true)], args := [d1, d2] }
  | _ => none }
def gaussMulsRow : OpenClaim := { program := "ytjnoigekhdjkcaa", sum := "c24c790dba24a1d21fa9f21197d76513627bb0630a12682c30edcdcd137b45a7", func := "tailrace/tailracelaw03.GaussMuls", spec := "gaussMuls", apart := false }
def GaussMulsSaid : Prop := gaussMulsRow.holds Try.pinned (OpenSpec.ofChange gaussMulsSpec)

/-- ITS FALSE NEIGHBOUR: 'it returns false'. Refute it at one input. -/
def gaussMulsWrong : ChangeSpec := { name := "gaussMuls", fn := fun _ => fun
  | [d1, d2] => { results := [.lit (.bool false)], args := [d1, d2] }
  | _ => none }
def GaussMulsWrongFalsely : Prop := gaussMulsRow.holds Try.pinned (OpenSpec.ofChange gaussMulsWrong)

/-- 'tailracelaw03.GaussRings': WHATEVER THE INPUT: true; the input reads as it did. -/
def gaussRingsSpec : ChangeSpec := { name := "gaussRings", fn := fun _ => fun
  | [d1, d2, d3] => { results := [.lit (.bool true)], args := [d1, d2, d3] }
  | _ => none }
def gaussRingsRow : OpenClaim := { program := "ytjnoigekhdjkcaa", sum := "c24c790dba24a1d21fa9f21197d76513627bb0630a12682c30edcdcd137b45a7", func := "tailrace/tailracelaw03.GaussRings", spec := "gaussRings", apart := false }
def GaussRingsSaid : Prop := gaussRingsRow.holds Try.pinned (OpenSpec.ofChange gaussRingsSpec)

/-- ITS FALSE NEIGHBOUR: 'it returns false'. Refute it at one input. -/
def gaussRingsWrong : ChangeSpec := { name := "gaussRings", fn := fun _ => fun
  | [d1, d2, d3] => { results := [.lit (.bool false)], args := [d1, d2, d3] }
  | _ => none }
def GaussRingsWrongFalsely : Prop := gaussRingsRow.holds Try.pinned (OpenSpec.ofChange gaussRingsWrong)

/-- 'tailracelaw03.GaussPows': WHATEVER THE INPUT: true; the input reads as it did. -/
def gaussPowsSpec : ChangeSpec := { name := "gaussPows", fn := fun _ => fun
  | [d1, d2] => { results := [.lit (.bool true)], args := [d1, d2] }
  | _ => none }
def gaussPowsRow : OpenClaim := { program := "ytjnoigekhdjkcaa", sum := "c24c790dba24a1d21fa9f21197d76513627bb0630a12682c30edcdcd137b45a7", func := "tailrace/tailracelaw03.GaussPows", spec := "gaussPows", apart := false }
def GaussPowsSaid : Prop := gaussPowsRow.holds Try.pinned (OpenSpec.ofChange gaussPowsSpec)

/-- ITS FALSE NEIGHBOUR: 'it returns false'. Refute it at one input. -/
def gaussPowsWrong : ChangeSpec := { name := "gaussPows", fn := fun _ => fun
  | [d1, d2] => { results := [.lit (.bool false)], args := [d1, d2] }
  | _ => none }
def GaussPowsWrongFalsely : Prop := gaussPowsRow.holds Try.pinned (OpenSpec.ofChange gaussPowsWrong)

/-- 'tailracelaw03.GaussTurns': WHATEVER THE INPUT: true; the input reads as it did. -/
def gaussTurnsSpec : ChangeSpec := { name := "gaussTurns", fn := fun _ => fun
  | [d1, d2] => { results := [.lit (.bool true)], args := [d1, d2] }
  | _ => none }
def gaussTurnsRow : OpenClaim := { program := "ytjnoigekhdjkcaa", sum := "c24c790dba24a1d21fa9f21197d76513627bb0630a12682c30edcdcd137b45a7", func := "tailrace/tailracelaw03.GaussTurns", spec := "gaussTurns", apart := false }
def GaussTurnsSaid : Prop := gaussTurnsRow.holds Try.pinned (OpenSpec.ofChange gaussTurnsSpec)

/-- ITS FALSE NEIGHBOUR: 'it returns false'. Refute it at one input. -/
def gaussTurnsWrong : ChangeSpec := { name := "gaussTurns", fn := fun _ => fun
  | [d1, d2] => { results := [.lit (.bool false)], args := [d1, d2] }
  | _ => none }
def GaussTurnsWrongFalsely : Prop := gaussTurnsRow.holds Try.pinned (OpenSpec.ofChange gaussTurnsWrong)

/-- 'tailracelaw03.GaussDivs': WHATEVER THE INPUT: true; the input reads as it did. -/
def gaussDivsSpec : ChangeSpec := { name := "gaussDivs", fn := fun _ => fun
  | [d1, d2] => { results := [.lit (.bool true)], args := [d1, d2] }
  | _ => none }
def gaussDivsRow : OpenClaim := { program := "ytjnoigekhdjkcaa", sum := "c24c790dba24a1d21fa9f21197d76513627bb0630a12682c30edcdcd137b45a7", func := "tailrace/tailracelaw03.GaussDivs", spec := "gaussDivs", apart := false }
def GaussDivsSaid : Prop := gaussDivsRow.holds Try.pinned (OpenSpec.ofChange gaussDivsSpec)

/-- ITS FALSE NEIGHBOUR: 'it returns false'. Refute it at one input. -/
def gaussDivsWrong : ChangeSpec := { name := "gaussDivs", fn := fun _ => fun
  | [d1, d2] => { results := [.lit (.bool false)], args := [d1, d2] }
  | _ => none }
def GaussDivsWrongFalsely : Prop := gaussDivsRow.holds Try.pinned (OpenSpec.ofChange gaussDivsWrong)

/-- 'tailracelaw03.GaussGcds': WHATEVER THE INPUT: true; the input reads as it did. -/
def gaussGcdsSpec : ChangeSpec := { name := "gaussGcds", fn := fun _ => fun
  | [d1, d2, d3] => { results := [.lit (.bool true)], args := [d1, d2, d3] }
  | _ => none }
def gaussGcdsRow : OpenClaim := { program := "ytjnoigekhdjkcaa", sum := "c24c790dba24a1d21fa9f21197d76513627bb0630a12682c30edcdcd137b45a7", func := "tailrace/tailracelaw03.GaussGcds", spec := "gaussGcds", apart := false }
def GaussGcdsSaid : Prop := gaussGcdsRow.holds Try.pinned (OpenSpec.ofChange gaussGcdsSpec)

/-- ITS FALSE NEIGHBOUR: 'it returns false'. Refute it at one input. -/
def gaussGcdsWrong : ChangeSpec := { name := "gaussGcds", fn := fun _ => fun
  | [d1, d2, d3] => { results := [.lit (.bool false)], args := [d1, d2, d3] }
  | _ => none }
def GaussGcdsWrongFalsely : Prop := gaussGcdsRow.holds Try.pinned (OpenSpec.ofChange gaussGcdsWrong)

/- THE SECOND FORM. 'bulk': how many values and letters a reading holds, each counted each time it is reached (what is shared counts as often as it is met; a slice's spare places count too). A statement '..UptoSaid' is the law's where the arguments, and the package variables that the reading takes, are together of bulk at most 1048576: NARROWER than '..Said'. Prove '..Said' where nothing that the law and all that it calls make is longer than what came in: it says more and counts as full. Else prove '..UptoSaid'. A law counts once. -/
mutual
def uptoBulk {H : Type} : DataW H → Nat
  | .lit (.string bytes) => bytes.length + 1
  | .lit _ => 1
  | .nil => 1
  | .ptr d => uptoBulk d + 1
  | .slice elems spare => uptoBulkAll elems + uptoBulkAll spare + 1
  | .agg parts => uptoBulkAll parts + 1
  | .iface _ d => uptoBulk d + 1
  | .map entries => uptoBulkEntries entries + 1
  | .held _ => 1
def uptoBulkAll {H : Type} : List (DataW H) → Nat
  | [] => 0
  | d :: r => uptoBulk d + uptoBulkAll r
def uptoBulkEntries {H : Type} : List (Lit × DataW H) → Nat
  | [] => 0
  | x :: r => uptoBulkEntry x + uptoBulkEntries r
def uptoBulkEntry {H : Type} : Lit × DataW H → Nat
  | (.string bytes, d) => bytes.length + uptoBulk d + 1
  | (_, d) => uptoBulk d + 1
 end
def uptoSmall : (H : Type) → List (DataW H) → Bool := fun _ ds => decide (uptoBulkAll ds ≤ 1048576)
def OpenSpec.upto (s : _root_.Go.ChangeSpec) : _root_.Go.OpenSpec := { _root_.Go.OpenSpec.ofChange s with cond := some uptoSmall }

/-- 'tailracelaw03.GaussMuls', WHERE WHAT IT READS IS OF BULK AT MOST 1048576: true; the input reads as it did. -/
def gaussMulsUptoRow : OpenClaim := { program := "ytjnoigekhdjkcaa", sum := "c24c790dba24a1d21fa9f21197d76513627bb0630a12682c30edcdcd137b45a7", func := "tailrace/tailracelaw03.GaussMuls", spec := "gaussMuls", apart := false, narrowed := true }
def GaussMulsUptoSaid : Prop := gaussMulsUptoRow.holds Try.pinned (OpenSpec.upto gaussMulsSpec)

/-- 'tailracelaw03.GaussRings', WHERE WHAT IT READS IS OF BULK AT MOST 1048576: true; the input reads as it did. -/
def gaussRingsUptoRow : OpenClaim := { program := "ytjnoigekhdjkcaa", sum := "c24c790dba24a1d21fa9f21197d76513627bb0630a12682c30edcdcd137b45a7", func := "tailrace/tailracelaw03.GaussRings", spec := "gaussRings", apart := false, narrowed := true }
def GaussRingsUptoSaid : Prop := gaussRingsUptoRow.holds Try.pinned (OpenSpec.upto gaussRingsSpec)

/-- 'tailracelaw03.GaussPows', WHERE WHAT IT READS IS OF BULK AT MOST 1048576: true; the input reads as it did. -/
def gaussPowsUptoRow : OpenClaim := { program := "ytjnoigekhdjkcaa", sum := "c24c790dba24a1d21fa9f21197d76513627bb0630a12682c30edcdcd137b45a7", func := "tailrace/tailracelaw03.GaussPows", spec := "gaussPows", apart := false, narrowed := true }
def GaussPowsUptoSaid : Prop := gaussPowsUptoRow.holds Try.pinned (OpenSpec.upto gaussPowsSpec)

/-- 'tailracelaw03.GaussTurns', WHERE WHAT IT READS IS OF BULK AT MOST 1048576: true; the input reads as it did. -/
def gaussTurnsUptoRow : OpenClaim := { program := "ytjnoigekhdjkcaa", sum := "c24c790dba24a1d21fa9f21197d76513627bb0630a12682c30edcdcd137b45a7", func := "tailrace/tailracelaw03.GaussTurns", spec := "gaussTurns", apart := false, narrowed := true }
def GaussTurnsUptoSaid : Prop := gaussTurnsUptoRow.holds Try.pinned (OpenSpec.upto gaussTurnsSpec)

/-- 'tailracelaw03.GaussDivs', WHERE WHAT IT READS IS OF BULK AT MOST 1048576: true; the input reads as it did. -/
def gaussDivsUptoRow : OpenClaim := { program := "ytjnoigekhdjkcaa", sum := "c24c790dba24a1d21fa9f21197d76513627bb0630a12682c30edcdcd137b45a7", func := "tailrace/tailracelaw03.GaussDivs", spec := "gaussDivs", apart := false, narrowed := true }
def GaussDivsUptoSaid : Prop := gaussDivsUptoRow.holds Try.pinned (OpenSpec.upto gaussDivsSpec)

/-- 'tailracelaw03.GaussGcds', WHERE WHAT IT READS IS OF BULK AT MOST 1048576: true; the input reads as it did. -/
def gaussGcdsUptoRow : OpenClaim := { program := "ytjnoigekhdjkcaa", sum := "c24c790dba24a1d21fa9f21197d76513627bb0630a12682c30edcdcd137b45a7", func := "tailrace/tailracelaw03.GaussGcds", spec := "gaussGcds", apart := false, narrowed := true }
def GaussGcdsUptoSaid : Prop := gaussGcdsUptoRow.holds Try.pinned (OpenSpec.upto gaussGcdsSpec)

end Rows
end Go.Proofs.Ytjnoigekhdjkcaa
