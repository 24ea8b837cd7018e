/-
  NARROWER THAN 'FOR EVERY INPUT', by the rows' own cells (each row's printed sentence says how): CellMakes: loops · CellLists: loops · CellApart: loops.
  DERIVED. THE GIVEN ROWS OF THIS SEAT. 4 by the template 'for every input the law returns true; each argument reads behind the call as it read before'; 0 by the template 'total and deterministic' (their statements: YtjebhcflpibkkaaTotals.lean).
  GIVEN WITH THE SEED: the statements are not yours to turn. If you find one false, say at which input.
  Laid BY PROGRAM, IN A SANDBOX (cutbox-rows.mjs): the forced cells as the released guide's own fill.sh prints them over the translation 1573ee0fd2d049a5… (all of the seat's roots in one cut). By AI agents, Wed Nov 11 2026. No macro, syntax, notation, axiom, sorry.
-/
import Derived.Test.YtjebhcflpibkkaaChecked
import GoSem.Claim
import GoSem.ClaimJoined
import GoSem.ClaimMapViews
import Derived.JoinedTies
import Derived.KernelRfl
namespace Go.Proofs.Ytjebhcflpibkkaa
/- THE CELL 'sum', in the pinned program and in every row, IS THE sha256 OF THE DUMP (.gsa) THAT YtjebhcflpibkkaaProg.lean LOADS. Nothing in Lean hashes anything: it is a label: what it is worth is what the hold of that sum in a sandbox is worth. -/
noncomputable def Try.pinned : Pinned := { name := "ytjebhcflpibkkaa", sum := "1573ee0fd2d049a5330fe5641e30c29cca853f37acb136e0846eed149fb53946", checked := Try.checked }
namespace Rows
def none {H : Type} : Left H := { results := [], args := [] }

/-- 'tailracelaw01.CellMakes': WHATEVER THE INPUT: true; the input reads as it did. -/
def cellMakesSpec : ChangeSpec := { name := "cellMakes", fn := fun _ => fun
  | [d1, d2, d3] => { results := [.lit (.bool true)], args := [d1, d2, d3] }
  | _ => none }
def cellMakesRow : OpenClaim := { program := "ytjebhcflpibkkaa", sum := "1573ee0fd2d049a5330fe5641e30c29cca853f37acb136e0846eed149fb53946", func := "tailrace/tailracelaw01.CellMakes", spec := "cellMakes", unfollowed := true, recurses := true, loops := true, apart := false }
def CellMakesSaid : Prop := cellMakesRow.holds Try.pinned (OpenSpec.ofChange cellMakesSpec)

/-- ITS FALSE NEIGHBOUR: 'it returns false'. Refute it at one input. -/
def cellMakesWrong : ChangeSpec := { name := "cellMakes", fn := fun _ => fun
  | [d1, d2, d3] => { results := [.lit (.bool false)], args := [d1, d2, d3] }
  | _ => none }
def CellMakesWrongFalsely : Prop := cellMakesRow.holds Try.pinned (OpenSpec.ofChange cellMakesWrong)

/-- 'tailracelaw01.CellLists': WHATEVER THE INPUT: true; the input reads as it did. -/
def cellListsSpec : ChangeSpec := { name := "cellLists", fn := fun _ => fun
  | [d] => { results := [.lit (.bool true)], args := [d] }
  | _ => none }
def cellListsRow : OpenClaim := { program := "ytjebhcflpibkkaa", sum := "1573ee0fd2d049a5330fe5641e30c29cca853f37acb136e0846eed149fb53946", func := "tailrace/tailracelaw01.CellLists", spec := "cellLists", unfollowed := true, recurses := true, loops := true, apart := false }
def CellListsSaid : Prop := cellListsRow.holds Try.pinned (OpenSpec.ofChange cellListsSpec)

/-- ITS FALSE NEIGHBOUR: 'it returns false'. Refute it at one input. -/
def cellListsWrong : ChangeSpec := { name := "cellLists", fn := fun _ => fun
  | [d] => { results := [.lit (.bool false)], args := [d] }
  | _ => none }
def CellListsWrongFalsely : Prop := cellListsRow.holds Try.pinned (OpenSpec.ofChange cellListsWrong)

/-- 'tailracelaw01.CellApart': WHATEVER THE INPUT: true; the input reads as it did. -/
def cellApartSpec : ChangeSpec := { name := "cellApart", fn := fun _ => fun
  | [d1, d2] => { results := [.lit (.bool true)], args := [d1, d2] }
  | _ => none }
def cellApartRow : OpenClaim := { program := "ytjebhcflpibkkaa", sum := "1573ee0fd2d049a5330fe5641e30c29cca853f37acb136e0846eed149fb53946", func := "tailrace/tailracelaw01.CellApart", spec := "cellApart", unfollowed := true, recurses := true, loops := true, apart := false }
def CellApartSaid : Prop := cellApartRow.holds Try.pinned (OpenSpec.ofChange cellApartSpec)

/-- ITS FALSE NEIGHBOUR: 'it returns false'. Refute it at one input. -/
def cellApartWrong : ChangeSpec := { name := "cellApart", fn := fun _ => fun
  | [d1, d2] => { results := [.lit (.bool false)], args := [d1, d2] }
  | _ => none }
def CellApartWrongFalsely : Prop := cellApartRow.holds Try.pinned (OpenSpec.ofChange cellApartWrong)

/-- 'tailracelaw01.CellDecodes': WHATEVER THE INPUT: true; the input reads as it did. -/
def cellDecodesSpec : ChangeSpec := { name := "cellDecodes", fn := fun _ => fun
  | [d] => { results := [.lit (.bool true)], args := [d] }
  | _ => none }
def cellDecodesRow : OpenClaim := { program := "ytjebhcflpibkkaa", sum := "1573ee0fd2d049a5330fe5641e30c29cca853f37acb136e0846eed149fb53946", func := "tailrace/tailracelaw01.CellDecodes", spec := "cellDecodes", unfollowed := true, recurses := true, apart := false }
def CellDecodesSaid : Prop := cellDecodesRow.holds Try.pinned (OpenSpec.ofChange cellDecodesSpec)

/-- ITS FALSE NEIGHBOUR: 'it returns false'. Refute it at one input. -/
def cellDecodesWrong : ChangeSpec := { name := "cellDecodes", fn := fun _ => fun
  | [d] => { results := [.lit (.bool false)], args := [d] }
  | _ => none }
def CellDecodesWrongFalsely : Prop := cellDecodesRow.holds Try.pinned (OpenSpec.ofChange cellDecodesWrong)

/- THE SECOND FORM. 'bulk': how many values and letters a reading holds, each counted each time it is reached (what is shared counts as often as it is met; a slice's spare places count too). A statement '..UptoSaid' is the law's where the arguments, and the package variables that the reading takes, are together of bulk at most 1048576: NARROWER than '..Said'. Prove '..Said' where nothing that the law and all that it calls make is longer than what came in: it says more and counts as full. Else prove '..UptoSaid'. A law counts once. -/
mutual
def uptoBulk {H : Type} : DataW H → Nat
  | .lit (.string bytes) => bytes.length + 1
  | .lit _ => 1
  | .nil => 1
  | .ptr d => uptoBulk d + 1
  | .slice elems spare => uptoBulkAll elems + uptoBulkAll spare + 1
  | .agg parts => uptoBulkAll parts + 1
  | .iface _ d => uptoBulk d + 1
  | .map entries => uptoBulkEntries entries + 1
  | .held _ => 1
def uptoBulkAll {H : Type} : List (DataW H) → Nat
  | [] => 0
  | d :: r => uptoBulk d + uptoBulkAll r
def uptoBulkEntries {H : Type} : List (Lit × DataW H) → Nat
  | [] => 0
  | x :: r => uptoBulkEntry x + uptoBulkEntries r
def uptoBulkEntry {H : Type} : Lit × DataW H → Nat
  | (.string bytes, d) => bytes.length + uptoBulk d + 1
  | (_, d) => uptoBulk d + 1
 end
def uptoSmall : (H : Type) → List (DataW H) → Bool := fun _ ds => decide (uptoBulkAll ds ≤ 1048576)
def OpenSpec.upto (s : _root_.Go.ChangeSpec) : _root_.Go.OpenSpec := { _root_.Go.OpenSpec.ofChange s with cond := some uptoSmall }

/-- 'tailracelaw01.CellMakes', WHERE WHAT IT READS IS OF BULK AT MOST 1048576: true; the input reads as it did. -/
def cellMakesUptoRow : OpenClaim := { program := "ytjebhcflpibkkaa", sum := "1573ee0fd2d049a5330fe5641e30c29cca853f37acb136e0846eed149fb53946", func := "tailrace/tailracelaw01.CellMakes", spec := "cellMakes", unfollowed := true, recurses := true, loops := true, apart := false, narrowed := true }
def CellMakesUptoSaid : Prop := cellMakesUptoRow.holds Try.pinned (OpenSpec.upto cellMakesSpec)

/-- 'tailracelaw01.CellLists', WHERE WHAT IT READS IS OF BULK AT MOST 1048576: true; the input reads as it did. -/
def cellListsUptoRow : OpenClaim := { program := "ytjebhcflpibkkaa", sum := "1573ee0fd2d049a5330fe5641e30c29cca853f37acb136e0846eed149fb53946", func := "tailrace/tailracelaw01.CellLists", spec := "cellLists", unfollowed := true, recurses := true, loops := true, apart := false, narrowed := true }
def CellListsUptoSaid : Prop := cellListsUptoRow.holds Try.pinned (OpenSpec.upto cellListsSpec)

/-- 'tailracelaw01.CellApart', WHERE WHAT IT READS IS OF BULK AT MOST 1048576: true; the input reads as it did. -/
def cellApartUptoRow : OpenClaim := { program := "ytjebhcflpibkkaa", sum := "1573ee0fd2d049a5330fe5641e30c29cca853f37acb136e0846eed149fb53946", func := "tailrace/tailracelaw01.CellApart", spec := "cellApart", unfollowed := true, recurses := true, loops := true, apart := false, narrowed := true }
def CellApartUptoSaid : Prop := cellApartUptoRow.holds Try.pinned (OpenSpec.upto cellApartSpec)

/-- 'tailracelaw01.CellDecodes', WHERE WHAT IT READS IS OF BULK AT MOST 1048576: true; the input reads as it did. -/
def cellDecodesUptoRow : OpenClaim := { program := "ytjebhcflpibkkaa", sum := "1573ee0fd2d049a5330fe5641e30c29cca853f37acb136e0846eed149fb53946", func := "tailrace/tailracelaw01.CellDecodes", spec := "cellDecodes", unfollowed := true, recurses := true, apart := false, narrowed := true }
def CellDecodesUptoSaid : Prop := cellDecodesUptoRow.holds Try.pinned (OpenSpec.upto cellDecodesSpec)

end Rows
end Go.Proofs.Ytjebhcflpibkkaa
