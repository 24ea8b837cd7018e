/-
  No cell of these rows narrows 'for every input' (looked for: loops, veiled, ifaces, maps, wideKeys, modest, calm, conditions, laid).
  DERIVED. THE GIVEN ROWS OF THIS SEAT. 3 by the template 'for every input the law returns true; each argument reads behind the call as it read before'; 0 by the template 'total and deterministic' (their statements: YtkmakibigmlfeaaTotals.lean).
  GIVEN WITH THE SEED: the statements are not yours to turn. If you find one false, say at which input.
  Laid BY PROGRAM, IN A SANDBOX (cutbox-rows.mjs): the forced cells as the released guide's own fill.sh prints them over the translation 77445bb7d1f1bdff… (all of the seat's roots in one cut). By AI agents, Wed Nov 11 2026. No macro, syntax, notation, axiom, sorry.
-/
import Derived.Test.YtkmakibigmlfeaaChecked
import GoSem.Claim
import GoSem.ClaimJoined
import GoSem.ClaimMapViews
import Derived.JoinedTies
import Derived.KernelRfl
namespace Go.Proofs.Ytkmakibigmlfeaa
/- THE CELL 'sum', in the pinned program and in every row, IS THE sha256 OF THE DUMP (.gsa) THAT YtkmakibigmlfeaaProg.lean LOADS. Nothing in Lean hashes anything: it is a label: what it is worth is what the hold of that sum in a sandbox is worth. -/
noncomputable def Try.pinned : Pinned := { name := "ytkmakibigmlfeaa", sum := "77445bb7d1f1bdff25b246ab5b9a33fa12b9de22dac5108030b93edf0bb4433a", checked := Try.checked }
namespace Rows
def none {H : Type} : Left H := { results := [], args := [] }

/-- 'tailracelaw18.BallotAlone': WHATEVER THE INPUT: true; the input reads as it did. -/
def ballotAloneSpec : ChangeSpec := { name := "ballotAlone", fn := fun _ => fun
  | [d1, d2] => { results := [.lit (.bool true)], args := [d1, d2] }
  | _ => none }
def ballotAloneRow : OpenClaim := { program := "ytkmakibigmlfeaa", sum := "77445bb7d1f1bdff25b246ab5b9a33fa12b9de22dac5108030b93edf0bb4433a", func := "tailrace/tailracelaw18.BallotAlone", spec := "ballotAlone", apart := false }
def BallotAloneSaid : Prop := ballotAloneRow.holds Try.pinned (OpenSpec.ofChange ballotAloneSpec)

/-- ITS FALSE NEIGHBOUR: 'it returns false'. Refute it at one input. -/
def ballotAloneWrong : ChangeSpec := { name := "ballotAlone", fn := fun _ => fun
  | [d1, d2] => { results := [.lit (.bool false)], args := [d1, d2] }
  | _ => none }
def BallotAloneWrongFalsely : Prop := ballotAloneRow.holds Try.pinned (OpenSpec.ofChange ballotAloneWrong)

/-- 'tailracelaw18.BallotRestores': WHATEVER THE INPUT: true; the input reads as it did. -/
def ballotRestoresSpec : ChangeSpec := { name := "ballotRestores", fn := fun _ => fun
  | [d1, d2, d3] => { results := [.lit (.bool true)], args := [d1, d2, d3] }
  | _ => none }
def ballotRestoresRow : OpenClaim := { program := "ytkmakibigmlfeaa", sum := "77445bb7d1f1bdff25b246ab5b9a33fa12b9de22dac5108030b93edf0bb4433a", func := "tailrace/tailracelaw18.BallotRestores", spec := "ballotRestores", unfollowed := true, recurses := true, apart := false }
def BallotRestoresSaid : Prop := ballotRestoresRow.holds Try.pinned (OpenSpec.ofChange ballotRestoresSpec)

/-- ITS FALSE NEIGHBOUR: 'it returns false'. Refute it at one input. -/
def ballotRestoresWrong : ChangeSpec := { name := "ballotRestores", fn := fun _ => fun
  | [d1, d2, d3] => { results := [.lit (.bool false)], args := [d1, d2, d3] }
  | _ => none }
def BallotRestoresWrongFalsely : Prop := ballotRestoresRow.holds Try.pinned (OpenSpec.ofChange ballotRestoresWrong)

/-- 'tailracelaw18.BallotAgrees': WHATEVER THE INPUT: true; the input reads as it did. -/
def ballotAgreesSpec : ChangeSpec := { name := "ballotAgrees", fn := fun _ => fun
  | [d1, d2] => { results := [.lit (.bool true)], args := [d1, d2] }
  | _ => none }
def ballotAgreesRow : OpenClaim := { program := "ytkmakibigmlfeaa", sum := "77445bb7d1f1bdff25b246ab5b9a33fa12b9de22dac5108030b93edf0bb4433a", func := "tailrace/tailracelaw18.BallotAgrees", spec := "ballotAgrees", inPlace := ["slices.overlaps[int]"], apart := false }
def BallotAgreesSaid : Prop := ballotAgreesRow.holds Try.pinned (OpenSpec.ofChange ballotAgreesSpec)

/-- ITS FALSE NEIGHBOUR: 'it returns false'. Refute it at one input. -/
def ballotAgreesWrong : ChangeSpec := { name := "ballotAgrees", fn := fun _ => fun
  | [d1, d2] => { results := [.lit (.bool false)], args := [d1, d2] }
  | _ => none }
def BallotAgreesWrongFalsely : Prop := ballotAgreesRow.holds Try.pinned (OpenSpec.ofChange ballotAgreesWrong)

/- THE SECOND FORM. 'bulk': how many values and letters a reading holds, each counted each time it is reached (what is shared counts as often as it is met; a slice's spare places count too). A statement '..UptoSaid' is the law's where the arguments, and the package variables that the reading takes, are together of bulk at most 1048576: NARROWER than '..Said'. Prove '..Said' where nothing that the law and all that it calls make is longer than what came in: it says more and counts as full. Else prove '..UptoSaid'. A law counts once. -/
mutual
def uptoBulk {H : Type} : DataW H → Nat
  | .lit (.string bytes) => bytes.length + 1
  | .lit _ => 1
  | .nil => 1
  | .ptr d => uptoBulk d + 1
  | .slice elems spare => uptoBulkAll elems + uptoBulkAll spare + 1
  | .agg parts => uptoBulkAll parts + 1
  | .iface _ d => uptoBulk d + 1
  | .map entries => uptoBulkEntries entries + 1
  | .held _ => 1
def uptoBulkAll {H : Type} : List (DataW H) → Nat
  | [] => 0
  | d :: r => uptoBulk d + uptoBulkAll r
def uptoBulkEntries {H : Type} : List (Lit × DataW H) → Nat
  | [] => 0
  | x :: r => uptoBulkEntry x + uptoBulkEntries r
def uptoBulkEntry {H : Type} : Lit × DataW H → Nat
  | (.string bytes, d) => bytes.length + uptoBulk d + 1
  | (_, d) => uptoBulk d + 1
 end
def uptoSmall : (H : Type) → List (DataW H) → Bool := fun _ ds => decide (uptoBulkAll ds ≤ 1048576)
def OpenSpec.upto (s : _root_.Go.ChangeSpec) : _root_.Go.OpenSpec := { _root_.Go.OpenSpec.ofChange s with cond := some uptoSmall }

/-- 'tailracelaw18.BallotAlone', WHERE WHAT IT READS IS OF BULK AT MOST 1048576: true; the input reads as it did. -/
def ballotAloneUptoRow : OpenClaim := { program := "ytkmakibigmlfeaa", sum := "77445bb7d1f1bdff25b246ab5b9a33fa12b9de22dac5108030b93edf0bb4433a", func := "tailrace/tailracelaw18.BallotAlone", spec := "ballotAlone", apart := false, narrowed := true }
def BallotAloneUptoSaid : Prop := ballotAloneUptoRow.holds Try.pinned (OpenSpec.upto ballotAloneSpec)

/-- 'tailracelaw18.BallotRestores', WHERE WHAT IT READS IS OF BULK AT MOST 1048576: true; the input reads as it did. -/
def ballotRestoresUptoRow : OpenClaim := { program := "ytkmakibigmlfeaa", sum := "77445bb7d1f1bdff25b246ab5b9a33fa12b9de22dac5108030b93edf0bb4433a", func := "tailrace/tailracelaw18.BallotRestores", spec := "ballotRestores", unfollowed := true, recurses := true, apart := false, narrowed := true }
def BallotRestoresUptoSaid : Prop := ballotRestoresUptoRow.holds Try.pinned (OpenSpec.upto ballotRestoresSpec)

/-- 'tailracelaw18.BallotAgrees', WHERE WHAT IT READS IS OF BULK AT MOST 1048576: true; the input reads as it did. -/
def ballotAgreesUptoRow : OpenClaim := { program := "ytkmakibigmlfeaa", sum := "77445bb7d1f1bdff25b246ab5b9a33fa12b9de22dac5108030b93edf0bb4433a", func := "tailrace/tailracelaw18.BallotAgrees", spec := "ballotAgrees", inPlace := ["slices.overlaps[int]"], apart := false, narrowed := true }
def BallotAgreesUptoSaid : Prop := ballotAgreesUptoRow.holds Try.pinned (OpenSpec.upto ballotAgreesSpec)

end Rows
end Go.Proofs.Ytkmakibigmlfeaa
