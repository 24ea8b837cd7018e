/-
  No cell of these rows narrows 'for every input' (looked for: loops, veiled, ifaces, maps, wideKeys, modest, calm, conditions, laid).
  DERIVED. THE GIVEN ROWS OF THIS SEAT. 4 by the template 'for every input the law returns true; each argument reads behind the call as it read before'; 0 by the template 'total and deterministic' (their statements: YtomfknocpijmbaaTotals.lean).
  GIVEN WITH THE SEED: the statements are not yours to turn. If you find one false, say at which input.
  Laid BY PROGRAM, IN A SANDBOX (cutbox-rows.mjs): the forced cells as the released guide's own fill.sh prints them over the translation b790cbaf1f26fd5f… (all of the seat's roots in one cut). By AI agents, Wed Nov 11 2026. No macro, syntax, notation, axiom, sorry.
-/
import Derived.Test.YtomfknocpijmbaaChecked
import GoSem.Claim
import GoSem.ClaimJoined
import GoSem.ClaimMapViews
import Derived.JoinedTies
import Derived.KernelRfl
namespace Go.Proofs.Ytomfknocpijmbaa
/- THE CELL 'sum', in the pinned program and in every row, IS THE sha256 OF THE DUMP (.gsa) THAT YtomfknocpijmbaaProg.lean LOADS. Nothing in Lean hashes anything: it is a label: what it is worth is what the hold of that sum in a sandbox is worth. -/
noncomputable def Try.pinned : Pinned := { name := "ytomfknocpijmbaa", sum := "b790cbaf1f26fd5f96be690b126a1612725e3caa4d2e7a47cc904d3c5039d4d3", checked := Try.checked }
namespace Rows
def none {H : Type} : Left H := { results := [], args := [] }

/-- 'tailracelaw17.EtherPuts': WHATEVER THE INPUT: true; the input reads as it did. -/
def etherPutsSpec : ChangeSpec := { name := "etherPuts", fn := fun _ => fun
  | [d1, d2, d3] => { results := [.lit (.bool true)], args := [d1, d2, d3] }
  | _ => none }
def etherPutsRow : OpenClaim := { program := "ytomfknocpijmbaa", sum := "b790cbaf1f26fd5f96be690b126a1612725e3caa4d2e7a47cc904d3c5039d4d3", func := "tailrace/tailracelaw17.EtherPuts", spec := "etherPuts", inPlace := ["slices.overlaps[tailrace/api.Bag]", "slices.overlaps[[2]int]"], unfollowed := true, recurses := true, apart := false }
def EtherPutsSaid : Prop := etherPutsRow.holds Try.pinned (OpenSpec.ofChange etherPutsSpec)

/-- ITS FALSE NEIGHBOUR: 'it returns false'. Refute it at one input. -/
def etherPutsWrong : ChangeSpec := { name := "etherPuts", fn := fun _ => fun
  | [d1, d2, d3] => { results := [.lit (.bool false)], args := [d1, d2, d3] }
  | _ => none }
def EtherPutsWrongFalsely : Prop := etherPutsRow.holds Try.pinned (OpenSpec.ofChange etherPutsWrong)

/-- 'tailracelaw17.EtherTrue': WHATEVER THE INPUT: true; the input reads as it did. -/
def etherTrueSpec : ChangeSpec := { name := "etherTrue", fn := fun _ => fun
  | [d1, d2] => { results := [.lit (.bool true)], args := [d1, d2] }
  | _ => none }
def etherTrueRow : OpenClaim := { program := "ytomfknocpijmbaa", sum := "b790cbaf1f26fd5f96be690b126a1612725e3caa4d2e7a47cc904d3c5039d4d3", func := "tailrace/tailracelaw17.EtherTrue", spec := "etherTrue", inPlace := ["slices.overlaps[tailrace/api.Bag]", "slices.overlaps[[2]int]"], unfollowed := true, recurses := true, apart := false }
def EtherTrueSaid : Prop := etherTrueRow.holds Try.pinned (OpenSpec.ofChange etherTrueSpec)

/-- ITS FALSE NEIGHBOUR: 'it returns false'. Refute it at one input. -/
def etherTrueWrong : ChangeSpec := { name := "etherTrue", fn := fun _ => fun
  | [d1, d2] => { results := [.lit (.bool false)], args := [d1, d2] }
  | _ => none }
def EtherTrueWrongFalsely : Prop := etherTrueRow.holds Try.pinned (OpenSpec.ofChange etherTrueWrong)

/-- 'tailracelaw17.EtherCounts': WHATEVER THE INPUT: true; the input reads as it did. -/
def etherCountsSpec : ChangeSpec := { name := "etherCounts", fn := fun _ => fun
  | [d1, d2] => { results := [.lit (.bool true)], args := [d1, d2] }
  | _ => none }
def etherCountsRow : OpenClaim := { program := "ytomfknocpijmbaa", sum := "b790cbaf1f26fd5f96be690b126a1612725e3caa4d2e7a47cc904d3c5039d4d3", func := "tailrace/tailracelaw17.EtherCounts", spec := "etherCounts", inPlace := ["slices.overlaps[tailrace/api.Bag]", "slices.overlaps[[2]int]"], unfollowed := true, recurses := true, apart := false }
def EtherCountsSaid : Prop := etherCountsRow.holds Try.pinned (OpenSpec.ofChange etherCountsSpec)

/-- ITS FALSE NEIGHBOUR: 'it returns false'. Refute it at one input. -/
def etherCountsWrong : ChangeSpec := { name := "etherCounts", fn := fun _ => fun
  | [d1, d2] => { results := [.lit (.bool false)], args := [d1, d2] }
  | _ => none }
def EtherCountsWrongFalsely : Prop := etherCountsRow.holds Try.pinned (OpenSpec.ofChange etherCountsWrong)

/-- 'tailracelaw17.EtherDoes': WHATEVER THE INPUT: true; the input reads as it did. -/
def etherDoesSpec : ChangeSpec := { name := "etherDoes", fn := fun _ => fun
  | [d1, d2] => { results := [.lit (.bool true)], args := [d1, d2] }
  | _ => none }
def etherDoesRow : OpenClaim := { program := "ytomfknocpijmbaa", sum := "b790cbaf1f26fd5f96be690b126a1612725e3caa4d2e7a47cc904d3c5039d4d3", func := "tailrace/tailracelaw17.EtherDoes", spec := "etherDoes", inPlace := ["slices.overlaps[tailrace/api.Bag]", "slices.overlaps[[2]int]"], unfollowed := true, recurses := true, apart := false }
def EtherDoesSaid : Prop := etherDoesRow.holds Try.pinned (OpenSpec.ofChange etherDoesSpec)

/-- ITS FALSE NEIGHBOUR: 'it returns false'. Refute it at one input. -/
def etherDoesWrong : ChangeSpec := { name := "etherDoes", fn := fun _ => fun
  | [d1, d2] => { results := [.lit (.bool false)], args := [d1, d2] }
  | _ => none }
def EtherDoesWrongFalsely : Prop := etherDoesRow.holds Try.pinned (OpenSpec.ofChange etherDoesWrong)

/- THE SECOND FORM. 'bulk': how many values and letters a reading holds, each counted each time it is reached (what is shared counts as often as it is met; a slice's spare places count too). A statement '..UptoSaid' is the law's where the arguments, and the package variables that the reading takes, are together of bulk at most 1048576: NARROWER than '..Said'. Prove '..Said' where nothing that the law and all that it calls make is longer than what came in: it says more and counts as full. Else prove '..UptoSaid'. A law counts once. -/
mutual
def uptoBulk {H : Type} : DataW H → Nat
  | .lit (.string bytes) => bytes.length + 1
  | .lit _ => 1
  | .nil => 1
  | .ptr d => uptoBulk d + 1
  | .slice elems spare => uptoBulkAll elems + uptoBulkAll spare + 1
  | .agg parts => uptoBulkAll parts + 1
  | .iface _ d => uptoBulk d + 1
  | .map entries => uptoBulkEntries entries + 1
  | .held _ => 1
def uptoBulkAll {H : Type} : List (DataW H) → Nat
  | [] => 0
  | d :: r => uptoBulk d + uptoBulkAll r
def uptoBulkEntries {H : Type} : List (Lit × DataW H) → Nat
  | [] => 0
  | x :: r => uptoBulkEntry x + uptoBulkEntries r
def uptoBulkEntry {H : Type} : Lit × DataW H → Nat
  | (.string bytes, d) => bytes.length + uptoBulk d + 1
  | (_, d) => uptoBulk d + 1
 end
def uptoSmall : (H : Type) → List (DataW H) → Bool := fun _ ds => decide (uptoBulkAll ds ≤ 1048576)
def OpenSpec.upto (s : _root_.Go.ChangeSpec) : _root_.Go.OpenSpec := { _root_.Go.OpenSpec.ofChange s with cond := some uptoSmall }

/-- 'tailracelaw17.EtherPuts', WHERE WHAT IT READS IS OF BULK AT MOST 1048576: true; the input reads as it did. -/
def etherPutsUptoRow : OpenClaim := { program := "ytomfknocpijmbaa", sum := "b790cbaf1f26fd5f96be690b126a1612725e3caa4d2e7a47cc904d3c5039d4d3", func := "tailrace/tailracelaw17.EtherPuts", spec := "etherPuts", inPlace := ["slices.overlaps[tailrace/api.Bag]", "slices.overlaps[[2]int]"], unfollowed := true, recurses := true, apart := false, narrowed := true }
def EtherPutsUptoSaid : Prop := etherPutsUptoRow.holds Try.pinned (OpenSpec.upto etherPutsSpec)

/-- 'tailracelaw17.EtherTrue', WHERE WHAT IT READS IS OF BULK AT MOST 1048576: true; the input reads as it did. -/
def etherTrueUptoRow : OpenClaim := { program := "ytomfknocpijmbaa", sum := "b790cbaf1f26fd5f96be690b126a1612725e3caa4d2e7a47cc904d3c5039d4d3", func := "tailrace/tailracelaw17.EtherTrue", spec := "etherTrue", inPlace := ["slices.overlaps[tailrace/api.Bag]", "slices.overlaps[[2]int]"], unfollowed := true, recurses := true, apart := false, narrowed := true }
def EtherTrueUptoSaid : Prop := etherTrueUptoRow.holds Try.pinned (OpenSpec.upto etherTrueSpec)

/-- 'tailracelaw17.EtherCounts', WHERE WHAT IT READS IS OF BULK AT MOST 1048576: true; the input reads as it did. -/
def etherCountsUptoRow : OpenClaim := { program := "ytomfknocpijmbaa", sum := "b790cbaf1f26fd5f96be690b126a1612725e3caa4d2e7a47cc904d3c5039d4d3", func := "tailrace/tailracelaw17.EtherCounts", spec := "etherCounts", inPlace := ["slices.overlaps[tailrace/api.Bag]", "slices.overlaps[[2]int]"], unfollowed := true, recurses := true, apart := false, narrowed := true }
def EtherCountsUptoSaid : Prop := etherCountsUptoRow.holds Try.pinned (OpenSpec.upto etherCountsSpec)

/-- 'tailracelaw17.EtherDoes', WHERE WHAT IT READS IS OF BULK AT MOST 1048576: true; the input reads as it did. -/
def etherDoesUptoRow : OpenClaim := { program := "ytomfknocpijmbaa", sum := "b790cbaf1f26fd5f96be690b126a1612725e3caa4d2e7a47cc904d3c5039d4d3", func := "tailrace/tailracelaw17.EtherDoes", spec := "etherDoes", inPlace := ["slices.overlaps[tailrace/api.Bag]", "slices.overlaps[[2]int]"], unfollowed := true, recurses := true, apart := false, narrowed := true }
def EtherDoesUptoSaid : Prop := etherDoesUptoRow.holds Try.pinned (OpenSpec.upto etherDoesSpec)

end Rows
end Go.Proofs.Ytomfknocpijmbaa
