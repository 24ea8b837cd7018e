/-
  No cell of these rows narrows 'for every input' (looked for: loops, veiled, ifaces, maps, wideKeys, modest, calm, conditions, laid).
  DERIVED. THE GIVEN ROWS OF THIS SEAT. 5 by the template 'for every input the law returns true; each argument reads behind the call as it read before'; 0 by the template 'total and deterministic' (their statements: YtfiaekgmblbmiaaTotals.lean).
  GIVEN WITH THE SEED: the statements are not yours to turn. If you find one false, say at which input.
  Laid BY PROGRAM, IN A SANDBOX (cutbox-rows.mjs): the forced cells as the released guide's own fill.sh prints them over the translation 8e5e966ed7a70e13… (all of the seat's roots in one cut). By AI agents, Wed Nov 11 2026. No macro, syntax, notation, axiom, sorry.
-/
import Derived.Test.YtfiaekgmblbmiaaChecked
import GoSem.Claim
import GoSem.ClaimJoined
import GoSem.ClaimMapViews
import Derived.JoinedTies
import Derived.KernelRfl
namespace Go.Proofs.Ytfiaekgmblbmiaa
/- THE CELL 'sum', in the pinned program and in every row, IS THE sha256 OF THE DUMP (.gsa) THAT YtfiaekgmblbmiaaProg.lean LOADS. Nothing in Lean hashes anything: it is a label: what it is worth is what the hold of that sum in a sandbox is worth. -/
noncomputable def Try.pinned : Pinned := { name := "ytfiaekgmblbmiaa", sum := "8e5e966ed7a70e13d80a6b411cc9fd39be4a4e1ca7eb1119d036e2c7d76e3a6e", checked := Try.checked }
namespace Rows
def none {H : Type} : Left H := { results := [], args := [] }

/-- 'tailracelaw05.SealRecords': WHATEVER THE INPUT: true; the input reads as it did. -/
def sealRecordsSpec : ChangeSpec := { name := "sealRecords", fn := fun _ => fun
  | [d] => { results := [.lit (.bool true)], args := [d] }
  | _ => none }
def sealRecordsRow : OpenClaim := { program := "ytfiaekgmblbmiaa", sum := "8e5e966ed7a70e13d80a6b411cc9fd39be4a4e1ca7eb1119d036e2c7d76e3a6e", func := "tailrace/tailracelaw05.SealRecords", spec := "sealRecords", apart := false }
def SealRecordsSaid : Prop := sealRecordsRow.holds Try.pinned (OpenSpec.ofChange sealRecordsSpec)

/-- ITS FALSE NEIGHBOUR: 'it returns false'. Refute it at one input. -/
def sealRecordsWrong : ChangeSpec := { name := "sealRecords", fn := fun _ => fun
  | [d] => { results := [.lit (.bool false)], args := [d] }
  | _ => none }
def SealRecordsWrongFalsely : Prop := sealRecordsRow.holds Try.pinned (OpenSpec.ofChange sealRecordsWrong)

/-- 'tailracelaw05.SealBursts': WHATEVER THE INPUT: true; the input reads as it did. -/
def sealBurstsSpec : ChangeSpec := { name := "sealBursts", fn := fun _ => fun
  | [d1, d2, d3] => { results := [.lit (.bool true)], args := [d1, d2, d3] }
  | _ => none }
def sealBurstsRow : OpenClaim := { program := "ytfiaekgmblbmiaa", sum := "8e5e966ed7a70e13d80a6b411cc9fd39be4a4e1ca7eb1119d036e2c7d76e3a6e", func := "tailrace/tailracelaw05.SealBursts", spec := "sealBursts", apart := false }
def SealBurstsSaid : Prop := sealBurstsRow.holds Try.pinned (OpenSpec.ofChange sealBurstsSpec)

/-- ITS FALSE NEIGHBOUR: 'it returns false'. Refute it at one input. -/
def sealBurstsWrong : ChangeSpec := { name := "sealBursts", fn := fun _ => fun
  | [d1, d2, d3] => { results := [.lit (.bool false)], args := [d1, d2, d3] }
  | _ => none }
def SealBurstsWrongFalsely : Prop := sealBurstsRow.holds Try.pinned (OpenSpec.ofChange sealBurstsWrong)

/-- 'tailracelaw05.SealRows': WHATEVER THE INPUT: true; the input reads as it did. -/
def sealRowsSpec : ChangeSpec := { name := "sealRows", fn := fun _ => fun
  | [d] => { results := [.lit (.bool true)], args := [d] }
  | _ => none }
def sealRowsRow : OpenClaim := { program := "ytfiaekgmblbmiaa", sum := "8e5e966ed7a70e13d80a6b411cc9fd39be4a4e1ca7eb1119d036e2c7d76e3a6e", func := "tailrace/tailracelaw05.SealRows", spec := "sealRows", apart := false }
def SealRowsSaid : Prop := sealRowsRow.holds Try.pinned (OpenSpec.ofChange sealRowsSpec)

/-- ITS FALSE NEIGHBOUR: 'it returns false'. Refute it at one input. -/
def sealRowsWrong : ChangeSpec := { name := "sealRows", fn := fun _ => fun
  | [d] => { results := [.lit (.bool false)], args := [d] }
  | _ => none }
def SealRowsWrongFalsely : Prop := sealRowsRow.holds Try.pinned (OpenSpec.ofChange sealRowsWrong)

/-- 'tailracelaw05.SealCuts': WHATEVER THE INPUT: true; the input reads as it did. -/
def sealCutsSpec : ChangeSpec := { name := "sealCuts", fn := fun _ => fun
  | [d1, d2] => { results := [.lit (.bool true)], args := [d1, d2] }
  | _ => none }
def sealCutsRow : OpenClaim := { program := "ytfiaekgmblbmiaa", sum := "8e5e966ed7a70e13d80a6b411cc9fd39be4a4e1ca7eb1119d036e2c7d76e3a6e", func := "tailrace/tailracelaw05.SealCuts", spec := "sealCuts", apart := false }
def SealCutsSaid : Prop := sealCutsRow.holds Try.pinned (OpenSpec.ofChange sealCutsSpec)

/-- ITS FALSE NEIGHBOUR: 'it returns false'. Refute it at one input. -/
def sealCutsWrong : ChangeSpec := { name := "sealCuts", fn := fun _ => fun
  | [d1, d2] => { results := [.lit (.bool false)], args := [d1, d2] }
  | _ => none }
def SealCutsWrongFalsely : Prop := sealCutsRow.holds Try.pinned (OpenSpec.ofChange sealCutsWrong)

/-- 'tailracelaw05.SealRuns': WHATEVER THE INPUT: true; the input reads as it did. -/
def sealRunsSpec : ChangeSpec := { name := "sealRuns", fn := fun _ => fun
  | [d1, d2] => { results := [.lit (.bool true)], args := [d1, d2] }
  | _ => none }
def sealRunsRow : OpenClaim := { program := "ytfiaekgmblbmiaa", sum := "8e5e966ed7a70e13d80a6b411cc9fd39be4a4e1ca7eb1119d036e2c7d76e3a6e", func := "tailrace/tailracelaw05.SealRuns", spec := "sealRuns", apart := false }
def SealRunsSaid : Prop := sealRunsRow.holds Try.pinned (OpenSpec.ofChange sealRunsSpec)

/-- ITS FALSE NEIGHBOUR: 'it returns false'. Refute it at one input. -/
def sealRunsWrong : ChangeSpec := { name := "sealRuns", fn := fun _ => fun
  | [d1, d2] => { results := [.lit (.bool false)], args := [d1, d2] }
  | _ => none }
def SealRunsWrongFalsely : Prop := sealRunsRow.holds Try.pinned (OpenSpec.ofChange sealRunsWrong)

/- THE SECOND FORM. 'bulk': how many values and letters a reading holds, each counted each time it is reached (what is shared counts as often as it is met; a slice's spare places count too). A statement '..UptoSaid' is the law's where the arguments, and the package variables that the reading takes, are together of bulk at most 1048576: NARROWER than '..Said'. Prove '..Said' where nothing that the law and all that it calls make is longer than what came in: it says more and counts as full. Else prove '..UptoSaid'. A law counts once. -/
mutual
def uptoBulk {H : Type} : DataW H → Nat
  | .lit (.string bytes) => bytes.length + 1
  | .lit _ => 1
  | .nil => 1
  | .ptr d => uptoBulk d + 1
  | .slice elems spare => uptoBulkAll elems + uptoBulkAll spare + 1
  | .agg parts => uptoBulkAll parts + 1
  | .iface _ d => uptoBulk d + 1
  | .map entries => uptoBulkEntries entries + 1
  | .held _ => 1
def uptoBulkAll {H : Type} : List (DataW H) → Nat
  | [] => 0
  | d :: r => uptoBulk d + uptoBulkAll r
def uptoBulkEntries {H : Type} : List (Lit × DataW H) → Nat
  | [] => 0
  | x :: r => uptoBulkEntry x + uptoBulkEntries r
def uptoBulkEntry {H : Type} : Lit × DataW H → Nat
  | (.string bytes, d) => bytes.length + uptoBulk d + 1
  | (_, d) => uptoBulk d + 1
 end
def uptoSmall : (H : Type) → List (DataW H) → Bool := fun _ ds => decide (uptoBulkAll ds ≤ 1048576)
def OpenSpec.upto (s : _root_.Go.ChangeSpec) : _root_.Go.OpenSpec := { _root_.Go.OpenSpec.ofChange s with cond := some uptoSmall }

/-- 'tailracelaw05.SealRecords', WHERE WHAT IT READS IS OF BULK AT MOST 1048576: true; the input reads as it did. -/
def sealRecordsUptoRow : OpenClaim := { program := "ytfiaekgmblbmiaa", sum := "8e5e966ed7a70e13d80a6b411cc9fd39be4a4e1ca7eb1119d036e2c7d76e3a6e", func := "tailrace/tailracelaw05.SealRecords", spec := "sealRecords", apart := false, narrowed := true }
def SealRecordsUptoSaid : Prop := sealRecordsUptoRow.holds Try.pinned (OpenSpec.upto sealRecordsSpec)

/-- 'tailracelaw05.SealBursts', WHERE WHAT IT READS IS OF BULK AT MOST 1048576: true; the input reads as it did. -/
def sealBurstsUptoRow : OpenClaim := { program := "ytfiaekgmblbmiaa", sum := "8e5e966ed7a70e13d80a6b411cc9fd39be4a4e1ca7eb1119d036e2c7d76e3a6e", func := "tailrace/tailracelaw05.SealBursts", spec := "sealBursts", apart := false, narrowed := true }
def SealBurstsUptoSaid : Prop := sealBurstsUptoRow.holds Try.pinned (OpenSpec.upto sealBurstsSpec)

/-- 'tailracelaw05.SealRows', WHERE WHAT IT READS IS OF BULK AT MOST 1048576: true; the input reads as it did. -/
def sealRowsUptoRow : OpenClaim := { program := "ytfiaekgmblbmiaa", sum := "8e5e966ed7a70e13d80a6b411cc9fd39be4a4e1ca7eb1119d036e2c7d76e3a6e", func := "tailrace/tailracelaw05.SealRows", spec := "sealRows", apart := false, narrowed := true }
def SealRowsUptoSaid : Prop := sealRowsUptoRow.holds Try.pinned (OpenSpec.upto sealRowsSpec)

/-- 'tailracelaw05.SealCuts', WHERE WHAT IT READS IS OF BULK AT MOST 1048576: true; the input reads as it did. -/
def sealCutsUptoRow : OpenClaim := { program := "ytfiaekgmblbmiaa", sum := "8e5e966ed7a70e13d80a6b411cc9fd39be4a4e1ca7eb1119d036e2c7d76e3a6e", func := "tailrace/tailracelaw05.SealCuts", spec := "sealCuts", apart := false, narrowed := true }
def SealCutsUptoSaid : Prop := sealCutsUptoRow.holds Try.pinned (OpenSpec.upto sealCutsSpec)

/-- 'tailracelaw05.SealRuns', WHERE WHAT IT READS IS OF BULK AT MOST 1048576: true; the input reads as it did. -/
def sealRunsUptoRow : OpenClaim := { program := "ytfiaekgmblbmiaa", sum := "8e5e966ed7a70e13d80a6b411cc9fd39be4a4e1ca7eb1119d036e2c7d76e3a6e", func := "tailrace/tailracelaw05.SealRuns", spec := "sealRuns", apart := false, narrowed := true }
def SealRunsUptoSaid : Prop := sealRunsUptoRow.holds Try.pinned (OpenSpec.upto sealRunsSpec)

end Rows
end Go.Proofs.Ytfiaekgmblbmiaa
