/-
  No cell of these rows narrows 'for every input' (looked for: loops, veiled, ifaces, maps, wideKeys, modest, calm, conditions, laid).
  DERIVED. THE GIVEN ROWS OF THIS SEAT. 4 by the template 'for every input the law returns true; each argument reads behind the call as it read before'; 0 by the template 'total and deterministic' (their statements: YtmdkgaljnoookaaTotals.lean).
  GIVEN WITH THE SEED: the statements are not yours to turn. If you find one false, say at which input.
  Laid BY PROGRAM, IN A SANDBOX (cutbox-rows.mjs): the forced cells as the released guide's own fill.sh prints them over the translation 05dbeba5ad93439d… (all of the seat's roots in one cut). By AI agents, Wed Nov 11 2026. No macro, syntax, notation, axiom, sorry.
-/
import Derived.Test.YtmdkgaljnoookaaChecked
import GoSem.Claim
import GoSem.ClaimJoined
import GoSem.ClaimMapViews
import Derived.JoinedTies
import Derived.KernelRfl
namespace Go.Proofs.Ytmdkgaljnoookaa
/- THE CELL 'sum', in the pinned program and in every row, IS THE sha256 OF THE DUMP (.gsa) THAT YtmdkgaljnoookaaProg.lean LOADS. Nothing in Lean hashes anything: it is a label: what it is worth is what the hold of that sum in a sandbox is worth. -/
noncomputable def Try.pinned : Pinned := { name := "ytmdkgaljnoookaa", sum := "05dbeba5ad93439d516c536f2664a81e9a4b8882fa1430f2d77f7dc82f5832ac", checked := Try.checked }
namespace Rows
def none {H : Type} : Left H := { results := [], args := [] }

/-- 'tailracelaw08.SheafMerges': WHATEVER THE INPUT: true; the input reads as it did. -/
def sheafMergesSpec : ChangeSpec := { name := "sheafMerges", fn := fun _ => fun
  | [d1, d2] => { results := [.lit (.bool true)], args := [d1, d2] }
  | _ => none }
def sheafMergesRow : OpenClaim := { program := "ytmdkgaljnoookaa", sum := "05dbeba5ad93439d516c536f2664a81e9a4b8882fa1430f2d77f7dc82f5832ac", func := "tailrace/tailracelaw08.SheafMerges", spec := "sheafMerges", inPlace := ["internal/bytealg.abigen_runtime_cmpstring"], unfollowed := true, recurses := true, apart := false }
def SheafMergesSaid : Prop := sheafMergesRow.holds Try.pinned (OpenSpec.ofChange sheafMergesSpec)

/-- ITS FALSE NEIGHBOUR: 'it returns false'. Refute it at one input. -/
def sheafMergesWrong : ChangeSpec := { name := "sheafMerges", fn := fun _ => fun
  | [d1, d2] => { results := [.lit (.bool false)], args := [d1, d2] }
  | _ => none }
def SheafMergesWrongFalsely : Prop := sheafMergesRow.holds Try.pinned (OpenSpec.ofChange sheafMergesWrong)

/-- 'tailracelaw08.SheafOrders': WHATEVER THE INPUT: true; the input reads as it did. -/
def sheafOrdersSpec : ChangeSpec := { name := "sheafOrders", fn := fun _ => fun
  | [d1, d2] => { results := [.lit (.bool true)], args := [d1, d2] }
  | _ => none }
def sheafOrdersRow : OpenClaim := { program := "ytmdkgaljnoookaa", sum := "05dbeba5ad93439d516c536f2664a81e9a4b8882fa1430f2d77f7dc82f5832ac", func := "tailrace/tailracelaw08.SheafOrders", spec := "sheafOrders", inPlace := ["internal/bytealg.abigen_runtime_cmpstring"], unfollowed := true, recurses := true, apart := false }
def SheafOrdersSaid : Prop := sheafOrdersRow.holds Try.pinned (OpenSpec.ofChange sheafOrdersSpec)

/-- ITS FALSE NEIGHBOUR: 'it returns false'. Refute it at one input. -/
def sheafOrdersWrong : ChangeSpec := { name := "sheafOrders", fn := fun _ => fun
  | [d1, d2] => { results := [.lit (.bool false)], args := [d1, d2] }
  | _ => none }
def SheafOrdersWrongFalsely : Prop := sheafOrdersRow.holds Try.pinned (OpenSpec.ofChange sheafOrdersWrong)

/-- 'tailracelaw08.SheafScans': WHATEVER THE INPUT: true; the input reads as it did. -/
def sheafScansSpec : ChangeSpec := { name := "sheafScans", fn := fun _ => fun
  | [d1, d2, d3] => { results := [.lit (.bool true)], args := [d1, d2, d3] }
  | _ => none }
def sheafScansRow : OpenClaim := { program := "ytmdkgaljnoookaa", sum := "05dbeba5ad93439d516c536f2664a81e9a4b8882fa1430f2d77f7dc82f5832ac", func := "tailrace/tailracelaw08.SheafScans", spec := "sheafScans", inPlace := ["internal/bytealg.abigen_runtime_cmpstring"], unfollowed := true, recurses := true, apart := false }
def SheafScansSaid : Prop := sheafScansRow.holds Try.pinned (OpenSpec.ofChange sheafScansSpec)

/-- ITS FALSE NEIGHBOUR: 'it returns false'. Refute it at one input. -/
def sheafScansWrong : ChangeSpec := { name := "sheafScans", fn := fun _ => fun
  | [d1, d2, d3] => { results := [.lit (.bool false)], args := [d1, d2, d3] }
  | _ => none }
def SheafScansWrongFalsely : Prop := sheafScansRow.holds Try.pinned (OpenSpec.ofChange sheafScansWrong)

/-- 'tailracelaw08.SheafTurns': WHATEVER THE INPUT: true; the input reads as it did. -/
def sheafTurnsSpec : ChangeSpec := { name := "sheafTurns", fn := fun _ => fun
  | [d1, d2, d3] => { results := [.lit (.bool true)], args := [d1, d2, d3] }
  | _ => none }
def sheafTurnsRow : OpenClaim := { program := "ytmdkgaljnoookaa", sum := "05dbeba5ad93439d516c536f2664a81e9a4b8882fa1430f2d77f7dc82f5832ac", func := "tailrace/tailracelaw08.SheafTurns", spec := "sheafTurns", inPlace := ["internal/bytealg.abigen_runtime_cmpstring"], unfollowed := true, recurses := true, apart := false }
def SheafTurnsSaid : Prop := sheafTurnsRow.holds Try.pinned (OpenSpec.ofChange sheafTurnsSpec)

/-- ITS FALSE NEIGHBOUR: 'it returns false'. Refute it at one input. -/
def sheafTurnsWrong : ChangeSpec := { name := "sheafTurns", fn := fun _ => fun
  | [d1, d2, d3] => { results := [.lit (.bool false)], args := [d1, d2, d3] }
  | _ => none }
def SheafTurnsWrongFalsely : Prop := sheafTurnsRow.holds Try.pinned (OpenSpec.ofChange sheafTurnsWrong)

/- THE SECOND FORM. 'bulk': how many values and letters a reading holds, each counted each time it is reached (what is shared counts as often as it is met; a slice's spare places count too). A statement '..UptoSaid' is the law's where the arguments, and the package variables that the reading takes, are together of bulk at most 1048576: NARROWER than '..Said'. Prove '..Said' where nothing that the law and all that it calls make is longer than what came in: it says more and counts as full. Else prove '..UptoSaid'. A law counts once. -/
mutual
def uptoBulk {H : Type} : DataW H → Nat
  | .lit (.string bytes) => bytes.length + 1
  | .lit _ => 1
  | .nil => 1
  | .ptr d => uptoBulk d + 1
  | .slice elems spare => uptoBulkAll elems + uptoBulkAll spare + 1
  | .agg parts => uptoBulkAll parts + 1
  | .iface _ d => uptoBulk d + 1
  | .map entries => uptoBulkEntries entries + 1
  | .held _ => 1
def uptoBulkAll {H : Type} : List (DataW H) → Nat
  | [] => 0
  | d :: r => uptoBulk d + uptoBulkAll r
def uptoBulkEntries {H : Type} : List (Lit × DataW H) → Nat
  | [] => 0
  | x :: r => uptoBulkEntry x + uptoBulkEntries r
def uptoBulkEntry {H : Type} : Lit × DataW H → Nat
  | (.string bytes, d) => bytes.length + uptoBulk d + 1
  | (_, d) => uptoBulk d + 1
 end
def uptoSmall : (H : Type) → List (DataW H) → Bool := fun _ ds => decide (uptoBulkAll ds ≤ 1048576)
def OpenSpec.upto (s : _root_.Go.ChangeSpec) : _root_.Go.OpenSpec := { _root_.Go.OpenSpec.ofChange s with cond := some uptoSmall }

/-- 'tailracelaw08.SheafMerges', WHERE WHAT IT READS IS OF BULK AT MOST 1048576: true; the input reads as it did. -/
def sheafMergesUptoRow : OpenClaim := { program := "ytmdkgaljnoookaa", sum := "05dbeba5ad93439d516c536f2664a81e9a4b8882fa1430f2d77f7dc82f5832ac", func := "tailrace/tailracelaw08.SheafMerges", spec := "sheafMerges", inPlace := ["internal/bytealg.abigen_runtime_cmpstring"], unfollowed := true, recurses := true, apart := false, narrowed := true }
def SheafMergesUptoSaid : Prop := sheafMergesUptoRow.holds Try.pinned (OpenSpec.upto sheafMergesSpec)

/-- 'tailracelaw08.SheafOrders', WHERE WHAT IT READS IS OF BULK AT MOST 1048576: true; the input reads as it did. -/
def sheafOrdersUptoRow : OpenClaim := { program := "ytmdkgaljnoookaa", sum := "05dbeba5ad93439d516c536f2664a81e9a4b8882fa1430f2d77f7dc82f5832ac", func := "tailrace/tailracelaw08.SheafOrders", spec := "sheafOrders", inPlace := ["internal/bytealg.abigen_runtime_cmpstring"], unfollowed := true, recurses := true, apart := false, narrowed := true }
def SheafOrdersUptoSaid : Prop := sheafOrdersUptoRow.holds Try.pinned (OpenSpec.upto sheafOrdersSpec)

/-- 'tailracelaw08.SheafScans', WHERE WHAT IT READS IS OF BULK AT MOST 1048576: true; the input reads as it did. -/
def sheafScansUptoRow : OpenClaim := { program := "ytmdkgaljnoookaa", sum := "05dbeba5ad93439d516c536f2664a81e9a4b8882fa1430f2d77f7dc82f5832ac", func := "tailrace/tailracelaw08.SheafScans", spec := "sheafScans", inPlace := ["internal/bytealg.abigen_runtime_cmpstring"], unfollowed := true, recurses := true, apart := false, narrowed := true }
def SheafScansUptoSaid : Prop := sheafScansUptoRow.holds Try.pinned (OpenSpec.upto sheafScansSpec)

/-- 'tailracelaw08.SheafTurns', WHERE WHAT IT READS IS OF BULK AT MOST 1048576: true; the input reads as it did. -/
def sheafTurnsUptoRow : OpenClaim := { program := "ytmdkgaljnoookaa", sum := "05dbeba5ad93439d516c536f2664a81e9a4b8882fa1430f2d77f7dc82f5832ac", func := "tailrace/tailracelaw08.SheafTurns", spec := "sheafTurns", inPlace := ["internal/bytealg.abigen_runtime_cmpstring"], unfollowed := true, recurses := true, apart := false, narrowed := true }
def SheafTurnsUptoSaid : Prop := sheafTurnsUptoRow.holds Try.pinned (OpenSpec.upto sheafTurnsSpec)

end Rows
end Go.Proofs.Ytmdkgaljnoookaa
