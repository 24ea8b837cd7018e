/-
  No cell of these rows narrows 'for every input' (looked for: loops, veiled, ifaces, maps, wideKeys, modest, calm, conditions, laid).
  DERIVED. THE GIVEN ROWS OF THIS SEAT. 4 by the template 'for every input the law returns true; each argument reads behind the call as it read before'; 0 by the template 'total and deterministic' (their statements: YtmellpjoinldnaaTotals.lean).
  GIVEN WITH THE SEED: the statements are not yours to turn. If you find one false, say at which input.
  Laid BY PROGRAM, IN A SANDBOX (cutbox-rows.mjs): the forced cells as the released guide's own fill.sh prints them over the translation bed1a1da559abec0… (all of the seat's roots in one cut). By AI agents, Wed Nov 11 2026. No macro, syntax, notation, axiom, sorry.
-/
import Derived.Test.YtmellpjoinldnaaChecked
import GoSem.Claim
import GoSem.ClaimJoined
import GoSem.ClaimMapViews
import Derived.JoinedTies
import Derived.KernelRfl
namespace Go.Proofs.Ytmellpjoinldnaa
/- THE CELL 'sum', in the pinned program and in every row, IS THE sha256 OF THE DUMP (.gsa) THAT YtmellpjoinldnaaProg.lean LOADS. Nothing in Lean hashes anything: it is a label: what it is worth is what the hold of that sum in a sandbox is worth. -/
noncomputable def Try.pinned : Pinned := { name := "ytmellpjoinldnaa", sum := "bed1a1da559abec064430eb8117978a5cd78998178e8453fb67cf2effae2efcb", checked := Try.checked }
namespace Rows
def none {H : Type} : Left H := { results := [], args := [] }

/-- 'tailracelaw02.RankBegins': WHATEVER THE INPUT: true; the input reads as it did. -/
def rankBeginsSpec : ChangeSpec := { name := "rankBegins", fn := fun _ => fun
  | [d1, d2] => { results := [.lit (.bool true)], args := [d1, d2] }
  | _ => none }
def rankBeginsRow : OpenClaim := { program := "ytmellpjoinldnaa", sum := "bed1a1da559abec064430eb8117978a5cd78998178e8453fb67cf2effae2efcb", func := "tailrace/tailracelaw02.RankBegins", spec := "rankBegins", inPlace := ["internal/bytealg.abigen_runtime_cmpstring"], apart := false }
def RankBeginsSaid : Prop := rankBeginsRow.holds Try.pinned (OpenSpec.ofChange rankBeginsSpec)

/-- ITS FALSE NEIGHBOUR: 'it returns false'. Refute it at one input. -/
def rankBeginsWrong : ChangeSpec := { name := "rankBegins", fn := fun _ => fun
  | [d1, d2] => { results := [.lit (.bool false)], args := [d1, d2] }
  | _ => none }
def RankBeginsWrongFalsely : Prop := rankBeginsRow.holds Try.pinned (OpenSpec.ofChange rankBeginsWrong)

/-- 'tailracelaw02.RankMakes': WHATEVER THE INPUT: true; the input reads as it did. -/
def rankMakesSpec : ChangeSpec := { name := "rankMakes", fn := fun _ => fun
  | [d1, d2, d3] => { results := [.lit (.bool true)], args := [d1, d2, d3] }
  | _ => none }
def rankMakesRow : OpenClaim := { program := "ytmellpjoinldnaa", sum := "bed1a1da559abec064430eb8117978a5cd78998178e8453fb67cf2effae2efcb", func := "tailrace/tailracelaw02.RankMakes", spec := "rankMakes", inPlace := ["internal/bytealg.abigen_runtime_cmpstring"], apart := false }
def RankMakesSaid : Prop := rankMakesRow.holds Try.pinned (OpenSpec.ofChange rankMakesSpec)

/-- ITS FALSE NEIGHBOUR: 'it returns false'. Refute it at one input. -/
def rankMakesWrong : ChangeSpec := { name := "rankMakes", fn := fun _ => fun
  | [d1, d2, d3] => { results := [.lit (.bool false)], args := [d1, d2, d3] }
  | _ => none }
def RankMakesWrongFalsely : Prop := rankMakesRow.holds Try.pinned (OpenSpec.ofChange rankMakesWrong)

/-- 'tailracelaw02.RankSorts': WHATEVER THE INPUT: true; the input reads as it did. -/
def rankSortsSpec : ChangeSpec := { name := "rankSorts", fn := fun _ => fun
  | [d1, d2, d3] => { results := [.lit (.bool true)], args := [d1, d2, d3] }
  | _ => none }
def rankSortsRow : OpenClaim := { program := "ytmellpjoinldnaa", sum := "bed1a1da559abec064430eb8117978a5cd78998178e8453fb67cf2effae2efcb", func := "tailrace/tailracelaw02.RankSorts", spec := "rankSorts", inPlace := ["internal/bytealg.abigen_runtime_cmpstring"], apart := false }
def RankSortsSaid : Prop := rankSortsRow.holds Try.pinned (OpenSpec.ofChange rankSortsSpec)

/-- ITS FALSE NEIGHBOUR: 'it returns false'. Refute it at one input. -/
def rankSortsWrong : ChangeSpec := { name := "rankSorts", fn := fun _ => fun
  | [d1, d2, d3] => { results := [.lit (.bool false)], args := [d1, d2, d3] }
  | _ => none }
def RankSortsWrongFalsely : Prop := rankSortsRow.holds Try.pinned (OpenSpec.ofChange rankSortsWrong)

/-- 'tailracelaw02.RankOrders': WHATEVER THE INPUT: true; the input reads as it did. -/
def rankOrdersSpec : ChangeSpec := { name := "rankOrders", fn := fun _ => fun
  | [d1, d2] => { results := [.lit (.bool true)], args := [d1, d2] }
  | _ => none }
def rankOrdersRow : OpenClaim := { program := "ytmellpjoinldnaa", sum := "bed1a1da559abec064430eb8117978a5cd78998178e8453fb67cf2effae2efcb", func := "tailrace/tailracelaw02.RankOrders", spec := "rankOrders", inPlace := ["internal/bytealg.abigen_runtime_cmpstring"], unfollowed := true, recurses := true, apart := false }
def RankOrdersSaid : Prop := rankOrdersRow.holds Try.pinned (OpenSpec.ofChange rankOrdersSpec)

/-- ITS FALSE NEIGHBOUR: 'it returns false'. Refute it at one input. -/
def rankOrdersWrong : ChangeSpec := { name := "rankOrders", fn := fun _ => fun
  | [d1, d2] => { results := [.lit (.bool false)], args := [d1, d2] }
  | _ => none }
def RankOrdersWrongFalsely : Prop := rankOrdersRow.holds Try.pinned (OpenSpec.ofChange rankOrdersWrong)

/- THE SECOND FORM. 'bulk': how many values and letters a reading holds, each counted each time it is reached (what is shared counts as often as it is met; a slice's spare places count too). A statement '..UptoSaid' is the law's where the arguments, and the package variables that the reading takes, are together of bulk at most 1048576: NARROWER than '..Said'. Prove '..Said' where nothing that the law and all that it calls make is longer than what came in: it says more and counts as full. Else prove '..UptoSaid'. A law counts once. -/
mutual
def uptoBulk {H : Type} : DataW H → Nat
  | .lit (.string bytes) => bytes.length + 1
  | .lit _ => 1
  | .nil => 1
  | .ptr d => uptoBulk d + 1
  | .slice elems spare => uptoBulkAll elems + uptoBulkAll spare + 1
  | .agg parts => uptoBulkAll parts + 1
  | .iface _ d => uptoBulk d + 1
  | .map entries => uptoBulkEntries entries + 1
  | .held _ => 1
def uptoBulkAll {H : Type} : List (DataW H) → Nat
  | [] => 0
  | d :: r => uptoBulk d + uptoBulkAll r
def uptoBulkEntries {H : Type} : List (Lit × DataW H) → Nat
  | [] => 0
  | x :: r => uptoBulkEntry x + uptoBulkEntries r
def uptoBulkEntry {H : Type} : Lit × DataW H → Nat
  | (.string bytes, d) => bytes.length + uptoBulk d + 1
  | (_, d) => uptoBulk d + 1
 end
def uptoSmall : (H : Type) → List (DataW H) → Bool := fun _ ds => decide (uptoBulkAll ds ≤ 1048576)
def OpenSpec.upto (s : _root_.Go.ChangeSpec) : _root_.Go.OpenSpec := { _root_.Go.OpenSpec.ofChange s with cond := some uptoSmall }

/-- 'tailracelaw02.RankBegins', WHERE WHAT IT READS IS OF BULK AT MOST 1048576: true; the input reads as it did. -/
def rankBeginsUptoRow : OpenClaim := { program := "ytmellpjoinldnaa", sum := "bed1a1da559abec064430eb8117978a5cd78998178e8453fb67cf2effae2efcb", func := "tailrace/tailracelaw02.RankBegins", spec := "rankBegins", inPlace := ["internal/bytealg.abigen_runtime_cmpstring"], apart := false, narrowed := true }
def RankBeginsUptoSaid : Prop := rankBeginsUptoRow.holds Try.pinned (OpenSpec.upto rankBeginsSpec)

/-- 'tailracelaw02.RankMakes', WHERE WHAT IT READS IS OF BULK AT MOST 1048576: true; the input reads as it did. -/
def rankMakesUptoRow : OpenClaim := { program := "ytmellpjoinldnaa", sum := "bed1a1da559abec064430eb8117978a5cd78998178e8453fb67cf2effae2efcb", func := "tailrace/tailracelaw02.RankMakes", spec := "rankMakes", inPlace := ["internal/bytealg.abigen_runtime_cmpstring"], apart := false, narrowed := true }
def RankMakesUptoSaid : Prop := rankMakesUptoRow.holds Try.pinned (OpenSpec.upto rankMakesSpec)

/-- 'tailracelaw02.RankSorts', WHERE WHAT IT READS IS OF BULK AT MOST 1048576: true; the input reads as it did. -/
def rankSortsUptoRow : OpenClaim := { program := "ytmellpjoinldnaa", sum := "bed1a1da559abec064430eb8117978a5cd78998178e8453fb67cf2effae2efcb", func := "tailrace/tailracelaw02.RankSorts", spec := "rankSorts", inPlace := ["internal/bytealg.abigen_runtime_cmpstring"], apart := false, narrowed := true }
def RankSortsUptoSaid : Prop := rankSortsUptoRow.holds Try.pinned (OpenSpec.upto rankSortsSpec)

/-- 'tailracelaw02.RankOrders', WHERE WHAT IT READS IS OF BULK AT MOST 1048576: true; the input reads as it did. -/
def rankOrdersUptoRow : OpenClaim := { program := "ytmellpjoinldnaa", sum := "bed1a1da559abec064430eb8117978a5cd78998178e8453fb67cf2effae2efcb", func := "tailrace/tailracelaw02.RankOrders", spec := "rankOrders", inPlace := ["internal/bytealg.abigen_runtime_cmpstring"], unfollowed := true, recurses := true, apart := false, narrowed := true }
def RankOrdersUptoSaid : Prop := rankOrdersUptoRow.holds Try.pinned (OpenSpec.upto rankOrdersSpec)

end Rows
end Go.Proofs.Ytmellpjoinldnaa
