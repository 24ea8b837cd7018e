/-
  DERIVED. GIVEN WITH THE SEED: THE CARDS: each row of YtcdfdnmnnepnoaaDoorRows.lean that lists a variable, with what it lists TIED to the program's text (the seventh form; the later family's looks); each row that meets fmt, with fmt's text TOLD by the authors' own Lean function (tested against real Go, not proved from fmt's source: count such statements apart). THE CARD IS WHAT COUNTS. Prove the row's statement (the work); the ties are given (YtcdfdnmnnepnoaaDoorTie.lean); close each card by the builder's one call (the guide's Derived/Test/ToyasCard.lean, 'card_holds'). Laid BY PROGRAM, IN A SANDBOX (cutbox-door.mjs). By AI agents, Wed Nov 11 2026. No macro, syntax, notation, axiom, sorry.
-/
import Derived.Test.YtcdfdnmnnepnoaaDoorRows
import GoSem.ClaimSeven
namespace Go.Proofs.YtcdfdnmnnepnoaaDoor
namespace Rows

/-- THE TIED CARD OF 'tailracelaw02.RankKeys'. -/
def rankKeysCard : Claim7 := { stood := { row := rankKeysRow, standIns := [], harness := (true, "d2e9a151578715d69f261fdf1fa48582e96574cca71874fb0b9ecf29bb737f95"), looks := false }, kinds := [], alts := [], laidByText := true, laidKinds := [.data, .pinned], laidTests := true, laidLooks := .later }
def RankKeysCardSaid : Prop := Claim7.holds Tryd.pinned (.plain (OpenSpec.ofChange rankKeysSpec)) rankKeysCard

/-- THE TIED CARD OF 'tailracelaw02.RankParses'. -/
def rankParsesCard : Claim7 := { stood := { row := rankParsesRow, standIns := [], harness := (true, "d2e9a151578715d69f261fdf1fa48582e96574cca71874fb0b9ecf29bb737f95"), looks := false }, kinds := [], alts := [], laidByText := true, laidKinds := [.data, .pinned], laidTests := true, laidLooks := .later }
def RankParsesCardSaid : Prop := Claim7.holds Tryd.pinned (.plain (OpenSpec.ofChange rankParsesSpec)) rankParsesCard

/-- THE SECOND FORM's CARD OF 'tailracelaw02.RankKeys'. -/
def rankKeysUptoCard : Claim7 := { stood := { row := rankKeysUptoRow, standIns := [], harness := (true, "d2e9a151578715d69f261fdf1fa48582e96574cca71874fb0b9ecf29bb737f95"), looks := false }, kinds := [], alts := [], laidByText := true, laidKinds := [.data, .pinned], laidTests := true, laidLooks := .later }
def RankKeysUptoCardSaid : Prop := Claim7.holds Tryd.pinned (.plain (OpenSpec.upto rankKeysSpec)) rankKeysUptoCard

/-- THE SECOND FORM's CARD OF 'tailracelaw02.RankParses'. -/
def rankParsesUptoCard : Claim7 := { stood := { row := rankParsesUptoRow, standIns := [], harness := (true, "d2e9a151578715d69f261fdf1fa48582e96574cca71874fb0b9ecf29bb737f95"), looks := false }, kinds := [], alts := [], laidByText := true, laidKinds := [.data, .pinned], laidTests := true, laidLooks := .later }
def RankParsesUptoCardSaid : Prop := Claim7.holds Tryd.pinned (.plain (OpenSpec.upto rankParsesSpec)) rankParsesUptoCard
end Rows
end Go.Proofs.YtcdfdnmnnepnoaaDoor
