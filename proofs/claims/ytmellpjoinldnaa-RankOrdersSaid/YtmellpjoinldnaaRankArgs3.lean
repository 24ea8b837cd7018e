/- The law of order, for arguments that came in. -/
import Derived.Test.YtmellpjoinldnaaRankOrd
import Derived.Test.YtmellpjoinldnaaRankArgs2
set_option linter.unusedVariables false
set_option linter.unusedSimpArgs false
namespace Go.Proofs.Ytmellpjoinldnaa
open Go.Am
theorem orders_row {avs : List AV} (h : okArgs Try.prog slW stW Try.f6.params.toList avs) : AWF Try.prog ann 0 6 avs (fun _ => none) fun v _ => v = .sc (.bool true) := by
  obtain ⟨a, b, rfl, ha, hb⟩ := okArgs2 (t := 22) (u := 22) h
  obtain ⟨l, h1, h2⟩ := vls_ok ha
  obtain ⟨m, g1, g2⟩ := vls_ok hb
  exact orders_law has hasC lb hasD h1 g1 (by omega) (by omega) _
end Go.Proofs.Ytmellpjoinldnaa
