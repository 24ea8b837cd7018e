/- The law of orders, for arguments that came in. -/
import Derived.Test.YtmdkgaljnoookaaSheafOrdLaw
import Derived.Test.YtmdkgaljnoookaaSheafArgs
set_option linter.unusedVariables false
namespace Go.Proofs.Ytmdkgaljnoookaa
open Go.Am
theorem cells5 : Try.prog.cellsOf 5 = 1 := by kernel_rfl
theorem bytes5 : Try.prog.bytesOf 5 = 1 := by kernel_rfl
theorem orders_row {avs : List AV} (h : okArgs Try.prog slW stW Try.f4.params.toList avs) : AWF Try.prog ann 0 4 avs (fun _ => none) fun v _ => v = .sc (.bool true) := by
  obtain ⟨a, b, rfl, ha, hb⟩ := okArgs2 (t := 22) (u := 31) h
  obtain ⟨l, h1, h2⟩ := pairs_ok ha
  obtain ⟨m, g1, g2, g3⟩ := okarg_bytes Try.underlying31 Try.underlying5 cells5 hb
  have hm : m.length < 2 ^ 60 := by
    by_cases hl : m = []
    · subst hl; simp
    · have := g3 hl
      simp only [slW, bytes5, reachBytes] at this
      omega
  exact orders_law has lb hasC h1 g1 (by omega) hm _
end Go.Proofs.Ytmdkgaljnoookaa
