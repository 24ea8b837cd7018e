/- The law of a sheaf with a pair, of arguments. -/
import Derived.Test.YtmdkgaljnoookaaSheafTurnLaw
import Derived.Test.YtmdkgaljnoookaaSheafArgs
set_option linter.unusedVariables false
set_option linter.unusedSimpArgs false
namespace Go.Proofs.Ytmdkgaljnoookaa
open Go.Am
theorem hasB : HasB Try.prog where
  bne p q := by
    have : pureRun Try.prog (Op.equal 4 (.bool p) (.bool q)) = some (p == q) := eqin_bool Try.underlying4 9999 p q
    simp [scalarBin, eqGuard, binOp, pr_bind, pr_prog, pr_pure, pr_map, this]
    cases p <;> cases q <;> rfl
  beq p q := by
    have : pureRun Try.prog (Op.equal 4 (.bool p) (.bool q)) = some (p == q) := eqin_bool Try.underlying4 9999 p q
    simp [scalarBin, eqGuard, binOp, pr_bind, pr_prog, pr_pure, pr_map, this]
theorem turns_row {avs : List AV} (h : okArgs Try.prog slW stW Try.f6.params.toList avs) : AWF Try.prog ann 0 6 avs (fun _ => none) fun v _ => v = .sc (.bool true) := by
  obtain ⟨a, b, c, rfl, ha, hb, hc⟩ := okArgs3 (t := 22) (u := 9) (v := 9) h
  obtain ⟨l, h1, h2⟩ := pairs_ok ha
  obtain ⟨k, rfl, _⟩ := okarg_string Try.underlying9 hb
  obtain ⟨w, rfl, _⟩ := okarg_string Try.underlying9 hc
  exact turns_law has lb hasC hasB h1 (by omega) _
end Go.Proofs.Ytmdkgaljnoookaa
