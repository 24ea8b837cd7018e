/- The laws of the package seal, for arguments that came in. -/
import Derived.Test.YtfiaekgmblbmiaaSealLaws
import Derived.Test.YtfiaekgmblbmiaaAmArg
set_option linter.unusedVariables false
namespace Go.Proofs.Ytfiaekgmblbmiaa
open Go.Am
theorem cells5 : Try.prog.cellsOf 5 = 1 := by kernel_rfl
theorem cells22 : Try.prog.cellsOf 22 = 1 := by kernel_rfl
theorem bytes5 : Try.prog.bytesOf 5 = 1 := by kernel_rfl
theorem bytes22 : Try.prog.bytesOf 22 = 24 := by kernel_rfl
abbrev slW : TypeId → Nat → Prop := fun e n => n * Try.prog.bytesOf e ≤ reachBytes
abbrev stW : Nat → Prop := fun n => n ≤ reachBytes
theorem len_bytes {l : List UInt8} (h : l ≠ [] → slW 5 l.length) : l.length < 2 ^ 48 := by
  by_cases hl : l = []
  · subst hl; simp
  · have := h hl
    simp only [slW, bytes5, reachBytes] at this
    omega
theorem records_row {avs : List AV} (h : okArgs Try.prog slW stW Try.f3.params.toList avs) : AWF Try.prog ann 0 3 avs (fun _ => none) fun v _ => v = .sc (.bool true) := by
  obtain ⟨a, rfl, ha⟩ := okArgs1 (t := 22) h
  obtain ⟨l, h1, h2, h3⟩ := okarg_bytes Try.underlying22 Try.underlying5 cells5 ha
  have := len_bytes h3
  exact records_law has h1 (by omega) _
theorem rows_row {avs : List AV} (h : okArgs Try.prog slW stW Try.f5.params.toList avs) : AWF Try.prog ann 0 5 avs (fun _ => none) fun v _ => v = .sc (.bool true) := by
  obtain ⟨a, rfl, ha⟩ := okArgs1 (t := 22) h
  obtain ⟨l, h1, h2, h3⟩ := okarg_bytes Try.underlying22 Try.underlying5 cells5 ha
  have := len_bytes h3
  exact rows_law has h1 (by omega) _
end Go.Proofs.Ytfiaekgmblbmiaa
