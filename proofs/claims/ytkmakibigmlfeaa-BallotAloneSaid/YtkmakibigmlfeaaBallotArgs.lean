/- The law of one master alone, of arguments. -/
import Derived.Test.YtkmakibigmlfeaaBallotLaw
import Derived.Test.YtkmakibigmlfeaaAmArg
set_option linter.unusedVariables false
set_option linter.unusedSimpArgs false
namespace Go.Proofs.Ytkmakibigmlfeaa
open Go.Am
abbrev slW : TypeId → Nat → Prop := fun e n => n * Try.prog.bytesOf e ≤ reachBytes
abbrev stW : Nat → Prop := fun n => n ≤ reachBytes
theorem cells5 : Try.prog.cellsOf 5 = 1 := by kernel_rfl
theorem cells33 : Try.prog.cellsOf 33 = 1 := by kernel_rfl
theorem bytes33 : Try.prog.bytesOf 33 = 24 := by kernel_rfl
theorem hasN (p q : Bool) : scalarBin Try.prog .neq 4 (.bool p) (.bool q) = some (.bool (p != q)) := by
  have : pureRun Try.prog (Op.equal 4 (.bool p) (.bool q)) = some (p == q) := eqin_bool Try.underlying4 9999 p q
  simp [scalarBin, eqGuard, binOp, pr_bind, pr_prog, pr_pure, pr_map, this]
  cases p <;> cases q <;> rfl
set_option maxRecDepth 100000 in
theorem alone_row {avs : List AV} (h : okArgs Try.prog slW stW Try.f3.params.toList avs) : AWF Try.prog ann 0 3 avs (fun _ => none) fun v _ => v = .sc (.bool true) := by
  obtain ⟨a, b, rfl, ha, hb⟩ := okArgs2 (t := 5) (u := 22) h
  obtain ⟨x, rfl, h1, h2⟩ := okarg_int Try.underlying5 ha
  obtain ⟨es, l, hv, hR, hw⟩ := okarg_slice (R := CmR) Try.underlying22 cells33 (fun m y hy => by
    obtain ⟨l, ⟨w, h1, h2⟩, _⟩ := okav_bytes Try.underlying33 Try.underlying5 cells5 hy
    exact ⟨l, w, h1, h2⟩) hb
  have e1 : IntKind.u8.min = 0 := rfl
  have e2 : IntKind.u8.max = 255 := rfl
  rw [e1] at h1
  rw [e2] at h2
  have hlen : l.length < 2 ^ 60 := by
    by_cases hl : l = []
    · subst hl; simp
    · have := hw.2 hl
      simp only [slW, bytes33, reachBytes] at this
      omega
  obtain ⟨n, rfl⟩ : ∃ n : Nat, x = (n : Int) := ⟨x.toNat, by omega⟩
  exact alone_law has hasN (by omega) hv hR hlen _
end Go.Proofs.Ytkmakibigmlfeaa
