/- Points and whole numbers, for arguments that came in. -/
import Derived.Test.YtjnoigekhdjkcaaGaussOps6
import Derived.Test.YtjnoigekhdjkcaaAmArg
set_option linter.unusedVariables false
set_option linter.unusedSimpArgs false
namespace Go.Proofs.Ytjnoigekhdjkcaa
open Go.Am
theorem pt_eqin (a b c d : Int) : pureRun Try.prog (Op.equalIn 10000 23 (.agg #[.int .i64 a, .int .i64 b]) (.agg #[.int .i64 c, .int .i64 d])) = some (decide (a = c ∧ b = d)) := by
  have ht : ∀ (x y : Int), pureRun Try.prog (Op.equalIn 9999 3 (.int .i64 x) (.int .i64 y)) = some (decide (x = y)) := fun x y => by
    rw [eqin_int Try.underlying3 9998 x y]
    by_cases h : x = y <;> simp [h]
  have hp : ∀ (x y : Int), pureRun Try.prog (part 3 #[.int .i64 x, .int .i64 y] 0) = some (.int .i64 x) := fun x y => part_sc Try.underlying3 (fun _ => by simp) (fun _ _ => by simp) rfl
  have hq : ∀ (x y : Int), pureRun Try.prog (part 3 #[.int .i64 x, .int .i64 y] 1) = some (.int .i64 y) := fun x y => part_sc Try.underlying3 (fun _ => by simp) (fun _ _ => by simp) rfl
  rw [Bool.decide_and]
  exact eqin_two Try.underlying23 (by decide) (by decide) (by kernel_rfl) 9999 (hp a b) (hq a b) (hp c d) (hq c d) (ht a c) (ht b d)
theorem hasC : HasC Try.prog where
  bne p q := by
    have : pureRun Try.prog (Op.equal 4 (.bool p) (.bool q)) = some (p == q) := eqin_bool Try.underlying4 9999 p q
    simp [scalarBin, eqGuard, binOp, pr_bind, pr_prog, pr_pure, pr_map, this]
    cases p <;> cases q <;> rfl
  eq a b c d := sb_agg_eql (by kernel_rfl) (pt_eqin a b c d)
  ne a b c d := sb_agg_neq (by kernel_rfl) (pt_eqin a b c d)
abbrev slW : TypeId → Nat → Prop := fun e n => n * Try.prog.bytesOf e ≤ reachBytes
abbrev stW : Nat → Prop := fun n => n ≤ reachBytes
theorem point_arg {a : AV} (h : OkArg Try.prog slW stW 23 a) : ∃ p, a = ptA p ∧ IntKind.i64.min ≤ p.1 ∧ p.1 ≤ IntKind.i64.max ∧ IntKind.i64.min ≤ p.2 ∧ p.2 ≤ IntKind.i64.max := by
  obtain ⟨n, cs, rfl, hf⟩ := okarg_struct Try.underlying23 h
  obtain ⟨a, b, rfl, ha, c, d, rfl, hc, rfl⟩ := hf
  obtain ⟨x, rfl, hx⟩ := okav_int Try.underlying3 ha
  obtain ⟨y, rfl, hy⟩ := okav_int Try.underlying3 hc
  exact ⟨(x, y), rfl, hx.1, hx.2, hy.1, hy.2⟩
end Go.Proofs.Ytjnoigekhdjkcaa
