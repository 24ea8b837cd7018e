/- The laws of keys, for arguments that came in. -/
import Derived.Test.YtmellpjoinldnaaRankBeg
import Derived.Test.YtmellpjoinldnaaRankArgs
set_option linter.unusedVariables false
set_option linter.unusedSimpArgs false
namespace Go.Proofs.Ytmellpjoinldnaa
open Go.Am
theorem hasD : HasD Try.prog where
  beq p q := by
    have : pureRun Try.prog (Op.equal 4 (.bool p) (.bool q)) = some (p == q) := eqin_bool Try.underlying4 9999 p q
    simp [scalarBin, eqGuard, binOp, pr_bind, pr_prog, pr_pure, pr_map, this]
  ne a b := by
    have h := hasC.eq a b
    have hg : Try.prog.eqGuardType Try.prog.depth 31 = false := by kernel_rfl
    simp [scalarBin, eqGuard, binOp, pr_bind, pr_prog, hg, pr_pure, pr_map] at h ⊢
    rw [h]
def vlR (e : List AV) (v : Vl) : Prop := e = v.cells
theorem RR.vls : ∀ {es : List (List AV)} {l : List Vl}, RR vlR es l → es = vls l
  | [], [], _ => rfl
  | _ :: _, _ :: _, h => by
    have h1 : _ = _ := h.1
    rw [h1, RR.vls h.2]
    rfl
  | [], _ :: _, h => h.elim
  | _ :: _, [], h => h.elim
theorem bytes31 : Try.prog.bytesOf 31 = 48 := by kernel_rfl
theorem vls_ok {a : AV} (h : OkArg Try.prog slW stW 22 a) : ∃ l : List Vl, SF 5 a (vls l) ∧ l.length < 2 ^ 48 := by
  obtain ⟨es, l, h1, h2, h3, h4⟩ := okarg_slice (R := vlR) Try.underlying22 cells31 (fun m x hx => by
    obtain ⟨k, _, hf⟩ := okav_struct Try.underlying31 hx
    exact vl_fs hf) h
  rw [RR.vls h2] at h1
  refine ⟨l, h1, ?_⟩
  by_cases hl : l = []
  · subst hl; simp
  · have := h4 hl
    simp only [slW, bytes31, reachBytes] at this
    omega
theorem begins_row {avs : List AV} (h : okArgs Try.prog slW stW Try.f3.params.toList avs) : AWF Try.prog ann 0 3 avs (fun _ => none) fun v _ => v = .sc (.bool true) := by
  obtain ⟨a, b, rfl, ha, hb⟩ := okArgs2 (t := 22) (u := 22) h
  obtain ⟨l, h1, h2⟩ := vls_ok ha
  obtain ⟨m, g1, g2⟩ := vls_ok hb
  exact begins_law has hasC lb hasD h1 g1 (by omega) (by omega) _
end Go.Proofs.Ytmellpjoinldnaa
