/- The law of scans, of arguments. -/
import Derived.Test.YtmdkgaljnoookaaSheafScanLaw
import Derived.Test.YtmdkgaljnoookaaSheafArgs
set_option linter.unusedVariables false
namespace Go.Proofs.Ytmdkgaljnoookaa
open Go.Am
theorem scans_row {avs : List AV} (h : okArgs Try.prog slW stW Try.f5.params.toList avs) : AWF Try.prog ann 0 5 avs (fun _ => none) fun v _ => v = .sc (.bool true) := by
  obtain ⟨a, b, c, rfl, ha, hb, hc⟩ := okArgs3 (t := 22) (u := 36) (v := 3) h
  obtain ⟨l, h1, h2⟩ := pairs_ok ha
  obtain ⟨n, cs, rfl, hes⟩ := okarg_array Try.underlying36 hb
  obtain ⟨x, xs, rfl, hx, y, ys, rfl, hy, rfl⟩ := hes
  obtain ⟨f, rfl, _⟩ := okav_string Try.underlying9 hx
  obtain ⟨g, rfl, _⟩ := okav_string Try.underlying9 hy
  obtain ⟨m, rfl, hm⟩ := okarg_int Try.underlying3 hc
  have : m < 2 ^ 63 := by
    have := hm.2
    simp [IntKind.max, IntKind.signed, IntKind.bits] at this
    omega
  exact scans_law has lb hasC h1 (by omega) this _
end Go.Proofs.Ytmdkgaljnoookaa
