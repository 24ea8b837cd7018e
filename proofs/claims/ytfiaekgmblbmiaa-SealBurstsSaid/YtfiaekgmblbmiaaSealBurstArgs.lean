/- The law of bursts, of arguments. -/
import Derived.Test.YtfiaekgmblbmiaaSealBurstLaw
import Derived.Test.YtfiaekgmblbmiaaSealArgs
set_option linter.unusedVariables false
set_option linter.unusedSimpArgs false
namespace Go.Proofs.Ytfiaekgmblbmiaa
open Go.Am
theorem bursts_row {avs : List AV} (h : okArgs Try.prog slW stW Try.f4.params.toList avs) : AWF Try.prog ann 0 4 avs (fun _ => none) fun v _ => v = .sc (.bool true) := by
  obtain ⟨a, b, c, rfl, ha, hb, hc⟩ := okArgs3 (t := 22) (u := 33) (v := 29) h
  obtain ⟨l, h1, h2, h3⟩ := okarg_bytes Try.underlying22 Try.underlying5 cells5 ha
  obtain ⟨x, rfl, hx⟩ := okarg_int Try.underlying33 hb
  obtain ⟨y, rfl, hy⟩ := okarg_int Try.underlying29 hc
  simp [IntKind.max, IntKind.min, IntKind.signed, IntKind.bits] at hx hy
  obtain ⟨x, rfl⟩ : ∃ k : Nat, x = (k : Nat) := ⟨x.toNat, by omega⟩
  obtain ⟨y, rfl⟩ : ∃ k : Nat, y = (k : Nat) := ⟨y.toNat, by omega⟩
  refine bursts_law has h1 ?_ (by omega) (by omega) _
  have := len_bytes h3
  omega
end Go.Proofs.Ytfiaekgmblbmiaa
