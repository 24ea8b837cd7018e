/- The law of numbers, of arguments. -/
import Derived.Test.YtomfknocpijmbaaEtherM6
import Derived.Test.YtomfknocpijmbaaEtherArgs
set_option linter.unusedVariables false
set_option linter.unusedSimpArgs false
namespace Go.Proofs.Ytomfknocpijmbaa
open Go.Am
theorem hasE {f : Nat} (hf : f = 55 ∨ f = 57) {o1 c1 s1 n1 o2 c2 s2 n2 : Nat} {l1 l2 : Option Nat} {cs1 cs2 : List AV} {h : Heap} (h1 : h o1 = some (.arr cs1)) (h2 : h o2 = some (.arr cs2)) (hne : o1 ≠ o2) (hcs : cs2 ≠ []) :
    AWF Try.prog ann 0 f [.rs o1 c1 s1 n1 l1, .rs o2 c2 s2 n2 l2] h fun v h' => v = .sc (.bool false) ∧ h' = h := by
  rcases hf with rfl | rfl
  · exact overlaps_ext (tS := 22) (tR := 4) (e := 54) Try.func55 (by kernel_rfl) (by kernel_rfl) (by kernel_rfl) (by kernel_rfl) Try.underlying22 (size := 3) (by kernel_rfl) h1 h2 hne hcs
  · exact overlaps_ext (tS := 23) (tR := 4) (e := 69) Try.func57 (by kernel_rfl) (by kernel_rfl) (by kernel_rfl) (by kernel_rfl) Try.underlying23 (size := 2) (by kernel_rfl) h1 h2 hne hcs
theorem act_av {m : Nat} {x : List AV} (h : OkAv Try.prog slE stE m 42 x) : ∃ y : Act, AcR x y := by
  obtain ⟨k, _, hf⟩ := okav_struct Try.underlying42 h
  obtain ⟨a1, _, rfl, g1, a2, _, rfl, g2, a3, _, rfl, g3, a4, _, rfl, g4, a5, _, rfl, g5, rfl⟩ := hf
  obtain ⟨n1, rfl, _⟩ := okav_int Try.underlying3 g1
  obtain ⟨n2, rfl, _⟩ := okav_int Try.underlying3 g2
  obtain ⟨n3, rfl, _⟩ := okav_int Try.underlying3 g3
  obtain ⟨n4, rfl, _⟩ := okav_int Try.underlying3 g4
  obtain ⟨n5, rfl, _⟩ := okav_int Try.underlying3 g5
  exact ⟨⟨n1, n2, n3, n4, n5⟩, rfl⟩
set_option maxRecDepth 100000 in
theorem counts_row {avs : List AV} (h : okArgs Try.prog slE stE Try.f5.params.toList avs) : AWF Try.prog ann 0 5 avs (fun _ => none) fun v _ => v = .sc (.bool true) := by
  obtain ⟨a, b, rfl, ha, hb⟩ := okArgs2 (t := 25) (u := 39) h
  obtain ⟨E, bv, cv, bes, ces, rfl, hbv, hB, hcv, hC⟩ := eth_arg ha
  obtain ⟨aes, l, hlv, hA, _⟩ := okarg_slice (R := AcR) Try.underlying39 (by kernel_rfl : Try.prog.cellsOf 42 = 5) (fun m y hy => act_av hy) hb
  exact counts_law has hasNE (fun hf => hasE hf) hbv hB hcv hC hlv hA _
end Go.Proofs.Ytomfknocpijmbaa
