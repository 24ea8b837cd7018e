/- Ethers as arguments. -/
import Derived.Test.YtomfknocpijmbaaEtherM4
import Derived.Test.YtomfknocpijmbaaAmArg
set_option linter.unusedVariables false
set_option linter.unusedSimpArgs false
namespace Go.Proofs.Ytomfknocpijmbaa
open Go.Am
abbrev slE : TypeId → Nat → Prop := fun e n => n * Try.prog.bytesOf e ≤ reachBytes
abbrev stE : Nat → Prop := fun n => n ≤ reachBytes
theorem hasNE (p q : Bool) : scalarBin Try.prog .neq 4 (.bool p) (.bool q) = some (.bool (p != q)) := by
  have : pureRun Try.prog (Op.equal 4 (.bool p) (.bool q)) = some (p == q) := eqin_bool Try.underlying4 9999 p q
  simp [scalarBin, eqGuard, binOp, pr_bind, pr_prog, pr_pure, pr_map, this]
  cases p <;> cases q <;> rfl
theorem cut_av {m : Nat} {x : List AV} (h : OkAv Try.prog slE stE m 69 x) : ∃ k : Int × Int, CK x k := by
  obtain ⟨k, _, hf⟩ := okav_array Try.underlying69 h
  obtain ⟨a, _, rfl, ha, b, _, rfl, hb, rfl⟩ := hf
  obtain ⟨n, rfl, _⟩ := okav_int Try.underlying3 ha
  obtain ⟨n2, rfl, _⟩ := okav_int Try.underlying3 hb
  exact ⟨(n, n2), rfl⟩
theorem pcl_av {m : Nat} {x : List AV} (h : OkAv Try.prog slE stE m 61 x) : ∃ y : Pcl, PcR x y := by
  obtain ⟨k, _, hf⟩ := okav_struct Try.underlying61 h
  obtain ⟨a, _, rfl, ha, b, _, rfl, hb, rfl⟩ := hf
  obtain ⟨l, ⟨w, rfl, hw⟩, _⟩ := okav_bytes Try.underlying27 Try.underlying5 (by kernel_rfl) ha
  obtain ⟨b, rfl⟩ := okav_bool Try.underlying4 hb
  exact ⟨(l, b), w, rfl, hw⟩
theorem bag_av {m : Nat} {x : List AV} (h : OkAv Try.prog slE stE m 54 x) : ∃ y : Bg, BgR x y := by
  obtain ⟨k, _, hf⟩ := okav_struct Try.underlying54 h
  obtain ⟨a, _, rfl, ha, b, _, rfl, hb, c, _, rfl, hc, rfl⟩ := hf
  obtain ⟨n, rfl, _⟩ := okav_int Try.underlying3 ha
  obtain ⟨n2, rfl, _⟩ := okav_int Try.underlying3 hb
  obtain ⟨lv, es, l, rfl, hlv, hL, _⟩ := okav_slice (R := PcR) Try.underlying52 (by kernel_rfl : Try.prog.cellsOf 61 = 2) (fun m' x' _ hx' => pcl_av hx') hc
  exact ⟨⟨(n, n2), l⟩, lv, es, rfl, hlv, hL⟩
theorem eth_arg {v : AV} (h : OkArg Try.prog slE stE 25 v) : ∃ E, EthV v E := by
  obtain ⟨n, cs, rfl, hf⟩ := okarg_struct Try.underlying25 h
  obtain ⟨a, _, rfl, ha, b, _, rfl, hb, rfl⟩ := hf
  obtain ⟨bv, bes, B, rfl, hbv, hB, _⟩ := okav_slice (R := BgR) Try.underlying22 (by kernel_rfl : Try.prog.cellsOf 54 = 3) (fun m' x' _ hx' => bag_av hx') ha
  obtain ⟨cv, ces, C, rfl, hcv, hC, _⟩ := okav_slice (R := CK) Try.underlying23 (by kernel_rfl : Try.prog.cellsOf 69 = 2) (fun m' x' _ hx' => cut_av hx') hb
  exact ⟨⟨B, C⟩, bv, cv, bes, ces, rfl, hbv, hB, hcv, hC⟩
end Go.Proofs.Ytomfknocpijmbaa
