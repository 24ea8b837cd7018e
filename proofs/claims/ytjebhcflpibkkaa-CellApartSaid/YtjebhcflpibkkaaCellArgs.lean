/- Cells that came in as arguments. -/
import Derived.Test.YtjebhcflpibkkaaCellLaw1
import Derived.Test.YtjebhcflpibkkaaAmArg
set_option linter.unusedVariables false
set_option linter.unusedSimpArgs false
namespace Go.Proofs.Ytjebhcflpibkkaa
open Go.Am
abbrev slW : TypeId → Nat → Prop := fun e n => n * Try.prog.bytesOf e ≤ reachBytes
abbrev stW : Nat → Prop := fun n => n ≤ reachBytes
theorem cells24 : Try.prog.cellsOf 24 = 4 := by kernel_rfl
theorem bytes24 : Try.prog.bytesOf 24 = 56 := by kernel_rfl
theorem i64_rng {x : Int} (h : IntKind.i64.min ≤ x ∧ x ≤ IntKind.i64.max) : -9223372036854775808 ≤ x ∧ x < 9223372036854775808 := by
  simp [IntKind.min, IntKind.max, IntKind.signed, IntKind.bits] at h
  omega
theorem len_rng {α : Type} {xs : List α} (h : xs ≠ [] → slW 24 xs.length) : xs.length * 56 ≤ 2 ^ 47 := by
  by_cases hx : xs = []
  · subst hx; simp
  · have := h hx
    simp only [slW, bytes24, reachBytes] at this
    omega
theorem cell_av : ∀ (m : Nat) (x : List AV), OkAv Try.prog slW stW m 24 x → ∃ c, CE x c := by
  intro m
  induction m using Nat.strongRecOn with
  | _ m ih =>
    intro x hx
    obtain ⟨k, hk, hf⟩ := okav_struct Try.underlying24 hx
    obtain ⟨a, b, rfl, ha, b1, b2, rfl, hb, c1, c2, rfl, hc, d1, d2, rfl, hd, rfl⟩ := hf
    obtain ⟨kk, rfl, hkk⟩ := okav_int Try.underlying3 ha
    obtain ⟨nn, rfl, hnn⟩ := okav_int Try.underlying3 hb
    obtain ⟨s, rfl, hs1, hs2⟩ := okav_string Try.underlying9 hc
    obtain ⟨w, es, xs, rfl, h1, h2, h3, h4⟩ := okav_slice (R := CE) Try.underlying22 cells24 (fun m' x' hm' hx' => ih m' (by omega) x' hx') hd
    have hl := len_rng h4
    refine ⟨.mk kk nn s xs, CE.in (fits_small (i64_rng hkk) (i64_rng hnn) ?_ (by omega)) h1 h2⟩
    simp only [stW, reachBytes] at hs2
    omega
theorem cells_arg {a : AV} (h : OkArg Try.prog slW stW 22 a) : ∃ es l, SF 4 a es ∧ RR CE es l ∧ es.length * 56 ≤ 2 ^ 47 := by
  obtain ⟨es, xs, h1, h2, h3, h4⟩ := okarg_slice (R := CE) Try.underlying22 cells24 (fun m x hx => cell_av m x hx) h
  exact ⟨es, xs, h1, h2, by rw [h2.len]; exact len_rng h4⟩
theorem cell_arg {a : AV} (h : OkArg Try.prog slW stW 24 a) : ∃ cs c, a = .ag cs ∧ CE cs c := by
  obtain ⟨n, cs, rfl, hf⟩ := okarg_struct Try.underlying24 h
  have : OkAv Try.prog slW stW (n + 1) 24 cs := by
    simp only [OkAv, Try.underlying24]
    exact hf
  obtain ⟨c, hc⟩ := cell_av _ _ this
  exact ⟨cs, c, rfl, hc⟩
theorem makes_row {avs : List AV} (h : okArgs Try.prog slW stW Try.f3.params.toList avs) : AWF Try.prog ann 0 3 avs (fun _ => none) fun v _ => v = .sc (.bool true) := by
  obtain ⟨a, b, c, rfl, ha, hb, hc⟩ := okArgs3 (t := 3) (u := 9) (v := 22) h
  obtain ⟨n, rfl, hn⟩ := okarg_int Try.underlying3 ha
  obtain ⟨s, rfl, _, hs⟩ := okarg_string Try.underlying9 hb
  obtain ⟨es, l, h1, h2, h3⟩ := cells_arg hc
  simp only [stW, reachBytes] at hs
  exact makes_law has h1 h2 (i64_rng hn) (by omega) h3 _
end Go.Proofs.Ytjebhcflpibkkaa
