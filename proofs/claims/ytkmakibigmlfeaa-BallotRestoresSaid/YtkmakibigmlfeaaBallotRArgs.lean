/- The law of which masters there may be, of arguments. -/
import Derived.Test.YtkmakibigmlfeaaBallotM6
import Derived.Test.YtkmakibigmlfeaaAmArg
set_option linter.unusedVariables false
set_option linter.unusedSimpArgs false
namespace Go.Proofs.Ytkmakibigmlfeaa
open Go.Am
abbrev slR : TypeId → Nat → Prop := fun e n => n * Try.prog.bytesOf e ≤ reachBytes
abbrev stR : Nat → Prop := fun n => n ≤ reachBytes
theorem hasNR (p q : Bool) : scalarBin Try.prog .neq 4 (.bool p) (.bool q) = some (.bool (p != q)) := by
  have : pureRun Try.prog (Op.equal 4 (.bool p) (.bool q)) = some (p == q) := eqin_bool Try.underlying4 9999 p q
  simp [scalarBin, eqGuard, binOp, pr_bind, pr_prog, pr_pure, pr_map, this]
  cases p <;> cases q <;> rfl
theorem hasBR (p q : Bool) : scalarBin Try.prog .eql 4 (.bool p) (.bool q) = some (.bool (p == q)) := by
  have : pureRun Try.prog (Op.equal 4 (.bool p) (.bool q)) = some (p == q) := eqin_bool Try.underlying4 9999 p q
  simp [scalarBin, eqGuard, binOp, pr_bind, pr_prog, pr_pure, pr_map, this]
def inR (e : List AV) (x : Int) : Prop := e = [.sc (.int .i64 x)]
theorem rr_ints : ∀ {es : List (List AV)} {l : List Int}, RR inR es l → es = ints l
  | [], [], _ => rfl
  | e :: es, x :: l, h => by rw [h.1, rr_ints h.2]; rfl
  | [], _ :: _, h => by cases h
  | _ :: _, [], h => by cases h
theorem len_rng {α : Type} {xs : List α} {e : TypeId} (he : 1 ≤ Try.prog.bytesOf e) (h : xs ≠ [] → slR e xs.length) : xs.length < 2 ^ 60 := by
  by_cases hx : xs = []
  · subst hx; simp
  · have h1 := h hx
    have h2 := Nat.mul_le_mul_left xs.length he
    simp only [slR, reachBytes] at h1
    omega
theorem any_av {m sz : Nat} {x : List AV} {t e : TypeId} (ht : Try.prog.underlying t = some (.slice e)) (hsz : Try.prog.cellsOf e = sz) (h : OkAv Try.prog slR stR m t x) : ∃ v, x = [v] ∧ v.disc = v := by
  obtain ⟨w, es, xs, rfl, h1, _⟩ := okav_slice (R := fun _ (_ : Unit) => True) ht hsz (fun m' x' _ hx' => ⟨(), trivial⟩) h
  exact ⟨w, rfl, h1.disc⟩
theorem log_av {m : Nat} {x : List AV} (h : OkAv Try.prog slR stR m 38 x) : ∃ y, LgR x y := by
  obtain ⟨k, _, hf⟩ := okav_struct Try.underlying38 h
  obtain ⟨a, _, rfl, ha, b, _, rfl, hb, rfl⟩ := hf
  obtain ⟨n, rfl, _⟩ := okav_int Try.underlying3 ha
  obtain ⟨l, ⟨w, rfl, hw⟩, _⟩ := okav_bytes Try.underlying33 Try.underlying5 (by kernel_rfl) hb
  exact ⟨(n, l), w, rfl, hw⟩
set_option maxRecDepth 100000 in
theorem restores_row {avs : List AV} (h : okArgs Try.prog slR stR Try.f4.params.toList avs) : AWF Try.prog ann 0 4 avs (fun _ => none) fun v _ => v = .sc (.bool true) := by
  obtain ⟨a, b, c, rfl, ha, hb, hc⟩ := okArgs3 (t := 3) (u := 23) (v := 26) h
  obtain ⟨id, rfl, _⟩ := okarg_int Try.underlying3 ha
  obtain ⟨ps, p, hpv, hP, _, hpl⟩ := okarg_slice (R := inR) Try.underlying23 (by kernel_rfl : Try.prog.cellsOf 3 = 1) (fun m y hy => by
    obtain ⟨x, rfl, _⟩ := okav_int Try.underlying3 hy
    exact ⟨x, rfl⟩) hb
  rw [rr_ints hP] at hpv
  obtain ⟨n2, cs2, rfl, hf⟩ := okarg_struct Try.underlying26 hc
  obtain ⟨a1, _, rfl, g1, a2, _, rfl, g2, a3, _, rfl, g3, a4, _, rfl, g4, a5, _, rfl, g5, a6, _, rfl, g6, a7, _, rfl, g7, a8, _, rfl, g8, a9, _, rfl, g9, a10, _, rfl, g10, a11, _, rfl, g11, a12, _, rfl, g12, rfl⟩ := hf
  obtain ⟨kid, rfl, _⟩ := okav_int Try.underlying3 g1
  obtain ⟨kp, rfl, q1⟩ := any_av Try.underlying23 rfl g2
  obtain ⟨T, rfl, _⟩ := okav_int Try.underlying3 g3
  obtain ⟨vote, rfl, _⟩ := okav_int Try.underlying3 g4
  obtain ⟨lv, es, l, rfl, hlv, hL, _, hll⟩ := okav_slice (R := LgR) Try.underlying24 (by kernel_rfl : Try.prog.cellsOf 38 = 2) (fun m' x' _ hx' => log_av hx') g5
  obtain ⟨kc, rfl, _⟩ := okav_int Try.underlying3 g6
  obtain ⟨kr, rfl, _⟩ := okav_int Try.underlying3 g7
  obtain ⟨kl, rfl, _⟩ := okav_int Try.underlying3 g8
  obtain ⟨ky, rfl, q2⟩ := any_av Try.underlying23 rfl g9
  obtain ⟨kk, rfl, _⟩ := okav_int Try.underlying3 g10
  obtain ⟨kn, rfl, q3⟩ := any_av Try.underlying23 rfl g11
  obtain ⟨km, rfl, q4⟩ := any_av Try.underlying23 rfl g12
  exact restores_law has hasNR hasBR hpv hlv hL (len_rng (by decide +kernel) hpl) (len_rng (by decide +kernel) hll) q1 q2 q3 q4 _
end Go.Proofs.Ytkmakibigmlfeaa
