/- The laws of rows, for arguments that came in. -/
import Derived.Test.YtfiaekgmblbmiaaSealCuts
import Derived.Test.YtfiaekgmblbmiaaSealArgs
import Derived.Test.YtfiaekgmblbmiaaAmBulk
set_option linter.unusedVariables false
namespace Go.Proofs.Ytfiaekgmblbmiaa
open Go.Am
theorem len_rows {L : List (List UInt8)} (h : L ≠ [] → slW 22 L.length) : L.length < 2 ^ 48 := by
  by_cases hl : L = []
  · subst hl; simp
  · have := h hl
    simp only [slW, bytes22, reachBytes] at this
    omega
/-- Bytes of some length. -/
def bytesLR (n : Nat) (e : List AV) (l : List UInt8) : Prop := bytesR e l ∧ l.length < n
theorem RR.mem {α : Type} {R : List AV → α → Prop} : ∀ {es : List (List AV)} {xs : List α}, RR R es xs → ∀ x ∈ xs, ∃ e, R e x
  | [], [], _, x, hx => by cases hx
  | e :: es, y :: xs, h, x, hx => by
    rcases List.mem_cons.1 hx with rfl | hx
    · exact ⟨e, h.1⟩
    · exact RR.mem h.2 x hx
  | [], _ :: _, h, _, _ => h.elim
  | _ :: _, [], h, _, _ => h.elim
theorem cuts_row {avs : List AV} (h : okArgs Try.prog slW stW Try.f6.params.toList avs) : AWF Try.prog ann 0 6 avs (fun _ => none) fun v _ => v = .sc (.bool true) := by
  obtain ⟨a, b, rfl, ha, hb⟩ := okArgs2 (t := 36) (u := 33) h
  obtain ⟨es, L, h1, h2, h3, h4⟩ := okarg_slice (R := bytesLR (2 ^ 60)) Try.underlying36 cells22 (fun m x hx => by
    obtain ⟨l, q1, q2, q3⟩ := okav_bytes Try.underlying22 Try.underlying5 cells5 hx
    have := len_bytes q3
    exact ⟨l, q1, by omega⟩) ha
  obtain ⟨c, rfl, c1, c2⟩ := okarg_int Try.underlying33 hb
  have := len_rows h4
  simp [IntKind.min, IntKind.max, IntKind.signed, IntKind.bits] at c1 c2
  have e : c = ((c.toNat : Nat) : Int) := by omega
  rw [e]
  exact cuts_law has h1 (h2.imp fun _ _ q => q.1) (by omega) (fun a ha => by obtain ⟨_, q⟩ := RR.mem h2 a ha; exact q.2) c.toNat (by omega) _
theorem runs_row {avs : List AV} (h : okArgs Try.prog slB stB Try.f7.params.toList avs) : AWF Try.prog ann 0 7 avs (fun _ => none) fun v _ => v = .sc (.bool true) := by
  obtain ⟨a, b, rfl, ha, hb⟩ := okArgs2 (t := 36) (u := 36) h
  have key : ∀ {a : AV}, OkArg Try.prog slB stB 36 a → ∃ es L, SF 1 a es ∧ RR (bytesLR (2 ^ 60)) es L ∧ L.length < 2 ^ 40 := fun ha => by
    obtain ⟨es, L, h1, h2, h3, h4⟩ := okarg_slice (R := bytesLR (2 ^ 60)) Try.underlying36 cells22 (fun m x hx => by
      obtain ⟨l, q1, q2, q3⟩ := okav_bytes Try.underlying22 Try.underlying5 cells5 hx
      refine ⟨l, q1, ?_⟩
      by_cases hl : l = []
      · subst hl; simp
      · have : l.length ≤ 1048576 := q3 hl
        omega) ha
    refine ⟨es, L, h1, h2, ?_⟩
    by_cases hl : L = []
    · subst hl; simp
    · have : L.length ≤ 1048576 := h4 hl
      omega
  obtain ⟨es, A, h1, h2, h3⟩ := key ha
  obtain ⟨fs, B, g1, g2, g3⟩ := key hb
  refine runs_law has h1 (h2.imp fun _ _ q => q.1) g1 (g2.imp fun _ _ q => q.1) h3 g3 (fun a ha => ?_) _
  rcases List.mem_append.1 ha with ha | ha
  · obtain ⟨_, q⟩ := RR.mem h2 a ha; exact q.2
  · obtain ⟨_, q⟩ := RR.mem g2 a ha; exact q.2
end Go.Proofs.Ytfiaekgmblbmiaa
