/- What the functions of the packages gauss and tailraceref03 come to. -/
import Derived.Test.YtjnoigekhdjkcaaGaussCode
import Derived.Test.YtjnoigekhdjkcaaAmOb
import Derived.Test.YtjnoigekhdjkcaaAmFloat
set_option linter.unusedVariables false
set_option linter.unusedSimpArgs false
namespace Go.Proofs.Ytjnoigekhdjkcaa
open Go.Am

/-- May a point be? -/
def okP (x y : Int) : Prop := (-1048576 ≤ x ∧ x ≤ 1048576) ∧ (-1048576 ≤ y ∧ y ≤ 1048576)
instance (x y : Int) : Decidable (okP x y) := by unfold okP; infer_instance
def errN (n : Nat) : AV := .sc (.int .i64 (n : Nat))
/-- What the program needs to know of points that are compared. -/
structure HasC (P : Program) : Prop where
  eq : ∀ a b c d : Int, scalarBin P .eql 23 (.agg #[.int .i64 a, .int .i64 b]) (.agg #[.int .i64 c, .int .i64 d]) = some (.bool (decide (a = c ∧ b = d)))
  ne : ∀ a b c d : Int, scalarBin P .neq 23 (.agg #[.int .i64 a, .int .i64 b]) (.agg #[.int .i64 c, .int .i64 d]) = some (.bool (!decide (a = c ∧ b = d)))
  bne : ∀ p q : Bool, scalarBin P .neq 4 (.bool p) (.bool q) = some (.bool (p != q))

variable {P : Program} (H : Has P)
include H

theorem check_ok (x y : Int) (h : Heap) : AWF P ann 0 19 [.ag [.sc (.int .i64 x), .sc (.int .i64 y)]] h fun r h' => r = errN (if okP x y then 0 else 1) ∧ h' = h := by
  refine AWF.fnPurec H.f0_19 rfl ?_
  have hO := OB.nil (h := h)
  (refine W_seq_gen fun N hN => ?_); simp (disch := first | omega | (simp only [List.length_cons, List.length_nil, List.length_append, u8s_len]; omega)) only [go_sem, ↓reduceIte, true_and, Nat.reduceLeDiff, Nat.reduceEqDiff, Nat.reduceAdd, Nat.reduceBEq, Int.reduceEq]
  intro b hb
  refine hN _ ?_; clear hN N; refine W_ob (hO.new hb) fun hc hO => ?_
  have bad : ¬ okP x y → errN (if okP x y then 0 else 1) = .sc (.int .i64 (1 : Nat)) := fun h => by rw [if_neg h]; rfl
  have good : okP x y → errN (if okP x y then 0 else 1) = .sc (.int .i64 (0 : Nat)) := fun h => by rw [if_pos h]; rfl
  by_cases h1 : x < -1048576
  · simp (disch := first | omega | (simp only [List.length_cons, List.length_nil, List.length_append, u8s_len]; omega)) only [go_sem, ↓reduceIte, true_and, Nat.reduceLeDiff, Nat.reduceEqDiff, Nat.reduceAdd, Nat.reduceBEq, Int.reduceEq, hO.get0, h1]
    exact ⟨(bad (by unfold okP; omega)).symm, hO.keep⟩
  by_cases h2 : x > ((1048576 : Nat) : Int)
  · simp (disch := first | omega | (simp only [List.length_cons, List.length_nil, List.length_append, u8s_len]; omega)) only [go_sem, ↓reduceIte, true_and, Nat.reduceLeDiff, Nat.reduceEqDiff, Nat.reduceAdd, Nat.reduceBEq, Int.reduceEq, hO.get0, h1, h2]
    exact ⟨(bad (by unfold okP; omega)).symm, hO.keep⟩
  by_cases h3 : y < -1048576
  · simp (disch := first | omega | (simp only [List.length_cons, List.length_nil, List.length_append, u8s_len]; omega)) only [go_sem, ↓reduceIte, true_and, Nat.reduceLeDiff, Nat.reduceEqDiff, Nat.reduceAdd, Nat.reduceBEq, Int.reduceEq, hO.get0, h1, h2, h3]
    exact ⟨(bad (by unfold okP; omega)).symm, hO.keep⟩
  by_cases h4 : y > ((1048576 : Nat) : Int)
  · simp (disch := first | omega | (simp only [List.length_cons, List.length_nil, List.length_append, u8s_len]; omega)) only [go_sem, ↓reduceIte, true_and, Nat.reduceLeDiff, Nat.reduceEqDiff, Nat.reduceAdd, Nat.reduceBEq, Int.reduceEq, hO.get0, h1, h2, h3, h4]
    exact ⟨(bad (by unfold okP; omega)).symm, hO.keep⟩
  simp (disch := first | omega | (simp only [List.length_cons, List.length_nil, List.length_append, u8s_len]; omega)) only [go_sem, ↓reduceIte, true_and, Nat.reduceLeDiff, Nat.reduceEqDiff, Nat.reduceAdd, Nat.reduceBEq, Int.reduceEq, hO.get0, h1, h2, h3, h4]
  exact ⟨(good (by unfold okP; omega)).symm, hO.keep⟩
theorem may_ok (x y : Int) (h : Heap) : AWF P ann 0 11 [.ag [.sc (.int .i64 x), .sc (.int .i64 y)]] h fun r h' => r = .sc (.bool (decide (okP x y))) ∧ h' = h := by
  refine AWF.fnPurec H.f0_11 rfl ?_
  have hO := OB.nil (h := h)
  (refine W_seq_gen fun N hN => ?_); simp (disch := first | omega | (simp only [List.length_cons, List.length_nil, List.length_append, u8s_len]; omega)) only [go_sem, ↓reduceIte, true_and, Nat.reduceLeDiff, Nat.reduceEqDiff, Nat.reduceAdd, Nat.reduceBEq, Int.reduceEq]
  intro b hb
  refine hN _ ?_; clear hN N; refine W_ob (hO.new hb) fun hc hO => ?_
  by_cases h1 : x ≥ -1048576
  · by_cases h2 : x ≤ ((1048576 : Nat) : Int)
    · by_cases h3 : y ≥ -1048576
      · by_cases h4 : y ≤ ((1048576 : Nat) : Int)
        · simp (disch := first | omega | (simp only [List.length_cons, List.length_nil, List.length_append, u8s_len]; omega)) only [go_sem, ↓reduceIte, true_and, Nat.reduceLeDiff, Nat.reduceEqDiff, Nat.reduceAdd, Nat.reduceBEq, Int.reduceEq, hO.get0, h1, h2, h3, h4]
          exact ⟨by rw [decide_eq_true (by unfold okP; omega)], hO.keep⟩
        · simp (disch := first | omega | (simp only [List.length_cons, List.length_nil, List.length_append, u8s_len]; omega)) only [go_sem, ↓reduceIte, true_and, Nat.reduceLeDiff, Nat.reduceEqDiff, Nat.reduceAdd, Nat.reduceBEq, Int.reduceEq, hO.get0, h1, h2, h3, h4]
          exact ⟨by rw [decide_eq_false (by unfold okP; omega)], hO.keep⟩
      · simp (disch := first | omega | (simp only [List.length_cons, List.length_nil, List.length_append, u8s_len]; omega)) only [go_sem, ↓reduceIte, true_and, Nat.reduceLeDiff, Nat.reduceEqDiff, Nat.reduceAdd, Nat.reduceBEq, Int.reduceEq, hO.get0, h1, h2, h3]
        exact ⟨by rw [decide_eq_false (by unfold okP; omega)], hO.keep⟩
    · simp (disch := first | omega | (simp only [List.length_cons, List.length_nil, List.length_append, u8s_len]; omega)) only [go_sem, ↓reduceIte, true_and, Nat.reduceLeDiff, Nat.reduceEqDiff, Nat.reduceAdd, Nat.reduceBEq, Int.reduceEq, hO.get0, h1, h2]
      exact ⟨by rw [decide_eq_false (by unfold okP; omega)], hO.keep⟩
  · simp (disch := first | omega | (simp only [List.length_cons, List.length_nil, List.length_append, u8s_len]; omega)) only [go_sem, ↓reduceIte, true_and, Nat.reduceLeDiff, Nat.reduceEqDiff, Nat.reduceAdd, Nat.reduceBEq, Int.reduceEq, hO.get0, h1]
    exact ⟨by rw [decide_eq_false (by unfold okP; omega)], hO.keep⟩
def bothN (a b c d e f : Int) : Nat := if okP a b ∧ okP c d then (if okP e f then 0 else 3) else 1
theorem both_ok (a b c d e f : Int) (h : Heap) : AWF P ann 0 27 [.ag [.sc (.int .i64 a), .sc (.int .i64 b)], .ag [.sc (.int .i64 c), .sc (.int .i64 d)], .ag [.sc (.int .i64 e), .sc (.int .i64 f)]] h fun r h' => r = errN (bothN a b c d e f) ∧ h' = h := by
  refine AWF.fnPurec H.f0_27 rfl ?_
  have hO := OB.nil (h := h)
  (refine W_seq_gen fun N hN => ?_); simp (disch := first | omega | (simp only [List.length_cons, List.length_nil, List.length_append, u8s_len]; omega)) only [go_sem, ↓reduceIte, true_and, Nat.reduceLeDiff, Nat.reduceEqDiff, Nat.reduceAdd, Nat.reduceBEq, Int.reduceEq]
  intro b1 h1 b2 h2 b3 h3
  refine hN _ ?_; clear hN N; refine W_ob (((hO.new h1).new h2).new h3) fun hc hO => ?_
  (refine W_seq_gen fun M hM => ?_)
  rw [W_block]
  (refine W_seq_gen fun N hN => ?_); simp (disch := first | omega | (simp only [List.length_cons, List.length_nil, List.length_append, u8s_len]; omega)) only [go_sem, ↓reduceIte, true_and, Nat.reduceLeDiff, Nat.reduceEqDiff, Nat.reduceAdd, Nat.reduceBEq, Int.reduceEq, hO.get0, hO.get1, hO.get2]
  refine (check_ok H _ _ _).mono ?_
  rintro _ _ ⟨rfl, hh⟩; subst hh
  by_cases q1 : okP a b
  · rw [if_pos q1]
    rw [contK_some]; simp (disch := first | omega | (simp only [List.length_cons, List.length_nil, List.length_append, u8s_len]; omega)) only [go_sem, ↓reduceIte, true_and, Nat.reduceLeDiff, Nat.reduceEqDiff, Nat.reduceAdd, Nat.reduceBEq, Int.reduceEq, errN, hO.get0, hO.get1, hO.get2]
    refine (check_ok H _ _ _).mono ?_
    rintro _ _ ⟨rfl, hh⟩; subst hh
    by_cases q2 : okP c d
    · rw [if_pos q2]
      rw [contK_some]; simp (disch := first | omega | (simp only [List.length_cons, List.length_nil, List.length_append, u8s_len]; omega)) only [go_sem, ↓reduceIte, true_and, Nat.reduceLeDiff, Nat.reduceEqDiff, Nat.reduceAdd, Nat.reduceBEq, Int.reduceEq, errN]
      refine hN _ ?_; clear hN N
      refine ⟨false, rfl, fun h => Bool.noConfusion h, fun _ => ?_⟩
      (refine W_seq_gen fun N hN => ?_); simp (disch := first | omega | (simp only [List.length_cons, List.length_nil, List.length_append, u8s_len]; omega)) only [go_sem, ↓reduceIte, true_and, Nat.reduceLeDiff, Nat.reduceEqDiff, Nat.reduceAdd, Nat.reduceBEq, Int.reduceEq, hO.get0, hO.get1, hO.get2]
      refine (check_ok H _ _ _).mono ?_
      rintro _ _ ⟨rfl, hh⟩; subst hh
      by_cases q3 : okP e f
      · rw [if_pos q3]
        rw [contK_some]; simp (disch := first | omega | (simp only [List.length_cons, List.length_nil, List.length_append, u8s_len]; omega)) only [go_sem, ↓reduceIte, true_and, Nat.reduceLeDiff, Nat.reduceEqDiff, Nat.reduceAdd, Nat.reduceBEq, Int.reduceEq, errN]
        refine hN _ ?_; clear hN N
        simp (disch := first | omega | (simp only [List.length_cons, List.length_nil, List.length_append, u8s_len]; omega)) only [go_sem, ↓reduceIte, true_and, Nat.reduceLeDiff, Nat.reduceEqDiff, Nat.reduceAdd, Nat.reduceBEq, Int.reduceEq]
        refine hM _ ?_; clear hM M
        simp (disch := first | omega | (simp only [List.length_cons, List.length_nil, List.length_append, u8s_len]; omega)) only [go_sem, ↓reduceIte, true_and, Nat.reduceLeDiff, Nat.reduceEqDiff, Nat.reduceAdd, Nat.reduceBEq, Int.reduceEq]
        exact ⟨by rw [bothN, if_pos ⟨q1, q2⟩, if_pos q3]; rfl, hO.keep⟩
      · rw [if_neg q3]
        rw [contK_some]; simp (disch := first | omega | (simp only [List.length_cons, List.length_nil, List.length_append, u8s_len]; omega)) only [go_sem, ↓reduceIte, true_and, Nat.reduceLeDiff, Nat.reduceEqDiff, Nat.reduceAdd, Nat.reduceBEq, Int.reduceEq, errN]
        refine hN _ ?_; clear hN N
        simp (disch := first | omega | (simp only [List.length_cons, List.length_nil, List.length_append, u8s_len]; omega)) only [go_sem, ↓reduceIte, true_and, Nat.reduceLeDiff, Nat.reduceEqDiff, Nat.reduceAdd, Nat.reduceBEq, Int.reduceEq]
        exact ⟨by rw [bothN, if_pos ⟨q1, q2⟩, if_neg q3]; rfl, hO.keep⟩
    · rw [if_neg q2]
      rw [contK_some]; simp (disch := first | omega | (simp only [List.length_cons, List.length_nil, List.length_append, u8s_len]; omega)) only [go_sem, ↓reduceIte, true_and, Nat.reduceLeDiff, Nat.reduceEqDiff, Nat.reduceAdd, Nat.reduceBEq, Int.reduceEq, errN]
      refine hN _ ?_; clear hN N
      simp (disch := first | omega | (simp only [List.length_cons, List.length_nil, List.length_append, u8s_len]; omega)) only [go_sem, ↓reduceIte, true_and, Nat.reduceLeDiff, Nat.reduceEqDiff, Nat.reduceAdd, Nat.reduceBEq, Int.reduceEq]
      exact ⟨by rw [bothN, if_neg (fun q => q2 q.2)]; rfl, hO.keep⟩
  · rw [if_neg q1]
    rw [contK_some]; simp (disch := first | omega | (simp only [List.length_cons, List.length_nil, List.length_append, u8s_len]; omega)) only [go_sem, ↓reduceIte, true_and, Nat.reduceLeDiff, Nat.reduceEqDiff, Nat.reduceAdd, Nat.reduceBEq, Int.reduceEq, errN]
    refine hN _ ?_; clear hN N
    simp (disch := first | omega | (simp only [List.length_cons, List.length_nil, List.length_append, u8s_len]; omega)) only [go_sem, ↓reduceIte, true_and, Nat.reduceLeDiff, Nat.reduceEqDiff, Nat.reduceAdd, Nat.reduceBEq, Int.reduceEq]
    exact ⟨by rw [bothN, if_neg (fun q => q1 q.1)]; rfl, hO.keep⟩
end Go.Proofs.Ytjnoigekhdjkcaa
