/- What the functions come to: sums, products, norms, turns, quotients. -/
import Derived.Test.YtjnoigekhdjkcaaGaussPure
set_option linter.unusedVariables false
set_option linter.unusedSimpArgs false
namespace Go.Proofs.Ytjnoigekhdjkcaa
open Go.Am
def ptA (p : Pt) : AV := .ag [.sc (.int .i64 p.1), .sc (.int .i64 p.2)]
abbrev fl (n : Int) : Nat := FloatKind.f64.nearest n
def cx (x y : Int) : AV := .sc (.complex .f64 (fl x) (fl y))
theorem un_neg {P : Program} {k : IntKind} {n : Int} : pureRun P (Op.unary .neg (.int k n)) = some (.int k (k.wrap (0 - n))) := by
  simp [Op.unary, Op.intArith, pr_pure]
theorem ci_cx {x y : Int} (hx : small x) (hy : small y) : CI (.complex .f64 (fl x) (fl y)) x y := ⟨_, _, rfl, fi_nearest hx, fi_nearest hy⟩
set_option exponentiation.threshold 2000 in
theorem ci_i : CI (.complex .f64 0 4607182418800017408) 0 1 :=
  ⟨_, _, rfl, ⟨false, 0, 1074, by decide, by simp, fun h => absurd rfl h⟩, ⟨false, 4503599627370496, 52, by decide, by decide, fun _ => by decide⟩⟩

def addS (a b : Pt) : Pt × Nat := if okPt a ∧ okPt b then (if okPt (a.1 + b.1, a.2 + b.2) then ((a.1 + b.1, a.2 + b.2), 0) else ((0, 0), 3)) else ((0, 0), 1)
def mulS (a b : Pt) : Pt × Nat := if okPt a ∧ okPt b then (if okPt (mulP a b) then (mulP a b, 0) else ((0, 0), 3)) else ((0, 0), 1)
def resP (r : Pt × Nat) : AV := .tu [ptA r.1, errN r.2]

variable {P : Program} (H : Has P)
include H

theorem of_ok (p : Pt) (h : Heap) : AWF P ann 0 29 [ptA p] h fun r h' => r = cx p.1 p.2 ∧ h' = h := by
  refine AWF.fnPurec H.f0_29 rfl ?_
  have hO := OB.nil (h := h)
  (refine W_seq_gen fun N hN => ?_); simp (disch := first | omega | (simp only [List.length_cons, List.length_nil, List.length_append, u8s_len]; omega)) only [go_sem, ↓reduceIte, true_and, Nat.reduceLeDiff, Nat.reduceEqDiff, Nat.reduceAdd, Nat.reduceBEq, Int.reduceEq, ptA]
  intro b hb
  refine hN _ ?_; clear hN N; refine W_ob (hO.new hb) fun hc hO => ?_
  simp (disch := first | omega | (simp only [List.length_cons, List.length_nil, List.length_append, u8s_len]; omega)) only [go_sem, ↓reduceIte, true_and, Nat.reduceLeDiff, Nat.reduceEqDiff, Nat.reduceAdd, Nat.reduceBEq, Int.reduceEq, hO.get0, cv_int_float H.t3 H.t48]
  exact ⟨rfl, hO.keep⟩
theorem point_ok {v : Value} {x y : Int} (hv : CI v x y) (hx : small x) (hy : small y) (h : Heap) : AWF P ann 0 28 [.sc v] h fun r h' => r = ptA (x, y) ∧ h' = h := by
  obtain ⟨a, b, rfl, ha, hb⟩ := hv
  refine AWF.fnPurec H.f0_28 rfl ?_
  have hO := OB.nil (h := h)
  (refine W_seq_gen fun N hN => ?_); simp (disch := first | omega | (simp only [List.length_cons, List.length_nil, List.length_append, u8s_len]; omega)) only [go_sem, ↓reduceIte, true_and, Nat.reduceLeDiff, Nat.reduceEqDiff, Nat.reduceAdd, Nat.reduceBEq, Int.reduceEq]
  intro b hb0
  refine hN _ ?_; clear hN N; refine W_ob (hO.new hb0) fun hc hO => ?_
  have c1 := cv_float_int (P := P) H.t48 H.t3 ha hx
  have c2 := cv_float_int (P := P) H.t48 H.t3 hb hy
  simp (disch := first | omega | (simp only [List.length_cons, List.length_nil, List.length_append, u8s_len]; omega)) only [go_sem, ↓reduceIte, true_and, Nat.reduceLeDiff, Nat.reduceEqDiff, Nat.reduceAdd, Nat.reduceBEq, Int.reduceEq, hO.get0, c1, c2]
  exact ⟨rfl, hO.st0.keep⟩
theorem norm_ok (p : Pt) (h : Heap) : AWF P ann 0 15 [ptA p] h fun r h' => r = .sc (.int .i64 (if okPt p then nrm p else 0)) ∧ h' = h := by
  refine AWF.fnPurec H.f0_15 rfl ?_
  have hO := OB.nil (h := h)
  (refine W_seq_gen fun N hN => ?_); simp (disch := first | omega | (simp only [List.length_cons, List.length_nil, List.length_append, u8s_len]; omega)) only [go_sem, ↓reduceIte, true_and, Nat.reduceLeDiff, Nat.reduceEqDiff, Nat.reduceAdd, Nat.reduceBEq, Int.reduceEq, ptA]
  intro b hb
  refine hN _ ?_; clear hN N; refine W_ob (hO.new hb) fun hc hO => ?_
  (refine W_seq_gen fun N hN => ?_); simp (disch := first | omega | (simp only [List.length_cons, List.length_nil, List.length_append, u8s_len]; omega)) only [go_sem, ↓reduceIte, true_and, Nat.reduceLeDiff, Nat.reduceEqDiff, Nat.reduceAdd, Nat.reduceBEq, Int.reduceEq, hO.get0]
  refine (check_ok H _ _ _).mono ?_
  rintro _ _ ⟨rfl, hh⟩; subst hh
  by_cases q : okP p.1 p.2
  · have m1 := mul_bd q.1 q.1
    have m2 := mul_bd q.2 q.2
    simp only [if_pos q]
    rw [contK_some]; simp (disch := first | omega | (simp only [List.length_cons, List.length_nil, List.length_append, u8s_len]; omega)) only [go_sem, ↓reduceIte, true_and, Nat.reduceLeDiff, Nat.reduceEqDiff, Nat.reduceAdd, Nat.reduceBEq, Int.reduceEq, errN]
    refine hN _ ?_; clear hN N
    simp (disch := first | omega | (simp only [List.length_cons, List.length_nil, List.length_append, u8s_len]; omega)) only [go_sem, ↓reduceIte, true_and, Nat.reduceLeDiff, Nat.reduceEqDiff, Nat.reduceAdd, Nat.reduceBEq, Int.reduceEq, hO.get0]
    rw [if_pos q]
    exact ⟨rfl, hO.keep⟩
  · simp only [if_neg q]
    rw [contK_some]; simp (disch := first | omega | (simp only [List.length_cons, List.length_nil, List.length_append, u8s_len]; omega)) only [go_sem, ↓reduceIte, true_and, Nat.reduceLeDiff, Nat.reduceEqDiff, Nat.reduceAdd, Nat.reduceBEq, Int.reduceEq, errN]
    exact ⟨rfl, hO.keep⟩
theorem mirror_ok (p : Pt) (h : Heap) : AWF P ann 0 17 [ptA p] h fun r h' => r = ptA (if okPt p then conjP p else (0, 0)) ∧ h' = h := by
  refine AWF.fnPurec H.f0_17 rfl ?_
  have hO := OB.nil (h := h)
  (refine W_seq_gen fun N hN => ?_); simp (disch := first | omega | (simp only [List.length_cons, List.length_nil, List.length_append, u8s_len]; omega)) only [go_sem, ↓reduceIte, true_and, Nat.reduceLeDiff, Nat.reduceEqDiff, Nat.reduceAdd, Nat.reduceBEq, Int.reduceEq, ptA]
  intro b1 h1 b2 h2
  refine hN _ ?_; clear hN N; refine W_ob ((hO.new h1).new h2) fun hc hO => ?_
  (refine W_seq_gen fun N hN => ?_); simp (disch := first | omega | (simp only [List.length_cons, List.length_nil, List.length_append, u8s_len]; omega)) only [go_sem, ↓reduceIte, true_and, Nat.reduceLeDiff, Nat.reduceEqDiff, Nat.reduceAdd, Nat.reduceBEq, Int.reduceEq, hO.get0, hO.get1]
  refine (check_ok H _ _ _).mono ?_
  rintro _ _ ⟨rfl, hh⟩; subst hh
  by_cases q : okP p.1 p.2
  · have q2 := q.2
    simp only [if_pos q]
    rw [contK_some]; simp (disch := first | omega | (simp only [List.length_cons, List.length_nil, List.length_append, u8s_len]; omega)) only [go_sem, ↓reduceIte, true_and, Nat.reduceLeDiff, Nat.reduceEqDiff, Nat.reduceAdd, Nat.reduceBEq, Int.reduceEq, errN]
    refine hN _ ?_; clear hN N
    simp (disch := first | omega | (simp only [List.length_cons, List.length_nil, List.length_append, u8s_len]; omega)) only [go_sem, ↓reduceIte, true_and, Nat.reduceLeDiff, Nat.reduceEqDiff, Nat.reduceAdd, Nat.reduceBEq, Int.reduceEq, hO.get0, hO.get1, un_neg]
    rw [Int.zero_sub, if_pos q]
    exact ⟨rfl, hO.st0.keep⟩
  · simp only [if_neg q]
    rw [contK_some]; simp (disch := first | omega | (simp only [List.length_cons, List.length_nil, List.length_append, u8s_len]; omega)) only [go_sem, ↓reduceIte, true_and, Nat.reduceLeDiff, Nat.reduceEqDiff, Nat.reduceAdd, Nat.reduceBEq, Int.reduceEq, errN, hO.get0, hO.get1]
    exact ⟨rfl, hO.st0.keep⟩
theorem add_ok (a b : Pt) (h : Heap) : AWF P ann 0 9 [ptA a, ptA b] h fun r h' => r = resP (addS a b) ∧ h' = h := by
  refine AWF.fnPurec H.f0_9 rfl ?_
  have hO := OB.nil (h := h)
  (refine W_seq_gen fun N hN => ?_); simp (disch := first | omega | (simp only [List.length_cons, List.length_nil, List.length_append, u8s_len]; omega)) only [go_sem, ↓reduceIte, true_and, Nat.reduceLeDiff, Nat.reduceEqDiff, Nat.reduceAdd, Nat.reduceBEq, Int.reduceEq, ptA]
  intro b1 h1 b2 h2 b3 h3
  refine hN _ ?_; clear hN N; refine W_ob (((hO.new h1).new h2).new h3) fun hc hO => ?_
  (refine W_seq_gen fun N hN => ?_); simp (disch := first | omega | (simp only [List.length_cons, List.length_nil, List.length_append, u8s_len]; omega)) only [go_sem, ↓reduceIte, true_and, Nat.reduceLeDiff, Nat.reduceEqDiff, Nat.reduceAdd, Nat.reduceBEq, Int.reduceEq, hO.get0, hO.get1, hO.get2]
  refine (both_ok H _ _ _ _ _ _ _).mono ?_
  rintro _ _ ⟨rfl, hh⟩; subst hh
  by_cases q : okPt a ∧ okPt b
  · have e : bothN a.1 a.2 b.1 b.2 a.1 a.2 = 0 := by rw [bothN, if_pos q, if_pos q.1]
    rw [e]
    rw [contK_some]; simp (disch := first | omega | (simp only [List.length_cons, List.length_nil, List.length_append, u8s_len]; omega)) only [go_sem, ↓reduceIte, true_and, Nat.reduceLeDiff, Nat.reduceEqDiff, Nat.reduceAdd, Nat.reduceBEq, Int.reduceEq, errN]
    refine hN _ ?_; clear hN N
    obtain ⟨⟨⟨a1, a2⟩, a3, a4⟩, ⟨b1, b2⟩, b3, b4⟩ := id q
    obtain ⟨u, u1, u2, u3⟩ := ci_add (P := P) (ty := 45) (ci_cx (x := a.1) (y := a.2) (by omega) (by omega)) (ci_cx (x := b.1) (y := b.2) (by omega) (by omega)) (by omega) (by omega)
    (refine W_seq_gen fun N hN => ?_); simp (disch := first | omega | (simp only [List.length_cons, List.length_nil, List.length_append, u8s_len]; omega)) only [go_sem, ↓reduceIte, true_and, Nat.reduceLeDiff, Nat.reduceEqDiff, Nat.reduceAdd, Nat.reduceBEq, Int.reduceEq, hO.get0, hO.get1, hO.get2]
    refine ⟨_, of_ok H a, ?_⟩
    rw [contK_some]; simp (disch := first | omega | (simp only [List.length_cons, List.length_nil, List.length_append, u8s_len]; omega)) only [go_sem, ↓reduceIte, true_and, Nat.reduceLeDiff, Nat.reduceEqDiff, Nat.reduceAdd, Nat.reduceBEq, Int.reduceEq, hO.get0, hO.get1, hO.get2]
    refine ⟨_, of_ok H b, ?_⟩
    rw [contK_some]; simp (disch := first | omega | (simp only [List.length_cons, List.length_nil, List.length_append, u8s_len]; omega)) only [go_sem, ↓reduceIte, true_and, Nat.reduceLeDiff, Nat.reduceEqDiff, Nat.reduceAdd, Nat.reduceBEq, Int.reduceEq, cx, u1, u2]
    refine ⟨_, point_ok H u3 (by omega) (by omega), ?_⟩
    rw [contK_some]; simp (disch := first | omega | (simp only [List.length_cons, List.length_nil, List.length_append, u8s_len]; omega)) only [go_sem, ↓reduceIte, true_and, Nat.reduceLeDiff, Nat.reduceEqDiff, Nat.reduceAdd, Nat.reduceBEq, Int.reduceEq, ptA]
    intro b4 h4
    refine hN _ ?_; clear hN N; refine W_ob (hO.new h4) fun hc hO => ?_
    (refine W_seq_gen fun N hN => ?_); simp (disch := first | omega | (simp only [List.length_cons, List.length_nil, List.length_append, u8s_len]; omega)) only [go_sem, ↓reduceIte, true_and, Nat.reduceLeDiff, Nat.reduceEqDiff, Nat.reduceAdd, Nat.reduceBEq, Int.reduceEq, hO.get0, hO.get1, hO.get2, hO.get3]
    refine (both_ok H _ _ _ _ _ _ _).mono ?_
    rintro _ _ ⟨rfl, hh⟩; subst hh
    by_cases q3 : okPt (a.1 + b.1, a.2 + b.2)
    · have e : bothN a.1 a.2 b.1 b.2 (a.1 + b.1) (a.2 + b.2) = 0 := by rw [bothN, if_pos q, if_pos q3]
      rw [e]
      rw [contK_some]; simp (disch := first | omega | (simp only [List.length_cons, List.length_nil, List.length_append, u8s_len]; omega)) only [go_sem, ↓reduceIte, true_and, Nat.reduceLeDiff, Nat.reduceEqDiff, Nat.reduceAdd, Nat.reduceBEq, Int.reduceEq, errN]
      refine hN _ ?_; clear hN N
      simp (disch := first | omega | (simp only [List.length_cons, List.length_nil, List.length_append, u8s_len]; omega)) only [go_sem, ↓reduceIte, true_and, Nat.reduceLeDiff, Nat.reduceEqDiff, Nat.reduceAdd, Nat.reduceBEq, Int.reduceEq, hO.get0, hO.get1, hO.get2, hO.get3]
      rw [addS, if_pos q, if_pos q3]
      exact ⟨rfl, hO.st1.keep⟩
    · have e : bothN a.1 a.2 b.1 b.2 (a.1 + b.1) (a.2 + b.2) = 3 := by rw [bothN, if_pos q, if_neg q3]
      rw [e]
      rw [contK_some]; simp (disch := first | omega | (simp only [List.length_cons, List.length_nil, List.length_append, u8s_len]; omega)) only [go_sem, ↓reduceIte, true_and, Nat.reduceLeDiff, Nat.reduceEqDiff, Nat.reduceAdd, Nat.reduceBEq, Int.reduceEq, errN, hO.get0, hO.get1, hO.get2, hO.get3]
      rw [addS, if_pos q, if_neg q3]
      exact ⟨rfl, hO.st1.keep⟩
  · have e : bothN a.1 a.2 b.1 b.2 a.1 a.2 = 1 := by rw [bothN, if_neg q]
    rw [e]
    rw [contK_some]; simp (disch := first | omega | (simp only [List.length_cons, List.length_nil, List.length_append, u8s_len]; omega)) only [go_sem, ↓reduceIte, true_and, Nat.reduceLeDiff, Nat.reduceEqDiff, Nat.reduceAdd, Nat.reduceBEq, Int.reduceEq, errN, hO.get0, hO.get1, hO.get2]
    rw [addS, if_neg q]
    exact ⟨rfl, hO.st0.keep⟩
end Go.Proofs.Ytjnoigekhdjkcaa
