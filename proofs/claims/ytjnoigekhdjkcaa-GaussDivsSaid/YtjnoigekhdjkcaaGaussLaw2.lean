/- The laws of quotients, powers, turns. -/
import Derived.Test.YtjnoigekhdjkcaaGaussArgs
import Derived.Test.YtjnoigekhdjkcaaAmFg
set_option linter.unusedVariables false
set_option linter.unusedSimpArgs false
namespace Go.Proofs.Ytjnoigekhdjkcaa
open Go.Am
variable {P : Program} (H : Has P) (HC : HasC P)
include H HC
theorem divs_law (a b : Pt) (h : Heap) : AWF P ann 0 7 [ptA a, ptA b] h fun r _ => r = .sc (.bool true) := by
  refine AWF.fnc H.f0_7 rfl ?_
  have hO := OB.nil (h := h)
  (refine W_seq_gen fun N hN => ?_); simp (disch := first | omega | (simp only [List.length_cons, List.length_nil, List.length_append, u8s_len]; omega)) only [go_sem, ↓reduceIte, true_and, Nat.reduceLeDiff, Nat.reduceEqDiff, Nat.reduceAdd, Nat.reduceBEq, Int.reduceEq, ptA]
  intro o2 h2 o3 h3
  refine hN _ ?_; clear hN N; refine W_ob ((hO.new h2).new h3) fun hc hO => ?_
  (refine W_seq_gen fun N hN => ?_); simp (disch := first | omega | (simp only [List.length_cons, List.length_nil, List.length_append, u8s_len]; omega)) only [go_sem, ↓reduceIte, true_and, Nat.reduceLeDiff, Nat.reduceEqDiff, Nat.reduceAdd, Nat.reduceBEq, Int.reduceEq, hO.get0, hO.get1]
  refine (div_ok H a b _).mono ?_
  rintro _ _ ⟨rfl, hh⟩; subst hh
  generalize hs : divS a b = s
  rw [contK_some]; simp (disch := first | omega | (simp only [List.length_cons, List.length_nil, List.length_append, u8s_len]; omega)) only [go_sem, ↓reduceIte, true_and, Nat.reduceLeDiff, Nat.reduceEqDiff, Nat.reduceAdd, Nat.reduceBEq, Int.reduceEq, res3, ptA, errN]
  intro o5 h5 o6 h6
  have hO8 := (hO.new h5 (X := .arr [.sc (.int .i64 (0 : Nat)), .sc (.int .i64 (0 : Nat))])).new h6 (X := .arr [.sc (.int .i64 (0 : Nat)), .sc (.int .i64 (0 : Nat))])
  have n65 : ¬ o6 = o5 := hO8.ne01
  have n56 : ¬ o5 = o6 := fun e => n65 e.symm
  clear hO
  simp (disch := first | omega | (simp only [List.length_cons, List.length_nil, List.length_append, u8s_len]; omega)) only [go_sem, ↓reduceIte, true_and, Nat.reduceLeDiff, Nat.reduceEqDiff, Nat.reduceAdd, Nat.reduceBEq, Int.reduceEq, n65, n56]
  refine hN _ ?_; clear hN N; refine W_ob (hO8.st1.st0) fun hc hO => ?_
  clear hO8
  refine W_forget (fun t => t 2 = .op o2 0 ∧ t 3 = .op o3 0 ∧ t 5 = .op o5 0 ∧ t 6 = .op o6 0 ∧ t 7 = .sc (.int .i64 (s.2 : Nat)) ∧ True) (by simp [upd_at, *] <;> rfl) ?_; rintro t ⟨t2, t3, t5, t6, t7, -⟩
  -- DEF T: t2, t3, t5, t6, t7
  have bad : ¬ (okPt a ∧ okPt b ∧ b ≠ (0, 0)) → s = (((0, 0), (0, 0)), 1) := fun q => by rw [← hs, divS, if_neg q]
  have neg : ∀ q : s = (((0, 0), (0, 0)), 1), s.2 = 1 ∧ scalarBin P .eql 23 (.agg #[.int .i64 s.1.1.1, .int .i64 s.1.1.2]) (.agg #[.int .i64 ((0 : Nat) : Int), .int .i64 ((0 : Nat) : Int)]) = some (.bool true) ∧
      scalarBin P .eql 23 (.agg #[.int .i64 s.1.2.1, .int .i64 s.1.2.2]) (.agg #[.int .i64 ((0 : Nat) : Int), .int .i64 ((0 : Nat) : Int)]) = some (.bool true) := fun q => by
    rw [q]
    exact ⟨rfl, by rw [HC.eq]; rfl, by rw [HC.eq]; rfl⟩
  by_cases qa : okPt a
  case neg =>
    obtain ⟨e1, e2, e3⟩ := neg (bad fun h => qa h.1)
    (refine W_seq_gen fun N hN => ?_); simp (disch := first | omega | (simp only [List.length_cons, List.length_nil, List.length_append, u8s_len]; omega)) only [go_sem, ↓reduceIte, true_and, Nat.reduceLeDiff, Nat.reduceEqDiff, Nat.reduceAdd, Nat.reduceBEq, Int.reduceEq, t2, t3, t5, t6, t7, hO.get3]
    refine (may_ok H _ _ _).mono ?_
    rintro _ _ ⟨rfl, hh⟩; subst hh
    rw [show decide (okP a.1 a.2) = false from decide_eq_false qa]
    rw [contK_some]; simp (disch := first | omega | (simp only [List.length_cons, List.length_nil, List.length_append, u8s_len]; omega)) only [go_sem, ↓reduceIte, true_and, Nat.reduceLeDiff, Nat.reduceEqDiff, Nat.reduceAdd, Nat.reduceBEq, Int.reduceEq, t2, t3, t5, t6, t7, e1, e2, e3, hO.get0, hO.get1]
    refine (awake_ok H HC _).mono ?_
    rintro _ _ ⟨rfl, hh⟩; subst hh
    rw [contK_some]; simp (disch := first | omega | (simp only [List.length_cons, List.length_nil, List.length_append, u8s_len]; omega)) only [go_sem, ↓reduceIte, true_and, Nat.reduceLeDiff, Nat.reduceEqDiff, Nat.reduceAdd, Nat.reduceBEq, Int.reduceEq]
  by_cases qb : okPt b
  case neg =>
    obtain ⟨e1, e2, e3⟩ := neg (bad fun h => qb h.2.1)
    (refine W_seq_gen fun N hN => ?_); simp (disch := first | omega | (simp only [List.length_cons, List.length_nil, List.length_append, u8s_len]; omega)) only [go_sem, ↓reduceIte, true_and, Nat.reduceLeDiff, Nat.reduceEqDiff, Nat.reduceAdd, Nat.reduceBEq, Int.reduceEq, t2, t3, t5, t6, t7, hO.get3]
    refine (may_ok H _ _ _).mono ?_
    rintro _ _ ⟨rfl, hh⟩; subst hh
    rw [show decide (okP a.1 a.2) = true from decide_eq_true qa]
    rw [contK_some]; simp (disch := first | omega | (simp only [List.length_cons, List.length_nil, List.length_append, u8s_len]; omega)) only [go_sem, ↓reduceIte, true_and, Nat.reduceLeDiff, Nat.reduceEqDiff, Nat.reduceAdd, Nat.reduceBEq, Int.reduceEq, t2, t3, t5, t6, t7, hO.get2]
    refine (may_ok H _ _ _).mono ?_
    rintro _ _ ⟨rfl, hh⟩; subst hh
    rw [show decide (okP b.1 b.2) = false from decide_eq_false qb]
    rw [contK_some]; simp (disch := first | omega | (simp only [List.length_cons, List.length_nil, List.length_append, u8s_len]; omega)) only [go_sem, ↓reduceIte, true_and, Nat.reduceLeDiff, Nat.reduceEqDiff, Nat.reduceAdd, Nat.reduceBEq, Int.reduceEq, t2, t3, t5, t6, t7, e1, e2, e3, hO.get0, hO.get1]
    refine (awake_ok H HC _).mono ?_
    rintro _ _ ⟨rfl, hh⟩; subst hh
    rw [contK_some]; simp (disch := first | omega | (simp only [List.length_cons, List.length_nil, List.length_append, u8s_len]; omega)) only [go_sem, ↓reduceIte, true_and, Nat.reduceLeDiff, Nat.reduceEqDiff, Nat.reduceAdd, Nat.reduceBEq, Int.reduceEq]
  have eb := HC.eq b.1 b.2 ((0 : Nat) : Int) ((0 : Nat) : Int)
  rw [zn] at eb
  by_cases q0 : b = (0, 0)
  case pos =>
    rw [decide_eq_true q0] at eb
    obtain ⟨e1, e2, e3⟩ := neg (bad fun h => h.2.2 q0)
    (refine W_seq_gen fun N hN => ?_); simp (disch := first | omega | (simp only [List.length_cons, List.length_nil, List.length_append, u8s_len]; omega)) only [go_sem, ↓reduceIte, true_and, Nat.reduceLeDiff, Nat.reduceEqDiff, Nat.reduceAdd, Nat.reduceBEq, Int.reduceEq, t2, t3, t5, t6, t7, hO.get3]
    refine (may_ok H _ _ _).mono ?_
    rintro _ _ ⟨rfl, hh⟩; subst hh
    rw [show decide (okP a.1 a.2) = true from decide_eq_true qa]
    rw [contK_some]; simp (disch := first | omega | (simp only [List.length_cons, List.length_nil, List.length_append, u8s_len]; omega)) only [go_sem, ↓reduceIte, true_and, Nat.reduceLeDiff, Nat.reduceEqDiff, Nat.reduceAdd, Nat.reduceBEq, Int.reduceEq, t2, t3, t5, t6, t7, hO.get2]
    refine (may_ok H _ _ _).mono ?_
    rintro _ _ ⟨rfl, hh⟩; subst hh
    rw [show decide (okP b.1 b.2) = true from decide_eq_true qb]
    rw [contK_some]; simp (disch := first | omega | (simp only [List.length_cons, List.length_nil, List.length_append, u8s_len]; omega)) only [go_sem, ↓reduceIte, true_and, Nat.reduceLeDiff, Nat.reduceEqDiff, Nat.reduceAdd, Nat.reduceBEq, Int.reduceEq, t2, t3, t5, t6, t7, eb, e1, e2, e3, hO.get0, hO.get1, hO.get2]
    refine (awake_ok H HC _).mono ?_
    rintro _ _ ⟨rfl, hh⟩; subst hh
    rw [contK_some]; simp (disch := first | omega | (simp only [List.length_cons, List.length_nil, List.length_append, u8s_len]; omega)) only [go_sem, ↓reduceIte, true_and, Nat.reduceLeDiff, Nat.reduceEqDiff, Nat.reduceAdd, Nat.reduceBEq, Int.reduceEq]
  rw [decide_eq_false q0] at eb
  have e : s = ((quoP a b, remP a b), 0) := by rw [← hs, divS, if_pos ⟨qa, qb, q0⟩]
  have s2 : s.2 = 0 := by rw [e]
  have nb := nrm_le qb
  have nb0 := nrm_nonneg b
  have hr := rem_half (a := a) (nrm_pos q0)
  have nr0 := nrm_nonneg (remP a b)
  have ok := rem_ok (a := a) qb (nrm_pos q0)
  have s12 : s.1.2 = remP a b := by rw [e]
  have g1 := HC.eq s.1.1.1 s.1.1.2 (quoP a b).1 (quoP a b).2
  rw [show decide (s.1.1.1 = (quoP a b).1 ∧ s.1.1.2 = (quoP a b).2) = true by rw [e]; exact decide_eq_true ⟨rfl, rfl⟩] at g1
  have g2 := HC.eq (remP a b).1 (remP a b).2 (remP a b).1 (remP a b).2
  rw [show decide ((remP a b).1 = (remP a b).1 ∧ (remP a b).2 = (remP a b).2) = true from decide_eq_true ⟨rfl, rfl⟩] at g2
  rw [s12] at hO
  (refine W_seq_gen fun N hN => ?_); simp (disch := first | omega | (simp only [List.length_cons, List.length_nil, List.length_append, u8s_len]; omega)) only [go_sem, ↓reduceIte, true_and, Nat.reduceLeDiff, Nat.reduceEqDiff, Nat.reduceAdd, Nat.reduceBEq, Int.reduceEq, t2, t3, t5, t6, t7, hO.get3]
  refine (may_ok H _ _ _).mono ?_
  rintro _ _ ⟨rfl, hh⟩; subst hh
  rw [show decide (okP a.1 a.2) = true from decide_eq_true qa]
  rw [contK_some]; simp (disch := first | omega | (simp only [List.length_cons, List.length_nil, List.length_append, u8s_len]; omega)) only [go_sem, ↓reduceIte, true_and, Nat.reduceLeDiff, Nat.reduceEqDiff, Nat.reduceAdd, Nat.reduceBEq, Int.reduceEq, t2, t3, t5, t6, t7, hO.get2]
  refine (may_ok H _ _ _).mono ?_
  rintro _ _ ⟨rfl, hh⟩; subst hh
  rw [show decide (okP b.1 b.2) = true from decide_eq_true qb]
  rw [contK_some]; simp (disch := first | omega | (simp only [List.length_cons, List.length_nil, List.length_append, u8s_len]; omega)) only [go_sem, ↓reduceIte, true_and, Nat.reduceLeDiff, Nat.reduceEqDiff, Nat.reduceAdd, Nat.reduceBEq, Int.reduceEq, t2, t3, t5, t6, t7, eb, hO.get2]
  refine hN _ ?_; clear hN N
  (refine W_seq_gen fun N hN => ?_); simp (disch := first | omega | (simp only [List.length_cons, List.length_nil, List.length_append, u8s_len]; omega)) only [go_sem, ↓reduceIte, true_and, Nat.reduceLeDiff, Nat.reduceEqDiff, Nat.reduceAdd, Nat.reduceBEq, Int.reduceEq, t2, t3, t5, t6, t7, hO.get2, hO.get3]
  refine (rdiv_ok H qa qb q0 _).mono ?_
  rintro _ _ ⟨rfl, hh⟩; subst hh
  rw [contK_some]; simp (disch := first | omega | (simp only [List.length_cons, List.length_nil, List.length_append, u8s_len]; omega)) only [go_sem, ↓reduceIte, true_and, Nat.reduceLeDiff, Nat.reduceEqDiff, Nat.reduceAdd, Nat.reduceBEq, Int.reduceEq, ptA]
  intro o8 h8 o9 h9
  have hO8 := (hO.new h8 (X := .arr [.sc (.int .i64 (0 : Nat)), .sc (.int .i64 (0 : Nat))])).new h9 (X := .arr [.sc (.int .i64 (0 : Nat)), .sc (.int .i64 (0 : Nat))])
  have n98 : ¬ o9 = o8 := hO8.ne01
  have n89 : ¬ o8 = o9 := fun e => n98 e.symm
  clear hO
  simp (disch := first | omega | (simp only [List.length_cons, List.length_nil, List.length_append, u8s_len]; omega)) only [go_sem, ↓reduceIte, true_and, Nat.reduceLeDiff, Nat.reduceEqDiff, Nat.reduceAdd, Nat.reduceBEq, Int.reduceEq, n98, n89]
  refine hN _ ?_; clear hN N; refine W_ob (hO8.st1.st0) fun hc hO => ?_
  clear hO8
  refine W_forget (fun t => t 2 = .op o2 0 ∧ t 3 = .op o3 0 ∧ t 5 = .op o5 0 ∧ t 6 = .op o6 0 ∧ t 7 = .sc (.int .i64 (s.2 : Nat)) ∧ t 8 = .op o8 0 ∧ t 9 = .op o9 0 ∧ True) (by simp [upd_at, *] <;> rfl) ?_; rintro t ⟨t2, t3, t5, t6, t7, t8, t9, -⟩
  -- DEF T: t2, t3, t5, t6, t7, t8, t9
  have c2 : ((2 : Nat) : Int) = 2 := rfl
  have le : 2 * nrm (remP a b) ≤ nrm b := hr
  have w : -9223372036854775808 ≤ 2 * nrm (remP a b) ∧ 2 * nrm (remP a b) < 9223372036854775808 := by omega
  (refine W_seq_gen fun N hN => ?_); simp (disch := first | omega | (simp only [List.length_cons, List.length_nil, List.length_append, u8s_len]; omega)) only [go_sem, ↓reduceIte, true_and, Nat.reduceLeDiff, Nat.reduceEqDiff, Nat.reduceAdd, Nat.reduceBEq, Int.reduceEq, t2, t3, t5, t6, t7, t8, t9, s2, c2, g1, g2, hO.get0, hO.get1, hO.get2, hO.get3]
  refine ⟨_, rnorm_ok H ok _, ?_⟩
  rw [contK_some]; simp (disch := first | omega | (simp only [List.length_cons, List.length_nil, List.length_append, u8s_len]; omega)) only [go_sem, ↓reduceIte, true_and, Nat.reduceLeDiff, Nat.reduceEqDiff, Nat.reduceAdd, Nat.reduceBEq, Int.reduceEq, t2, t3, t5, t6, t7, t8, t9, c2, hO.get4]
  refine ⟨_, rnorm_ok H qb _, ?_⟩
  rw [contK_some]; simp (disch := first | omega | (simp only [List.length_cons, List.length_nil, List.length_append, u8s_len]; omega)) only [go_sem, ↓reduceIte, true_and, Nat.reduceLeDiff, Nat.reduceEqDiff, Nat.reduceAdd, Nat.reduceBEq, Int.reduceEq, le]
  refine ⟨_, awake_ok H HC _, ?_⟩
  rw [contK_some]; simp (disch := first | omega | (simp only [List.length_cons, List.length_nil, List.length_append, u8s_len]; omega)) only [go_sem, ↓reduceIte, true_and, Nat.reduceLeDiff, Nat.reduceEqDiff, Nat.reduceAdd, Nat.reduceBEq, Int.reduceEq]
  refine hN _ ?_; clear hN N
  simp (disch := first | omega | (simp only [List.length_cons, List.length_nil, List.length_append, u8s_len]; omega)) only [go_sem, ↓reduceIte, true_and, Nat.reduceLeDiff, Nat.reduceEqDiff, Nat.reduceAdd, Nat.reduceBEq, Int.reduceEq]
end Go.Proofs.Ytjnoigekhdjkcaa
namespace Go.Proofs.Ytjnoigekhdjkcaa
open Go.Am
theorem divs_row {avs : List AV} (h : okArgs Try.prog slW stW Try.f7.params.toList avs) : AWF Try.prog ann 0 7 avs (fun _ => none) fun v _ => v = .sc (.bool true) := by
  obtain ⟨a, b, rfl, ha, hb⟩ := okArgs2 (t := 23) (u := 23) h
  obtain ⟨p, rfl, _⟩ := point_arg ha
  obtain ⟨q, rfl, _⟩ := point_arg hb
  exact divs_law has hasC p q _
end Go.Proofs.Ytjnoigekhdjkcaa
