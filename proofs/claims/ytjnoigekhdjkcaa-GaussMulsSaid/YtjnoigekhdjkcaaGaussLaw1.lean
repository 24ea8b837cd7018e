/- The law of products. -/
import Derived.Test.YtjnoigekhdjkcaaGaussOps6
import Derived.Test.YtjnoigekhdjkcaaAmFg
set_option linter.unusedVariables false
set_option linter.unusedSimpArgs false
namespace Go.Proofs.Ytjnoigekhdjkcaa
open Go.Am
def big (x : Int) : Prop := -9223372036854775808 ≤ x ∧ x < 9223372036854775808
variable {P : Program} (H : Has P) (HC : HasC P)
include H HC
theorem muls_law (a b : Pt) (h : Heap) : AWF P ann 0 3 [ptA a, ptA b] h fun r _ => r = .sc (.bool true) := by
  refine AWF.fnc H.f0_3 rfl ?_
  have hO := OB.nil (h := h)
  (refine W_seq_gen fun N hN => ?_); simp (disch := first | omega | (simp only [List.length_cons, List.length_nil, List.length_append, u8s_len]; omega)) only [go_sem, ↓reduceIte, true_and, Nat.reduceLeDiff, Nat.reduceEqDiff, Nat.reduceAdd, Nat.reduceBEq, Int.reduceEq, ptA]
  intro o2 h2 o3 h3
  refine hN _ ?_; clear hN N; refine W_ob ((hO.new h2).new h3) fun hc hO => ?_
  (refine W_seq_gen fun N hN => ?_); simp (disch := first | omega | (simp only [List.length_cons, List.length_nil, List.length_append, u8s_len]; omega)) only [go_sem, ↓reduceIte, true_and, Nat.reduceLeDiff, Nat.reduceEqDiff, Nat.reduceAdd, Nat.reduceBEq, Int.reduceEq, hO.get0, hO.get1]
  refine (add_ok H a b _).mono ?_
  rintro _ _ ⟨rfl, hh⟩; subst hh
  generalize hs : addS a b = s
  rw [contK_some]; simp (disch := first | omega | (simp only [List.length_cons, List.length_nil, List.length_append, u8s_len]; omega)) only [go_sem, ↓reduceIte, true_and, Nat.reduceLeDiff, Nat.reduceEqDiff, Nat.reduceAdd, Nat.reduceBEq, Int.reduceEq, resP, ptA, errN]
  intro o5 h5
  refine hN _ ?_; clear hN N; refine W_ob (hO.new h5) fun hc hO => ?_
  refine W_forget (fun t => t 2 = .op o2 0 ∧ t 3 = .op o3 0 ∧ t 5 = .op o5 0 ∧ t 6 = .sc (.int .i64 (s.2 : Nat)) ∧ True) (by simp [upd_at, *] <;> rfl) ?_; rintro t ⟨t2, t3, t5, t6, -⟩
  (refine W_seq_gen fun N hN => ?_); simp (disch := first | omega | (simp only [List.length_cons, List.length_nil, List.length_append, u8s_len]; omega)) only [go_sem, ↓reduceIte, true_and, Nat.reduceLeDiff, Nat.reduceEqDiff, Nat.reduceAdd, Nat.reduceBEq, Int.reduceEq, t2, t3, hO.get1, hO.get2]
  refine (mul_ok H a b _).mono ?_
  rintro _ _ ⟨rfl, hh⟩; subst hh
  generalize hm : mulS a b = m
  rw [contK_some]; simp (disch := first | omega | (simp only [List.length_cons, List.length_nil, List.length_append, u8s_len]; omega)) only [go_sem, ↓reduceIte, true_and, Nat.reduceLeDiff, Nat.reduceEqDiff, Nat.reduceAdd, Nat.reduceBEq, Int.reduceEq, resP, ptA, errN]
  intro o7 h7
  refine hN _ ?_; clear hN N; refine W_ob (hO.new h7) fun hc hO => ?_
  refine W_forget (fun t => t 2 = .op o2 0 ∧ t 3 = .op o3 0 ∧ t 5 = .op o5 0 ∧ t 6 = .sc (.int .i64 (s.2 : Nat)) ∧ t 7 = .op o7 0 ∧ t 8 = .sc (.int .i64 (m.2 : Nat)) ∧ True) (by simp [upd_at, *] <;> rfl) ?_; rintro t ⟨t2, t3, t5, t6, t7, t8, -⟩
  -- DEF T: t2, t3, t5, t6, t7, t8
  by_cases q : okPt a ∧ okPt b
  case neg =>
    have e1 : s = ((0, 0), 1) := by rw [← hs, addS, if_neg q]
    have e2 : m = ((0, 0), 1) := by rw [← hm, mulS, if_neg q]
    have d1 : decide (s.2 = 1 ∧ s.1 = (0, 0)) = true := by rw [e1]; rfl
    have d2 : decide (m.2 = 1 ∧ m.1 = (0, 0)) = true := by rw [e2]; rfl
    by_cases qa : okPt a
    · have qb : ¬ okPt b := fun h => q ⟨qa, h⟩
      (refine W_seq_gen fun N hN => ?_); simp (disch := first | omega | (simp only [List.length_cons, List.length_nil, List.length_append, u8s_len]; omega)) only [go_sem, ↓reduceIte, true_and, Nat.reduceLeDiff, Nat.reduceEqDiff, Nat.reduceAdd, Nat.reduceBEq, Int.reduceEq, t2, t3, t5, t6, t7, t8, hO.get2, hO.get3]
      refine (may_ok H _ _ _).mono ?_
      rintro _ _ ⟨rfl, hh⟩; subst hh
      rw [show decide (okP a.1 a.2) = true from decide_eq_true qa]
      rw [contK_some]; simp (disch := first | omega | (simp only [List.length_cons, List.length_nil, List.length_append, u8s_len]; omega)) only [go_sem, ↓reduceIte, true_and, Nat.reduceLeDiff, Nat.reduceEqDiff, Nat.reduceAdd, Nat.reduceBEq, Int.reduceEq, t2, t3, t5, t6, t7, t8, hO.get2]
      refine (may_ok H _ _ _).mono ?_
      rintro _ _ ⟨rfl, hh⟩; subst hh
      rw [show decide (okP b.1 b.2) = false from decide_eq_false qb]
      rw [contK_some]; simp (disch := first | omega | (simp only [List.length_cons, List.length_nil, List.length_append, u8s_len]; omega)) only [go_sem, ↓reduceIte, true_and, Nat.reduceLeDiff, Nat.reduceEqDiff, Nat.reduceAdd, Nat.reduceBEq, Int.reduceEq, t2, t3, t5, t6, t7, t8, hO.get0, hO.get1]
      refine (none_ok H HC s.1 s.2 1 _).mono ?_
      rintro _ _ ⟨rfl, hh⟩; subst hh
      rw [d1]
      rw [contK_some]; simp (disch := first | omega | (simp only [List.length_cons, List.length_nil, List.length_append, u8s_len]; omega)) only [go_sem, ↓reduceIte, true_and, Nat.reduceLeDiff, Nat.reduceEqDiff, Nat.reduceAdd, Nat.reduceBEq, Int.reduceEq, t2, t3, t5, t6, t7, t8, hO.get0]
      refine (none_ok H HC m.1 m.2 1 _).mono ?_
      rintro _ _ ⟨rfl, hh⟩; subst hh
      rw [d2]
      rw [contK_some]; simp (disch := first | omega | (simp only [List.length_cons, List.length_nil, List.length_append, u8s_len]; omega)) only [go_sem, ↓reduceIte, true_and, Nat.reduceLeDiff, Nat.reduceEqDiff, Nat.reduceAdd, Nat.reduceBEq, Int.reduceEq, t2, t3, t5, t6, t7, t8]
      refine (awake_ok H HC _).mono ?_
      rintro _ _ ⟨rfl, hh⟩; subst hh
      rw [contK_some]; simp (disch := first | omega | (simp only [List.length_cons, List.length_nil, List.length_append, u8s_len]; omega)) only [go_sem, ↓reduceIte, true_and, Nat.reduceLeDiff, Nat.reduceEqDiff, Nat.reduceAdd, Nat.reduceBEq, Int.reduceEq, t2, t3, t5, t6, t7, t8]
    · (refine W_seq_gen fun N hN => ?_); simp (disch := first | omega | (simp only [List.length_cons, List.length_nil, List.length_append, u8s_len]; omega)) only [go_sem, ↓reduceIte, true_and, Nat.reduceLeDiff, Nat.reduceEqDiff, Nat.reduceAdd, Nat.reduceBEq, Int.reduceEq, t2, t3, t5, t6, t7, t8, hO.get2, hO.get3]
      refine (may_ok H _ _ _).mono ?_
      rintro _ _ ⟨rfl, hh⟩; subst hh
      rw [show decide (okP a.1 a.2) = false from decide_eq_false qa]
      rw [contK_some]; simp (disch := first | omega | (simp only [List.length_cons, List.length_nil, List.length_append, u8s_len]; omega)) only [go_sem, ↓reduceIte, true_and, Nat.reduceLeDiff, Nat.reduceEqDiff, Nat.reduceAdd, Nat.reduceBEq, Int.reduceEq, t2, t3, t5, t6, t7, t8, hO.get0, hO.get1]
      refine (none_ok H HC s.1 s.2 1 _).mono ?_
      rintro _ _ ⟨rfl, hh⟩; subst hh
      rw [d1]
      rw [contK_some]; simp (disch := first | omega | (simp only [List.length_cons, List.length_nil, List.length_append, u8s_len]; omega)) only [go_sem, ↓reduceIte, true_and, Nat.reduceLeDiff, Nat.reduceEqDiff, Nat.reduceAdd, Nat.reduceBEq, Int.reduceEq, t2, t3, t5, t6, t7, t8, hO.get0]
      refine (none_ok H HC m.1 m.2 1 _).mono ?_
      rintro _ _ ⟨rfl, hh⟩; subst hh
      rw [d2]
      rw [contK_some]; simp (disch := first | omega | (simp only [List.length_cons, List.length_nil, List.length_append, u8s_len]; omega)) only [go_sem, ↓reduceIte, true_and, Nat.reduceLeDiff, Nat.reduceEqDiff, Nat.reduceAdd, Nat.reduceBEq, Int.reduceEq, t2, t3, t5, t6, t7, t8]
      refine (awake_ok H HC _).mono ?_
      rintro _ _ ⟨rfl, hh⟩; subst hh
      rw [contK_some]; simp (disch := first | omega | (simp only [List.length_cons, List.length_nil, List.length_append, u8s_len]; omega)) only [go_sem, ↓reduceIte, true_and, Nat.reduceLeDiff, Nat.reduceEqDiff, Nat.reduceAdd, Nat.reduceBEq, Int.reduceEq, t2, t3, t5, t6, t7, t8]
  obtain ⟨qa, qb⟩ := q
  have q : okPt a ∧ okPt b := ⟨qa, qb⟩
  (refine W_seq_gen fun N hN => ?_); simp (disch := first | omega | (simp only [List.length_cons, List.length_nil, List.length_append, u8s_len]; omega)) only [go_sem, ↓reduceIte, true_and, Nat.reduceLeDiff, Nat.reduceEqDiff, Nat.reduceAdd, Nat.reduceBEq, Int.reduceEq, t2, t3, t5, t6, t7, t8, hO.get2, hO.get3]
  refine (may_ok H _ _ _).mono ?_
  rintro _ _ ⟨rfl, hh⟩; subst hh
  rw [show decide (okP a.1 a.2) = true from decide_eq_true qa]
  rw [contK_some]; simp (disch := first | omega | (simp only [List.length_cons, List.length_nil, List.length_append, u8s_len]; omega)) only [go_sem, ↓reduceIte, true_and, Nat.reduceLeDiff, Nat.reduceEqDiff, Nat.reduceAdd, Nat.reduceBEq, Int.reduceEq, t2, t3, t5, t6, t7, t8, hO.get2]
  refine (may_ok H _ _ _).mono ?_
  rintro _ _ ⟨rfl, hh⟩; subst hh
  rw [show decide (okP b.1 b.2) = true from decide_eq_true qb]
  rw [contK_some]; simp (disch := first | omega | (simp only [List.length_cons, List.length_nil, List.length_append, u8s_len]; omega)) only [go_sem, ↓reduceIte, true_and, Nat.reduceLeDiff, Nat.reduceEqDiff, Nat.reduceAdd, Nat.reduceBEq, Int.reduceEq, t2, t3, t5, t6, t7, t8]
  refine hN _ ?_; clear hN N
  obtain ⟨⟨a1, a2⟩, a3, a4⟩ := id qa
  obtain ⟨⟨b1, b2⟩, b3, b4⟩ := id qb
  have w1 : -9223372036854775808 ≤ a.1 + b.1 ∧ a.1 + b.1 < 9223372036854775808 := by omega
  have w2 : -9223372036854775808 ≤ a.2 + b.2 ∧ a.2 + b.2 < 9223372036854775808 := by omega
  (refine W_seq_gen fun N hN => ?_); simp (disch := first | omega | (simp only [List.length_cons, List.length_nil, List.length_append, u8s_len]; omega)) only [go_sem, ↓reduceIte, true_and, Nat.reduceLeDiff, Nat.reduceEqDiff, Nat.reduceAdd, Nat.reduceBEq, Int.reduceEq, t2, t3, t5, t6, t7, t8, hO.get2, hO.get3]
  intro o9 h9
  refine hN _ ?_; clear hN N; refine W_ob (hO.new h9) fun hc hO => ?_
  refine W_forget (fun t => t 2 = .op o2 0 ∧ t 3 = .op o3 0 ∧ t 5 = .op o5 0 ∧ t 6 = .sc (.int .i64 (s.2 : Nat)) ∧ t 7 = .op o7 0 ∧ t 8 = .sc (.int .i64 (m.2 : Nat)) ∧ t 9 = .op o9 0 ∧ True) (by simp [upd_at, *] <;> rfl) ?_; rintro t ⟨t2, t3, t5, t6, t7, t8, t9, -⟩
  -- DEF T: t2, t3, t5, t6, t7, t8, t9
  have ne := HC.ne s.1.1 s.1.2 (a.1 + b.1) (a.2 + b.2)
  have rest : ∀ (N : St → Prop) (t : Nat → AV), t 2 = .op o2 0 → t 3 = .op o3 0 → t 5 = .op o5 0 → t 6 = .sc (.int .i64 (s.2 : Nat)) → t 7 = .op o7 0 → t 8 = .sc (.int .i64 (m.2 : Nat)) → t 9 = .op o9 0 → True := fun _ _ _ _ _ _ _ _ _ => trivial
  clear rest
  have hq1 : m = if okPt (mulP a b) then (mulP a b, 0) else ((0, 0), 3) := by rw [← hm, mulS, if_pos q]
  (refine W_seq_gen fun M hM => ?_)
  have rest : ∀ t : Nat → AV, t 2 = .op o2 0 → t 3 = .op o3 0 → t 5 = .op o5 0 → t 6 = .sc (.int .i64 (s.2 : Nat)) → t 7 = .op o7 0 → t 8 = .sc (.int .i64 (m.2 : Nat)) → t 9 = .op o9 0 → M ⟨t, hc⟩ := by
    clear t2 t3 t5 t6 t7 t8 t9 t
    intro t t2 t3 t5 t6 t7 t8 t9
    refine hM _ ?_; clear hM M
    (refine W_seq_gen fun N hN => ?_); simp (disch := first | omega | (simp only [List.length_cons, List.length_nil, List.length_append, u8s_len]; omega)) only [go_sem, ↓reduceIte, true_and, Nat.reduceLeDiff, Nat.reduceEqDiff, Nat.reduceAdd, Nat.reduceBEq, Int.reduceEq, t2, t3, t5, t6, t7, t8, t9, hO.get3, hO.get4]
    refine (rmul_ok H qa qb _).mono ?_
    rintro _ _ ⟨rfl, hh⟩; subst hh
    rw [contK_some]; simp (disch := first | omega | (simp only [List.length_cons, List.length_nil, List.length_append, u8s_len]; omega)) only [go_sem, ↓reduceIte, true_and, Nat.reduceLeDiff, Nat.reduceEqDiff, Nat.reduceAdd, Nat.reduceBEq, Int.reduceEq, ptA]
    intro o10 h10
    refine hN _ ?_; clear hN N; refine W_ob (hO.new h10) fun hc hO => ?_
    refine W_forget (fun t => t 2 = .op o2 0 ∧ t 3 = .op o3 0 ∧ t 5 = .op o5 0 ∧ t 6 = .sc (.int .i64 (s.2 : Nat)) ∧ t 7 = .op o7 0 ∧ t 8 = .sc (.int .i64 (m.2 : Nat)) ∧ t 9 = .op o9 0 ∧ t 10 = .op o10 0 ∧ True) (by simp [upd_at, *] <;> rfl) ?_; rintro t ⟨t2, t3, t5, t6, t7, t8, t9, t10, -⟩
    -- DEF T: t2, t3, t5, t6, t7, t8, t9, t10
    (refine W_seq_gen fun N hN => ?_); simp (disch := first | omega | (simp only [List.length_cons, List.length_nil, List.length_append, u8s_len]; omega)) only [go_sem, ↓reduceIte, true_and, Nat.reduceLeDiff, Nat.reduceEqDiff, Nat.reduceAdd, Nat.reduceBEq, Int.reduceEq, t2, t3, t5, t6, t7, t8, t9, t10, hO.get0]
    refine (may_ok H _ _ _).mono ?_
    rintro _ _ ⟨rfl, hh⟩; subst hh
    by_cases qm : okPt (mulP a b)
    · have e1 : m = (mulP a b, 0) := by rw [hq1, if_pos qm]
      have m2 : m.2 = 0 := by rw [e1]
      have eq := HC.eq m.1.1 m.1.2 (mulP a b).1 (mulP a b).2
      rw [show decide (m.1.1 = (mulP a b).1 ∧ m.1.2 = (mulP a b).2) = true by rw [e1]; exact decide_eq_true ⟨rfl, rfl⟩] at eq
      rw [show decide (okP (mulP a b).1 (mulP a b).2) = true from decide_eq_true qm]
      rw [contK_some]; simp (disch := first | omega | (simp only [List.length_cons, List.length_nil, List.length_append, u8s_len]; omega)) only [go_sem, ↓reduceIte, true_and, Nat.reduceLeDiff, Nat.reduceEqDiff, Nat.reduceAdd, Nat.reduceBEq, Int.reduceEq]
      refine hN _ ?_; clear hN N
      have nm := nrm_le qm
      have nm0 := nrm_nonneg (mulP a b)
      have n1 := nrm_mul a b
      have n2 : m.1 = mulP a b := by rw [e1]
      (refine W_seq_gen fun N hN => ?_); simp (disch := first | omega | (simp only [List.length_cons, List.length_nil, List.length_append, u8s_len]; omega)) only [go_sem, ↓reduceIte, true_and, Nat.reduceLeDiff, Nat.reduceEqDiff, Nat.reduceAdd, Nat.reduceBEq, Int.reduceEq, t2, t3, t5, t6, t7, t8, t9, t10, m2, eq, hO.get0, hO.get2]
      refine ⟨_, norm_ok H m.1 _, ?_⟩
      rw [n2, if_pos qm]
      rw [contK_some]; simp (disch := first | omega | (simp only [List.length_cons, List.length_nil, List.length_append, u8s_len]; omega)) only [go_sem, ↓reduceIte, true_and, Nat.reduceLeDiff, Nat.reduceEqDiff, Nat.reduceAdd, Nat.reduceBEq, Int.reduceEq, t2, t3, t5, t6, t7, t8, t9, t10, hO.get5]
      refine ⟨_, norm_ok H a _, ?_⟩
      rw [if_pos qa]
      rw [contK_some]; simp (disch := first | omega | (simp only [List.length_cons, List.length_nil, List.length_append, u8s_len]; omega)) only [go_sem, ↓reduceIte, true_and, Nat.reduceLeDiff, Nat.reduceEqDiff, Nat.reduceAdd, Nat.reduceBEq, Int.reduceEq, t2, t3, t5, t6, t7, t8, t9, t10, hO.get4]
      refine ⟨_, norm_ok H b _, ?_⟩
      rw [if_pos qb]
      have w : -9223372036854775808 ≤ nrm a * nrm b ∧ nrm a * nrm b < 9223372036854775808 := by rw [← n1]; omega
      rw [contK_some]; simp (disch := first | omega | (simp only [List.length_cons, List.length_nil, List.length_append, u8s_len]; omega)) only [go_sem, ↓reduceIte, true_and, Nat.reduceLeDiff, Nat.reduceEqDiff, Nat.reduceAdd, Nat.reduceBEq, Int.reduceEq, n1]
      refine ⟨_, awake_ok H HC _, ?_⟩
      rw [contK_some]; simp (disch := first | omega | (simp only [List.length_cons, List.length_nil, List.length_append, u8s_len]; omega)) only [go_sem, ↓reduceIte, true_and, Nat.reduceLeDiff, Nat.reduceEqDiff, Nat.reduceAdd, Nat.reduceBEq, Int.reduceEq]
      refine hN _ ?_; clear hN N
      simp (disch := first | omega | (simp only [List.length_cons, List.length_nil, List.length_append, u8s_len]; omega)) only [go_sem, ↓reduceIte, true_and, Nat.reduceLeDiff, Nat.reduceEqDiff, Nat.reduceAdd, Nat.reduceBEq, Int.reduceEq]
    · have e1 : m = ((0, 0), 3) := by rw [hq1, if_neg qm]
      have d2 : decide (m.2 = 3 ∧ m.1 = (0, 0)) = true := by rw [e1]; rfl
      rw [show decide (okP (mulP a b).1 (mulP a b).2) = false from decide_eq_false qm]
      rw [contK_some]; simp (disch := first | omega | (simp only [List.length_cons, List.length_nil, List.length_append, u8s_len]; omega)) only [go_sem, ↓reduceIte, true_and, Nat.reduceLeDiff, Nat.reduceEqDiff, Nat.reduceAdd, Nat.reduceBEq, Int.reduceEq, t2, t3, t5, t6, t7, t8, t9, t10, hO.get2]
      refine (none_ok H HC m.1 m.2 3 _).mono ?_
      rintro _ _ ⟨rfl, hh⟩; subst hh
      rw [d2]
      rw [contK_some]; simp (disch := first | omega | (simp only [List.length_cons, List.length_nil, List.length_append, u8s_len]; omega)) only [go_sem, ↓reduceIte, true_and, Nat.reduceLeDiff, Nat.reduceEqDiff, Nat.reduceAdd, Nat.reduceBEq, Int.reduceEq]
      refine (awake_ok H HC _).mono ?_
      rintro _ _ ⟨rfl, hh⟩; subst hh
      rw [contK_some]; simp (disch := first | omega | (simp only [List.length_cons, List.length_nil, List.length_append, u8s_len]; omega)) only [go_sem, ↓reduceIte, true_and, Nat.reduceLeDiff, Nat.reduceEqDiff, Nat.reduceAdd, Nat.reduceBEq, Int.reduceEq]
  clear hM
  -- DEF T: t2, t3, t5, t6, t7, t8, t9
  by_cases qs : okPt (a.1 + b.1, a.2 + b.2)
  · have e1 : s = ((a.1 + b.1, a.2 + b.2), 0) := by rw [← hs, addS, if_pos q, if_pos qs]
    have s2 : s.2 = 0 := by rw [e1]
    have bne : scalarBin P .neq 4 (.bool true) (.bool true) = some (.bool false) := HC.bne true true
    rw [show decide (s.1.1 = a.1 + b.1 ∧ s.1.2 = a.2 + b.2) = true by rw [e1]; exact decide_eq_true ⟨rfl, rfl⟩, Bool.not_true] at ne
    (refine W_seq_gen fun N hN => ?_); simp (disch := first | omega | (simp only [List.length_cons, List.length_nil, List.length_append, u8s_len]; omega)) only [go_sem, ↓reduceIte, true_and, Nat.reduceLeDiff, Nat.reduceEqDiff, Nat.reduceAdd, Nat.reduceBEq, Int.reduceEq, t2, t3, t5, t6, t7, t8, t9, hO.get0]
    refine (may_ok H _ _ _).mono ?_
    rintro _ _ ⟨rfl, hh⟩; subst hh
    rw [show decide (okP (a.1 + b.1) (a.2 + b.2)) = true from decide_eq_true qs]
    rw [contK_some]; simp (disch := first | omega | (simp only [List.length_cons, List.length_nil, List.length_append, u8s_len]; omega)) only [go_sem, ↓reduceIte, true_and, Nat.reduceLeDiff, Nat.reduceEqDiff, Nat.reduceAdd, Nat.reduceBEq, Int.reduceEq, t2, t3, t5, t6, t7, t8, t9, s2, bne, ne, hO.get0, hO.get2]
    refine hN _ ?_; clear hN N
    simp (disch := first | omega | (simp only [List.length_cons, List.length_nil, List.length_append, u8s_len]; omega)) only [go_sem, ↓reduceIte, true_and, Nat.reduceLeDiff, Nat.reduceEqDiff, Nat.reduceAdd, Nat.reduceBEq, Int.reduceEq]
    exact rest _ t2 t3 t5 (by simp [upd_at, t6, s2]) t7 t8 t9
  · have e1 : s = ((0, 0), 3) := by rw [← hs, addS, if_pos q, if_neg qs]
    have s2 : s.2 = 3 := by rw [e1]
    have d1 : decide (s.2 = 3 ∧ s.1 = (0, 0)) = true := by rw [e1]; rfl
    have bne : scalarBin P .neq 4 (.bool false) (.bool false) = some (.bool false) := HC.bne false false
    (refine W_seq_gen fun N hN => ?_); simp (disch := first | omega | (simp only [List.length_cons, List.length_nil, List.length_append, u8s_len]; omega)) only [go_sem, ↓reduceIte, true_and, Nat.reduceLeDiff, Nat.reduceEqDiff, Nat.reduceAdd, Nat.reduceBEq, Int.reduceEq, t2, t3, t5, t6, t7, t8, t9, hO.get0]
    refine (may_ok H _ _ _).mono ?_
    rintro _ _ ⟨rfl, hh⟩; subst hh
    rw [show decide (okP (a.1 + b.1) (a.2 + b.2)) = false from decide_eq_false qs]
    rw [contK_some]; simp (disch := first | omega | (simp only [List.length_cons, List.length_nil, List.length_append, u8s_len]; omega)) only [go_sem, ↓reduceIte, true_and, Nat.reduceLeDiff, Nat.reduceEqDiff, Nat.reduceAdd, Nat.reduceBEq, Int.reduceEq, t2, t3, t5, t6, t7, t8, t9, s2, bne, hO.get0, hO.get2]
    refine (none_ok H HC s.1 3 3 _).mono ?_
    rintro _ _ ⟨rfl, hh⟩; subst hh
    rw [show decide (3 = 3 ∧ s.1 = (0, 0)) = true by rw [e1]; rfl]
    rw [contK_some]; simp (disch := first | omega | (simp only [List.length_cons, List.length_nil, List.length_append, u8s_len]; omega)) only [go_sem, ↓reduceIte, true_and, Nat.reduceLeDiff, Nat.reduceEqDiff, Nat.reduceAdd, Nat.reduceBEq, Int.reduceEq]
    refine hN _ ?_; clear hN N
    simp (disch := first | omega | (simp only [List.length_cons, List.length_nil, List.length_append, u8s_len]; omega)) only [go_sem, ↓reduceIte, true_and, Nat.reduceLeDiff, Nat.reduceEqDiff, Nat.reduceAdd, Nat.reduceBEq, Int.reduceEq]
    exact rest _ t2 t3 t5 (by simp [upd_at, t6, s2]) t7 t8 t9
end Go.Proofs.Ytjnoigekhdjkcaa
