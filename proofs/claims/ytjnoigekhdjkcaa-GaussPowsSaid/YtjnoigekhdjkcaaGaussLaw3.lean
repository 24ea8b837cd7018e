/- The law of powers. -/
import Derived.Test.YtjnoigekhdjkcaaGaussArgs
import Derived.Test.YtjnoigekhdjkcaaAmFg
set_option linter.unusedVariables false
set_option linter.unusedSimpArgs false
namespace Go.Proofs.Ytjnoigekhdjkcaa
open Go.Am
variable {P : Program} (H : Has P) (HC : HasC P)
include H HC
theorem pows_law (p : Pt) (n : Int) (h : Heap) : AWF P ann 0 5 [ptA p, .sc (.int .i64 n)] h fun r _ => r = .sc (.bool true) := by
  refine AWF.fnc H.f0_5 rfl ?_
  have hO := OB.nil (h := h)
  (refine W_seq_gen fun N hN => ?_); simp (disch := first | omega | (simp only [List.length_cons, List.length_nil, List.length_append, u8s_len]; omega)) only [go_sem, ↓reduceIte, true_and, Nat.reduceLeDiff, Nat.reduceEqDiff, Nat.reduceAdd, Nat.reduceBEq, Int.reduceEq, ptA]
  intro o2 h2
  refine hN _ ?_; clear hN N; refine W_ob (hO.new h2) fun hc hO => ?_
  (refine W_seq_gen fun N hN => ?_); simp (disch := first | omega | (simp only [List.length_cons, List.length_nil, List.length_append, u8s_len]; omega)) only [go_sem, ↓reduceIte, true_and, Nat.reduceLeDiff, Nat.reduceEqDiff, Nat.reduceAdd, Nat.reduceBEq, Int.reduceEq, hO.get0]
  refine (pow_ok H p n _).mono ?_
  rintro _ _ ⟨rfl, hh⟩; subst hh
  generalize hs : powR p n = s
  rw [contK_some]; simp (disch := first | omega | (simp only [List.length_cons, List.length_nil, List.length_append, u8s_len]; omega)) only [go_sem, ↓reduceIte, true_and, Nat.reduceLeDiff, Nat.reduceEqDiff, Nat.reduceAdd, Nat.reduceBEq, Int.reduceEq, resP, ptA, errN]
  intro o5 h5
  refine hN _ ?_; clear hN N; refine W_ob (hO.new h5) fun hc hO => ?_
  refine W_forget (fun t => t 1 = .sc (.int .i64 n) ∧ t 2 = .op o2 0 ∧ t 5 = .op o5 0 ∧ t 6 = .sc (.int .i64 (s.2 : Nat)) ∧ True) (by simp [upd_at, *] <;> rfl) ?_; rintro t ⟨t1, t2, t5, t6, -⟩
  -- DEF T: t1, t2, t5, t6
  by_cases qp : okPt p
  case neg =>
    have e : s = ((0, 0), 1) := by rw [← hs, powR, if_neg (fun h => qp h.1)]
    have d1 : decide (s.2 = 1 ∧ s.1 = (0, 0)) = true := by rw [e]; rfl
    (refine W_seq_gen fun N hN => ?_); simp (disch := first | omega | (simp only [List.length_cons, List.length_nil, List.length_append, u8s_len]; omega)) only [go_sem, ↓reduceIte, true_and, Nat.reduceLeDiff, Nat.reduceEqDiff, Nat.reduceAdd, Nat.reduceBEq, Int.reduceEq, t1, t2, t5, t6, hO.get1]
    refine (may_ok H _ _ _).mono ?_
    rintro _ _ ⟨rfl, hh⟩; subst hh
    rw [show decide (okP p.1 p.2) = false from decide_eq_false qp]
    rw [contK_some]; simp (disch := first | omega | (simp only [List.length_cons, List.length_nil, List.length_append, u8s_len]; omega)) only [go_sem, ↓reduceIte, true_and, Nat.reduceLeDiff, Nat.reduceEqDiff, Nat.reduceAdd, Nat.reduceBEq, Int.reduceEq, t1, t2, t5, t6, hO.get0]
    refine (none_ok H HC s.1 s.2 1 _).mono ?_
    rintro _ _ ⟨rfl, hh⟩; subst hh
    rw [d1]
    rw [contK_some]; simp (disch := first | omega | (simp only [List.length_cons, List.length_nil, List.length_append, u8s_len]; omega)) only [go_sem, ↓reduceIte, true_and, Nat.reduceLeDiff, Nat.reduceEqDiff, Nat.reduceAdd, Nat.reduceBEq, Int.reduceEq]
    refine (awake_ok H HC _).mono ?_
    rintro _ _ ⟨rfl, hh⟩; subst hh
    rw [contK_some]; simp (disch := first | omega | (simp only [List.length_cons, List.length_nil, List.length_append, u8s_len]; omega)) only [go_sem, ↓reduceIte, true_and, Nat.reduceLeDiff, Nat.reduceEqDiff, Nat.reduceAdd, Nat.reduceBEq, Int.reduceEq]
  by_cases c1 : n < ((0 : Nat) : Int)
  case pos =>
    have e : s = ((0, 0), 1) := by rw [← hs, powR, if_neg (fun h => by omega)]
    have d1 : decide (s.2 = 1 ∧ s.1 = (0, 0)) = true := by rw [e]; rfl
    (refine W_seq_gen fun N hN => ?_); simp (disch := first | omega | (simp only [List.length_cons, List.length_nil, List.length_append, u8s_len]; omega)) only [go_sem, ↓reduceIte, true_and, Nat.reduceLeDiff, Nat.reduceEqDiff, Nat.reduceAdd, Nat.reduceBEq, Int.reduceEq, t1, t2, t5, t6, hO.get1]
    refine (may_ok H _ _ _).mono ?_
    rintro _ _ ⟨rfl, hh⟩; subst hh
    rw [show decide (okP p.1 p.2) = true from decide_eq_true qp]
    rw [contK_some]; simp (disch := first | omega | (simp only [List.length_cons, List.length_nil, List.length_append, u8s_len]; omega)) only [go_sem, ↓reduceIte, true_and, Nat.reduceLeDiff, Nat.reduceEqDiff, Nat.reduceAdd, Nat.reduceBEq, Int.reduceEq, t1, t2, t5, t6, c1, hO.get0]
    refine (none_ok H HC s.1 s.2 1 _).mono ?_
    rintro _ _ ⟨rfl, hh⟩; subst hh
    rw [d1]
    rw [contK_some]; simp (disch := first | omega | (simp only [List.length_cons, List.length_nil, List.length_append, u8s_len]; omega)) only [go_sem, ↓reduceIte, true_and, Nat.reduceLeDiff, Nat.reduceEqDiff, Nat.reduceAdd, Nat.reduceBEq, Int.reduceEq]
    refine (awake_ok H HC _).mono ?_
    rintro _ _ ⟨rfl, hh⟩; subst hh
    rw [contK_some]; simp (disch := first | omega | (simp only [List.length_cons, List.length_nil, List.length_append, u8s_len]; omega)) only [go_sem, ↓reduceIte, true_and, Nat.reduceLeDiff, Nat.reduceEqDiff, Nat.reduceAdd, Nat.reduceBEq, Int.reduceEq]
  by_cases c2 : n > ((64 : Nat) : Int)
  case pos =>
    have e : s = ((0, 0), 1) := by rw [← hs, powR, if_neg (fun h => by omega)]
    have d1 : decide (s.2 = 1 ∧ s.1 = (0, 0)) = true := by rw [e]; rfl
    (refine W_seq_gen fun N hN => ?_); simp (disch := first | omega | (simp only [List.length_cons, List.length_nil, List.length_append, u8s_len]; omega)) only [go_sem, ↓reduceIte, true_and, Nat.reduceLeDiff, Nat.reduceEqDiff, Nat.reduceAdd, Nat.reduceBEq, Int.reduceEq, t1, t2, t5, t6, hO.get1]
    refine (may_ok H _ _ _).mono ?_
    rintro _ _ ⟨rfl, hh⟩; subst hh
    rw [show decide (okP p.1 p.2) = true from decide_eq_true qp]
    rw [contK_some]; simp (disch := first | omega | (simp only [List.length_cons, List.length_nil, List.length_append, u8s_len]; omega)) only [go_sem, ↓reduceIte, true_and, Nat.reduceLeDiff, Nat.reduceEqDiff, Nat.reduceAdd, Nat.reduceBEq, Int.reduceEq, t1, t2, t5, t6, c1, c2, hO.get0]
    refine (none_ok H HC s.1 s.2 1 _).mono ?_
    rintro _ _ ⟨rfl, hh⟩; subst hh
    rw [d1]
    rw [contK_some]; simp (disch := first | omega | (simp only [List.length_cons, List.length_nil, List.length_append, u8s_len]; omega)) only [go_sem, ↓reduceIte, true_and, Nat.reduceLeDiff, Nat.reduceEqDiff, Nat.reduceAdd, Nat.reduceBEq, Int.reduceEq]
    refine (awake_ok H HC _).mono ?_
    rintro _ _ ⟨rfl, hh⟩; subst hh
    rw [contK_some]; simp (disch := first | omega | (simp only [List.length_cons, List.length_nil, List.length_append, u8s_len]; omega)) only [go_sem, ↓reduceIte, true_and, Nat.reduceLeDiff, Nat.reduceEqDiff, Nat.reduceAdd, Nat.reduceBEq, Int.reduceEq]
  obtain ⟨k, rfl⟩ : ∃ k : Nat, n = (k : Int) := ⟨n.toNat, by omega⟩
  have hR : s = powS p k := by rw [← hs, powR, if_pos ⟨qp, by omega, by omega⟩]; rfl
  (refine W_seq_gen fun N hN => ?_); simp (disch := first | omega | (simp only [List.length_cons, List.length_nil, List.length_append, u8s_len]; omega)) only [go_sem, ↓reduceIte, true_and, Nat.reduceLeDiff, Nat.reduceEqDiff, Nat.reduceAdd, Nat.reduceBEq, Int.reduceEq, t1, t2, t5, t6, hO.get1]
  refine (may_ok H _ _ _).mono ?_
  rintro _ _ ⟨rfl, hh⟩; subst hh
  rw [show decide (okP p.1 p.2) = true from decide_eq_true qp]
  rw [contK_some]; simp (disch := first | omega | (simp only [List.length_cons, List.length_nil, List.length_append, u8s_len]; omega)) only [go_sem, ↓reduceIte, true_and, Nat.reduceLeDiff, Nat.reduceEqDiff, Nat.reduceAdd, Nat.reduceBEq, Int.reduceEq, t1, t2, t5, t6, c1, c2]
  refine hN _ ?_; clear hN N
  (refine W_seq_gen fun N hN => ?_); simp (disch := first | omega | (simp only [List.length_cons, List.length_nil, List.length_append, u8s_len]; omega)) only [go_sem, ↓reduceIte, true_and, Nat.reduceLeDiff, Nat.reduceEqDiff, Nat.reduceAdd, Nat.reduceBEq, Int.reduceEq, t1, t2, t5, t6]
  intro o7 h7
  refine hN _ ?_; clear hN N; refine W_ob (hO.new h7) fun hc hO => ?_
  refine W_forget (fun t => t 1 = .sc (.int .i64 (k : Nat)) ∧ t 2 = .op o2 0 ∧ t 5 = .op o5 0 ∧ t 6 = .sc (.int .i64 (s.2 : Nat)) ∧ t 7 = .op o7 0 ∧ True) (by simp [upd_at, *] <;> rfl) ?_; rintro t ⟨t1, t2, t5, t6, t7, -⟩
  clear hs
  (refine W_seq_gen fun M hM => ?_)
  (refine W_seq_gen fun N hN => ?_); simp (disch := first | omega | (simp only [List.length_cons, List.length_nil, List.length_append, u8s_len]; omega)) only [go_sem, ↓reduceIte, true_and, Nat.reduceLeDiff, Nat.reduceEqDiff, Nat.reduceAdd, Nat.reduceBEq, Int.reduceEq]
  refine hN _ ?_; clear hN N
  simp (disch := first | omega | (simp only [List.length_cons, List.length_nil, List.length_append, u8s_len]; omega)) only [go_sem, ↓reduceIte, true_and, Nat.reduceLeDiff, Nat.reduceEqDiff, Nat.reduceAdd, Nat.reduceBEq, Int.reduceEq]
  refine AW_loopN (fun m t h' => ∃ i, m = k - i ∧ i ≤ k ∧ (powS p i).2 = 0 ∧ t 1 = .sc (.int .i64 (k : Nat)) ∧ t 2 = .op o2 0 ∧ t 5 = .op o5 0 ∧ t 6 = .sc (.int .i64 (s.2 : Nat)) ∧ t 7 = .op o7 0 ∧ t 8 = .sc (.int .i64 (i : Nat)) ∧
      OB h [(o7, .arr [.sc (.int .i64 (powS p i).1.1), .sc (.int .i64 (powS p i).1.2)]), (o5, .arr [.sc (.int .i64 s.1.1), .sc (.int .i64 s.1.2)]), (o2, .arr [.sc (.int .i64 p.1), .sc (.int .i64 p.2)])] h')
    (n := k) ⟨0, rfl, Nat.zero_le _, rfl, by simp [upd_at, t1], by simp [upd_at, t2], by simp [upd_at, t5], by simp [upd_at, t6], by simp [upd_at, t7], by simp [upd_at], hO⟩ ?_
  clear hO t1 t2 t5 t6 t7
  rintro m t h' ⟨i, rfl, hi, hp0, t1, t2, t5, t6, t7, t8, hO⟩
  -- DEF T: t1, t2, t5, t6, t7, t8
  have hpo := powS_ok p i hp0
  rcases Nat.lt_or_ge i k with hlt | hge
  · (refine W_seq_gen fun N hN => ?_); simp (disch := first | omega | (simp only [List.length_cons, List.length_nil, List.length_append, u8s_len]; omega)) only [go_sem, ↓reduceIte, true_and, Nat.reduceLeDiff, Nat.reduceEqDiff, Nat.reduceAdd, Nat.reduceBEq, Int.reduceEq, t1, t2, t5, t6, t7, t8, hlt]
    refine hN _ ?_; clear hN N
    (refine W_seq_gen fun N hN => ?_)
    rw [W_block]
    (refine W_seq_gen fun N hN => ?_); simp (disch := first | omega | (simp only [List.length_cons, List.length_nil, List.length_append, u8s_len]; omega)) only [go_sem, ↓reduceIte, true_and, Nat.reduceLeDiff, Nat.reduceEqDiff, Nat.reduceAdd, Nat.reduceBEq, Int.reduceEq, t1, t2, t5, t6, t7, t8, hO.get0, hO.get2]
    refine (rmul_ok H hpo qp _).mono ?_
    rintro _ _ ⟨rfl, hh⟩; subst hh
    rw [contK_some]; simp (disch := first | omega | (simp only [List.length_cons, List.length_nil, List.length_append, u8s_len]; omega)) only [go_sem, ↓reduceIte, true_and, Nat.reduceLeDiff, Nat.reduceEqDiff, Nat.reduceAdd, Nat.reduceBEq, Int.reduceEq, ptA, t1, t2, t5, t6, t7, t8, hO.get0]
    refine hN _ ?_; clear hN N; refine W_ob (hO.st0) fun hc hO => ?_
    (refine W_seq_gen fun N hN => ?_); simp (disch := first | omega | (simp only [List.length_cons, List.length_nil, List.length_append, u8s_len]; omega)) only [go_sem, ↓reduceIte, true_and, Nat.reduceLeDiff, Nat.reduceEqDiff, Nat.reduceAdd, Nat.reduceBEq, Int.reduceEq, t1, t2, t5, t6, t7, t8, hO.get0]
    refine (may_ok H _ _ _).mono ?_
    rintro _ _ ⟨rfl, hh⟩; subst hh
    by_cases c : okPt (mulP (powS p i).1 p)
    · have hS : powS p (i + 1) = (mulP (powS p i).1 p, 0) := by rw [powS, if_pos hp0, if_pos c]
      rw [show decide (okP (mulP (powS p i).1 p).1 (mulP (powS p i).1 p).2) = true from decide_eq_true c]
      rw [contK_some]; simp (disch := first | omega | (simp only [List.length_cons, List.length_nil, List.length_append, u8s_len]; omega)) only [go_sem, ↓reduceIte, true_and, Nat.reduceLeDiff, Nat.reduceEqDiff, Nat.reduceAdd, Nat.reduceBEq, Int.reduceEq]
      refine hN _ ?_; clear hN N
      simp (disch := first | omega | (simp only [List.length_cons, List.length_nil, List.length_append, u8s_len]; omega)) only [go_sem, ↓reduceIte, true_and, Nat.reduceLeDiff, Nat.reduceEqDiff, Nat.reduceAdd, Nat.reduceBEq, Int.reduceEq]
      refine hN _ ?_; clear hN N
      simp (disch := first | omega | (simp only [List.length_cons, List.length_nil, List.length_append, u8s_len]; omega)) only [go_sem, ↓reduceIte, true_and, Nat.reduceLeDiff, Nat.reduceEqDiff, Nat.reduceAdd, Nat.reduceBEq, Int.reduceEq, t8, nat_add]
      exact ⟨k - (i + 1), by omega, i + 1, rfl, by omega, by rw [hS], t1, t2, t5, t6, t7, rfl, by rw [hS]; exact hO⟩
    · have hS : powS p (i + 1) = ((0, 0), 3) := by rw [powS, if_pos hp0, if_neg c]
      have hk := powS_bad p (i := i + 1) (by rw [hS]; decide) k (by omega)
      have e : s = ((0, 0), 3) := by rw [hR, hk, hS]
      have d1 : decide (s.2 = 3 ∧ s.1 = (0, 0)) = true := by rw [e]; rfl
      rw [show decide (okP (mulP (powS p i).1 p).1 (mulP (powS p i).1 p).2) = false from decide_eq_false c]
      rw [contK_some]; simp (disch := first | omega | (simp only [List.length_cons, List.length_nil, List.length_append, u8s_len]; omega)) only [go_sem, ↓reduceIte, true_and, Nat.reduceLeDiff, Nat.reduceEqDiff, Nat.reduceAdd, Nat.reduceBEq, Int.reduceEq, t1, t2, t5, t6, t7, t8, hO.get1]
      refine hN _ ?_; clear hN N
      simp (disch := first | omega | (simp only [List.length_cons, List.length_nil, List.length_append, u8s_len]; omega)) only [go_sem, ↓reduceIte, true_and, Nat.reduceLeDiff, Nat.reduceEqDiff, Nat.reduceAdd, Nat.reduceBEq, Int.reduceEq, t1, t2, t5, t6, t7, t8, hO.get1]
      refine (none_ok H HC s.1 s.2 3 _).mono ?_
      rintro _ _ ⟨rfl, hh⟩; subst hh
      rw [d1]
      rw [contK_some]; simp (disch := first | omega | (simp only [List.length_cons, List.length_nil, List.length_append, u8s_len]; omega)) only [go_sem, ↓reduceIte, true_and, Nat.reduceLeDiff, Nat.reduceEqDiff, Nat.reduceAdd, Nat.reduceBEq, Int.reduceEq]
      refine (awake_ok H HC _).mono ?_
      rintro _ _ ⟨rfl, hh⟩; subst hh
      rw [contK_some]; simp (disch := first | omega | (simp only [List.length_cons, List.length_nil, List.length_append, u8s_len]; omega)) only [go_sem, ↓reduceIte, true_and, Nat.reduceLeDiff, Nat.reduceEqDiff, Nat.reduceAdd, Nat.reduceBEq, Int.reduceEq]
  obtain rfl : i = k := by omega
  have s2 : s.2 = 0 := by rw [hR, hp0]
  have eq := HC.eq s.1.1 s.1.2 (powS p i).1.1 (powS p i).1.2
  rw [show decide (s.1.1 = (powS p i).1.1 ∧ s.1.2 = (powS p i).1.2) = true by rw [hR]; exact decide_eq_true ⟨rfl, rfl⟩] at eq
  (refine W_seq_gen fun N hN => ?_); simp (disch := first | omega | (simp only [List.length_cons, List.length_nil, List.length_append, u8s_len]; omega)) only [go_sem, ↓reduceIte, true_and, Nat.reduceLeDiff, Nat.reduceEqDiff, Nat.reduceAdd, Nat.reduceBEq, Int.reduceEq, t1, t2, t5, t6, t7, t8, Nat.lt_irrefl]
  refine hM _ ?_; clear hN N hM M
  simp (disch := first | omega | (simp only [List.length_cons, List.length_nil, List.length_append, u8s_len]; omega)) only [go_sem, ↓reduceIte, true_and, Nat.reduceLeDiff, Nat.reduceEqDiff, Nat.reduceAdd, Nat.reduceBEq, Int.reduceEq, t1, t2, t5, t6, t7, t8, s2, eq, hO.get0, hO.get1]
  refine (awake_ok H HC _).mono ?_
  rintro _ _ ⟨rfl, hh⟩; subst hh
  rw [contK_some]; simp (disch := first | omega | (simp only [List.length_cons, List.length_nil, List.length_append, u8s_len]; omega)) only [go_sem, ↓reduceIte, true_and, Nat.reduceLeDiff, Nat.reduceEqDiff, Nat.reduceAdd, Nat.reduceBEq, Int.reduceEq]
end Go.Proofs.Ytjnoigekhdjkcaa
namespace Go.Proofs.Ytjnoigekhdjkcaa
open Go.Am
theorem pows_row {avs : List AV} (h : okArgs Try.prog slW stW Try.f5.params.toList avs) : AWF Try.prog ann 0 5 avs (fun _ => none) fun v _ => v = .sc (.bool true) := by
  obtain ⟨a, b, rfl, ha, hb⟩ := okArgs2 (t := 23) (u := 3) h
  obtain ⟨p, rfl, _⟩ := point_arg ha
  obtain ⟨n, rfl, _⟩ := okarg_int Try.underlying3 hb
  exact pows_law has hasC p n _
end Go.Proofs.Ytjnoigekhdjkcaa
