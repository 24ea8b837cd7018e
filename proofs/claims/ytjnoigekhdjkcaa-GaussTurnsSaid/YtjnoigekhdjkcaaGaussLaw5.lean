/- The law of turns. -/
import Derived.Test.YtjnoigekhdjkcaaGaussArgs
import Derived.Test.YtjnoigekhdjkcaaAmFg
set_option linter.unusedVariables false
set_option linter.unusedSimpArgs false
namespace Go.Proofs.Ytjnoigekhdjkcaa
open Go.Am
variable {P : Program} (H : Has P) (HC : HasC P)
include H HC
theorem turns_law (p : Pt) (n : Int) (h : Heap) : AWF P ann 0 6 [ptA p, .sc (.int .i64 n)] h fun r _ => r = .sc (.bool true) := by
  refine AWF.fnc H.f0_6 rfl ?_
  have hO := OB.nil (h := h)
  (refine W_seq_gen fun N hN => ?_); simp (disch := first | omega | (simp only [List.length_cons, List.length_nil, List.length_append, u8s_len]; omega)) only [go_sem, ↓reduceIte, true_and, Nat.reduceLeDiff, Nat.reduceEqDiff, Nat.reduceAdd, Nat.reduceBEq, Int.reduceEq, ptA]
  intro o2 h2
  refine hN _ ?_; clear hN N; refine W_ob (hO.new h2) fun hc hO => ?_
  refine W_forget (fun t => t 1 = .sc (.int .i64 n) ∧ t 2 = .op o2 0 ∧ True) (by simp [upd_at, *] <;> rfl) ?_; rintro t ⟨t1, t2, -⟩
  (refine W_seq_gen fun N hN => ?_); simp (disch := first | omega | (simp only [List.length_cons, List.length_nil, List.length_append, u8s_len]; omega)) only [go_sem, ↓reduceIte, true_and, Nat.reduceLeDiff, Nat.reduceEqDiff, Nat.reduceAdd, Nat.reduceBEq, Int.reduceEq, t1, t2, hO.get0]
  refine ⟨_, mirror_ok H p, ?_⟩
  generalize hm : (if okPt p then conjP p else (0, 0)) = m
  rw [contK_some]; simp (disch := first | omega | (simp only [List.length_cons, List.length_nil, List.length_append, u8s_len]; omega)) only [go_sem, ↓reduceIte, true_and, Nat.reduceLeDiff, Nat.reduceEqDiff, Nat.reduceAdd, Nat.reduceBEq, Int.reduceEq, ptA]
  refine ⟨_, turn_ok H p n, ?_⟩
  generalize ht : (if okPt p then rotN (n % 4).toNat p else (0, 0)) = q
  rw [contK_some]; simp (disch := first | omega | (simp only [List.length_cons, List.length_nil, List.length_append, u8s_len]; omega)) only [go_sem, ↓reduceIte, true_and, Nat.reduceLeDiff, Nat.reduceEqDiff, Nat.reduceAdd, Nat.reduceBEq, Int.reduceEq, ptA]
  refine ⟨_, norm_ok H p, ?_⟩
  generalize hk : (if okPt p then nrm p else 0) = k
  rw [contK_some]; simp (disch := first | omega | (simp only [List.length_cons, List.length_nil, List.length_append, u8s_len]; omega)) only [go_sem, ↓reduceIte, true_and, Nat.reduceLeDiff, Nat.reduceEqDiff, Nat.reduceAdd, Nat.reduceBEq, Int.reduceEq, ptA]
  intro o5 h5 o6 h6
  have hO8 := (hO.new h5 (X := .arr [.sc (.int .i64 (0 : Nat)), .sc (.int .i64 (0 : Nat))])).new h6 (X := .arr [.sc (.int .i64 (0 : Nat)), .sc (.int .i64 (0 : Nat))])
  have n65 : ¬ o6 = o5 := hO8.ne01
  have n56 : ¬ o5 = o6 := fun e => n65 e.symm
  clear hO
  simp (disch := first | omega | (simp only [List.length_cons, List.length_nil, List.length_append, u8s_len]; omega)) only [go_sem, ↓reduceIte, true_and, Nat.reduceLeDiff, Nat.reduceEqDiff, Nat.reduceAdd, Nat.reduceBEq, Int.reduceEq, n65, n56]
  refine hN _ ?_; clear hN N; refine W_ob (hO8.st1.st0) fun hc hO => ?_
  clear hO8
  refine W_forget (fun t => t 1 = .sc (.int .i64 n) ∧ t 2 = .op o2 0 ∧ t 5 = .op o5 0 ∧ t 6 = .op o6 0 ∧ t 7 = .sc (.int .i64 k) ∧ True) (by simp [upd_at, *] <;> rfl) ?_; rintro t ⟨t1, t2, t5, t6, t7, -⟩
  -- DEF T: t1, t2, t5, t6, t7
  -- o6 o5 o2
  by_cases qp : okPt p
  case neg =>
    rw [if_neg qp] at hm ht hk
    subst hm; subst ht; subst hk
    have e0 := HC.eq 0 0 ((0 : Nat) : Int) ((0 : Nat) : Int)
    rw [show decide ((0 : Int) = ((0 : Nat) : Int) ∧ (0 : Int) = ((0 : Nat) : Int)) = true from rfl] at e0
    (refine W_seq_gen fun N hN => ?_); simp (disch := first | omega | (simp only [List.length_cons, List.length_nil, List.length_append, u8s_len]; omega)) only [go_sem, ↓reduceIte, true_and, Nat.reduceLeDiff, Nat.reduceEqDiff, Nat.reduceAdd, Nat.reduceBEq, Int.reduceEq, t1, t2, t5, t6, t7, hO.get2]
    refine (may_ok H _ _ _).mono ?_
    rintro _ _ ⟨rfl, hh⟩; subst hh
    rw [show decide (okP p.1 p.2) = false from decide_eq_false qp]
    rw [contK_some]; simp (disch := first | omega | (simp only [List.length_cons, List.length_nil, List.length_append, u8s_len]; omega)) only [go_sem, ↓reduceIte, true_and, Nat.reduceLeDiff, Nat.reduceEqDiff, Nat.reduceAdd, Nat.reduceBEq, Int.reduceEq, t1, t2, t5, t6, t7, hO.get2]
    refine (check_ok H _ _ _).mono ?_
    rintro _ _ ⟨rfl, hh⟩; subst hh
    rw [if_neg qp]
    rw [contK_some]; simp (disch := first | omega | (simp only [List.length_cons, List.length_nil, List.length_append, u8s_len]; omega)) only [go_sem, ↓reduceIte, true_and, Nat.reduceLeDiff, Nat.reduceEqDiff, Nat.reduceAdd, Nat.reduceBEq, Int.reduceEq, t1, t2, t5, t6, t7, e0, errN, hO.get0, hO.get1]
    refine (awake_ok H HC _).mono ?_
    rintro _ _ ⟨rfl, hh⟩; subst hh
    rw [contK_some]; simp (disch := first | omega | (simp only [List.length_cons, List.length_nil, List.length_append, u8s_len]; omega)) only [go_sem, ↓reduceIte, true_and, Nat.reduceLeDiff, Nat.reduceEqDiff, Nat.reduceAdd, Nat.reduceBEq, Int.reduceEq]
    rfl
  rw [if_pos qp] at hm ht hk
  have kb : okPt q := by rw [← ht]; exact rotN_ok _ qp
  have nk : nrm q = k := by rw [← ht, ← hk, nrm_rotN]
  have k0 := nrm_nonneg p
  have k1 := nrm_le qp
  have e0 := HC.eq p.1 p.2 p.1 p.2
  rw [show decide (p.1 = p.1 ∧ p.2 = p.2) = true from decide_eq_true ⟨rfl, rfl⟩] at e0
  have e1 := HC.eq m.1 m.2 p.1 (0 - p.2)
  rw [show decide (m.1 = p.1 ∧ m.2 = 0 - p.2) = true by rw [← hm, Int.zero_sub]; exact decide_eq_true ⟨rfl, rfl⟩] at e1
  have e2 := HC.eq q.1 q.2 q.1 q.2
  rw [show decide (q.1 = q.1 ∧ q.2 = q.2) = true from decide_eq_true ⟨rfl, rfl⟩] at e2
  obtain ⟨⟨p1, p2⟩, p3, p4⟩ := id qp
  (refine W_seq_gen fun N hN => ?_); simp (disch := first | omega | (simp only [List.length_cons, List.length_nil, List.length_append, u8s_len]; omega)) only [go_sem, ↓reduceIte, true_and, Nat.reduceLeDiff, Nat.reduceEqDiff, Nat.reduceAdd, Nat.reduceBEq, Int.reduceEq, t1, t2, t5, t6, t7, hO.get2]
  refine (may_ok H _ _ _).mono ?_
  rintro _ _ ⟨rfl, hh⟩; subst hh
  rw [show decide (okP p.1 p.2) = true from decide_eq_true qp]
  rw [contK_some]; simp (disch := first | omega | (simp only [List.length_cons, List.length_nil, List.length_append, u8s_len]; omega)) only [go_sem, ↓reduceIte, true_and, Nat.reduceLeDiff, Nat.reduceEqDiff, Nat.reduceAdd, Nat.reduceBEq, Int.reduceEq]
  refine hN _ ?_; clear hN N
  (refine W_seq_gen fun N hN => ?_); simp (disch := first | omega | (simp only [List.length_cons, List.length_nil, List.length_append, u8s_len]; omega)) only [go_sem, ↓reduceIte, true_and, Nat.reduceLeDiff, Nat.reduceEqDiff, Nat.reduceAdd, Nat.reduceBEq, Int.reduceEq, t1, t2, t5, t6, t7, hO.get2]
  refine (turn_ok H p 1 _).mono ?_
  rw [if_pos qp, rotN_one]
  have r1 := rot_ok qp
  rintro _ _ ⟨rfl, hh⟩; subst hh
  rw [contK_some]; simp (disch := first | omega | (simp only [List.length_cons, List.length_nil, List.length_append, u8s_len]; omega)) only [go_sem, ↓reduceIte, true_and, Nat.reduceLeDiff, Nat.reduceEqDiff, Nat.reduceAdd, Nat.reduceBEq, Int.reduceEq, ptA]
  refine (turn_ok H (rotP p) 1 _).mono ?_
  rw [if_pos r1, rotN_one]
  have r2 := rot_ok r1
  rintro _ _ ⟨rfl, hh⟩; subst hh
  rw [contK_some]; simp (disch := first | omega | (simp only [List.length_cons, List.length_nil, List.length_append, u8s_len]; omega)) only [go_sem, ↓reduceIte, true_and, Nat.reduceLeDiff, Nat.reduceEqDiff, Nat.reduceAdd, Nat.reduceBEq, Int.reduceEq, ptA]
  refine (turn_ok H (rotP (rotP p)) 1 _).mono ?_
  rw [if_pos r2, rotN_one]
  have r3 := rot_ok r2
  rintro _ _ ⟨rfl, hh⟩; subst hh
  rw [contK_some]; simp (disch := first | omega | (simp only [List.length_cons, List.length_nil, List.length_append, u8s_len]; omega)) only [go_sem, ↓reduceIte, true_and, Nat.reduceLeDiff, Nat.reduceEqDiff, Nat.reduceAdd, Nat.reduceBEq, Int.reduceEq, ptA]
  refine (turn_ok H (rotP (rotP (rotP p))) 1 _).mono ?_
  rw [if_pos r3, rotN_one, rot4]
  rintro _ _ ⟨rfl, hh⟩; subst hh
  rw [contK_some]; simp (disch := first | omega | (simp only [List.length_cons, List.length_nil, List.length_append, u8s_len]; omega)) only [go_sem, ↓reduceIte, true_and, Nat.reduceLeDiff, Nat.reduceEqDiff, Nat.reduceAdd, Nat.reduceBEq, Int.reduceEq, ptA]
  intro o8 h8
  refine hN _ ?_; clear hN N; refine W_ob (hO.new h8) fun hc hO => ?_
  refine W_forget (fun t => t 1 = .sc (.int .i64 n) ∧ t 2 = .op o2 0 ∧ t 5 = .op o5 0 ∧ t 6 = .op o6 0 ∧ t 7 = .sc (.int .i64 k) ∧ t 8 = .op o8 0 ∧ True) (by simp [upd_at, *] <;> rfl) ?_; rintro t ⟨t1, t2, t5, t6, t7, t8, -⟩
  -- DEF T: t1, t2, t5, t6, t7, t8
  -- o8 o6 o5 o2
  (refine W_seq_gen fun N hN => ?_); simp (disch := first | omega | (simp only [List.length_cons, List.length_nil, List.length_append, u8s_len]; omega)) only [go_sem, ↓reduceIte, true_and, Nat.reduceLeDiff, Nat.reduceEqDiff, Nat.reduceAdd, Nat.reduceBEq, Int.reduceEq, t1, t2, t5, t6, t7, t8, hO.get0, hO.get1, hO.get2, hO.get3]
  refine ⟨_, check_ok H p.1 p.2 _, ?_⟩
  rw [if_pos qp]
  rw [contK_some]; simp (disch := first | omega | (simp only [List.length_cons, List.length_nil, List.length_append, u8s_len]; omega)) only [go_sem, ↓reduceIte, true_and, Nat.reduceLeDiff, Nat.reduceEqDiff, Nat.reduceAdd, Nat.reduceBEq, Int.reduceEq, t1, t2, t5, t6, t7, t8, errN, un_neg, e1, hO.get0, hO.get1, hO.get2, hO.get3]
  refine ⟨_, rturn_ok H qp n _, ?_⟩
  rw [ht]
  rw [contK_some]; simp (disch := first | omega | (simp only [List.length_cons, List.length_nil, List.length_append, u8s_len]; omega)) only [go_sem, ↓reduceIte, true_and, Nat.reduceLeDiff, Nat.reduceEqDiff, Nat.reduceAdd, Nat.reduceBEq, Int.reduceEq, ptA, t1, t2, t5, t6, t7, t8, e2, hO.get0, hO.get1, hO.get2, hO.get3]
  refine ⟨_, rnorm_ok H qp _, ?_⟩
  rw [hk]
  rw [contK_some]; simp (disch := first | omega | (simp only [List.length_cons, List.length_nil, List.length_append, u8s_len]; omega)) only [go_sem, ↓reduceIte, true_and, Nat.reduceLeDiff, Nat.reduceEqDiff, Nat.reduceAdd, Nat.reduceBEq, Int.reduceEq, t1, t2, t5, t6, t7, t8, e0, hO.get0, hO.get1, hO.get2, hO.get3]
  refine ⟨_, norm_ok H q _, ?_⟩
  rw [if_pos kb, nk]
  rw [contK_some]; simp (disch := first | omega | (simp only [List.length_cons, List.length_nil, List.length_append, u8s_len]; omega)) only [go_sem, ↓reduceIte, true_and, Nat.reduceLeDiff, Nat.reduceEqDiff, Nat.reduceAdd, Nat.reduceBEq, Int.reduceEq, t1, t2, t5, t6, t7, t8, hO.get0, hO.get1, hO.get2, hO.get3]
  refine ⟨_, awake_ok H HC _, ?_⟩
  rw [contK_some]; simp (disch := first | omega | (simp only [List.length_cons, List.length_nil, List.length_append, u8s_len]; omega)) only [go_sem, ↓reduceIte, true_and, Nat.reduceLeDiff, Nat.reduceEqDiff, Nat.reduceAdd, Nat.reduceBEq, Int.reduceEq]
  refine hN _ ?_; clear hN N
  simp (disch := first | omega | (simp only [List.length_cons, List.length_nil, List.length_append, u8s_len]; omega)) only [go_sem, ↓reduceIte, true_and, Nat.reduceLeDiff, Nat.reduceEqDiff, Nat.reduceAdd, Nat.reduceBEq, Int.reduceEq]
end Go.Proofs.Ytjnoigekhdjkcaa
namespace Go.Proofs.Ytjnoigekhdjkcaa
open Go.Am
theorem turns_row {avs : List AV} (h : okArgs Try.prog slW stW Try.f6.params.toList avs) : AWF Try.prog ann 0 6 avs (fun _ => none) fun v _ => v = .sc (.bool true) := by
  obtain ⟨a, b, rfl, ha, hb⟩ := okArgs2 (t := 23) (u := 3) h
  obtain ⟨p, rfl, _⟩ := point_arg ha
  obtain ⟨n, rfl, _⟩ := okarg_int Try.underlying3 hb
  exact turns_law has hasC p n _
end Go.Proofs.Ytjnoigekhdjkcaa
