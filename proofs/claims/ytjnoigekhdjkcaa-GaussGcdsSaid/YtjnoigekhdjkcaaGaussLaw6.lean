/- The law of measures. -/
import Derived.Test.YtjnoigekhdjkcaaGaussArgs
import Derived.Test.YtjnoigekhdjkcaaAmFg
set_option linter.unusedVariables false
set_option linter.unusedSimpArgs false
namespace Go.Proofs.Ytjnoigekhdjkcaa
open Go.Am
variable {P : Program} (H : Has P) (HC : HasC P)
include H HC
theorem gcds_law (a b c : Pt) (h : Heap) : AWF P ann 0 8 [ptA a, ptA b, ptA c] h fun r _ => r = .sc (.bool true) := by
  refine AWF.fnc H.f0_8 rfl ?_
  have hO := OB.nil (h := h)
  (refine W_seq_gen fun N hN => ?_); simp (disch := first | omega | (simp only [List.length_cons, List.length_nil, List.length_append, u8s_len]; omega)) only [go_sem, ↓reduceIte, true_and, Nat.reduceLeDiff, Nat.reduceEqDiff, Nat.reduceAdd, Nat.reduceBEq, Int.reduceEq, ptA]
  intro o3 h3 o4 h4 o5 h5
  refine hN _ ?_; clear hN N; refine W_ob (((hO.new h3).new h4).new h5) fun hc hO => ?_
  refine W_forget (fun t => t 3 = .op o3 0 ∧ t 4 = .op o4 0 ∧ t 5 = .op o5 0 ∧ True) (by simp [upd_at, *] <;> rfl) ?_; rintro t ⟨t3, t4, t5, -⟩
  (refine W_seq_gen fun N hN => ?_); simp (disch := first | omega | (simp only [List.length_cons, List.length_nil, List.length_append, u8s_len]; omega)) only [go_sem, ↓reduceIte, true_and, Nat.reduceLeDiff, Nat.reduceEqDiff, Nat.reduceAdd, Nat.reduceBEq, Int.reduceEq, t3, t4, t5, hO.get1, hO.get2]
  refine (gcd_ok H HC a b _).mono ?_
  rintro _ _ ⟨rfl, hh⟩; subst hh
  generalize hs : gcdS a b = s
  rw [contK_some]; simp (disch := first | omega | (simp only [List.length_cons, List.length_nil, List.length_append, u8s_len]; omega)) only [go_sem, ↓reduceIte, true_and, Nat.reduceLeDiff, Nat.reduceEqDiff, Nat.reduceAdd, Nat.reduceBEq, Int.reduceEq, resP, ptA, errN]
  intro o7 h7
  refine hN _ ?_; clear hN N; refine W_ob (hO.new h7) fun hc hO => ?_
  refine W_forget (fun t => t 3 = .op o3 0 ∧ t 4 = .op o4 0 ∧ t 5 = .op o5 0 ∧ t 7 = .op o7 0 ∧ t 8 = .sc (.int .i64 (s.2 : Nat)) ∧ True) (by simp [upd_at, *] <;> rfl) ?_; rintro t ⟨t3, t4, t5, t7, t8, -⟩
  -- DEF T: t3, t4, t5, t7, t8
  -- o7 o5 o4 o3
  by_cases q : okPt a ∧ okPt b
  case neg =>
    have e1 : s = ((0, 0), 1) := by rw [← hs, gcdS, if_neg q]
    have d1 : decide (s.2 = 1 ∧ s.1 = (0, 0)) = true := by rw [e1]; rfl
    by_cases qa : okPt a
    · have qb : ¬ okPt b := fun h => q ⟨qa, h⟩
      (refine W_seq_gen fun N hN => ?_); simp (disch := first | omega | (simp only [List.length_cons, List.length_nil, List.length_append, u8s_len]; omega)) only [go_sem, ↓reduceIte, true_and, Nat.reduceLeDiff, Nat.reduceEqDiff, Nat.reduceAdd, Nat.reduceBEq, Int.reduceEq, t3, t4, t5, t7, t8, hO.get3]
      refine (may_ok H _ _ _).mono ?_
      rintro _ _ ⟨rfl, hh⟩; subst hh
      rw [show decide (okP a.1 a.2) = true from decide_eq_true qa]
      rw [contK_some]; simp (disch := first | omega | (simp only [List.length_cons, List.length_nil, List.length_append, u8s_len]; omega)) only [go_sem, ↓reduceIte, true_and, Nat.reduceLeDiff, Nat.reduceEqDiff, Nat.reduceAdd, Nat.reduceBEq, Int.reduceEq, t3, t4, t5, t7, t8, hO.get2]
      refine (may_ok H _ _ _).mono ?_
      rintro _ _ ⟨rfl, hh⟩; subst hh
      rw [show decide (okP b.1 b.2) = false from decide_eq_false qb]
      rw [contK_some]; simp (disch := first | omega | (simp only [List.length_cons, List.length_nil, List.length_append, u8s_len]; omega)) only [go_sem, ↓reduceIte, true_and, Nat.reduceLeDiff, Nat.reduceEqDiff, Nat.reduceAdd, Nat.reduceBEq, Int.reduceEq, t3, t4, t5, t7, t8, hO.get0]
      refine (none_ok H HC s.1 s.2 1 _).mono ?_
      rintro _ _ ⟨rfl, hh⟩; subst hh
      rw [d1]
      rw [contK_some]; simp (disch := first | omega | (simp only [List.length_cons, List.length_nil, List.length_append, u8s_len]; omega)) only [go_sem, ↓reduceIte, true_and, Nat.reduceLeDiff, Nat.reduceEqDiff, Nat.reduceAdd, Nat.reduceBEq, Int.reduceEq]
      refine (awake_ok H HC _).mono ?_
      rintro _ _ ⟨rfl, hh⟩; subst hh
      rw [contK_some]; simp (disch := first | omega | (simp only [List.length_cons, List.length_nil, List.length_append, u8s_len]; omega)) only [go_sem, ↓reduceIte, true_and, Nat.reduceLeDiff, Nat.reduceEqDiff, Nat.reduceAdd, Nat.reduceBEq, Int.reduceEq]
    · (refine W_seq_gen fun N hN => ?_); simp (disch := first | omega | (simp only [List.length_cons, List.length_nil, List.length_append, u8s_len]; omega)) only [go_sem, ↓reduceIte, true_and, Nat.reduceLeDiff, Nat.reduceEqDiff, Nat.reduceAdd, Nat.reduceBEq, Int.reduceEq, t3, t4, t5, t7, t8, hO.get3]
      refine (may_ok H _ _ _).mono ?_
      rintro _ _ ⟨rfl, hh⟩; subst hh
      rw [show decide (okP a.1 a.2) = false from decide_eq_false qa]
      rw [contK_some]; simp (disch := first | omega | (simp only [List.length_cons, List.length_nil, List.length_append, u8s_len]; omega)) only [go_sem, ↓reduceIte, true_and, Nat.reduceLeDiff, Nat.reduceEqDiff, Nat.reduceAdd, Nat.reduceBEq, Int.reduceEq, t3, t4, t5, t7, t8, hO.get0]
      refine (none_ok H HC s.1 s.2 1 _).mono ?_
      rintro _ _ ⟨rfl, hh⟩; subst hh
      rw [d1]
      rw [contK_some]; simp (disch := first | omega | (simp only [List.length_cons, List.length_nil, List.length_append, u8s_len]; omega)) only [go_sem, ↓reduceIte, true_and, Nat.reduceLeDiff, Nat.reduceEqDiff, Nat.reduceAdd, Nat.reduceBEq, Int.reduceEq]
      refine (awake_ok H HC _).mono ?_
      rintro _ _ ⟨rfl, hh⟩; subst hh
      rw [contK_some]; simp (disch := first | omega | (simp only [List.length_cons, List.length_nil, List.length_append, u8s_len]; omega)) only [go_sem, ↓reduceIte, true_and, Nat.reduceLeDiff, Nat.reduceEqDiff, Nat.reduceAdd, Nat.reduceBEq, Int.reduceEq]
  obtain ⟨qa, qb⟩ := q
  have e1 : s = (upP (gcdP a b), 0) := by rw [← hs, gcdS, if_pos ⟨qa, qb⟩]
  clear hs
  obtain ⟨d1, d2, d3, d0, dok⟩ := gcd_spec _ a b (Nat.le_refl _)
  have dok := rotN_ok (upK (gcdP a b)) (dok qa qb)
  have u1 := (dvd_rotN (upK (gcdP a b)) (gcdP a b) a).1.2 d1
  have u2 := (dvd_rotN (upK (gcdP a b)) (gcdP a b) b).1.2 d2
  have u3 : ∀ c, dvdP c a → dvdP c b → dvdP c (upP (gcdP a b)) := fun c h1 h2 => (dvd_rotN (upK (gcdP a b)) c (gcdP a b)).2.2 (d3 c h1 h2)
  have u0 := up_first (upK (gcdP a b)) (gcdP a b) rfl
  have s2 : s.2 = 0 := by rw [e1]
  change okPt (upP (gcdP a b)) at dok
  change dvdP (upP (gcdP a b)) a at u1
  change dvdP (upP (gcdP a b)) b at u2
  have hu0 : upP (gcdP a b) = (0, 0) → a = (0, 0) ∧ b = (0, 0) := fun e => d0 (Classical.byContradiction fun hn => (u0 hn).2.2 e)
  have hu1 : upP (gcdP a b) ≠ (0, 0) → (upP (gcdP a b)).1 > 0 ∧ (upP (gcdP a b)).2 ≥ 0 := fun hn => by
    have : gcdP a b ≠ (0, 0) := fun e => hn (by rw [e]; exact upP_zero)
    exact ⟨(u0 this).1, (u0 this).2.1⟩
  clear u0 d0 d1 d2 d3
  have s1 : s.1 = upP (gcdP a b) := by rw [e1]
  rw [s1] at hO
  rw [s2] at t8
  clear e1 s1 s2
  have hr : ∀ h, AWF P ann 0 25 [ptA a, ptA b] h fun r h' => r = ptA (upP (gcdP a b)) ∧ h' = h := rgcd_ok H HC qa qb
  generalize upP (gcdP a b) = u at hO dok u1 u2 u3 hu0 hu1 hr
  (refine W_seq_gen fun N hN => ?_); simp (disch := first | omega | (simp only [List.length_cons, List.length_nil, List.length_append, u8s_len]; omega)) only [go_sem, ↓reduceIte, true_and, Nat.reduceLeDiff, Nat.reduceEqDiff, Nat.reduceAdd, Nat.reduceBEq, Int.reduceEq, t3, t4, t5, t7, t8, hO.get3]
  refine (may_ok H _ _ _).mono ?_
  rintro _ _ ⟨rfl, hh⟩; subst hh
  rw [show decide (okP a.1 a.2) = true from decide_eq_true qa]
  rw [contK_some]; simp (disch := first | omega | (simp only [List.length_cons, List.length_nil, List.length_append, u8s_len]; omega)) only [go_sem, ↓reduceIte, true_and, Nat.reduceLeDiff, Nat.reduceEqDiff, Nat.reduceAdd, Nat.reduceBEq, Int.reduceEq, t3, t4, t5, t7, t8, hO.get2]
  refine (may_ok H _ _ _).mono ?_
  rintro _ _ ⟨rfl, hh⟩; subst hh
  rw [show decide (okP b.1 b.2) = true from decide_eq_true qb]
  rw [contK_some]; simp (disch := first | omega | (simp only [List.length_cons, List.length_nil, List.length_append, u8s_len]; omega)) only [go_sem, ↓reduceIte, true_and, Nat.reduceLeDiff, Nat.reduceEqDiff, Nat.reduceAdd, Nat.reduceBEq, Int.reduceEq]
  refine hN _ ?_; clear hN N
  have ne := HC.ne u.1 u.2 u.1 u.2
  rw [show decide (u.1 = u.1 ∧ u.2 = u.2) = true from decide_eq_true ⟨rfl, rfl⟩, Bool.not_true] at ne
  (refine W_seq_gen fun N hN => ?_); simp (disch := first | omega | (simp only [List.length_cons, List.length_nil, List.length_append, u8s_len]; omega)) only [go_sem, ↓reduceIte, true_and, Nat.reduceLeDiff, Nat.reduceEqDiff, Nat.reduceAdd, Nat.reduceBEq, Int.reduceEq, t3, t4, t5, t7, t8, hO.get0, hO.get2, hO.get3]
  refine ⟨_, hr _, ?_⟩
  rw [contK_some]; simp (disch := first | omega | (simp only [List.length_cons, List.length_nil, List.length_append, u8s_len]; omega)) only [go_sem, ↓reduceIte, true_and, Nat.reduceLeDiff, Nat.reduceEqDiff, Nat.reduceAdd, Nat.reduceBEq, Int.reduceEq, t3, t4, t5, t7, t8, ptA, ne, hO.get0]
  refine hN _ ?_; clear hN N
  (refine W_seq_gen fun N hN => ?_); simp (disch := first | omega | (simp only [List.length_cons, List.length_nil, List.length_append, u8s_len]; omega)) only [go_sem, ↓reduceIte, true_and, Nat.reduceLeDiff, Nat.reduceEqDiff, Nat.reduceAdd, Nat.reduceBEq, Int.reduceEq]
  intro o9 h9
  refine hN _ ?_; clear hN N; refine W_ob (hO.new h9) fun hc hO => ?_
  refine W_forget (fun t => t 3 = .op o3 0 ∧ t 4 = .op o4 0 ∧ t 5 = .op o5 0 ∧ t 7 = .op o7 0 ∧ t 9 = .op o9 0 ∧ True) (by simp [upd_at, *] <;> rfl) ?_; rintro t ⟨t3, t4, t5, t7, t9, -⟩
  -- DEF T: t3, t4, t5, t7, t9
  -- o9 o7 o5 o4 o3
  have z0 := HC.eq 0 0 ((0 : Nat) : Int) ((0 : Nat) : Int)
  rw [show decide ((0 : Int) = ((0 : Nat) : Int) ∧ (0 : Int) = ((0 : Nat) : Int)) = true from rfl] at z0
  have eu := HC.eq u.1 u.2 ((0 : Nat) : Int) ((0 : Nat) : Int)
  rw [zn] at eu
  by_cases c0 : u = (0, 0)
  case pos =>
    obtain ⟨rfl, rfl⟩ := hu0 c0
    rw [decide_eq_true c0] at eu
    (refine W_seq_gen fun N hN => ?_); simp (disch := first | omega | (simp only [List.length_cons, List.length_nil, List.length_append, u8s_len]; omega)) only [go_sem, ↓reduceIte, true_and, Nat.reduceLeDiff, Nat.reduceEqDiff, Nat.reduceAdd, Nat.reduceBEq, Int.reduceEq, t3, t4, t5, t7, t9, eu, z0, hO.get0, hO.get1, hO.get3, hO.get4]
    refine (awake_ok H HC _).mono ?_
    rintro _ _ ⟨rfl, hh⟩; subst hh
    rw [contK_some]; simp (disch := first | omega | (simp only [List.length_cons, List.length_nil, List.length_append, u8s_len]; omega)) only [go_sem, ↓reduceIte, true_and, Nat.reduceLeDiff, Nat.reduceEqDiff, Nat.reduceAdd, Nat.reduceBEq, Int.reduceEq]
  rw [decide_eq_false c0] at eu
  obtain ⟨g1, g2⟩ := hu1 c0
  have g1 : ¬ u.1 ≤ ((0 : Nat) : Int) := by omega
  have g2 : ¬ u.2 < ((0 : Nat) : Int) := by omega
  (refine W_seq_gen fun N hN => ?_); simp (disch := first | omega | (simp only [List.length_cons, List.length_nil, List.length_append, u8s_len]; omega)) only [go_sem, ↓reduceIte, true_and, Nat.reduceLeDiff, Nat.reduceEqDiff, Nat.reduceAdd, Nat.reduceBEq, Int.reduceEq, t3, t4, t5, t7, t9, eu, hO.get0, hO.get1]
  refine hN _ ?_; clear hN N
  (refine W_seq_gen fun N hN => ?_); simp (disch := first | omega | (simp only [List.length_cons, List.length_nil, List.length_append, u8s_len]; omega)) only [go_sem, ↓reduceIte, true_and, Nat.reduceLeDiff, Nat.reduceEqDiff, Nat.reduceAdd, Nat.reduceBEq, Int.reduceEq, t3, t4, t5, t7, t9, g1, g2, hO.get1, hO.get4]
  refine (divides_ok H HC dok qa c0 _).mono ?_
  rw [decide_eq_true ((rem_zero (nrm_pos c0)).2 u1)]
  rintro _ _ ⟨rfl, hh⟩; subst hh
  rw [contK_some]; simp (disch := first | omega | (simp only [List.length_cons, List.length_nil, List.length_append, u8s_len]; omega)) only [go_sem, ↓reduceIte, true_and, Nat.reduceLeDiff, Nat.reduceEqDiff, Nat.reduceAdd, Nat.reduceBEq, Int.reduceEq, t3, t4, t5, t7, t9, hO.get1, hO.get3]
  refine (divides_ok H HC dok qb c0 _).mono ?_
  rw [decide_eq_true ((rem_zero (nrm_pos c0)).2 u2)]
  rintro _ _ ⟨rfl, hh⟩; subst hh
  rw [contK_some]; simp (disch := first | omega | (simp only [List.length_cons, List.length_nil, List.length_append, u8s_len]; omega)) only [go_sem, ↓reduceIte, true_and, Nat.reduceLeDiff, Nat.reduceEqDiff, Nat.reduceAdd, Nat.reduceBEq, Int.reduceEq]
  refine hN _ ?_; clear hN N
  have ec := HC.eq c.1 c.2 ((0 : Nat) : Int) ((0 : Nat) : Int)
  rw [zn] at ec
  by_cases qc : okPt c
  case neg =>
    (refine W_seq_gen fun N hN => ?_); simp (disch := first | omega | (simp only [List.length_cons, List.length_nil, List.length_append, u8s_len]; omega)) only [go_sem, ↓reduceIte, true_and, Nat.reduceLeDiff, Nat.reduceEqDiff, Nat.reduceAdd, Nat.reduceBEq, Int.reduceEq, t3, t4, t5, t7, t9, hO.get2]
    refine (may_ok H _ _ _).mono ?_
    rintro _ _ ⟨rfl, hh⟩; subst hh
    rw [show decide (okP c.1 c.2) = false from decide_eq_false qc]
    rw [contK_some]; simp (disch := first | omega | (simp only [List.length_cons, List.length_nil, List.length_append, u8s_len]; omega)) only [go_sem, ↓reduceIte, true_and, Nat.reduceLeDiff, Nat.reduceEqDiff, Nat.reduceAdd, Nat.reduceBEq, Int.reduceEq]
    refine (awake_ok H HC _).mono ?_
    rintro _ _ ⟨rfl, hh⟩; subst hh
    rw [contK_some]; simp (disch := first | omega | (simp only [List.length_cons, List.length_nil, List.length_append, u8s_len]; omega)) only [go_sem, ↓reduceIte, true_and, Nat.reduceLeDiff, Nat.reduceEqDiff, Nat.reduceAdd, Nat.reduceBEq, Int.reduceEq]
  by_cases c1 : c = (0, 0)
  case pos =>
    rw [decide_eq_true c1] at ec
    (refine W_seq_gen fun N hN => ?_); simp (disch := first | omega | (simp only [List.length_cons, List.length_nil, List.length_append, u8s_len]; omega)) only [go_sem, ↓reduceIte, true_and, Nat.reduceLeDiff, Nat.reduceEqDiff, Nat.reduceAdd, Nat.reduceBEq, Int.reduceEq, t3, t4, t5, t7, t9, hO.get2]
    refine (may_ok H _ _ _).mono ?_
    rintro _ _ ⟨rfl, hh⟩; subst hh
    rw [show decide (okP c.1 c.2) = true from decide_eq_true qc]
    rw [contK_some]; simp (disch := first | omega | (simp only [List.length_cons, List.length_nil, List.length_append, u8s_len]; omega)) only [go_sem, ↓reduceIte, true_and, Nat.reduceLeDiff, Nat.reduceEqDiff, Nat.reduceAdd, Nat.reduceBEq, Int.reduceEq, t3, t4, t5, t7, t9, ec, hO.get0, hO.get2]
    refine (awake_ok H HC _).mono ?_
    rintro _ _ ⟨rfl, hh⟩; subst hh
    rw [contK_some]; simp (disch := first | omega | (simp only [List.length_cons, List.length_nil, List.length_append, u8s_len]; omega)) only [go_sem, ↓reduceIte, true_and, Nat.reduceLeDiff, Nat.reduceEqDiff, Nat.reduceAdd, Nat.reduceBEq, Int.reduceEq]
  rw [decide_eq_false c1] at ec
  (refine W_seq_gen fun N hN => ?_); simp (disch := first | omega | (simp only [List.length_cons, List.length_nil, List.length_append, u8s_len]; omega)) only [go_sem, ↓reduceIte, true_and, Nat.reduceLeDiff, Nat.reduceEqDiff, Nat.reduceAdd, Nat.reduceBEq, Int.reduceEq, t3, t4, t5, t7, t9, hO.get2]
  refine (may_ok H _ _ _).mono ?_
  rintro _ _ ⟨rfl, hh⟩; subst hh
  rw [show decide (okP c.1 c.2) = true from decide_eq_true qc]
  rw [contK_some]; simp (disch := first | omega | (simp only [List.length_cons, List.length_nil, List.length_append, u8s_len]; omega)) only [go_sem, ↓reduceIte, true_and, Nat.reduceLeDiff, Nat.reduceEqDiff, Nat.reduceAdd, Nat.reduceBEq, Int.reduceEq, t3, t4, t5, t7, t9, ec, hO.get0, hO.get2, hO.get4]
  refine (divides_ok H HC qc qa c1 _).mono ?_
  by_cases w1 : remP a c = (0, 0)
  case neg =>
    rw [decide_eq_false w1]
    rintro _ _ ⟨rfl, hh⟩; subst hh
    rw [contK_some]; simp (disch := first | omega | (simp only [List.length_cons, List.length_nil, List.length_append, u8s_len]; omega)) only [go_sem, ↓reduceIte, true_and, Nat.reduceLeDiff, Nat.reduceEqDiff, Nat.reduceAdd, Nat.reduceBEq, Int.reduceEq]
    refine (awake_ok H HC _).mono ?_
    rintro _ _ ⟨rfl, hh⟩; subst hh
    rw [contK_some]; simp (disch := first | omega | (simp only [List.length_cons, List.length_nil, List.length_append, u8s_len]; omega)) only [go_sem, ↓reduceIte, true_and, Nat.reduceLeDiff, Nat.reduceEqDiff, Nat.reduceAdd, Nat.reduceBEq, Int.reduceEq]
  rw [decide_eq_true w1]
  rintro _ _ ⟨rfl, hh⟩; subst hh
  rw [contK_some]; simp (disch := first | omega | (simp only [List.length_cons, List.length_nil, List.length_append, u8s_len]; omega)) only [go_sem, ↓reduceIte, true_and, Nat.reduceLeDiff, Nat.reduceEqDiff, Nat.reduceAdd, Nat.reduceBEq, Int.reduceEq, t3, t4, t5, t7, t9, hO.get2, hO.get3]
  refine (divides_ok H HC qc qb c1 _).mono ?_
  by_cases w2 : remP b c = (0, 0)
  case neg =>
    rw [decide_eq_false w2]
    rintro _ _ ⟨rfl, hh⟩; subst hh
    rw [contK_some]; simp (disch := first | omega | (simp only [List.length_cons, List.length_nil, List.length_append, u8s_len]; omega)) only [go_sem, ↓reduceIte, true_and, Nat.reduceLeDiff, Nat.reduceEqDiff, Nat.reduceAdd, Nat.reduceBEq, Int.reduceEq]
    refine (awake_ok H HC _).mono ?_
    rintro _ _ ⟨rfl, hh⟩; subst hh
    rw [contK_some]; simp (disch := first | omega | (simp only [List.length_cons, List.length_nil, List.length_append, u8s_len]; omega)) only [go_sem, ↓reduceIte, true_and, Nat.reduceLeDiff, Nat.reduceEqDiff, Nat.reduceAdd, Nat.reduceBEq, Int.reduceEq]
  rw [decide_eq_true w2]
  rintro _ _ ⟨rfl, hh⟩; subst hh
  rw [contK_some]; simp (disch := first | omega | (simp only [List.length_cons, List.length_nil, List.length_append, u8s_len]; omega)) only [go_sem, ↓reduceIte, true_and, Nat.reduceLeDiff, Nat.reduceEqDiff, Nat.reduceAdd, Nat.reduceBEq, Int.reduceEq]
  refine hN _ ?_; clear hN N
  (refine W_seq_gen fun N hN => ?_); simp (disch := first | omega | (simp only [List.length_cons, List.length_nil, List.length_append, u8s_len]; omega)) only [go_sem, ↓reduceIte, true_and, Nat.reduceLeDiff, Nat.reduceEqDiff, Nat.reduceAdd, Nat.reduceBEq, Int.reduceEq, t3, t4, t5, t7, t9, hO.get1, hO.get2]
  refine (divides_ok H HC qc dok c1 _).mono ?_
  rw [decide_eq_true ((rem_zero (nrm_pos c1)).2 (u3 c ((rem_zero (nrm_pos c1)).1 w1) ((rem_zero (nrm_pos c1)).1 w2)))]
  rintro _ _ ⟨rfl, hh⟩; subst hh
  rw [contK_some]; simp (disch := first | omega | (simp only [List.length_cons, List.length_nil, List.length_append, u8s_len]; omega)) only [go_sem, ↓reduceIte, true_and, Nat.reduceLeDiff, Nat.reduceEqDiff, Nat.reduceAdd, Nat.reduceBEq, Int.reduceEq]
  refine (awake_ok H HC _).mono ?_
  rintro _ _ ⟨rfl, hh⟩; subst hh
  rw [contK_some]; simp (disch := first | omega | (simp only [List.length_cons, List.length_nil, List.length_append, u8s_len]; omega)) only [go_sem, ↓reduceIte, true_and, Nat.reduceLeDiff, Nat.reduceEqDiff, Nat.reduceAdd, Nat.reduceBEq, Int.reduceEq]
  refine hN _ ?_; clear hN N
  simp (disch := first | omega | (simp only [List.length_cons, List.length_nil, List.length_append, u8s_len]; omega)) only [go_sem, ↓reduceIte, true_and, Nat.reduceLeDiff, Nat.reduceEqDiff, Nat.reduceAdd, Nat.reduceBEq, Int.reduceEq]
end Go.Proofs.Ytjnoigekhdjkcaa
namespace Go.Proofs.Ytjnoigekhdjkcaa
open Go.Am
theorem gcds_row {avs : List AV} (h : okArgs Try.prog slW stW Try.f8.params.toList avs) : AWF Try.prog ann 0 8 avs (fun _ => none) fun v _ => v = .sc (.bool true) := by
  obtain ⟨a, b, c, rfl, ha, hb, hc⟩ := okArgs3 (t := 23) (u := 23) (v := 23) h
  obtain ⟨p, rfl, _⟩ := point_arg ha
  obtain ⟨q, rfl, _⟩ := point_arg hb
  obtain ⟨r, rfl, _⟩ := point_arg hc
  exact gcds_law has hasC p q r _
end Go.Proofs.Ytjnoigekhdjkcaa
