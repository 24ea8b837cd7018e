/- What the functions come to: quotients, the reference's. -/
import Derived.Test.YtjnoigekhdjkcaaGaussOps2
set_option linter.unusedVariables false
set_option linter.unusedSimpArgs false
namespace Go.Proofs.Ytjnoigekhdjkcaa
open Go.Am
def divS (a b : Pt) : (Pt × Pt) × Nat := if okPt a ∧ okPt b ∧ b ≠ (0, 0) then ((quoP a b, remP a b), 0) else (((0, 0), (0, 0)), 1)
def res3 (r : (Pt × Pt) × Nat) : AV := .tu [ptA r.1.1, ptA r.1.2, errN r.2]
theorem conj_bd {p : Pt} (h : okPt p) : okPt (conjP p) := by
  obtain ⟨h1, h2⟩ := h
  refine ⟨h1, ?_⟩
  simp only [conjP]
  omega
/-- The product with a mirror, as far as it goes. -/
theorem c_bd {a b : Pt} (ha : okPt a) (hb : okPt b) : (-2199023255552 ≤ (mulP a (conjP b)).1 ∧ (mulP a (conjP b)).1 ≤ 2199023255552) ∧ -2199023255552 ≤ (mulP a (conjP b)).2 ∧ (mulP a (conjP b)).2 ≤ 2199023255552 := by
  have hc := conj_bd hb
  have m1 := mul_bd ha.1 hc.1
  have m2 := mul_bd ha.2 hc.2
  have m3 := mul_bd ha.1 hc.2
  have m4 := mul_bd ha.2 hc.1
  simp only [mulP]
  omega
theorem near_q {a n q : Int} : (decide (2 * (a - q * n) < n) && decide (2 * (a - q * n) ≥ -n)) = true ↔ (-n ≤ 2 * (a - q * n) ∧ 2 * (a - q * n) < n) := by
  simp only [Bool.and_eq_true, decide_eq_true_eq]
  exact ⟨fun h => ⟨h.2, h.1⟩, fun h => ⟨h.2, h.1⟩⟩
/-- The nearest number stands beside the quotient that is cut. -/
theorem near_t {a n : Int} (hn : 0 < n) : a.tdiv n - 1 ≤ nearN a n ∧ nearN a n ≤ a.tdiv n + 1 := by
  obtain ⟨s1, s2⟩ := near_spec (a := a) hn
  generalize nearN a n = q at s1 s2
  have e2 : 2 * (a - q * n) = 2 * a - 2 * (q * n) := by grind
  rw [e2] at s1 s2
  have h1 := Int.mul_tdiv_add_tmod a n
  have h2 := Int.lt_tmod_of_pos a hn
  have h3 := Int.tmod_lt_of_pos a hn
  generalize a.tdiv n = t at h1
  generalize a.tmod n = r at h1 h2 h3
  have e3 : n * t = t * n := Int.mul_comm _ _
  rw [e3] at h1
  constructor
  · rcases Int.lt_or_le q (t - 1) with h | h
    · have := Int.mul_le_mul_of_nonneg_right (show q ≤ t - 2 by omega) (Int.le_of_lt hn)
      have e4 : (t - 2) * n = t * n - 2 * n := by grind
      rw [e4] at this
      generalize q * n = z at s1 s2 this
      generalize t * n = y at h1 this
      omega
    · exact h
  · rcases Int.lt_or_le (t + 1) q with h | h
    · have := Int.mul_le_mul_of_nonneg_right (show t + 2 ≤ q by omega) (Int.le_of_lt hn)
      have e4 : (t + 2) * n = t * n + 2 * n := by grind
      rw [e4] at this
      generalize q * n = z at s1 s2 this
      generalize t * n = y at h1 this
      omega
    · exact h

variable {P : Program} (H : Has P)
include H
theorem div_ok (a b : Pt) (h : Heap) : AWF P ann 0 22 [ptA a, ptA b] h fun r h' => r = res3 (divS a b) ∧ h' = h := by
  refine AWF.fnPurec H.f0_22 rfl ?_
  have hO := OB.nil (h := h)
  (refine W_seq_gen fun N hN => ?_); simp (disch := first | omega | (simp only [List.length_cons, List.length_nil, List.length_append, u8s_len]; omega)) only [go_sem, ↓reduceIte, true_and, Nat.reduceLeDiff, Nat.reduceEqDiff, Nat.reduceAdd, Nat.reduceBEq, Int.reduceEq, ptA]
  intro b1 h1 b2 h2 b3 h3 b4 h4
  refine hN _ ?_; clear hN N; refine W_ob ((((hO.new h1).new h2).new h3).new h4) fun hc hO => ?_
  have n01 : ¬ b4 = b3 := hO.ne01
  have n10 : ¬ b3 = b4 := fun e => n01 e.symm
  (refine W_seq_gen fun N hN => ?_); simp (disch := first | omega | (simp only [List.length_cons, List.length_nil, List.length_append, u8s_len]; omega)) only [go_sem, ↓reduceIte, true_and, Nat.reduceLeDiff, Nat.reduceEqDiff, Nat.reduceAdd, Nat.reduceBEq, Int.reduceEq, hO.get0, hO.get1, hO.get2, hO.get3]
  refine (norm_ok H b _).mono ?_
  rintro _ _ ⟨rfl, hh⟩; subst hh
  rw [contK_some]; simp (disch := first | omega | (simp only [List.length_cons, List.length_nil, List.length_append, u8s_len]; omega)) only [go_sem, ↓reduceIte, true_and, Nat.reduceLeDiff, Nat.reduceEqDiff, Nat.reduceAdd, Nat.reduceBEq, Int.reduceEq]
  refine hN _ ?_; clear hN N
  (refine W_seq_gen fun N hN => ?_); simp (disch := first | omega | (simp only [List.length_cons, List.length_nil, List.length_append, u8s_len]; omega)) only [go_sem, ↓reduceIte, true_and, Nat.reduceLeDiff, Nat.reduceEqDiff, Nat.reduceAdd, Nat.reduceBEq, Int.reduceEq, hO.get0, hO.get1, hO.get2, hO.get3]
  refine (both_ok H _ _ _ _ _ _ _).mono ?_
  rintro _ _ ⟨rfl, hh⟩; subst hh
  by_cases q : okPt a ∧ okPt b
  · have e : bothN a.1 a.2 b.1 b.2 a.1 a.2 = 0 := by rw [bothN, if_pos q, if_pos q.1]
    rw [e, if_pos q.2]
    by_cases q0 : b = (0, 0)
    · have qn : (nrm b == ((0 : Nat) : Int)) = true := by rw [nrm_zero.2 q0]; rfl
      rw [contK_some]; simp (disch := first | omega | (simp only [List.length_cons, List.length_nil, List.length_append, u8s_len]; omega)) only [go_sem, ↓reduceIte, true_and, Nat.reduceLeDiff, Nat.reduceEqDiff, Nat.reduceAdd, Nat.reduceBEq, Int.reduceEq, errN, qn, hO.get0, hO.get1, hO.get2, hO.get3, n01, n10]
      rw [divS, if_neg (fun h => h.2.2 q0)]
      exact ⟨rfl, hO.st1.st0.keep⟩
    · have hnp := nrm_pos q0
      have qn : (nrm b == ((0 : Nat) : Int)) = false := by
        have : ¬ nrm b = 0 := by omega
        simpa using this
      rw [contK_some]; simp (disch := first | omega | (simp only [List.length_cons, List.length_nil, List.length_append, u8s_len]; omega)) only [go_sem, ↓reduceIte, true_and, Nat.reduceLeDiff, Nat.reduceEqDiff, Nat.reduceAdd, Nat.reduceBEq, Int.reduceEq, errN, qn]
      refine hN _ ?_; clear hN N
      obtain ⟨qa, qb⟩ := id q
      have hc := conj_bd qb
      obtain ⟨⟨a1, a2⟩, b1', b2'⟩ := id q
      have m1 := mul_bd qa.1 hc.1
      have m2 := mul_bd qa.2 hc.2
      have m3 := mul_bd qa.1 hc.2
      have m4 := mul_bd qa.2 hc.1
      obtain ⟨u, u1, u2, u3⟩ := ci_mul (P := P) (ty := 45) (ci_cx (x := a.1) (y := a.2) (by omega) (by omega)) (ci_cx (x := (conjP b).1) (y := (conjP b).2) (by have := hc.1; omega) (by have := hc.2; omega)) (by omega) (by omega) (by omega) (by omega) (by omega) (by omega)
      change CI u (mulP a (conjP b)).1 (mulP a (conjP b)).2 at u3
      have cb := c_bd qa qb
      have nb := nrm_le qb
      have qo := quo_bound (b := b) qa hnp
      (refine W_seq_gen fun N hN => ?_); simp (disch := first | omega | (simp only [List.length_cons, List.length_nil, List.length_append, u8s_len]; omega)) only [go_sem, ↓reduceIte, true_and, Nat.reduceLeDiff, Nat.reduceEqDiff, Nat.reduceAdd, Nat.reduceBEq, Int.reduceEq, hO.get0, hO.get1, hO.get2, hO.get3]
      refine ⟨_, of_ok H a _, ?_⟩
      rw [contK_some]; simp (disch := first | omega | (simp only [List.length_cons, List.length_nil, List.length_append, u8s_len]; omega)) only [go_sem, ↓reduceIte, true_and, Nat.reduceLeDiff, Nat.reduceEqDiff, Nat.reduceAdd, Nat.reduceBEq, Int.reduceEq, hO.get0, hO.get1, hO.get2, hO.get3]
      refine ⟨_, mirror_ok H b _, ?_⟩
      rw [if_pos qb]
      rw [contK_some]; simp (disch := first | omega | (simp only [List.length_cons, List.length_nil, List.length_append, u8s_len]; omega)) only [go_sem, ↓reduceIte, true_and, Nat.reduceLeDiff, Nat.reduceEqDiff, Nat.reduceAdd, Nat.reduceBEq, Int.reduceEq]
      refine ⟨_, of_ok H (conjP b) _, ?_⟩
      rw [contK_some]; simp (disch := first | omega | (simp only [List.length_cons, List.length_nil, List.length_append, u8s_len]; omega)) only [go_sem, ↓reduceIte, true_and, Nat.reduceLeDiff, Nat.reduceEqDiff, Nat.reduceAdd, Nat.reduceBEq, Int.reduceEq, cx, u1, u2]
      refine hN _ ?_; clear hN N
      obtain ⟨x, y, rfl, hx, hy⟩ := id u3
      have c1 := cv_float_int (P := P) H.t48 H.t3 hx (by omega)
      have c2 := cv_float_int (P := P) H.t48 H.t3 hy (by omega)
      (refine W_seq_gen fun N hN => ?_); simp (disch := first | omega | (simp only [List.length_cons, List.length_nil, List.length_append, u8s_len]; omega)) only [go_sem, ↓reduceIte, true_and, Nat.reduceLeDiff, Nat.reduceEqDiff, Nat.reduceAdd, Nat.reduceBEq, Int.reduceEq, c1, c2]
      refine (near_ok H (by omega) (by omega) _).mono ?_
      rintro _ _ ⟨rfl, hh⟩; subst hh
      rw [contK_some]; simp (disch := first | omega | (simp only [List.length_cons, List.length_nil, List.length_append, u8s_len]; omega)) only [go_sem, ↓reduceIte, true_and, Nat.reduceLeDiff, Nat.reduceEqDiff, Nat.reduceAdd, Nat.reduceBEq, Int.reduceEq, c1, c2]
      refine (near_ok H (by omega) (by omega) _).mono ?_
      rintro _ _ ⟨rfl, hh⟩; subst hh
      rw [contK_some]; simp (disch := first | omega | (simp only [List.length_cons, List.length_nil, List.length_append, u8s_len]; omega)) only [go_sem, ↓reduceIte, true_and, Nat.reduceLeDiff, Nat.reduceEqDiff, Nat.reduceAdd, Nat.reduceBEq, Int.reduceEq, hO.get1]
      refine hN _ ?_; clear hN N; refine W_ob (hO.st1) fun hc hO => ?_
      have k1 := mul_bd qo.1 qb.1
      have k2 := mul_bd qo.2 qb.2
      have k3 := mul_bd qo.1 qb.2
      have k4 := mul_bd qo.2 qb.1
      obtain ⟨w, w1, w2, w3⟩ := ci_mul (P := P) (ty := 45) (ci_cx (x := (quoP a b).1) (y := (quoP a b).2) (by have := qo.1; omega) (by have := qo.2; omega)) (ci_cx (x := b.1) (y := b.2) (by omega) (by omega)) (by omega) (by omega) (by omega) (by omega) (by omega) (by omega)
      obtain ⟨z, z1, z2, z3⟩ := ci_sub (P := P) (ty := 45) (ci_cx (x := a.1) (y := a.2) (by omega) (by omega)) w3 (by omega) (by omega)
      simp (disch := first | omega | (simp only [List.length_cons, List.length_nil, List.length_append, u8s_len]; omega)) only [go_sem, ↓reduceIte, true_and, Nat.reduceLeDiff, Nat.reduceEqDiff, Nat.reduceAdd, Nat.reduceBEq, Int.reduceEq, hO.get0, hO.get1, hO.get2, hO.get3]
      refine ⟨_, of_ok H a, ?_⟩
      rw [contK_some]; simp (disch := first | omega | (simp only [List.length_cons, List.length_nil, List.length_append, u8s_len]; omega)) only [go_sem, ↓reduceIte, true_and, Nat.reduceLeDiff, Nat.reduceEqDiff, Nat.reduceAdd, Nat.reduceBEq, Int.reduceEq]
      refine ⟨_, of_ok H (quoP a b), ?_⟩
      rw [contK_some]; simp (disch := first | omega | (simp only [List.length_cons, List.length_nil, List.length_append, u8s_len]; omega)) only [go_sem, ↓reduceIte, true_and, Nat.reduceLeDiff, Nat.reduceEqDiff, Nat.reduceAdd, Nat.reduceBEq, Int.reduceEq]
      refine ⟨_, of_ok H b, ?_⟩
      rw [contK_some]; simp (disch := first | omega | (simp only [List.length_cons, List.length_nil, List.length_append, u8s_len]; omega)) only [go_sem, ↓reduceIte, true_and, Nat.reduceLeDiff, Nat.reduceEqDiff, Nat.reduceAdd, Nat.reduceBEq, Int.reduceEq, cx, w1, w2, z1, z2]
      refine ⟨_, point_ok H z3 (by omega) (by omega), ?_⟩
      rw [contK_some]; simp (disch := first | omega | (simp only [List.length_cons, List.length_nil, List.length_append, u8s_len]; omega)) only [go_sem, ↓reduceIte, true_and, Nat.reduceLeDiff, Nat.reduceEqDiff, Nat.reduceAdd, Nat.reduceBEq, Int.reduceEq, ptA, hO.get0, hO.get1, n01, n10]
      rw [divS, if_pos ⟨qa, qb, q0⟩]
      exact ⟨rfl, hO.st1.st0.keep⟩
  · have e : bothN a.1 a.2 b.1 b.2 a.1 a.2 = 1 := by rw [bothN, if_neg q]
    rw [e]
    rw [contK_some]; simp (disch := first | omega | (simp only [List.length_cons, List.length_nil, List.length_append, u8s_len]; omega)) only [go_sem, ↓reduceIte, true_and, Nat.reduceLeDiff, Nat.reduceEqDiff, Nat.reduceAdd, Nat.reduceBEq, Int.reduceEq, errN, hO.get0, hO.get1, hO.get2, hO.get3, n01, n10]
    rw [divS, if_neg (fun h => q ⟨h.1, h.2.1⟩)]
    exact ⟨rfl, hO.st1.st0.keep⟩
theorem rturn_ok {p : Pt} (hp : okPt p) (n : Int) (h : Heap) : AWF P ann 0 20 [ptA p, .sc (.int .i64 n)] h fun r h' => r = ptA (rotN (n % 4).toNat p) ∧ h' = h := by
  refine AWF.fnPurec H.f0_20 rfl ?_
  have hO := OB.nil (h := h)
  (refine W_seq_gen fun N hN => ?_); simp (disch := first | omega | (simp only [List.length_cons, List.length_nil, List.length_append, u8s_len]; omega)) only [go_sem, ↓reduceIte, true_and, Nat.reduceLeDiff, Nat.reduceEqDiff, Nat.reduceAdd, Nat.reduceBEq, Int.reduceEq, ptA]
  intro b1 h1 b2 h2
  refine hN _ ?_; clear hN N; refine W_ob ((hO.new h1).new h2) fun hc hO => ?_
  obtain ⟨e2, e3, e4⟩ := tmod4 n
  have h4 : ((4 : Nat) : Int) = 4 := rfl
  rw [h4] at e2 e3 e4
  generalize hk : (n % 4).toNat = k at e2
  have hk4 : k < 4 := by omega
  (refine W_seq_gen fun N hN => ?_); simp (disch := first | omega | (simp only [List.length_cons, List.length_nil, List.length_append, u8s_len]; omega)) only [go_sem, ↓reduceIte, true_and, Nat.reduceLeDiff, Nat.reduceEqDiff, Nat.reduceAdd, Nat.reduceBEq, Int.reduceEq]
  refine hN _ ?_; clear hN N
  rw [h4]
  generalize he1 : n.tmod 4 = r1 at e2 e3 e4
  (refine W_seq_gen fun M hM => ?_)
  have main : ∀ t : Nat → AV, t 1 = .sc (.int .i64 (k : Nat)) → t 2 = .op b1 0 → t 4 = .op b2 0 → M ⟨t, hc⟩ := by
    intro t t1 t2 t4
    refine hM _ ?_; clear hM M
    (refine W_seq_gen fun M hM => ?_)
    (refine W_seq_gen fun N hN => ?_); simp (disch := first | omega | (simp only [List.length_cons, List.length_nil, List.length_append, u8s_len]; omega)) only [go_sem, ↓reduceIte, true_and, Nat.reduceLeDiff, Nat.reduceEqDiff, Nat.reduceAdd, Nat.reduceBEq, Int.reduceEq]
    refine hN _ ?_; clear hN N
    simp (disch := first | omega | (simp only [List.length_cons, List.length_nil, List.length_append, u8s_len]; omega)) only [go_sem, ↓reduceIte, true_and, Nat.reduceLeDiff, Nat.reduceEqDiff, Nat.reduceAdd, Nat.reduceBEq, Int.reduceEq]
    refine AW_loopN (fun m t h' => ∃ i, m = k - i ∧ i ≤ k ∧ t 1 = .sc (.int .i64 (k : Nat)) ∧ t 2 = .op b1 0 ∧ t 4 = .op b2 0 ∧ t 5 = .sc (.int .i64 (i : Nat)) ∧ OB h [(b2, .arr [.sc (.int .i64 (0 : Nat)), .sc (.int .i64 (0 : Nat))]), (b1, .arr [.sc (.int .i64 (rotN i p).1), .sc (.int .i64 (rotN i p).2)])] h')
      (n := k) ⟨0, rfl, Nat.zero_le _, by simpa [upd_at] using t1, by simpa [upd_at] using t2, by simpa [upd_at] using t4, rfl, hO⟩ ?_
    clear t1 t2 t4 hO t
    rintro m t h' ⟨i, rfl, hi, t1, t2, t4, t5, hO⟩
    obtain ⟨bd1, bd2⟩ := rotN_okP hp i
    rcases Nat.lt_or_ge i k with hlt | hge
    · (refine W_seq_gen fun N hN => ?_); simp (disch := first | omega | (simp only [List.length_cons, List.length_nil, List.length_append, u8s_len]; omega)) only [go_sem, ↓reduceIte, true_and, Nat.reduceLeDiff, Nat.reduceEqDiff, Nat.reduceAdd, Nat.reduceBEq, Int.reduceEq, t1, t5, hlt]
      refine hN _ ?_; clear hN N
      (refine W_seq_gen fun N hN => ?_)
      simp (disch := first | omega | (simp only [List.length_cons, List.length_nil, List.length_append, u8s_len]; omega)) only [go_sem, ↓reduceIte, true_and, Nat.reduceLeDiff, Nat.reduceEqDiff, Nat.reduceAdd, Nat.reduceBEq, Int.reduceEq, t2, un_neg, hO.get0, hO.get1]
      refine hN _ ?_; clear hN N
      refine W_ob hO.st1 fun hc hO => ?_
      simp (disch := first | omega | (simp only [List.length_cons, List.length_nil, List.length_append, u8s_len]; omega)) only [go_sem, ↓reduceIte, true_and, Nat.reduceLeDiff, Nat.reduceEqDiff, Nat.reduceAdd, Nat.reduceBEq, Int.reduceEq, t5, nat_add]
      refine ⟨k - (i + 1), by omega, i + 1, rfl, by omega, t1, t2, t4, rfl, ?_⟩
      rw [rotN_succ]
      simp only [rotP, ← Int.zero_sub]
      exact hO
    obtain rfl : i = k := by omega
    (refine W_seq_gen fun N hN => ?_); simp (disch := first | omega | (simp only [List.length_cons, List.length_nil, List.length_append, u8s_len]; omega)) only [go_sem, ↓reduceIte, true_and, Nat.reduceLeDiff, Nat.reduceEqDiff, Nat.reduceAdd, Nat.reduceBEq, Int.reduceEq, t1, t5, Nat.lt_irrefl]
    refine hM _ ?_; clear hN N hM M
    simp (disch := first | omega | (simp only [List.length_cons, List.length_nil, List.length_append, u8s_len]; omega)) only [go_sem, ↓reduceIte, true_and, Nat.reduceLeDiff, Nat.reduceEqDiff, Nat.reduceAdd, Nat.reduceBEq, Int.reduceEq, t2, t4, hO.get0, hO.get1]
    exact ⟨rfl, hO.st0.keep⟩
  clear hM
  by_cases c1 : r1 < ((0 : Nat) : Int)
  · have : r1 + 4 = ((k : Nat) : Int) := by
      rw [← e2]
      rw [Int.tmod_eq_emod_of_nonneg (by omega)]
      omega
    simp (disch := first | omega | (simp only [List.length_cons, List.length_nil, List.length_append, u8s_len]; omega)) only [go_sem, ↓reduceIte, true_and, Nat.reduceLeDiff, Nat.reduceEqDiff, Nat.reduceAdd, Nat.reduceBEq, Int.reduceEq, c1, h4]
    refine main _ ?_ ?_ ?_
    · simp [upd_at, this]
    · simp [upd_at]
    · simp [upd_at]
  · have : r1 = ((k : Nat) : Int) := by
      rw [← e2]
      rw [Int.tmod_eq_emod_of_nonneg (by omega)]
      omega
    simp (disch := first | omega | (simp only [List.length_cons, List.length_nil, List.length_append, u8s_len]; omega)) only [go_sem, ↓reduceIte, true_and, Nat.reduceLeDiff, Nat.reduceEqDiff, Nat.reduceAdd, Nat.reduceBEq, Int.reduceEq, c1]
    refine main _ ?_ ?_ ?_
    · simp [upd_at, this]
    · simp [upd_at]
    · simp [upd_at]
theorem nearB_ok {q a n : Int} (hn : 0 < n ∧ n ≤ 4398046511104) (hq : -4611686018427387904 ≤ q * n ∧ q * n ≤ 4611686018427387904) (ha : -4611686018427387904 ≤ a ∧ a ≤ 4611686018427387904) (hd : -35184372088832 ≤ a - q * n ∧ a - q * n ≤ 35184372088832) (h : Heap) :
    AWF P ann 0 32 [.sc (.int .i64 q), .sc (.int .i64 a), .sc (.int .i64 n)] h fun r h' => r = .sc (.bool (decide (-n ≤ 2 * (a - q * n) ∧ 2 * (a - q * n) < n))) ∧ h' = h := by
  refine AWF.fnc H.f0_32 rfl ?_
  have h2 : ((2 : Nat) : Int) = 2 := rfl
  (refine W_seq_gen fun N hN => ?_); simp (disch := first | omega | (simp only [List.length_cons, List.length_nil, List.length_append, u8s_len]; omega)) only [go_sem, ↓reduceIte, true_and, Nat.reduceLeDiff, Nat.reduceEqDiff, Nat.reduceAdd, Nat.reduceBEq, Int.reduceEq]
  refine hN _ ?_; clear hN N
  (refine W_seq_gen fun N hN => ?_); simp (disch := first | omega | (simp only [List.length_cons, List.length_nil, List.length_append, u8s_len]; omega)) only [go_sem, ↓reduceIte, true_and, Nat.reduceLeDiff, Nat.reduceEqDiff, Nat.reduceAdd, Nat.reduceBEq, Int.reduceEq, h2]
  refine hN _ ?_; clear hN N
  generalize hz : 2 * (a - q * n) = z
  by_cases c1 : z < n
  · by_cases c2 : z ≥ -n
    · have c3 : z ≥ 0 - n := by omega
      simp (disch := first | omega | (simp only [List.length_cons, List.length_nil, List.length_append, u8s_len]; omega)) only [go_sem, ↓reduceIte, true_and, Nat.reduceLeDiff, Nat.reduceEqDiff, Nat.reduceAdd, Nat.reduceBEq, Int.reduceEq, c1, c3, un_neg]
      exact (decide_eq_true (show -n ≤ z by omega)).symm
    · have c3 : ¬ z ≥ 0 - n := by omega
      simp (disch := first | omega | (simp only [List.length_cons, List.length_nil, List.length_append, u8s_len]; omega)) only [go_sem, ↓reduceIte, true_and, Nat.reduceLeDiff, Nat.reduceEqDiff, Nat.reduceAdd, Nat.reduceBEq, Int.reduceEq, c1, c3, un_neg]
      exact (decide_eq_false (show ¬ -n ≤ z by omega)).symm
  · simp (disch := first | omega | (simp only [List.length_cons, List.length_nil, List.length_append, u8s_len]; omega)) only [go_sem, ↓reduceIte, true_and, Nat.reduceLeDiff, Nat.reduceEqDiff, Nat.reduceAdd, Nat.reduceBEq, Int.reduceEq, c1]
    simp
theorem nearest_ok {a n : Int} (hn : 0 < n ∧ n ≤ 2199023255552) (ha : -(1048576 * n) ≤ a ∧ a ≤ 1048576 * n) (h : Heap) : AWF P ann 0 31 [.sc (.int .i64 a), .sc (.int .i64 n)] h fun r h' => r = .sc (.int .i64 (nearN a n)) ∧ h' = h := by
  refine AWF.fnc H.f0_31 rfl ?_
  have hne : ¬ n = 0 := by omega
  have h2 : ((2 : Nat) : Int) = 2 := rfl
  obtain ⟨nt1, nt2⟩ := near_t (a := a) hn.1
  have nb := near_bound hn.1 ha.2 ha.1
  have nsp := near_spec (a := a) hn.1
  generalize hq : nearN a n = q at nt1 nt2 nb nsp
  generalize ht : a.tdiv n = t0 at nt1 nt2
  (refine W_seq_gen fun N hN => ?_); simp (disch := first | omega | (simp only [List.length_cons, List.length_nil, List.length_append, u8s_len]; omega)) only [go_sem, ↓reduceIte, true_and, Nat.reduceLeDiff, Nat.reduceEqDiff, Nat.reduceAdd, Nat.reduceBEq, Int.reduceEq]
  refine hN _ ?_; clear hN N
  (refine W_seq_gen fun N hN => ?_); simp (disch := first | omega | (simp only [List.length_cons, List.length_nil, List.length_append, u8s_len]; omega)) only [go_sem, ↓reduceIte, true_and, Nat.reduceLeDiff, Nat.reduceEqDiff, Nat.reduceAdd, Nat.reduceBEq, Int.reduceEq, hne, ht]
  refine hN _ ?_; clear hN N
  (refine W_seq_gen fun M hM => ?_)
  (refine W_seq_gen fun N hN => ?_); simp (disch := first | omega | (simp only [List.length_cons, List.length_nil, List.length_append, u8s_len]; omega)) only [go_sem, ↓reduceIte, true_and, Nat.reduceLeDiff, Nat.reduceEqDiff, Nat.reduceAdd, Nat.reduceBEq, Int.reduceEq]
  refine hN _ ?_; clear hN N
  simp (disch := first | omega | (simp only [List.length_cons, List.length_nil, List.length_append, u8s_len]; omega)) only [go_sem, ↓reduceIte, true_and, Nat.reduceLeDiff, Nat.reduceEqDiff, Nat.reduceAdd, Nat.reduceBEq, Int.reduceEq]
  refine AW_loopN (fun m t h' => h' = h ∧ ∃ i : Nat, m = 5 - i ∧ (i : Int) ≤ q - (t0 - 2) ∧ t 0 = .sc (.int .i64 a) ∧ t 1 = .sc (.int .i64 n) ∧ t 5 = .sc (.int .i64 (t0 - 2)) ∧ t 6 = .sc (.int .i64 (i : Nat)))
    (n := 5) ⟨rfl, 0, rfl, by omega, rfl, rfl, by simp [upd_at, h2], rfl⟩ ?_
  rintro m t h' ⟨rfl, i, rfl, hi, t0', t1, t5, t6⟩
  have hlt : i < 5 := by omega
  (refine W_seq_gen fun N hN => ?_); simp (disch := first | omega | (simp only [List.length_cons, List.length_nil, List.length_append, u8s_len]; omega)) only [go_sem, ↓reduceIte, true_and, Nat.reduceLeDiff, Nat.reduceEqDiff, Nat.reduceAdd, Nat.reduceBEq, Int.reduceEq, t6, hlt]
  refine hN _ ?_; clear hN N
  (refine W_seq_gen fun N hN => ?_)
  rw [W_block]
  -- near by the quotient
  have e : (t0 - 2 + (i : Int)) * n = q * n + (t0 - 2 + (i : Int) - q) * n := by grind
  have hk : -3 * n ≤ (t0 - 2 + (i : Int) - q) * n ∧ (t0 - 2 + (i : Int) - q) * n ≤ 0 := by
    constructor
    · exact Int.mul_le_mul_of_nonneg_right (by omega) (by omega)
    · have := Int.mul_le_mul_of_nonneg_right (show t0 - 2 + (i : Int) - q ≤ 0 by omega) (show 0 ≤ n by omega)
      simpa using this
  have hqn : -(1048576 * n) ≤ q * n ∧ q * n ≤ 1048576 * n := by
    constructor
    · have := Int.mul_le_mul_of_nonneg_right nb.1 (show 0 ≤ n by omega)
      omega
    · exact Int.mul_le_mul_of_nonneg_right nb.2 (show 0 ≤ n by omega)
  have hdif : a - (t0 - 2 + (i : Int)) * n = (a - q * n) - (t0 - 2 + (i : Int) - q) * n := by rw [e]; omega
  have w1 : -9223372036854775808 ≤ t0 - 2 + (i : Int) ∧ t0 - 2 + (i : Int) < 9223372036854775808 := by omega
  (refine W_seq_gen fun N hN => ?_); simp (disch := first | omega | (simp only [List.length_cons, List.length_nil, List.length_append, u8s_len]; omega)) only [go_sem, ↓reduceIte, true_and, Nat.reduceLeDiff, Nat.reduceEqDiff, Nat.reduceAdd, Nat.reduceBEq, Int.reduceEq, t0', t1, t5, t6]
  refine (nearB_ok H (q := t0 - 2 + (i : Int)) (a := a) (n := n) ⟨hn.1, by omega⟩ (by omega) (by omega) (by omega) _).mono ?_
  rintro _ _ ⟨rfl, hh⟩; subst hh
  by_cases c : t0 - 2 + (i : Int) = q
  · have : decide (-n ≤ 2 * (a - (t0 - 2 + (i : Int)) * n) ∧ 2 * (a - (t0 - 2 + (i : Int)) * n) < n) = true := by rw [c]; exact decide_eq_true nsp
    rw [this]
    rw [contK_some]; simp (disch := first | omega | (simp only [List.length_cons, List.length_nil, List.length_append, u8s_len]; omega)) only [go_sem, ↓reduceIte, true_and, Nat.reduceLeDiff, Nat.reduceEqDiff, Nat.reduceAdd, Nat.reduceBEq, Int.reduceEq]
    refine hN _ ?_; clear hN N
    simp (disch := first | omega | (simp only [List.length_cons, List.length_nil, List.length_append, u8s_len]; omega)) only [go_sem, ↓reduceIte, true_and, Nat.reduceLeDiff, Nat.reduceEqDiff, Nat.reduceAdd, Nat.reduceBEq, Int.reduceEq, t5, t6]
    rw [c]
  · have : decide (-n ≤ 2 * (a - (t0 - 2 + (i : Int)) * n) ∧ 2 * (a - (t0 - 2 + (i : Int)) * n) < n) = false := by
      rw [decide_eq_false_iff_not]
      rintro ⟨s1, s2⟩
      exact c ((near_uniq hn.1 s1 s2).symm.trans hq)
    rw [this]
    rw [contK_some]; simp (disch := first | omega | (simp only [List.length_cons, List.length_nil, List.length_append, u8s_len]; omega)) only [go_sem, ↓reduceIte, true_and, Nat.reduceLeDiff, Nat.reduceEqDiff, Nat.reduceAdd, Nat.reduceBEq, Int.reduceEq]
    refine hN _ ?_; clear hN N
    simp (disch := first | omega | (simp only [List.length_cons, List.length_nil, List.length_append, u8s_len]; omega)) only [go_sem, ↓reduceIte, true_and, Nat.reduceLeDiff, Nat.reduceEqDiff, Nat.reduceAdd, Nat.reduceBEq, Int.reduceEq]
    refine hN _ ?_; clear hN N
    simp (disch := first | omega | (simp only [List.length_cons, List.length_nil, List.length_append, u8s_len]; omega)) only [go_sem, ↓reduceIte, true_and, Nat.reduceLeDiff, Nat.reduceEqDiff, Nat.reduceAdd, Nat.reduceBEq, Int.reduceEq, t6, nat_add]
    exact ⟨5 - (i + 1), by omega, i + 1, rfl, by omega, t0', t1, t5, rfl⟩
theorem rdiv_ok {a b : Pt} (ha : okPt a) (hb : okPt b) (h0 : b ≠ (0, 0)) (h : Heap) : AWF P ann 0 23 [ptA a, ptA b] h fun r h' => r = .tu [ptA (quoP a b), ptA (remP a b)] ∧ h' = h := by
  refine AWF.fnPurec H.f0_23 rfl ?_
  have hO := OB.nil (h := h)
  have hnp := nrm_pos h0
  have nb := nrm_le hb
  have hcb := conj_bd hb
  have cb := c_bd ha hb
  have qo := quo_bound (b := b) ha hnp
  have ro := rem_ok (a := a) hb hnp
  have k1 := mul_bd qo.1 hb.1
  have k2 := mul_bd qo.2 hb.2
  have k3 := mul_bd qo.1 hb.2
  have k4 := mul_bd qo.2 hb.1
  obtain ⟨⟨a1, a2⟩, a3, a4⟩ := id ha
  obtain ⟨⟨b1, b2⟩, b3, b4⟩ := id hb
  have m1 := mul_bound (b := b.1) a1 a2
  have m2 := mul_bound (b := b.2) a3 a4
  have m3 := mul_bound (b := b.2) a1 a2
  have m4 := mul_bound (b := b.1) a3 a4
  have e1 : (mulP a (conjP b)).1 = a.1 * b.1 + a.2 * b.2 := by simp only [mulP, conjP]; grind
  have e2 : (mulP a (conjP b)).2 = a.2 * b.1 - a.1 * b.2 := by simp only [mulP, conjP]; grind
  have en : nrm b = b.1 * b.1 + b.2 * b.2 := rfl
  have n1 : -(1048576 * nrm b) ≤ (mulP a (conjP b)).1 ∧ (mulP a (conjP b)).1 ≤ 1048576 * nrm b := by rw [e1, en]; omega
  have n2 : -(1048576 * nrm b) ≤ (mulP a (conjP b)).2 ∧ (mulP a (conjP b)).2 ≤ 1048576 * nrm b := by rw [e2, en]; omega
  clear e1 e2 en m1 m2 m3 m4
  (refine W_seq_gen fun N hN => ?_); simp (disch := first | omega | (simp only [List.length_cons, List.length_nil, List.length_append, u8s_len]; omega)) only [go_sem, ↓reduceIte, true_and, Nat.reduceLeDiff, Nat.reduceEqDiff, Nat.reduceAdd, Nat.reduceBEq, Int.reduceEq, ptA]
  intro o1 h1 o2 h2 o3 h3 o4 h4
  refine hN _ ?_; clear hN N; refine W_ob ((((hO.new h1).new h2).new h3).new h4) fun hc hO => ?_
  (refine W_seq_gen fun N hN => ?_); simp (disch := first | omega | (simp only [List.length_cons, List.length_nil, List.length_append, u8s_len]; omega)) only [go_sem, ↓reduceIte, true_and, Nat.reduceLeDiff, Nat.reduceEqDiff, Nat.reduceAdd, Nat.reduceBEq, Int.reduceEq, hO.get0, hO.get1, hO.get2, hO.get3, un_neg]
  rw [Int.zero_sub]
  refine (rmul_ok H ha hcb _).mono ?_
  rintro _ _ ⟨rfl, hh⟩; subst hh
  rw [contK_some]; simp (disch := first | omega | (simp only [List.length_cons, List.length_nil, List.length_append, u8s_len]; omega)) only [go_sem, ↓reduceIte, true_and, Nat.reduceLeDiff, Nat.reduceEqDiff, Nat.reduceAdd, Nat.reduceBEq, Int.reduceEq, ptA]
  intro o6 h6
  refine hN _ ?_; clear hN N; refine W_ob (hO.new h6) fun hc hO => ?_
  (refine W_seq_gen fun N hN => ?_); simp (disch := first | omega | (simp only [List.length_cons, List.length_nil, List.length_append, u8s_len]; omega)) only [go_sem, ↓reduceIte, true_and, Nat.reduceLeDiff, Nat.reduceEqDiff, Nat.reduceAdd, Nat.reduceBEq, Int.reduceEq, hO.get0, hO.get1, hO.get2, hO.get3, hO.get4]
  refine (rnorm_ok H hb _).mono ?_
  rintro _ _ ⟨rfl, hh⟩; subst hh
  rw [contK_some]; simp (disch := first | omega | (simp only [List.length_cons, List.length_nil, List.length_append, u8s_len]; omega)) only [go_sem, ↓reduceIte, true_and, Nat.reduceLeDiff, Nat.reduceEqDiff, Nat.reduceAdd, Nat.reduceBEq, Int.reduceEq]
  refine hN _ ?_; clear hN N
  (refine W_seq_gen fun N hN => ?_); simp (disch := first | omega | (simp only [List.length_cons, List.length_nil, List.length_append, u8s_len]; omega)) only [go_sem, ↓reduceIte, true_and, Nat.reduceLeDiff, Nat.reduceEqDiff, Nat.reduceAdd, Nat.reduceBEq, Int.reduceEq, hO.get0, hO.get1, hO.get2, hO.get3, hO.get4]
  refine ⟨_, nearest_ok H ⟨hnp, nb⟩ n1, ?_⟩
  rw [contK_some]; simp (disch := first | omega | (simp only [List.length_cons, List.length_nil, List.length_append, u8s_len]; omega)) only [go_sem, ↓reduceIte, true_and, Nat.reduceLeDiff, Nat.reduceEqDiff, Nat.reduceAdd, Nat.reduceBEq, Int.reduceEq]
  refine ⟨_, nearest_ok H ⟨hnp, nb⟩ n2, ?_⟩
  rw [contK_some]; simp (disch := first | omega | (simp only [List.length_cons, List.length_nil, List.length_append, u8s_len]; omega)) only [go_sem, ↓reduceIte, true_and, Nat.reduceLeDiff, Nat.reduceEqDiff, Nat.reduceAdd, Nat.reduceBEq, Int.reduceEq]
  intro o8 h8
  refine hN _ ?_; clear hN N; refine W_ob (hO.new h8) fun hc hO => ?_
  (refine W_seq_gen fun N hN => ?_); simp (disch := first | omega | (simp only [List.length_cons, List.length_nil, List.length_append, u8s_len]; omega)) only [go_sem, ↓reduceIte, true_and, Nat.reduceLeDiff, Nat.reduceEqDiff, Nat.reduceAdd, Nat.reduceBEq, Int.reduceEq, hO.get0, hO.get1, hO.get2, hO.get3, hO.get4, hO.get5]
  refine (rmul_ok H qo hb _).mono ?_
  rintro _ _ ⟨rfl, hh⟩; subst hh
  rw [contK_some]; simp (disch := first | omega | (simp only [List.length_cons, List.length_nil, List.length_append, u8s_len]; omega)) only [go_sem, ↓reduceIte, true_and, Nat.reduceLeDiff, Nat.reduceEqDiff, Nat.reduceAdd, Nat.reduceBEq, Int.reduceEq, ptA]
  intro o9 h9
  refine hN _ ?_; clear hN N; refine W_ob (hO.new h9) fun hc hO => ?_
  have q1 : -9223372036854775808 ≤ a.1 - (mulP (quoP a b) b).1 ∧ a.1 - (mulP (quoP a b) b).1 < 9223372036854775808 := by have := ro.1; simp only [remP] at this; omega
  have q2 : -9223372036854775808 ≤ a.2 - (mulP (quoP a b) b).2 ∧ a.2 - (mulP (quoP a b) b).2 < 9223372036854775808 := by have := ro.2; simp only [remP] at this; omega
  have u1 : ¬ o3 = o1 := hO.ne46
  have u2 : ¬ o3 = o9 := fun e => hO.ne04 e.symm
  have u3 : ¬ o3 = o4 := fun e => hO.ne34 e.symm
  have u4 : ¬ o4 = o3 := hO.ne34
  simp (disch := first | omega | (simp only [List.length_cons, List.length_nil, List.length_append, u8s_len]; omega)) only [go_sem, ↓reduceIte, true_and, Nat.reduceLeDiff, Nat.reduceEqDiff, Nat.reduceAdd, Nat.reduceBEq, Int.reduceEq, hO.get0, hO.get1, hO.get3, hO.get4, hO.get6, u1, u2, u3, u4]
  exact ⟨rfl, hO.st4.st3.keep⟩
end Go.Proofs.Ytjnoigekhdjkcaa
