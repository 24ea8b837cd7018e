/- What the functions come to: products, turns, nearest numbers, quotients. -/
import Derived.Test.YtjnoigekhdjkcaaGaussOps
set_option linter.unusedVariables false
set_option linter.unusedSimpArgs false
namespace Go.Proofs.Ytjnoigekhdjkcaa
open Go.Am
theorem tmod4 (n : Int) : (n.tmod ((4 : Nat) : Int) + ((4 : Nat) : Int)).tmod ((4 : Nat) : Int) = (((n % 4).toNat : Nat) : Int) ∧ -4 < n.tmod ((4 : Nat) : Int) ∧ n.tmod ((4 : Nat) : Int) < 4 := by
  have h4 : ((4 : Nat) : Int) = 4 := rfl
  rw [h4]
  have b : -4 < n.tmod 4 ∧ n.tmod 4 < 4 ∧ (n.tmod 4 + 4) % 4 = n % 4 := by
    rcases Int.le_total 0 n with h | h
    · rw [Int.tmod_eq_emod_of_nonneg h]; omega
    · have e : n.tmod 4 = -((-n) % 4) := by
        have : n = -(-n) := by omega
        conv => lhs; rw [this, Int.neg_tmod, Int.tmod_eq_emod_of_nonneg (by omega)]
      rw [e]; omega
  refine ⟨?_, b.1, b.2.1⟩
  rw [Int.tmod_eq_emod_of_nonneg (by omega), b.2.2]
  omega
theorem floor_t {A D : Int} (hD : 0 < D) : A / D = if A < 0 ∧ A.tmod D ≠ 0 then A.tdiv D - 1 else A.tdiv D := by
  have h := Int.tdiv_eq_ediv (a := A) (b := D)
  have hs : D.sign = 1 := Int.sign_eq_one_of_pos hD
  have hd : D ∣ A ↔ A.tmod D = 0 := ⟨fun h => Int.tmod_eq_zero_of_dvd h, fun h => Int.dvd_of_tmod_eq_zero h⟩
  rw [hs] at h
  by_cases h1 : A < 0
  · by_cases h2 : A.tmod D = 0
    · have : ¬ (A < 0 ∧ A.tmod D ≠ 0) := fun q => q.2 h2
      rw [if_neg this, h, if_pos (.inr (hd.2 h2))]
      omega
    · rw [if_pos ⟨h1, h2⟩, h, if_neg (fun q => by rcases q with q | q; · omega
                                                  · exact h2 (hd.1 q))]
      omega
  · have : ¬ (A < 0 ∧ A.tmod D ≠ 0) := fun q => h1 q.1
    rw [if_neg this, h, if_pos (.inl (by omega))]
    omega
theorem rotN_okP {p : Pt} (h : okPt p) (n : Nat) : (-1048576 ≤ (rotN n p).1 ∧ (rotN n p).1 ≤ 1048576) ∧ -1048576 ≤ (rotN n p).2 ∧ (rotN n p).2 ≤ 1048576 := rotN_ok n h

variable {P : Program} (H : Has P)
include H
theorem mul_ok (a b : Pt) (h : Heap) : AWF P ann 0 10 [ptA a, ptA b] h fun r h' => r = resP (mulS a b) ∧ h' = h := by
  refine AWF.fnPurec H.f0_10 rfl ?_
  have hO := OB.nil (h := h)
  (refine W_seq_gen fun N hN => ?_); simp (disch := first | omega | (simp only [List.length_cons, List.length_nil, List.length_append, u8s_len]; omega)) only [go_sem, ↓reduceIte, true_and, Nat.reduceLeDiff, Nat.reduceEqDiff, Nat.reduceAdd, Nat.reduceBEq, Int.reduceEq, ptA]
  intro b1 h1 b2 h2 b3 h3
  refine hN _ ?_; clear hN N; refine W_ob (((hO.new h1).new h2).new h3) fun hc hO => ?_
  (refine W_seq_gen fun N hN => ?_); simp (disch := first | omega | (simp only [List.length_cons, List.length_nil, List.length_append, u8s_len]; omega)) only [go_sem, ↓reduceIte, true_and, Nat.reduceLeDiff, Nat.reduceEqDiff, Nat.reduceAdd, Nat.reduceBEq, Int.reduceEq, hO.get0, hO.get1, hO.get2]
  refine (both_ok H _ _ _ _ _ _ _).mono ?_
  rintro _ _ ⟨rfl, hh⟩; subst hh
  by_cases q : okPt a ∧ okPt b
  · have e : bothN a.1 a.2 b.1 b.2 a.1 a.2 = 0 := by rw [bothN, if_pos q, if_pos q.1]
    rw [e]
    rw [contK_some]; simp (disch := first | omega | (simp only [List.length_cons, List.length_nil, List.length_append, u8s_len]; omega)) only [go_sem, ↓reduceIte, true_and, Nat.reduceLeDiff, Nat.reduceEqDiff, Nat.reduceAdd, Nat.reduceBEq, Int.reduceEq, errN]
    refine hN _ ?_; clear hN N
    obtain ⟨⟨a1, a2⟩, b1, b2⟩ := id q
    have m1 := mul_bd a1 b1
    have m2 := mul_bd a2 b2
    have m3 := mul_bd a1 b2
    have m4 := mul_bd a2 b1
    obtain ⟨u, u1, u2, u3⟩ := ci_mul (P := P) (ty := 45) (ci_cx (x := a.1) (y := a.2) (by omega) (by omega)) (ci_cx (x := b.1) (y := b.2) (by omega) (by omega)) (by omega) (by omega) (by omega) (by omega) (by omega) (by omega)
    (refine W_seq_gen fun N hN => ?_); simp (disch := first | omega | (simp only [List.length_cons, List.length_nil, List.length_append, u8s_len]; omega)) only [go_sem, ↓reduceIte, true_and, Nat.reduceLeDiff, Nat.reduceEqDiff, Nat.reduceAdd, Nat.reduceBEq, Int.reduceEq, hO.get0, hO.get1, hO.get2]
    refine ⟨_, of_ok H a, ?_⟩
    rw [contK_some]; simp (disch := first | omega | (simp only [List.length_cons, List.length_nil, List.length_append, u8s_len]; omega)) only [go_sem, ↓reduceIte, true_and, Nat.reduceLeDiff, Nat.reduceEqDiff, Nat.reduceAdd, Nat.reduceBEq, Int.reduceEq, hO.get0, hO.get1, hO.get2]
    refine ⟨_, of_ok H b, ?_⟩
    rw [contK_some]; simp (disch := first | omega | (simp only [List.length_cons, List.length_nil, List.length_append, u8s_len]; omega)) only [go_sem, ↓reduceIte, true_and, Nat.reduceLeDiff, Nat.reduceEqDiff, Nat.reduceAdd, Nat.reduceBEq, Int.reduceEq, cx, u1, u2]
    refine ⟨_, point_ok H u3 (by omega) (by omega), ?_⟩
    rw [contK_some]; simp (disch := first | omega | (simp only [List.length_cons, List.length_nil, List.length_append, u8s_len]; omega)) only [go_sem, ↓reduceIte, true_and, Nat.reduceLeDiff, Nat.reduceEqDiff, Nat.reduceAdd, Nat.reduceBEq, Int.reduceEq, ptA]
    intro b4 h4
    refine hN _ ?_; clear hN N; refine W_ob (hO.new h4) fun hc hO => ?_
    (refine W_seq_gen fun N hN => ?_); simp (disch := first | omega | (simp only [List.length_cons, List.length_nil, List.length_append, u8s_len]; omega)) only [go_sem, ↓reduceIte, true_and, Nat.reduceLeDiff, Nat.reduceEqDiff, Nat.reduceAdd, Nat.reduceBEq, Int.reduceEq, hO.get0, hO.get1, hO.get2, hO.get3]
    refine (both_ok H _ _ _ _ _ _ _).mono ?_
    rintro _ _ ⟨rfl, hh⟩; subst hh
    by_cases q3 : okPt (mulP a b)
    · have e : bothN a.1 a.2 b.1 b.2 (a.1 * b.1 - a.2 * b.2) (a.1 * b.2 + a.2 * b.1) = 0 := by rw [bothN, if_pos q]; exact if_pos q3
      rw [e]
      rw [contK_some]; simp (disch := first | omega | (simp only [List.length_cons, List.length_nil, List.length_append, u8s_len]; omega)) only [go_sem, ↓reduceIte, true_and, Nat.reduceLeDiff, Nat.reduceEqDiff, Nat.reduceAdd, Nat.reduceBEq, Int.reduceEq, errN]
      refine hN _ ?_; clear hN N
      simp (disch := first | omega | (simp only [List.length_cons, List.length_nil, List.length_append, u8s_len]; omega)) only [go_sem, ↓reduceIte, true_and, Nat.reduceLeDiff, Nat.reduceEqDiff, Nat.reduceAdd, Nat.reduceBEq, Int.reduceEq, hO.get0, hO.get1, hO.get2, hO.get3]
      rw [mulS, if_pos q, if_pos q3]
      exact ⟨rfl, hO.st1.keep⟩
    · have e : bothN a.1 a.2 b.1 b.2 (a.1 * b.1 - a.2 * b.2) (a.1 * b.2 + a.2 * b.1) = 3 := by rw [bothN, if_pos q]; exact if_neg q3
      rw [e]
      rw [contK_some]; simp (disch := first | omega | (simp only [List.length_cons, List.length_nil, List.length_append, u8s_len]; omega)) only [go_sem, ↓reduceIte, true_and, Nat.reduceLeDiff, Nat.reduceEqDiff, Nat.reduceAdd, Nat.reduceBEq, Int.reduceEq, errN, hO.get0, hO.get1, hO.get2, hO.get3]
      rw [mulS, if_pos q, if_neg q3]
      exact ⟨rfl, hO.st1.keep⟩
  · have e : bothN a.1 a.2 b.1 b.2 a.1 a.2 = 1 := by rw [bothN, if_neg q]
    rw [e]
    rw [contK_some]; simp (disch := first | omega | (simp only [List.length_cons, List.length_nil, List.length_append, u8s_len]; omega)) only [go_sem, ↓reduceIte, true_and, Nat.reduceLeDiff, Nat.reduceEqDiff, Nat.reduceAdd, Nat.reduceBEq, Int.reduceEq, errN, hO.get0, hO.get1, hO.get2]
    rw [mulS, if_neg q]
    exact ⟨rfl, hO.st0.keep⟩
theorem turn_ok (p : Pt) (n : Int) (h : Heap) : AWF P ann 0 18 [ptA p, .sc (.int .i64 n)] h fun r h' => r = ptA (if okPt p then rotN (n % 4).toNat p else (0, 0)) ∧ h' = h := by
  refine AWF.fnPurec H.f0_18 rfl ?_
  have hO := OB.nil (h := h)
  (refine W_seq_gen fun N hN => ?_); simp (disch := first | omega | (simp only [List.length_cons, List.length_nil, List.length_append, u8s_len]; omega)) only [go_sem, ↓reduceIte, true_and, Nat.reduceLeDiff, Nat.reduceEqDiff, Nat.reduceAdd, Nat.reduceBEq, Int.reduceEq, ptA]
  intro b1 h1 b2 h2
  refine hN _ ?_; clear hN N; refine W_ob ((hO.new h1).new h2) fun hc hO => ?_
  (refine W_seq_gen fun N hN => ?_); simp (disch := first | omega | (simp only [List.length_cons, List.length_nil, List.length_append, u8s_len]; omega)) only [go_sem, ↓reduceIte, true_and, Nat.reduceLeDiff, Nat.reduceEqDiff, Nat.reduceAdd, Nat.reduceBEq, Int.reduceEq, hO.get0, hO.get1]
  refine (check_ok H _ _ _).mono ?_
  rintro _ _ ⟨rfl, hh⟩; subst hh
  by_cases q : okPt p
  · simp only [if_pos q]
    rw [contK_some]; simp (disch := first | omega | (simp only [List.length_cons, List.length_nil, List.length_append, u8s_len]; omega)) only [go_sem, ↓reduceIte, true_and, Nat.reduceLeDiff, Nat.reduceEqDiff, Nat.reduceAdd, Nat.reduceBEq, Int.reduceEq, errN]
    refine hN _ ?_; clear hN N
    (refine W_seq_gen fun N hN => ?_); simp (disch := first | omega | (simp only [List.length_cons, List.length_nil, List.length_append, u8s_len]; omega)) only [go_sem, ↓reduceIte, true_and, Nat.reduceLeDiff, Nat.reduceEqDiff, Nat.reduceAdd, Nat.reduceBEq, Int.reduceEq, hO.get0, hO.get1]
    refine (of_ok H p _).mono ?_
    rintro _ _ ⟨rfl, hh⟩; subst hh
    rw [contK_some]; simp (disch := first | omega | (simp only [List.length_cons, List.length_nil, List.length_append, u8s_len]; omega)) only [go_sem, ↓reduceIte, true_and, Nat.reduceLeDiff, Nat.reduceEqDiff, Nat.reduceAdd, Nat.reduceBEq, Int.reduceEq]
    refine hN _ ?_; clear hN N
    obtain ⟨e2, e3, e4⟩ := tmod4 n
    generalize hk : (n % 4).toNat = k at e2
    generalize he1 : n.tmod ((4 : Nat) : Int) = r1 at e2 e3 e4
    (refine W_seq_gen fun M hM => ?_)
    (refine W_seq_gen fun N hN => ?_); simp (disch := first | omega | (simp only [List.length_cons, List.length_nil, List.length_append, u8s_len]; omega)) only [go_sem, ↓reduceIte, true_and, Nat.reduceLeDiff, Nat.reduceEqDiff, Nat.reduceAdd, Nat.reduceBEq, Int.reduceEq, he1, e2]
    refine hN _ ?_; clear hN N
    simp (disch := first | omega | (simp only [List.length_cons, List.length_nil, List.length_append, u8s_len]; omega)) only [go_sem, ↓reduceIte, true_and, Nat.reduceLeDiff, Nat.reduceEqDiff, Nat.reduceAdd, Nat.reduceBEq, Int.reduceEq]
    rename_i hc
    refine AW_loopN (fun m t h' => h' = hc ∧ ∃ i v, m = k - i ∧ i ≤ k ∧ t 4 = .op b2 0 ∧ t 5 = .sc v ∧ CI v (rotN i p).1 (rotN i p).2 ∧ t 15 = .sc (.int .i64 (k : Nat)) ∧ t 16 = .sc (.int .i64 (i : Nat)))
      (n := k) ⟨rfl, 0, _, rfl, Nat.zero_le _, by simp [upd_at], rfl, ci_cx (by have := q.1; omega) (by have := q.2; omega), rfl, rfl⟩ ?_
    rintro m t h' ⟨rfl, i, v, rfl, hi, t4, t5, hv, t15, t16⟩
    obtain ⟨bd1, bd2⟩ := rotN_okP q i
    rcases Nat.lt_or_ge i k with hlt | hge
    · obtain ⟨u, u1, u2, u3⟩ := ci_mul (P := P) (ty := 45) hv ci_i (by omega) (by omega) (by omega) (by omega) (by omega) (by omega)
      (refine W_seq_gen fun N hN => ?_); simp (disch := first | omega | (simp only [List.length_cons, List.length_nil, List.length_append, u8s_len]; omega)) only [go_sem, ↓reduceIte, true_and, Nat.reduceLeDiff, Nat.reduceEqDiff, Nat.reduceAdd, Nat.reduceBEq, Int.reduceEq, t15, t16, hlt]
      refine hN _ ?_; clear hN N
      (refine W_seq_gen fun N hN => ?_); simp (disch := first | omega | (simp only [List.length_cons, List.length_nil, List.length_append, u8s_len]; omega)) only [go_sem, ↓reduceIte, true_and, Nat.reduceLeDiff, Nat.reduceEqDiff, Nat.reduceAdd, Nat.reduceBEq, Int.reduceEq]
      refine hN _ ?_; clear hN N
      (refine W_seq_gen fun N hN => ?_)
      simp (disch := first | omega | (simp only [List.length_cons, List.length_nil, List.length_append, u8s_len]; omega)) only [go_sem, ↓reduceIte, true_and, Nat.reduceLeDiff, Nat.reduceEqDiff, Nat.reduceAdd, Nat.reduceBEq, Int.reduceEq, t5, u1, u2]
      refine hN _ ?_; clear hN N
      simp (disch := first | omega | (simp only [List.length_cons, List.length_nil, List.length_append, u8s_len]; omega)) only [go_sem, ↓reduceIte, true_and, Nat.reduceLeDiff, Nat.reduceEqDiff, Nat.reduceAdd, Nat.reduceBEq, Int.reduceEq, t16, nat_add]
      refine ⟨k - (i + 1), by omega, i + 1, u, rfl, by omega, t4, rfl, ?_, t15, rfl⟩
      rw [rotN_succ]
      simp only [Int.mul_zero, Int.mul_one, Int.zero_sub, Int.add_zero] at u3
      exact u3
    obtain rfl : i = k := by omega
    (refine W_seq_gen fun N hN => ?_); simp (disch := first | omega | (simp only [List.length_cons, List.length_nil, List.length_append, u8s_len]; omega)) only [go_sem, ↓reduceIte, true_and, Nat.reduceLeDiff, Nat.reduceEqDiff, Nat.reduceAdd, Nat.reduceBEq, Int.reduceEq, t15, t16, Nat.lt_irrefl]
    refine hN _ ?_; clear hN N
    (refine W_seq_gen fun N hN => ?_); simp (disch := first | omega | (simp only [List.length_cons, List.length_nil, List.length_append, u8s_len]; omega)) only [go_sem, ↓reduceIte, true_and, Nat.reduceLeDiff, Nat.reduceEqDiff, Nat.reduceAdd, Nat.reduceBEq, Int.reduceEq]
    refine hM _ ?_; clear hN N hM M
    simp (disch := first | omega | (simp only [List.length_cons, List.length_nil, List.length_append, u8s_len]; omega)) only [go_sem, ↓reduceIte, true_and, Nat.reduceLeDiff, Nat.reduceEqDiff, Nat.reduceAdd, Nat.reduceBEq, Int.reduceEq, t4, t5]
    refine (point_ok H hv (by omega) (by omega) _).mono ?_
    rintro _ _ ⟨rfl, hh⟩; subst hh
    rw [contK_some]; simp (disch := first | omega | (simp only [List.length_cons, List.length_nil, List.length_append, u8s_len]; omega)) only [go_sem, ↓reduceIte, true_and, Nat.reduceLeDiff, Nat.reduceEqDiff, Nat.reduceAdd, Nat.reduceBEq, Int.reduceEq, ptA, t4, hO.get0]
    rw [if_pos q]
    exact ⟨rfl, hO.st0.keep⟩
  · simp only [if_neg q]
    rw [contK_some]; simp (disch := first | omega | (simp only [List.length_cons, List.length_nil, List.length_append, u8s_len]; omega)) only [go_sem, ↓reduceIte, true_and, Nat.reduceLeDiff, Nat.reduceEqDiff, Nat.reduceAdd, Nat.reduceBEq, Int.reduceEq, errN, hO.get0, hO.get1]
    exact ⟨rfl, hO.st0.keep⟩
theorem near_ok {a n : Int} (ha : -4398046511104 ≤ a ∧ a ≤ 4398046511104) (hn : 0 < n ∧ n ≤ 4398046511104) (h : Heap) : AWF P ann 0 30 [.sc (.int .i64 a), .sc (.int .i64 n)] h fun r h' => r = .sc (.int .i64 (nearN a n)) ∧ h' = h := by
  refine AWF.fnc H.f0_30 rfl ?_
  have h2 : ((2 : Nat) : Int) = 2 := rfl
  have hf := floor_t (A := 2 * a + n) (D := 2 * n) (by omega)
  have hne : ¬ 2 * n = 0 := by omega
  have hr : -17592186044416 ≤ (2 * a + n).tdiv (2 * n) ∧ (2 * a + n).tdiv (2 * n) ≤ 17592186044416 := by
    have h1 := Int.natAbs_tdiv_le_natAbs (2 * a + n) (2 * n)
    omega
  have hr2 : -(2 * n) < (2 * a + n).tmod (2 * n) ∧ (2 * a + n).tmod (2 * n) < 2 * n := ⟨Int.lt_tmod_of_pos _ (by omega), Int.tmod_lt_of_pos _ (by omega)⟩
  (refine W_seq_gen fun N hN => ?_); simp (disch := first | omega | (simp only [List.length_cons, List.length_nil, List.length_append, u8s_len]; omega)) only [go_sem, ↓reduceIte, true_and, Nat.reduceLeDiff, Nat.reduceEqDiff, Nat.reduceAdd, Nat.reduceBEq, Int.reduceEq]
  refine hN _ ?_; clear hN N
  (refine W_seq_gen fun N hN => ?_); simp (disch := first | omega | (simp only [List.length_cons, List.length_nil, List.length_append, u8s_len]; omega)) only [go_sem, ↓reduceIte, true_and, Nat.reduceLeDiff, Nat.reduceEqDiff, Nat.reduceAdd, Nat.reduceBEq, Int.reduceEq, h2]
  refine hN _ ?_; clear hN N
  (refine W_seq_gen fun N hN => ?_); simp (disch := first | omega | (simp only [List.length_cons, List.length_nil, List.length_append, u8s_len]; omega)) only [go_sem, ↓reduceIte, true_and, Nat.reduceLeDiff, Nat.reduceEqDiff, Nat.reduceAdd, Nat.reduceBEq, Int.reduceEq, h2, hne]
  refine hN _ ?_; clear hN N
  by_cases c1 : 2 * a + n < ((0 : Nat) : Int)
  · by_cases c2 : (2 * a + n).tmod (2 * n) = 0
    · have q : ((2 * a + n).tmod (2 * n) != ((0 : Nat) : Int)) = false := by simpa using c2
      rw [if_neg (fun q => q.2 c2)] at hf
      (refine W_seq_gen fun N hN => ?_); simp (disch := first | omega | (simp only [List.length_cons, List.length_nil, List.length_append, u8s_len]; omega)) only [go_sem, ↓reduceIte, true_and, Nat.reduceLeDiff, Nat.reduceEqDiff, Nat.reduceAdd, Nat.reduceBEq, Int.reduceEq, h2, hne, c1, q]
      refine hN _ ?_; clear hN N
      simp (disch := first | omega | (simp only [List.length_cons, List.length_nil, List.length_append, u8s_len]; omega)) only [go_sem, ↓reduceIte, true_and, Nat.reduceLeDiff, Nat.reduceEqDiff, Nat.reduceAdd, Nat.reduceBEq, Int.reduceEq]
      rw [nearN, hf]
    · have q : ((2 * a + n).tmod (2 * n) != ((0 : Nat) : Int)) = true := by simpa using c2
      rw [if_pos ⟨c1, c2⟩] at hf
      (refine W_seq_gen fun N hN => ?_); simp (disch := first | omega | (simp only [List.length_cons, List.length_nil, List.length_append, u8s_len]; omega)) only [go_sem, ↓reduceIte, true_and, Nat.reduceLeDiff, Nat.reduceEqDiff, Nat.reduceAdd, Nat.reduceBEq, Int.reduceEq, h2, hne, c1, q]
      refine hN _ ?_; clear hN N
      simp (disch := first | omega | (simp only [List.length_cons, List.length_nil, List.length_append, u8s_len]; omega)) only [go_sem, ↓reduceIte, true_and, Nat.reduceLeDiff, Nat.reduceEqDiff, Nat.reduceAdd, Nat.reduceBEq, Int.reduceEq]
      rw [nearN, hf]
      rfl
  · rw [if_neg (fun q => c1 q.1)] at hf
    (refine W_seq_gen fun N hN => ?_); simp (disch := first | omega | (simp only [List.length_cons, List.length_nil, List.length_append, u8s_len]; omega)) only [go_sem, ↓reduceIte, true_and, Nat.reduceLeDiff, Nat.reduceEqDiff, Nat.reduceAdd, Nat.reduceBEq, Int.reduceEq, h2, hne, c1]
    refine hN _ ?_; clear hN N
    simp (disch := first | omega | (simp only [List.length_cons, List.length_nil, List.length_append, u8s_len]; omega)) only [go_sem, ↓reduceIte, true_and, Nat.reduceLeDiff, Nat.reduceEqDiff, Nat.reduceAdd, Nat.reduceBEq, Int.reduceEq]
    rw [nearN, hf]
theorem rmul_ok {a b : Pt} (ha : okPt a) (hb : okPt b) (h : Heap) : AWF P ann 0 14 [ptA a, ptA b] h fun r h' => r = ptA (mulP a b) ∧ h' = h := by
  refine AWF.fnPurec H.f0_14 rfl ?_
  have hO := OB.nil (h := h)
  have m1 := mul_bd ha.1 hb.1
  have m2 := mul_bd ha.2 hb.2
  have m3 := mul_bd ha.1 hb.2
  have m4 := mul_bd ha.2 hb.1
  (refine W_seq_gen fun N hN => ?_); simp (disch := first | omega | (simp only [List.length_cons, List.length_nil, List.length_append, u8s_len]; omega)) only [go_sem, ↓reduceIte, true_and, Nat.reduceLeDiff, Nat.reduceEqDiff, Nat.reduceAdd, Nat.reduceBEq, Int.reduceEq, ptA]
  intro b1 h1 b2 h2 b3 h3
  refine hN _ ?_; clear hN N; refine W_ob (((hO.new h1).new h2).new h3) fun hc hO => ?_
  simp (disch := first | omega | (simp only [List.length_cons, List.length_nil, List.length_append, u8s_len]; omega)) only [go_sem, ↓reduceIte, true_and, Nat.reduceLeDiff, Nat.reduceEqDiff, Nat.reduceAdd, Nat.reduceBEq, Int.reduceEq, hO.get0, hO.get1, hO.get2]
  exact ⟨rfl, hO.st0.keep⟩
theorem rnorm_ok {p : Pt} (hp : okPt p) (h : Heap) : AWF P ann 0 21 [ptA p] h fun r h' => r = .sc (.int .i64 (nrm p)) ∧ h' = h := by
  refine AWF.fnPurec H.f0_21 rfl ?_
  have hO := OB.nil (h := h)
  have m1 := mul_bd hp.1 hp.1
  have m2 := mul_bd hp.2 hp.2
  (refine W_seq_gen fun N hN => ?_); simp (disch := first | omega | (simp only [List.length_cons, List.length_nil, List.length_append, u8s_len]; omega)) only [go_sem, ↓reduceIte, true_and, Nat.reduceLeDiff, Nat.reduceEqDiff, Nat.reduceAdd, Nat.reduceBEq, Int.reduceEq, ptA]
  intro b hb
  refine hN _ ?_; clear hN N; refine W_ob (hO.new hb) fun hc hO => ?_
  simp (disch := first | omega | (simp only [List.length_cons, List.length_nil, List.length_append, u8s_len]; omega)) only [go_sem, ↓reduceIte, true_and, Nat.reduceLeDiff, Nat.reduceEqDiff, Nat.reduceAdd, Nat.reduceBEq, Int.reduceEq, hO.get0]
  exact ⟨rfl, hO.keep⟩
end Go.Proofs.Ytjnoigekhdjkcaa
