/- What the functions come to: powers, measures. -/
import Derived.Test.YtjnoigekhdjkcaaGaussOps3
set_option linter.unusedVariables false
set_option linter.unusedSimpArgs false
namespace Go.Proofs.Ytjnoigekhdjkcaa
open Go.Am
/-- So many products with a point, as long as there are such points. -/
def powS (p : Pt) : Nat → Pt × Nat
  | 0 => ((1, 0), 0)
  | n + 1 => if (powS p n).2 = 0 then (if okPt (mulP (powS p n).1 p) then (mulP (powS p n).1 p, 0) else ((0, 0), 3)) else powS p n
theorem powS_ok (p : Pt) : ∀ n, (powS p n).2 = 0 → okPt (powS p n).1
  | 0, _ => by show okP 1 0; decide
  | n + 1, h => by
    rw [powS] at h ⊢
    split at h
    · rename_i h0
      rw [if_pos h0]
      split at h
      · rename_i hk; rw [if_pos hk]; exact hk
      · cases h
    · rename_i h0
      rw [if_neg h0]
      exact powS_ok p n h
theorem powS_bad (p : Pt) {i : Nat} (h : (powS p i).2 ≠ 0) : ∀ n, i ≤ n → powS p n = powS p i := by
  intro n hn
  induction n with
  | zero => obtain rfl : i = 0 := by omega
            rfl
  | succ n ih =>
    rcases Nat.lt_or_ge n i with h1 | h1
    · obtain rfl : i = n + 1 := by omega
      rfl
    · rw [powS, ih h1, if_neg h]
def powR (p : Pt) (n : Int) : Pt × Nat := if okPt p ∧ 0 ≤ n ∧ n ≤ 64 then powS p n.toNat else ((0, 0), 1)

variable {P : Program} (H : Has P) (HC : HasC P)
include H
include HC in
theorem none_ok (p : Pt) (e w : Nat) (h : Heap) : AWF P ann 0 12 [ptA p, errN e, errN w] h fun r h' => r = .sc (.bool (decide (e = w ∧ p = (0, 0)))) ∧ h' = h := by
  refine AWF.fnPurec H.f0_12 rfl ?_
  have hO := OB.nil (h := h)
  (refine W_seq_gen fun N hN => ?_); simp (disch := first | omega | (simp only [List.length_cons, List.length_nil, List.length_append, u8s_len]; omega)) only [go_sem, ↓reduceIte, true_and, Nat.reduceLeDiff, Nat.reduceEqDiff, Nat.reduceAdd, Nat.reduceBEq, Int.reduceEq, ptA, errN]
  intro b hb
  refine hN _ ?_; clear hN N; refine W_ob (hO.new hb) fun hc hO => ?_
  have hz : (p.1 = ((0 : Nat) : Int) ∧ p.2 = ((0 : Nat) : Int)) ↔ p = (0, 0) := ⟨fun ⟨a, b⟩ => pt_ext a b, fun h => by subst h; exact ⟨rfl, rfl⟩⟩
  by_cases c : e = w
  · have q : ((e : Int) == (w : Int)) = true := by simp [c]
    simp (disch := first | omega | (simp only [List.length_cons, List.length_nil, List.length_append, u8s_len]; omega)) only [go_sem, ↓reduceIte, true_and, Nat.reduceLeDiff, Nat.reduceEqDiff, Nat.reduceAdd, Nat.reduceBEq, Int.reduceEq, errN, q, c, hO.get0, HC.eq]
    refine ⟨?_, hO.keep⟩
    by_cases c2 : p = (0, 0)
    · rw [decide_eq_true (hz.2 c2), decide_eq_true c2]
    · rw [decide_eq_false (fun h => c2 (hz.1 h)), decide_eq_false c2]
  · simp (disch := first | omega | (simp only [List.length_cons, List.length_nil, List.length_append, u8s_len]; omega)) only [go_sem, ↓reduceIte, true_and, Nat.reduceLeDiff, Nat.reduceEqDiff, Nat.reduceAdd, Nat.reduceBEq, Int.reduceEq, errN, c, hO.get0, HC.eq]
    exact ⟨by simp [c], hO.keep⟩
include HC in
theorem awake_ok (h : Heap) : AWF P ann 0 13 [] h fun r h' => r = .sc (.bool true) ∧ h' = h := by
  refine AWF.fnPurec H.f0_13 rfl ?_
  have hO := OB.nil (h := h)
  (refine W_seq_gen fun N hN => ?_); simp (disch := first | omega | (simp only [List.length_cons, List.length_nil, List.length_append, u8s_len]; omega)) only [go_sem, ↓reduceIte, true_and, Nat.reduceLeDiff, Nat.reduceEqDiff, Nat.reduceAdd, Nat.reduceBEq, Int.reduceEq]
  refine hN _ ?_; clear hN N
  (refine W_seq_gen fun N hN => ?_); simp (disch := first | omega | (simp only [List.length_cons, List.length_nil, List.length_append, u8s_len]; omega)) only [go_sem, ↓reduceIte, true_and, Nat.reduceLeDiff, Nat.reduceEqDiff, Nat.reduceAdd, Nat.reduceBEq, Int.reduceEq]
  refine (mul_ok H (1, 2) (3, -1) _).mono ?_
  have e : mulS (1, 2) (3, -1) = ((5, 5), 0) := by decide
  rw [e]
  rintro _ _ ⟨rfl, hh⟩; subst hh
  rw [contK_some]; simp (disch := first | omega | (simp only [List.length_cons, List.length_nil, List.length_append, u8s_len]; omega)) only [go_sem, ↓reduceIte, true_and, Nat.reduceLeDiff, Nat.reduceEqDiff, Nat.reduceAdd, Nat.reduceBEq, Int.reduceEq, resP, ptA, errN]
  intro b hb
  refine hN _ ?_; clear hN N; refine W_ob (hO.new hb) fun hc hO => ?_
  have d : decide (((5 : Nat) : Int) = ((5 : Nat) : Int) ∧ ((5 : Nat) : Int) = ((5 : Nat) : Int)) = true := by decide
  have hq := HC.eq 5 5 ((5 : Nat) : Int) ((5 : Nat) : Int)
  have hd : decide ((5 : Int) = ((5 : Nat) : Int) ∧ (5 : Int) = ((5 : Nat) : Int)) = true := by decide
  rw [hd] at hq
  simp (disch := first | omega | (simp only [List.length_cons, List.length_nil, List.length_append, u8s_len]; omega)) only [go_sem, ↓reduceIte, true_and, Nat.reduceLeDiff, Nat.reduceEqDiff, Nat.reduceAdd, Nat.reduceBEq, Int.reduceEq, hO.get0, hq]
  refine (norm_ok H (5, 5) _).mono ?_
  rintro _ _ ⟨rfl, hh⟩; subst hh
  rw [contK_some]; simp (disch := first | omega | (simp only [List.length_cons, List.length_nil, List.length_append, u8s_len]; omega)) only [go_sem, ↓reduceIte, true_and, Nat.reduceLeDiff, Nat.reduceEqDiff, Nat.reduceAdd, Nat.reduceBEq, Int.reduceEq]
  exact ⟨rfl, hO.keep⟩
theorem pow_ok (p : Pt) (n : Int) (h : Heap) : AWF P ann 0 16 [ptA p, .sc (.int .i64 n)] h fun r h' => r = resP (powR p n) ∧ h' = h := by
  refine AWF.fnPurec H.f0_16 rfl ?_
  have hO := OB.nil (h := h)
  (refine W_seq_gen fun N hN => ?_); simp (disch := first | omega | (simp only [List.length_cons, List.length_nil, List.length_append, u8s_len]; omega)) only [go_sem, ↓reduceIte, true_and, Nat.reduceLeDiff, Nat.reduceEqDiff, Nat.reduceAdd, Nat.reduceBEq, Int.reduceEq, ptA]
  intro b1 h1 b2 h2
  refine hN _ ?_; clear hN N; refine W_ob ((hO.new h1).new h2) fun hc hO => ?_
  (refine W_seq_gen fun N hN => ?_); simp (disch := first | omega | (simp only [List.length_cons, List.length_nil, List.length_append, u8s_len]; omega)) only [go_sem, ↓reduceIte, true_and, Nat.reduceLeDiff, Nat.reduceEqDiff, Nat.reduceAdd, Nat.reduceBEq, Int.reduceEq, hO.get0, hO.get1]
  refine (check_ok H _ _ _).mono ?_
  rintro _ _ ⟨rfl, hh⟩; subst hh
  by_cases q : okPt p
  case neg =>
    simp only [if_neg q]
    rw [contK_some]; simp (disch := first | omega | (simp only [List.length_cons, List.length_nil, List.length_append, u8s_len]; omega)) only [go_sem, ↓reduceIte, true_and, Nat.reduceLeDiff, Nat.reduceEqDiff, Nat.reduceAdd, Nat.reduceBEq, Int.reduceEq, errN, hO.get0, hO.get1]
    rw [powR, if_neg (fun h => q h.1)]
    exact ⟨rfl, hO.st0.keep⟩
  simp only [if_pos q]
  by_cases c1 : n < ((0 : Nat) : Int)
  · rw [contK_some]; simp (disch := first | omega | (simp only [List.length_cons, List.length_nil, List.length_append, u8s_len]; omega)) only [go_sem, ↓reduceIte, true_and, Nat.reduceLeDiff, Nat.reduceEqDiff, Nat.reduceAdd, Nat.reduceBEq, Int.reduceEq, errN, hO.get0, hO.get1, c1]
    rw [powR, if_neg (fun h => by omega)]
    exact ⟨rfl, hO.st0.keep⟩
  by_cases c2 : n > ((64 : Nat) : Int)
  · rw [contK_some]; simp (disch := first | omega | (simp only [List.length_cons, List.length_nil, List.length_append, u8s_len]; omega)) only [go_sem, ↓reduceIte, true_and, Nat.reduceLeDiff, Nat.reduceEqDiff, Nat.reduceAdd, Nat.reduceBEq, Int.reduceEq, errN, hO.get0, hO.get1, c1, c2]
    rw [powR, if_neg (fun h => by omega)]
    exact ⟨rfl, hO.st0.keep⟩
  rw [contK_some]; simp (disch := first | omega | (simp only [List.length_cons, List.length_nil, List.length_append, u8s_len]; omega)) only [go_sem, ↓reduceIte, true_and, Nat.reduceLeDiff, Nat.reduceEqDiff, Nat.reduceAdd, Nat.reduceBEq, Int.reduceEq, errN, c1, c2]
  refine hN _ ?_; clear hN N
  obtain ⟨k, rfl⟩ : ∃ k : Nat, n = (k : Int) := ⟨n.toNat, by omega⟩
  have hR : powR p (k : Int) = powS p k := by rw [powR, if_pos ⟨q, by omega, by omega⟩]; rfl
  rw [hR]
  (refine W_seq_gen fun N hN => ?_); simp (disch := first | omega | (simp only [List.length_cons, List.length_nil, List.length_append, u8s_len]; omega)) only [go_sem, ↓reduceIte, true_and, Nat.reduceLeDiff, Nat.reduceEqDiff, Nat.reduceAdd, Nat.reduceBEq, Int.reduceEq]
  intro b6 h6
  refine hN _ ?_; clear hN N; refine W_ob (hO.new h6) fun hc hO => ?_
  (refine W_seq_gen fun M hM => ?_)
  (refine W_seq_gen fun N hN => ?_); simp (disch := first | omega | (simp only [List.length_cons, List.length_nil, List.length_append, u8s_len]; omega)) only [go_sem, ↓reduceIte, true_and, Nat.reduceLeDiff, Nat.reduceEqDiff, Nat.reduceAdd, Nat.reduceBEq, Int.reduceEq]
  refine hN _ ?_; clear hN N
  simp (disch := first | omega | (simp only [List.length_cons, List.length_nil, List.length_append, u8s_len]; omega)) only [go_sem, ↓reduceIte, true_and, Nat.reduceLeDiff, Nat.reduceEqDiff, Nat.reduceAdd, Nat.reduceBEq, Int.reduceEq]
  refine AW_loopN (fun m t h' => ∃ i, m = k - i ∧ i ≤ k ∧ (powS p i).2 = 0 ∧ t 2 = .op b1 0 ∧ t 4 = .op b2 0 ∧ t 6 = .op b6 0 ∧ t 22 = .sc (.int .i64 (k : Nat)) ∧ t 23 = .sc (.int .i64 (i : Nat)) ∧
      OB h [(b6, .arr [.sc (.int .i64 (powS p i).1.1), .sc (.int .i64 (powS p i).1.2)]), (b2, .arr [.sc (.int .i64 (0 : Nat)), .sc (.int .i64 (0 : Nat))]), (b1, .arr [.sc (.int .i64 p.1), .sc (.int .i64 p.2)])] h')
    (n := k) ⟨0, rfl, Nat.zero_le _, rfl, by simp [upd_at], by simp [upd_at], by simp [upd_at], rfl, rfl, hO⟩ ?_
  clear hO
  rintro m t h' ⟨i, rfl, hi, hp0, t2, t4, t6, t22, t23, hO⟩
  have hpo := powS_ok p i hp0
  rcases Nat.lt_or_ge i k with hlt | hge
  · (refine W_seq_gen fun N hN => ?_); simp (disch := first | omega | (simp only [List.length_cons, List.length_nil, List.length_append, u8s_len]; omega)) only [go_sem, ↓reduceIte, true_and, Nat.reduceLeDiff, Nat.reduceEqDiff, Nat.reduceAdd, Nat.reduceBEq, Int.reduceEq, t22, t23, hlt]
    refine hN _ ?_; clear hN N
    (refine W_seq_gen fun N hN => ?_); simp (disch := first | omega | (simp only [List.length_cons, List.length_nil, List.length_append, u8s_len]; omega)) only [go_sem, ↓reduceIte, true_and, Nat.reduceLeDiff, Nat.reduceEqDiff, Nat.reduceAdd, Nat.reduceBEq, Int.reduceEq]
    refine hN _ ?_; clear hN N
    (refine W_seq_gen fun N hN => ?_)
    rw [W_block]
    (refine W_seq_gen fun N hN => ?_); simp (disch := first | omega | (simp only [List.length_cons, List.length_nil, List.length_append, u8s_len]; omega)) only [go_sem, ↓reduceIte, true_and, Nat.reduceLeDiff, Nat.reduceEqDiff, Nat.reduceAdd, Nat.reduceBEq, Int.reduceEq, t2, t6, hO.get0, hO.get2]
    refine (mul_ok H (powS p i).1 p _).mono ?_
    rintro _ _ ⟨rfl, hh⟩; subst hh
    by_cases c : okPt (mulP (powS p i).1 p)
    · have e : mulS (powS p i).1 p = (mulP (powS p i).1 p, 0) := by rw [mulS, if_pos ⟨hpo, q⟩, if_pos c]
      have hS : powS p (i + 1) = (mulP (powS p i).1 p, 0) := by rw [powS, if_pos hp0, if_pos c]
      rw [e]
      rw [contK_some]; simp (disch := first | omega | (simp only [List.length_cons, List.length_nil, List.length_append, u8s_len]; omega)) only [go_sem, ↓reduceIte, true_and, Nat.reduceLeDiff, Nat.reduceEqDiff, Nat.reduceAdd, Nat.reduceBEq, Int.reduceEq, resP, ptA, errN]
      intro b7 h7
      refine hN _ ?_; clear hN N; refine W_ob (hO.new h7) fun hc hO => ?_
      simp (disch := first | omega | (simp only [List.length_cons, List.length_nil, List.length_append, u8s_len]; omega)) only [go_sem, ↓reduceIte, true_and, Nat.reduceLeDiff, Nat.reduceEqDiff, Nat.reduceAdd, Nat.reduceBEq, Int.reduceEq, t6, hO.get0, hO.get1]
      refine hN _ ?_; clear hN N
      refine W_ob hO.st1 fun hc hO => ?_
      simp (disch := first | omega | (simp only [List.length_cons, List.length_nil, List.length_append, u8s_len]; omega)) only [go_sem, ↓reduceIte, true_and, Nat.reduceLeDiff, Nat.reduceEqDiff, Nat.reduceAdd, Nat.reduceBEq, Int.reduceEq, t23, nat_add]
      exact ⟨k - (i + 1), by omega, i + 1, rfl, by omega, by rw [hS], t2, t4, t6, t22, rfl, by rw [hS]; exact hO.tail⟩
    · have e : mulS (powS p i).1 p = ((0, 0), 3) := by rw [mulS, if_pos ⟨hpo, q⟩, if_neg c]
      have hS : powS p (i + 1) = ((0, 0), 3) := by rw [powS, if_pos hp0, if_neg c]
      have hk := powS_bad p (i := i + 1) (by rw [hS]; decide) k (by omega)
      rw [e]
      rw [contK_some]; simp (disch := first | omega | (simp only [List.length_cons, List.length_nil, List.length_append, u8s_len]; omega)) only [go_sem, ↓reduceIte, true_and, Nat.reduceLeDiff, Nat.reduceEqDiff, Nat.reduceAdd, Nat.reduceBEq, Int.reduceEq, resP, ptA, errN]
      intro b7 h7
      refine hN _ ?_; clear hN N; refine W_ob (hO.new h7) fun hc hO => ?_
      simp (disch := first | omega | (simp only [List.length_cons, List.length_nil, List.length_append, u8s_len]; omega)) only [go_sem, ↓reduceIte, true_and, Nat.reduceLeDiff, Nat.reduceEqDiff, Nat.reduceAdd, Nat.reduceBEq, Int.reduceEq, t4, hO.get0, hO.get2]
      rw [hk, hS]
      exact ⟨rfl, hO.st2.keep⟩
  obtain rfl : i = k := by omega
  (refine W_seq_gen fun N hN => ?_); simp (disch := first | omega | (simp only [List.length_cons, List.length_nil, List.length_append, u8s_len]; omega)) only [go_sem, ↓reduceIte, true_and, Nat.reduceLeDiff, Nat.reduceEqDiff, Nat.reduceAdd, Nat.reduceBEq, Int.reduceEq, t22, t23, Nat.lt_irrefl]
  refine hN _ ?_; clear hN N
  (refine W_seq_gen fun N hN => ?_); simp (disch := first | omega | (simp only [List.length_cons, List.length_nil, List.length_append, u8s_len]; omega)) only [go_sem, ↓reduceIte, true_and, Nat.reduceLeDiff, Nat.reduceEqDiff, Nat.reduceAdd, Nat.reduceBEq, Int.reduceEq]
  refine hM _ ?_; clear hN N hM M
  simp (disch := first | omega | (simp only [List.length_cons, List.length_nil, List.length_append, u8s_len]; omega)) only [go_sem, ↓reduceIte, true_and, Nat.reduceLeDiff, Nat.reduceEqDiff, Nat.reduceAdd, Nat.reduceBEq, Int.reduceEq, t4, t6, hO.get0, hO.get1]
  rw [resP, hp0]
  exact ⟨rfl, hO.st1.keep⟩
end Go.Proofs.Ytjnoigekhdjkcaa
