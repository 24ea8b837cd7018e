/- What the functions of the packages sheaf and tailraceref08 come to. -/
import Derived.Test.YtmdkgaljnoookaaSheafPure
set_option linter.unusedVariables false
set_option linter.unusedSimpArgs false
namespace Go.Proofs.Ytmdkgaljnoookaa
open Go.Am

def errN (ok : Bool) : AV := .sc (.int .i64 ((if ok then 0 else 1 : Nat) : Nat))

variable {P : Program} (H : Has P)
include H

theorem check_ok {v : AV} {l : List Pr} (hv : SF 2 v (prs l)) (hl : l.length < 2 ^ 60) (h : Heap) : AWF P ann 0 17 [v] h fun r h' => r = errN (Srt l) ∧ h' = h := by
  refine AWF.fnc H.f0_17 rfl ?_
  have e1 := @prs_len l
  (refine W_seq_gen fun N hN => ?_); simp (disch := first | omega | (simp only [List.length_cons, List.length_nil, List.length_append, u8s_len]; omega)) only [go_sem, ↓reduceIte, true_and, Nat.reduceLeDiff, Nat.reduceEqDiff, Nat.reduceAdd, Nat.reduceBEq, Int.reduceEq, H.cv_3_57, H.cv_5_3, H.cv_57_3]
  refine hN _ ?_; clear hN N
  (refine W_seq_gen fun M hM => ?_)
  (refine W_seq_gen fun N hN => ?_); simp (disch := first | omega | (simp only [List.length_cons, List.length_nil, List.length_append, u8s_len]; omega)) only [go_sem, ↓reduceIte, true_and, Nat.reduceLeDiff, Nat.reduceEqDiff, Nat.reduceAdd, Nat.reduceBEq, Int.reduceEq, H.cv_3_57, H.cv_5_3, H.cv_57_3, hv.same, hv.sl.len, e1]
  refine hN _ ?_; clear hN N
  simp (disch := first | omega | (simp only [List.length_cons, List.length_nil, List.length_append, u8s_len]; omega)) only [go_sem, ↓reduceIte, true_and, Nat.reduceLeDiff, Nat.reduceEqDiff, Nat.reduceAdd, Nat.reduceBEq, Int.reduceEq, H.cv_3_57, H.cv_5_3, H.cv_57_3]
  refine AW_loopN (fun n t h' => h' = h ∧ ∃ i, n = l.length - i ∧ i ≤ l.length ∧ t 0 = v ∧ t 6 = .sc (.int .i64 (i : Nat)) ∧ t 5 = .sc (.int .i64 (l.length : Nat)) ∧ ∀ (j : Nat) (hj : j + 1 < i) (hi : i ≤ l.length), sl (l[j]'(by omega)).1 (l[j + 1]'(by omega)).1 = true)
    (n := l.length) ⟨rfl, 0, rfl, Nat.zero_le _, rfl, rfl, rfl, fun j hj => by omega⟩ ?_
  rintro n t h' ⟨rfl, i, rfl, hi, t0, t6, t5, hs⟩
  rcases Nat.lt_or_ge i l.length with hlt | hge
  · have g0 := prs_get hlt
    (refine W_seq_gen fun N hN => ?_); simp (disch := first | omega | (simp only [List.length_cons, List.length_nil, List.length_append, u8s_len]; omega)) only [go_sem, ↓reduceIte, true_and, Nat.reduceLeDiff, Nat.reduceEqDiff, Nat.reduceAdd, Nat.reduceBEq, Int.reduceEq, H.cv_3_57, H.cv_5_3, H.cv_57_3, t6, t5, hlt]
    refine hN _ ?_; clear hN N
    (refine W_seq_gen fun N hN => ?_); simp (disch := first | omega | (simp only [List.length_cons, List.length_nil, List.length_append, u8s_len]; omega)) only [go_sem, ↓reduceIte, true_and, Nat.reduceLeDiff, Nat.reduceEqDiff, Nat.reduceAdd, Nat.reduceBEq, Int.reduceEq, H.cv_3_57, H.cv_5_3, H.cv_57_3]
    refine hN _ ?_; clear hN N
    (refine W_seq_gen fun N hN => ?_)
    rw [W_block]
    (refine W_seq_gen fun N hN => ?_); simp (disch := first | omega | (simp only [List.length_cons, List.length_nil, List.length_append, u8s_len]; omega)) only [go_sem, ↓reduceIte, true_and, Nat.reduceLeDiff, Nat.reduceEqDiff, Nat.reduceAdd, Nat.reduceBEq, Int.reduceEq, H.cv_3_57, H.cv_5_3, H.cv_57_3, t6]
    refine hN _ ?_; clear hN N
    by_cases hp : 0 < i
    · have g1 := prs_get (l := l) (i := i - 1) (by omega)
      have e2 : ((i : Nat) : Int) - ((1 : Nat) : Int) = ((i - 1 : Nat) : Int) := by omega
      by_cases hss : sl (l[i - 1]'(by omega)).1 (l[i]).1 = true
      · have h1 := sl_asym hss
        have h2 : ¬ (l[i]).1 = (l[i - 1]'(by omega)).1 := fun e => by rw [e, sl_irr] at hss; cases hss
        (refine W_seq_gen fun N hN => ?_); simp (disch := first | omega | (simp only [List.length_cons, List.length_nil, List.length_append, u8s_len]; omega)) only [go_sem, ↓reduceIte, true_and, Nat.reduceLeDiff, Nat.reduceEqDiff, Nat.reduceAdd, Nat.reduceBEq, Int.reduceEq, H.cv_3_57, H.cv_5_3, H.cv_57_3, t0, hp, hv.same, hv.sl.ia, g0, g1, e2, h1, h2]
        refine hN _ ?_; clear hN N
        simp (disch := first | omega | (simp only [List.length_cons, List.length_nil, List.length_append, u8s_len]; omega)) only [go_sem, ↓reduceIte, true_and, Nat.reduceLeDiff, Nat.reduceEqDiff, Nat.reduceAdd, Nat.reduceBEq, Int.reduceEq, H.cv_3_57, H.cv_5_3, H.cv_57_3]
        refine hN _ ?_; clear hN N
        simp (disch := first | omega | (simp only [List.length_cons, List.length_nil, List.length_append, u8s_len]; omega)) only [go_sem, ↓reduceIte, true_and, Nat.reduceLeDiff, Nat.reduceEqDiff, Nat.reduceAdd, Nat.reduceBEq, Int.reduceEq, H.cv_3_57, H.cv_5_3, H.cv_57_3, t6, nat_add]
        exact ⟨l.length - (i + 1), by omega, i + 1, rfl, by omega, t0, rfl, t5, fun j hj hi => by
          rcases Nat.lt_or_ge (j + 1) i with h | h
          · exact hs j h (by omega)
          · obtain rfl : j = i - 1 := by omega
            have : i - 1 + 1 = i := by omega
            simpa [this] using hss⟩
      · have h3 : (sl (l[i]).1 (l[i - 1]'(by omega)).1 || decide ((l[i]).1 = (l[i - 1]'(by omega)).1)) = true := by
          cases h : sl (l[i]).1 (l[i - 1]'(by omega)).1 with
          | true => rfl
          | false => simp; exact sl_tri h (by simpa using hss)
        have h4 : Srt l = false := by
          cases h : Srt l with
          | false => rfl
          | true => exact absurd (by have := (srt_iff l).1 h (i - 1) (by omega); have e : i - 1 + 1 = i := by omega
                                     simpa [e] using this) hss
        (refine W_seq_gen fun N hN => ?_); simp (disch := first | omega | (simp only [List.length_cons, List.length_nil, List.length_append, u8s_len]; omega)) only [go_sem, ↓reduceIte, true_and, Nat.reduceLeDiff, Nat.reduceEqDiff, Nat.reduceAdd, Nat.reduceBEq, Int.reduceEq, H.cv_3_57, H.cv_5_3, H.cv_57_3, t0, hp, hv.same, hv.sl.ia, g0, g1, e2, h3]
        refine hN _ ?_; clear hN N
        simp (disch := first | omega | (simp only [List.length_cons, List.length_nil, List.length_append, u8s_len]; omega)) only [go_sem, ↓reduceIte, true_and, Nat.reduceLeDiff, Nat.reduceEqDiff, Nat.reduceAdd, Nat.reduceBEq, Int.reduceEq, H.cv_3_57, H.cv_5_3, H.cv_57_3]
        rw [h4]; rfl
    · obtain rfl : i = 0 := by omega
      (refine W_seq_gen fun N hN => ?_); simp (disch := first | omega | (simp only [List.length_cons, List.length_nil, List.length_append, u8s_len]; omega)) only [go_sem, ↓reduceIte, true_and, Nat.reduceLeDiff, Nat.reduceEqDiff, Nat.reduceAdd, Nat.reduceBEq, Int.reduceEq, H.cv_3_57, H.cv_5_3, H.cv_57_3, t0, hp, hv.same]
      refine hN _ ?_; clear hN N
      simp (disch := first | omega | (simp only [List.length_cons, List.length_nil, List.length_append, u8s_len]; omega)) only [go_sem, ↓reduceIte, true_and, Nat.reduceLeDiff, Nat.reduceEqDiff, Nat.reduceAdd, Nat.reduceBEq, Int.reduceEq, H.cv_3_57, H.cv_5_3, H.cv_57_3]
      refine hN _ ?_; clear hN N
      simp (disch := first | omega | (simp only [List.length_cons, List.length_nil, List.length_append, u8s_len]; omega)) only [go_sem, ↓reduceIte, true_and, Nat.reduceLeDiff, Nat.reduceEqDiff, Nat.reduceAdd, Nat.reduceBEq, Int.reduceEq, H.cv_3_57, H.cv_5_3, H.cv_57_3, t6, nat_add]
      exact ⟨l.length - (0 + 1), by omega, 0 + 1, rfl, by omega, t0, rfl, t5, fun j hj => by omega⟩
  · obtain rfl : i = l.length := by omega
    have h4 : Srt l = true := (srt_iff l).2 fun j hj => hs j hj (Nat.le_refl _)
    (refine W_seq_gen fun N hN => ?_); simp (disch := first | omega | (simp only [List.length_cons, List.length_nil, List.length_append, u8s_len]; omega)) only [go_sem, ↓reduceIte, true_and, Nat.reduceLeDiff, Nat.reduceEqDiff, Nat.reduceAdd, Nat.reduceBEq, Int.reduceEq, H.cv_3_57, H.cv_5_3, H.cv_57_3, t6, t5, Nat.lt_irrefl]
    refine hN _ ?_; clear hN N
    (refine W_seq_gen fun N hN => ?_); simp (disch := first | omega | (simp only [List.length_cons, List.length_nil, List.length_append, u8s_len]; omega)) only [go_sem, ↓reduceIte, true_and, Nat.reduceLeDiff, Nat.reduceEqDiff, Nat.reduceAdd, Nat.reduceBEq, Int.reduceEq, H.cv_3_57, H.cv_5_3, H.cv_57_3]
    refine hM _ ?_; clear hN N hM M
    simp (disch := first | omega | (simp only [List.length_cons, List.length_nil, List.length_append, u8s_len]; omega)) only [go_sem, ↓reduceIte, true_and, Nat.reduceLeDiff, Nat.reduceEqDiff, Nat.reduceAdd, Nat.reduceBEq, Int.reduceEq, H.cv_3_57, H.cv_5_3, H.cv_57_3]
    rw [h4]; rfl

theorem may_ok {v : AV} {l : List Pr} (hv : SF 2 v (prs l)) (hl : l.length < 2 ^ 60) (h : Heap) : AWF P ann 0 9 [v] h fun r h' => r = .sc (.bool (Srt l)) ∧ h' = h := by
  refine AWF.fnc H.f0_9 rfl ?_
  have e1 := @prs_len l
  (refine W_seq_gen fun N hN => ?_); simp (disch := first | omega | (simp only [List.length_cons, List.length_nil, List.length_append, u8s_len]; omega)) only [go_sem, ↓reduceIte, true_and, Nat.reduceLeDiff, Nat.reduceEqDiff, Nat.reduceAdd, Nat.reduceBEq, Int.reduceEq, H.cv_3_57, H.cv_5_3, H.cv_57_3]
  refine hN _ ?_; clear hN N
  (refine W_seq_gen fun M hM => ?_)
  (refine W_seq_gen fun N hN => ?_); simp (disch := first | omega | (simp only [List.length_cons, List.length_nil, List.length_append, u8s_len]; omega)) only [go_sem, ↓reduceIte, true_and, Nat.reduceLeDiff, Nat.reduceEqDiff, Nat.reduceAdd, Nat.reduceBEq, Int.reduceEq, H.cv_3_57, H.cv_5_3, H.cv_57_3]
  refine hN _ ?_; clear hN N
  simp (disch := first | omega | (simp only [List.length_cons, List.length_nil, List.length_append, u8s_len]; omega)) only [go_sem, ↓reduceIte, true_and, Nat.reduceLeDiff, Nat.reduceEqDiff, Nat.reduceAdd, Nat.reduceBEq, Int.reduceEq, H.cv_3_57, H.cv_5_3, H.cv_57_3]
  refine AW_loopN (fun n t h' => h' = h ∧ ∃ i, n = l.length + 1 - i ∧ 1 ≤ i ∧ i ≤ l.length + 1 ∧ t 0 = v ∧ t 3 = .sc (.int .i64 (i : Nat)) ∧ ∀ (j : Nat) (hj : j + 1 < i) (hi : j + 1 < l.length), sl (l[j]'(by omega)).1 (l[j + 1]'(by omega)).1 = true)
    (n := l.length) ⟨rfl, 1, by omega, by omega, by omega, rfl, rfl, fun j hj => by omega⟩ ?_
  rintro n t h' ⟨rfl, i, rfl, hi1, hi, t0, t3, hs⟩
  by_cases hlt : i < l.length
  · have g0 := prs_get hlt
    have g1 := prs_get (l := l) (i := i - 1) (by omega)
    have e2 : ((i : Nat) : Int) - ((1 : Nat) : Int) = ((i - 1 : Nat) : Int) := by omega
    (refine W_seq_gen fun N hN => ?_); simp (disch := first | omega | (simp only [List.length_cons, List.length_nil, List.length_append, u8s_len]; omega)) only [go_sem, ↓reduceIte, true_and, Nat.reduceLeDiff, Nat.reduceEqDiff, Nat.reduceAdd, Nat.reduceBEq, Int.reduceEq, H.cv_3_57, H.cv_5_3, H.cv_57_3, t0, t3, hv.same, hv.sl.len, e1, hlt]
    refine hN _ ?_; clear hN N
    (refine W_seq_gen fun N hN => ?_)
    rw [W_block]
    by_cases hss : sl (l[i - 1]'(by omega)).1 (l[i]).1 = true
    · (refine W_seq_gen fun N hN => ?_); simp (disch := first | omega | (simp only [List.length_cons, List.length_nil, List.length_append, u8s_len]; omega)) only [go_sem, ↓reduceIte, true_and, Nat.reduceLeDiff, Nat.reduceEqDiff, Nat.reduceAdd, Nat.reduceBEq, Int.reduceEq, H.cv_3_57, H.cv_5_3, H.cv_57_3, t0, t3, hv.same, hv.sl.ia, g0, g1, e2, hss]
      refine hN _ ?_; clear hN N
      simp (disch := first | omega | (simp only [List.length_cons, List.length_nil, List.length_append, u8s_len]; omega)) only [go_sem, ↓reduceIte, true_and, Nat.reduceLeDiff, Nat.reduceEqDiff, Nat.reduceAdd, Nat.reduceBEq, Int.reduceEq, H.cv_3_57, H.cv_5_3, H.cv_57_3]
      refine hN _ ?_; clear hN N
      simp (disch := first | omega | (simp only [List.length_cons, List.length_nil, List.length_append, u8s_len]; omega)) only [go_sem, ↓reduceIte, true_and, Nat.reduceLeDiff, Nat.reduceEqDiff, Nat.reduceAdd, Nat.reduceBEq, Int.reduceEq, H.cv_3_57, H.cv_5_3, H.cv_57_3, t3, nat_add]
      exact ⟨l.length + 1 - (i + 1), by omega, i + 1, rfl, by omega, by omega, t0, rfl, fun j hj hi => by
          rcases Nat.lt_or_ge (j + 1) i with h | h
          · exact hs j h (by omega)
          · obtain rfl : j = i - 1 := by omega
            have : i - 1 + 1 = i := by omega
            simpa [this] using hss⟩
    · have h4 : Srt l = false := by
        cases h : Srt l with
        | false => rfl
        | true => exact absurd (by have := (srt_iff l).1 h (i - 1) (by omega); have e : i - 1 + 1 = i := by omega
                                   simpa [e] using this) hss
      have hss : sl (l[i - 1]'(by omega)).1 (l[i]).1 = false := by simpa using hss
      (refine W_seq_gen fun N hN => ?_); simp (disch := first | omega | (simp only [List.length_cons, List.length_nil, List.length_append, u8s_len]; omega)) only [go_sem, ↓reduceIte, true_and, Nat.reduceLeDiff, Nat.reduceEqDiff, Nat.reduceAdd, Nat.reduceBEq, Int.reduceEq, H.cv_3_57, H.cv_5_3, H.cv_57_3, t0, t3, hv.same, hv.sl.ia, g0, g1, e2, hss]
      refine hN _ ?_; clear hN N
      simp (disch := first | omega | (simp only [List.length_cons, List.length_nil, List.length_append, u8s_len]; omega)) only [go_sem, ↓reduceIte, true_and, Nat.reduceLeDiff, Nat.reduceEqDiff, Nat.reduceAdd, Nat.reduceBEq, Int.reduceEq, H.cv_3_57, H.cv_5_3, H.cv_57_3]
      rw [h4]
  · have h4 : Srt l = true := (srt_iff l).2 fun j hj => hs j (by omega) hj
    (refine W_seq_gen fun N hN => ?_); simp (disch := first | omega | (simp only [List.length_cons, List.length_nil, List.length_append, u8s_len]; omega)) only [go_sem, ↓reduceIte, true_and, Nat.reduceLeDiff, Nat.reduceEqDiff, Nat.reduceAdd, Nat.reduceBEq, Int.reduceEq, H.cv_3_57, H.cv_5_3, H.cv_57_3, t0, t3, hv.same, hv.sl.len, e1, hlt]
    refine hM _ ?_; clear hN N hM M
    simp (disch := first | omega | (simp only [List.length_cons, List.length_nil, List.length_append, u8s_len]; omega)) only [go_sem, ↓reduceIte, true_and, Nat.reduceLeDiff, Nat.reduceEqDiff, Nat.reduceAdd, Nat.reduceBEq, Int.reduceEq, H.cv_3_57, H.cv_5_3, H.cv_57_3]
    rw [h4]

def mergeE (l m : List Pr) : Bool := Srt l && Srt m
theorem merge_bad {v w : AV} {l m : List Pr} (hv : SL 2 v (prs l)) (hw : SL 2 w (prs m)) (hl : l.length < 2 ^ 40) (hm : m.length < 2 ^ 40) (hs : (Srt l && Srt m) = false) (h : Heap) : AWF P ann 0 8 [v, w] h fun r h' => r = .tu [.sc (.slice none 0 0), errN false] ∧ h' = h := by
  refine AWF.fnc H.f0_8 rfl ?_
  (refine W_seq_gen fun N hN => ?_); simp (disch := first | omega | (simp only [List.length_cons, List.length_nil, List.length_append, u8s_len]; omega)) only [go_sem, ↓reduceIte, true_and, Nat.reduceLeDiff, Nat.reduceEqDiff, Nat.reduceAdd, Nat.reduceBEq, Int.reduceEq, H.cv_3_57, H.cv_5_3, H.cv_57_3]
  refine hN _ ?_; clear hN N
  (refine W_seq_gen fun N hN => ?_); simp (disch := first | omega | (simp only [List.length_cons, List.length_nil, List.length_append, u8s_len]; omega)) only [go_sem, ↓reduceIte, true_and, Nat.reduceLeDiff, Nat.reduceEqDiff, Nat.reduceAdd, Nat.reduceBEq, Int.reduceEq, H.cv_3_57, H.cv_5_3, H.cv_57_3]
  refine (check_ok H hv.df (by omega) _).mono ?_
  rintro _ _ ⟨rfl, hh⟩; subst hh
  cases h1 : Srt l with
  | false =>
    rw [contK_some]; simp (disch := first | omega | (simp only [List.length_cons, List.length_nil, List.length_append, u8s_len]; omega)) only [go_sem, ↓reduceIte, true_and, Nat.reduceLeDiff, Nat.reduceEqDiff, Nat.reduceAdd, Nat.reduceBEq, Int.reduceEq, H.cv_3_57, H.cv_5_3, H.cv_57_3, errN]
  | true =>
    rw [h1] at hs
    have h2 : Srt m = false := by simpa using hs
    rw [contK_some]; simp (disch := first | omega | (simp only [List.length_cons, List.length_nil, List.length_append, u8s_len]; omega)) only [go_sem, ↓reduceIte, true_and, Nat.reduceLeDiff, Nat.reduceEqDiff, Nat.reduceAdd, Nat.reduceBEq, Int.reduceEq, H.cv_3_57, H.cv_5_3, H.cv_57_3, errN]
    refine (check_ok H hw.df (by omega) _).mono ?_
    rintro _ _ ⟨rfl, hh⟩; subst hh
    rw [h2]
    rw [contK_some]; simp (disch := first | omega | (simp only [List.length_cons, List.length_nil, List.length_append, u8s_len]; omega)) only [go_sem, ↓reduceIte, true_and, Nat.reduceLeDiff, Nat.reduceEqDiff, Nat.reduceAdd, Nat.reduceBEq, Int.reduceEq, H.cv_3_57, H.cv_5_3, H.cv_57_3, errN]

theorem merge_det {v w : AV} {l m : List Pr} (hv : SL 2 v (prs l)) (hw : SL 2 w (prs m)) (hl : l.length < 2 ^ 38) (hm : m.length < 2 ^ 38) (h1 : Srt l = true) (h2 : Srt m = true) (h : Heap) :
    AWF P ann 0 8 [v, w] h fun r h' => r = .tu [(growN 2 (prs (mergeS l m))).dis, errN true] ∧ h' = h := by
  refine AWF.fnc H.f0_8 rfl ?_
  (refine W_seq_gen fun N hN => ?_); simp (disch := first | omega | (simp only [List.length_cons, List.length_nil, List.length_append, u8s_len]; omega)) only [go_sem, ↓reduceIte, true_and, Nat.reduceLeDiff, Nat.reduceEqDiff, Nat.reduceAdd, Nat.reduceBEq, Int.reduceEq, H.cv_3_57, H.cv_5_3, H.cv_57_3]
  refine hN _ ?_; clear hN N
  (refine W_seq_gen fun N hN => ?_); simp (disch := first | omega | (simp only [List.length_cons, List.length_nil, List.length_append, u8s_len]; omega)) only [go_sem, ↓reduceIte, true_and, Nat.reduceLeDiff, Nat.reduceEqDiff, Nat.reduceAdd, Nat.reduceBEq, Int.reduceEq, H.cv_3_57, H.cv_5_3, H.cv_57_3]
  refine (check_ok H hv.df (by omega) _).mono ?_
  rintro _ _ ⟨rfl, hh⟩; subst hh
  rw [h1]
  rw [contK_some]; simp (disch := first | omega | (simp only [List.length_cons, List.length_nil, List.length_append, u8s_len]; omega)) only [go_sem, ↓reduceIte, true_and, Nat.reduceLeDiff, Nat.reduceEqDiff, Nat.reduceAdd, Nat.reduceBEq, Int.reduceEq, H.cv_3_57, H.cv_5_3, H.cv_57_3, errN]
  refine (check_ok H hw.df (by omega) _).mono ?_
  rintro _ _ ⟨rfl, hh⟩; subst hh
  rw [h2]
  rw [contK_some]; simp (disch := first | omega | (simp only [List.length_cons, List.length_nil, List.length_append, u8s_len]; omega)) only [go_sem, ↓reduceIte, true_and, Nat.reduceLeDiff, Nat.reduceEqDiff, Nat.reduceAdd, Nat.reduceBEq, Int.reduceEq, H.cv_3_57, H.cv_5_3, H.cv_57_3, errN]
  refine hN _ ?_; clear hN N
  (refine W_seq_gen fun N hN => ?_); simp (disch := first | omega | (simp only [List.length_cons, List.length_nil, List.length_append, u8s_len]; omega)) only [go_sem, ↓reduceIte, true_and, Nat.reduceLeDiff, Nat.reduceEqDiff, Nat.reduceAdd, Nat.reduceBEq, Int.reduceEq, H.cv_3_57, H.cv_5_3, H.cv_57_3]
  refine hN _ ?_; clear hN N
  (refine W_seq_gen fun M hM => ?_)
  simp (disch := first | omega | (simp only [List.length_cons, List.length_nil, List.length_append, u8s_len]; omega)) only [go_sem, ↓reduceIte, true_and, Nat.reduceLeDiff, Nat.reduceEqDiff, Nat.reduceAdd, Nat.reduceBEq, Int.reduceEq, H.cv_3_57, H.cv_5_3, H.cv_57_3]
  rename_i h
  refine AW_loopN (fun n t h' => h' = h ∧ ∃ A B O x y z, n = A.length + B.length ∧ t 0 = x ∧ t 1 = y ∧ t 6 = z ∧ SL 2 x (prs A) ∧ SL 2 y (prs B) ∧ z = growN 2 (prs O) ∧ O ++ mergeS A B = mergeS l m ∧ O.length + A.length + B.length ≤ l.length + m.length)
    (n := l.length + m.length) ⟨rfl, l, m, [], v, w, _, rfl, rfl, rfl, rfl, hv, hw, rfl, rfl, by simp⟩ ?_
  rintro n t h' ⟨rfl, A, B, O, x, y, z, rfl, t0, t1, t6, hx, hy, hzq, he, hle⟩
  have hz : SG 2 z (prs O) := by rw [hzq]; exact growN_ok 2 _
  have eA := @prs_len A
  have eB := @prs_len B
  have eO := @prs_len O
  have push : ∀ p : Pr, catV 2 [[.sc (.string p.1), .sc (.string p.2)]] z = growN 2 (prs (O ++ [p])) := fun p => by rw [prs_snoc, growN_snoc, hzq]
  by_cases hpos : 0 < A.length + B.length
  · (refine W_seq_gen fun N hN => ?_); simp (disch := first | omega | (simp only [List.length_cons, List.length_nil, List.length_append, u8s_len]; omega)) only [go_sem, ↓reduceIte, true_and, Nat.reduceLeDiff, Nat.reduceEqDiff, Nat.reduceAdd, Nat.reduceBEq, Int.reduceEq, H.cv_3_57, H.cv_5_3, H.cv_57_3, t0, t1, hx.dis.len, hy.dis.len, eA, eB, nat_add, hpos]
    refine hN _ ?_; clear hN N
    (refine W_seq_gen fun N hN => ?_)
    have dx : 0 < A.length → SF 2 (cutV 2 1 A.length x.dis) (prs A.tail) := fun _ => by
      have := hx.dis.drop 1
      rw [prs_drop, List.drop_one, eA] at this
      exact this
    have dy : 0 < B.length → SF 2 (cutV 2 1 B.length y.dis) (prs B.tail) := fun _ => by
      have := hy.dis.drop 1
      rw [prs_drop, List.drop_one, eB] at this
      exact this
    have sx : ∀ (t : Nat → AV) (h : Heap), 0 < A.length → aexSlc 2 t h (some (.sc (.int .i64 (1 : Nat)))) none none x.dis = some (.val (cutV 2 1 A.length x.dis) t h) := fun t h ha => by
      have := hx.dis.slc_l (l := 1) (k := .i64) (t := t) (h := h) (by omega)
      rwa [eA] at this
    have sy : ∀ (t : Nat → AV) (h : Heap), 0 < B.length → aexSlc 2 t h (some (.sc (.int .i64 (1 : Nat)))) none none y.dis = some (.val (cutV 2 1 B.length y.dis) t h) := fun t h hb => by
      have := hy.dis.slc_l (l := 1) (k := .i64) (t := t) (h := h) (by omega)
      rwa [eB] at this
    have ap : ∀ (t : Nat → AV) (h : Heap) (p : Pr), aexApp false 2 32 t h [[.sc (.string p.1), .sc (.string p.2)]] z = some (.val (catV 2 [[.sc (.string p.1), .sc (.string p.2)]] z) t h) := fun t h p =>
      hz.app (by rw [eO]; simp; omega)
    rcases Nat.eq_zero_or_pos B.length with hb | hb
    · have hB : B = [] := List.eq_nil_of_length_eq_zero hb
      have ha : 0 < A.length := by omega
      have g0 := prs_get ha
      have hA : A = A[0] :: A.tail := by cases A with | nil => simp at ha | cons p A' => rfl
      simp (disch := first | omega | (simp only [List.length_cons, List.length_nil, List.length_append, u8s_len]; omega)) only [go_sem, ↓reduceIte, true_and, Nat.reduceLeDiff, Nat.reduceEqDiff, Nat.reduceAdd, Nat.reduceBEq, Int.reduceEq, H.cv_3_57, H.cv_5_3, H.cv_57_3, t0, t1, t6, hx.dis.len, hy.dis.len, eA, eB, hb]
      refine hN _ ?_; clear hN N
      simp (disch := first | omega | (simp only [List.length_cons, List.length_nil, List.length_append, u8s_len]; omega)) only [go_sem, ↓reduceIte, true_and, Nat.reduceLeDiff, Nat.reduceEqDiff, Nat.reduceAdd, Nat.reduceBEq, Int.reduceEq, H.cv_3_57, H.cv_5_3, H.cv_57_3, t0, t1, t6, hx.dis.ia, g0, sx, ap, ha]
      have hAt : A.tail.length = A.length - 1 := by simp
      refine ⟨A.tail.length + B.length, by omega, A.tail, B, O ++ [A[0]], _, _, _, rfl, rfl, rfl, rfl, (dx ha).sl, hy, push _, ?_, by simp; omega⟩
      rw [← he, hB, mergeS_nil, mergeS_nil, List.append_assoc, List.singleton_append, ← hA]
    · have g1 := prs_get hb
      have hB : B = B[0] :: B.tail := by cases B with | nil => simp at hb | cons p A' => rfl
      have hb2 : ¬ B.length = 0 := by omega
      have hBt : B.tail.length = B.length - 1 := by simp
      rcases Nat.eq_zero_or_pos A.length with ha | ha
      · have hA : A = [] := List.eq_nil_of_length_eq_zero ha
        simp (disch := first | omega | (simp only [List.length_cons, List.length_nil, List.length_append, u8s_len]; omega)) only [go_sem, ↓reduceIte, true_and, Nat.reduceLeDiff, Nat.reduceEqDiff, Nat.reduceAdd, Nat.reduceBEq, Int.reduceEq, H.cv_3_57, H.cv_5_3, H.cv_57_3, t0, t1, t6, hx.dis.len, hy.dis.len, eA, eB, hb2, ha, Nat.lt_irrefl]
        refine hN _ ?_; clear hN N
        refine ⟨false, rfl, fun h => Bool.noConfusion h, fun _ => ?_⟩
        (refine W_seq_gen fun N hN => ?_); simp (disch := first | omega | (simp only [List.length_cons, List.length_nil, List.length_append, u8s_len]; omega)) only [go_sem, ↓reduceIte, true_and, Nat.reduceLeDiff, Nat.reduceEqDiff, Nat.reduceAdd, Nat.reduceBEq, Int.reduceEq, H.cv_3_57, H.cv_5_3, H.cv_57_3, t0, t1, t6, hx.dis.len, hy.dis.len, eA, eB, hb2, ha, Nat.lt_irrefl]
        refine hN _ ?_; clear hN N
        simp (disch := first | omega | (simp only [List.length_cons, List.length_nil, List.length_append, u8s_len]; omega)) only [go_sem, ↓reduceIte, true_and, Nat.reduceLeDiff, Nat.reduceEqDiff, Nat.reduceAdd, Nat.reduceBEq, Int.reduceEq, H.cv_3_57, H.cv_5_3, H.cv_57_3, t0, t1, t6, hy.dis.ia, g1, sy, ap, hb]
        refine ⟨A.length + B.tail.length, by omega, A, B.tail, O ++ [B[0]], _, _, _, rfl, rfl, rfl, rfl, hx, (dy hb).sl, push _, ?_, by simp; omega⟩
        rw [← he, hA, mergeS_nil', mergeS_nil', List.append_assoc, List.singleton_append, ← hB]
      · have g0 := prs_get ha
        have hA : A = A[0] :: A.tail := by cases A with | nil => simp at ha | cons p A' => rfl
        have hAt : A.tail.length = A.length - 1 := by simp
        have hm2 : mergeS A B = if sl A[0].1 B[0].1 then A[0] :: mergeS A.tail B else if A[0].1 = B[0].1 then B[0] :: mergeS A.tail B.tail else B[0] :: mergeS A B.tail := by
          conv => lhs; rw [hA, hB]
          rw [mergeS, ← hA, ← hB]
        by_cases hlt : sl A[0].1 B[0].1 = true
        · rw [if_pos hlt] at hm2
          simp (disch := first | omega | (simp only [List.length_cons, List.length_nil, List.length_append, u8s_len]; omega)) only [go_sem, ↓reduceIte, true_and, Nat.reduceLeDiff, Nat.reduceEqDiff, Nat.reduceAdd, Nat.reduceBEq, Int.reduceEq, H.cv_3_57, H.cv_5_3, H.cv_57_3, t0, t1, t6, hx.dis.len, hy.dis.len, hx.dis.ia, hy.dis.ia, g0, g1, eA, eB, hb2, ha, hlt]
          refine hN _ ?_; clear hN N
          simp (disch := first | omega | (simp only [List.length_cons, List.length_nil, List.length_append, u8s_len]; omega)) only [go_sem, ↓reduceIte, true_and, Nat.reduceLeDiff, Nat.reduceEqDiff, Nat.reduceAdd, Nat.reduceBEq, Int.reduceEq, H.cv_3_57, H.cv_5_3, H.cv_57_3, t0, t1, t6, hx.dis.ia, g0, sx, ap, ha]
          refine ⟨A.tail.length + B.length, by omega, A.tail, B, O ++ [A[0]], _, _, _, rfl, rfl, rfl, rfl, (dx ha).sl, hy, push _, ?_, by simp; omega⟩
          rw [← he, hm2, List.append_assoc, List.singleton_append]
        · rw [if_neg hlt] at hm2
          have hlt : sl A[0].1 B[0].1 = false := by simpa using hlt
          simp (disch := first | omega | (simp only [List.length_cons, List.length_nil, List.length_append, u8s_len]; omega)) only [go_sem, ↓reduceIte, true_and, Nat.reduceLeDiff, Nat.reduceEqDiff, Nat.reduceAdd, Nat.reduceBEq, Int.reduceEq, H.cv_3_57, H.cv_5_3, H.cv_57_3, t0, t1, t6, hx.dis.len, hy.dis.len, hx.dis.ia, hy.dis.ia, g0, g1, eA, eB, hb2, ha, hlt]
          refine hN _ ?_; clear hN N
          refine ⟨false, rfl, fun h => Bool.noConfusion h, fun _ => ?_⟩
          by_cases heq : A[0].1 = B[0].1
          · rw [if_pos heq] at hm2
            (refine W_seq_gen fun N hN => ?_); simp (disch := first | omega | (simp only [List.length_cons, List.length_nil, List.length_append, u8s_len]; omega)) only [go_sem, ↓reduceIte, true_and, Nat.reduceLeDiff, Nat.reduceEqDiff, Nat.reduceAdd, Nat.reduceBEq, Int.reduceEq, H.cv_3_57, H.cv_5_3, H.cv_57_3, t0, t1, t6, hx.dis.len, hy.dis.len, hx.dis.ia, hy.dis.ia, g0, g1, eA, eB, hb2, ha, heq, sx]
            refine hN _ ?_; clear hN N
            simp (disch := first | omega | (simp only [List.length_cons, List.length_nil, List.length_append, u8s_len]; omega)) only [go_sem, ↓reduceIte, true_and, Nat.reduceLeDiff, Nat.reduceEqDiff, Nat.reduceAdd, Nat.reduceBEq, Int.reduceEq, H.cv_3_57, H.cv_5_3, H.cv_57_3, t0, t1, t6, hy.dis.ia, g1, sy, ap, hb]
            refine ⟨A.tail.length + B.tail.length, by omega, A.tail, B.tail, O ++ [B[0]], _, _, _, rfl, rfl, rfl, rfl, (dx ha).sl, (dy hb).sl, push _, ?_, by simp; omega⟩
            rw [← he, hm2, List.append_assoc, List.singleton_append]
          · rw [if_neg heq] at hm2
            (refine W_seq_gen fun N hN => ?_); simp (disch := first | omega | (simp only [List.length_cons, List.length_nil, List.length_append, u8s_len]; omega)) only [go_sem, ↓reduceIte, true_and, Nat.reduceLeDiff, Nat.reduceEqDiff, Nat.reduceAdd, Nat.reduceBEq, Int.reduceEq, H.cv_3_57, H.cv_5_3, H.cv_57_3, t0, t1, t6, hx.dis.len, hy.dis.len, hx.dis.ia, hy.dis.ia, g0, g1, eA, eB, hb2, ha, heq]
            refine hN _ ?_; clear hN N
            simp (disch := first | omega | (simp only [List.length_cons, List.length_nil, List.length_append, u8s_len]; omega)) only [go_sem, ↓reduceIte, true_and, Nat.reduceLeDiff, Nat.reduceEqDiff, Nat.reduceAdd, Nat.reduceBEq, Int.reduceEq, H.cv_3_57, H.cv_5_3, H.cv_57_3, t0, t1, t6, hy.dis.ia, g1, sy, ap, hb]
            refine ⟨A.length + B.tail.length, by omega, A, B.tail, O ++ [B[0]], _, _, _, rfl, rfl, rfl, rfl, hx, (dy hb).sl, push _, ?_, by simp; omega⟩
            rw [← he, hm2, List.append_assoc, List.singleton_append]
  · have hA : A = [] := List.eq_nil_of_length_eq_zero (by omega)
    have hB : B = [] := List.eq_nil_of_length_eq_zero (by omega)
    (refine W_seq_gen fun N hN => ?_); simp (disch := first | omega | (simp only [List.length_cons, List.length_nil, List.length_append, u8s_len]; omega)) only [go_sem, ↓reduceIte, true_and, Nat.reduceLeDiff, Nat.reduceEqDiff, Nat.reduceAdd, Nat.reduceBEq, Int.reduceEq, H.cv_3_57, H.cv_5_3, H.cv_57_3, t0, t1, hx.dis.len, hy.dis.len, eA, eB, nat_add, hpos]
    refine hM _ ?_; clear hN N hM M
    simp (disch := first | omega | (simp only [List.length_cons, List.length_nil, List.length_append, u8s_len]; omega)) only [go_sem, ↓reduceIte, true_and, Nat.reduceLeDiff, Nat.reduceEqDiff, Nat.reduceAdd, Nat.reduceBEq, Int.reduceEq, H.cv_3_57, H.cv_5_3, H.cv_57_3, t6]
    have e : mergeS l m = O := by rw [← he, hA, hB, mergeS_nil]; simp
    rw [e, hzq]
    rfl
omit H in
theorem growN_sf (es : List (List AV)) : SF 2 (growN 2 es).dis es := (growN_ok 2 es).sl.df
theorem merge_ok {v w : AV} {l m : List Pr} (hv : SL 2 v (prs l)) (hw : SL 2 w (prs m)) (hl : l.length < 2 ^ 38) (hm : m.length < 2 ^ 38) (h1 : Srt l = true) (h2 : Srt m = true) (h : Heap) :
    AWF P ann 0 8 [v, w] h fun r h' => (∃ x, r = .tu [x, errN true] ∧ SF 2 x (prs (mergeS l m))) ∧ h' = h :=
  (merge_det H hv hw hl hm h1 h2 h).mono fun r h' ⟨q1, q2⟩ => ⟨⟨_, q1, growN_sf _⟩, q2⟩
end Go.Proofs.Ytmdkgaljnoookaa
