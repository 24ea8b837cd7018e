/- Which are alike; what the document says; the law of which masters there may be. -/
import Derived.Test.YtkmakibigmlfeaaBallotM5
section
set_option linter.unusedVariables false
set_option linter.unusedSimpArgs false
namespace Go.Proofs.Ytkmakibigmlfeaa
open Go.Am
theorem take_ne {α : Type} {A B : List α} {i : Nat} {a b : α} (h1 : A[i]? = some a) (h2 : B[i]? = some b) (h : a ≠ b) : A ≠ B := fun e => by
  rw [e, h2] at h1
  exact h (Option.some.inj h1).symm
theorem take_eq {α : Type} {A B : List α} {i : Nat} {a : α} (h1 : A[i]? = some a) (h2 : B[i]? = some a) (h : A.take i = B.take i) : A.take (i + 1) = B.take (i + 1) := by
  rw [List.take_add_one, List.take_add_one, h1, h2, h]
theorem take_all {α : Type} {A B : List α} (hl : A.length = B.length) (h : A.take A.length = B.take A.length) : A = B := by
  rw [List.take_length, hl, List.take_length] at h
  exact h
theorem df {p : Prop} [Decidable p] (h : ¬ p) : decide p = false := decide_eq_false h
theorem dt {p : Prop} [Decidable p] (h : p) : decide p = true := decide_eq_true h
variable {P : Program} (H : Has P)
include H
theorem ints29_ok {v w : AV} {A B : List Int} (hv : SF 1 v (ints A)) (hw : SF 1 w (ints B)) (hl : A.length < 2 ^ 40) (h : Heap) : AWF P ann 0 29 [v, w] h fun r h' => r = .sc (.bool (decide (A = B))) ∧ h' = h := by
  refine AWF.fnc H.f0_29 rfl ?_
  have e1 := @ints_len A
  have e2 := @ints_len B
  (refine W_seq_gen fun N hN => ?_); simp (disch := first | omega | (simp only [List.length_cons, List.length_nil, List.length_append, u8s_len]; omega)) only [go_sem, ↓reduceIte, true_and, Nat.reduceLeDiff, Nat.reduceEqDiff, Nat.reduceAdd, Nat.reduceBEq, Int.reduceEq, H.cv_5_3]
  refine hN _ ?_; clear hN N
  (refine W_seq_gen fun N hN => ?_)
  by_cases heq : A.length = B.length
  · have d : (((A.length : Nat) : Int) != ((B.length : Nat) : Int)) = false := by simp [heq]
    simp (disch := first | omega | (simp only [List.length_cons, List.length_nil, List.length_append, u8s_len]; omega)) only [go_sem, ↓reduceIte, true_and, Nat.reduceLeDiff, Nat.reduceEqDiff, Nat.reduceAdd, Nat.reduceBEq, Int.reduceEq, H.cv_5_3, hv.same, hv.disc, hw.same, hw.disc, hv.sl.len, hw.sl.len, e1, e2, d]
    refine hN _ ?_; clear hN N
    (refine W_seq_gen fun M hM => ?_)
    (refine W_seq_gen fun N hN => ?_); simp (disch := first | omega | (simp only [List.length_cons, List.length_nil, List.length_append, u8s_len]; omega)) only [go_sem, ↓reduceIte, true_and, Nat.reduceLeDiff, Nat.reduceEqDiff, Nat.reduceAdd, Nat.reduceBEq, Int.reduceEq, H.cv_5_3]
    refine hN _ ?_; clear hN N
    simp (disch := first | omega | (simp only [List.length_cons, List.length_nil, List.length_append, u8s_len]; omega)) only [go_sem, ↓reduceIte, true_and, Nat.reduceLeDiff, Nat.reduceEqDiff, Nat.reduceAdd, Nat.reduceBEq, Int.reduceEq, H.cv_5_3]
    have hN0 := True.intro
    refine AW_loopN (fun n t h' => h' = h ∧ ∃ i, n = A.length - i ∧ i ≤ A.length ∧ t 0 = v ∧ t 1 = w ∧ t 5 = .sc (.int .i64 (i : Nat)) ∧ A.take i = B.take i)
      (n := A.length) ⟨rfl, 0, rfl, Nat.zero_le _, rfl, rfl, rfl, rfl⟩ ?_
    clear hN0
    rintro n t h' ⟨rfl, i, rfl, hi, t0, t1, t5, hAB⟩
    rcases Nat.lt_or_ge i A.length with hlt | hge
    · have g1 := ints_get hlt
      have g2 := ints_get (l := B) (i := i) (heq ▸ hlt)
      have k1 : A[i]? = some A[i] := List.getElem?_eq_getElem hlt
      have k2 : B[i]? = some (B[i]'(heq ▸ hlt)) := List.getElem?_eq_getElem (heq ▸ hlt)
      generalize A[i] = x at g1 k1
      generalize B[i]'(heq ▸ hlt) = y at g2 k2
      (refine W_seq_gen fun N hN => ?_); simp (disch := first | omega | (simp only [List.length_cons, List.length_nil, List.length_append, u8s_len]; omega)) only [go_sem, ↓reduceIte, true_and, Nat.reduceLeDiff, Nat.reduceEqDiff, Nat.reduceAdd, Nat.reduceBEq, Int.reduceEq, H.cv_5_3, t0, t5, hv.same, hv.disc, hv.sl.len, e1, hlt]
      refine hN _ ?_; clear hN N
      (refine W_seq_gen fun R hR => ?_)
      rw [W_block]
      by_cases c : x = y
      · subst c
        have d5 : (x != x) = false := by simp
        simp (disch := first | omega | (simp only [List.length_cons, List.length_nil, List.length_append, u8s_len]; omega)) only [go_sem, ↓reduceIte, true_and, Nat.reduceLeDiff, Nat.reduceEqDiff, Nat.reduceAdd, Nat.reduceBEq, Int.reduceEq, H.cv_5_3, t0, t1, t5, hv.same, hv.disc, hw.same, hw.disc, hv.sl.ia, hw.sl.ia, g1, g2, d5]
        refine hR _ ?_; clear hR R
        simp (disch := first | omega | (simp only [List.length_cons, List.length_nil, List.length_append, u8s_len]; omega)) only [go_sem, ↓reduceIte, true_and, Nat.reduceLeDiff, Nat.reduceEqDiff, Nat.reduceAdd, Nat.reduceBEq, Int.reduceEq, H.cv_5_3, t5, nat_add]
        exact ⟨A.length - (i + 1), by omega, i + 1, rfl, by omega, by simp [upd_at, t0], by simp [upd_at, t1], by simp [upd_at], take_eq k1 k2 hAB⟩
      · have d5 : (x != y) = true := by simpa using c
        simp (disch := first | omega | (simp only [List.length_cons, List.length_nil, List.length_append, u8s_len]; omega)) only [go_sem, ↓reduceIte, true_and, Nat.reduceLeDiff, Nat.reduceEqDiff, Nat.reduceAdd, Nat.reduceBEq, Int.reduceEq, H.cv_5_3, t0, t1, t5, hv.same, hv.disc, hw.same, hw.disc, hv.sl.ia, hw.sl.ia, g1, g2, d5]
        rw [df (take_ne k1 k2 c)]
    · obtain rfl : i = A.length := by omega
      (refine W_seq_gen fun N hN => ?_); simp (disch := first | omega | (simp only [List.length_cons, List.length_nil, List.length_append, u8s_len]; omega)) only [go_sem, ↓reduceIte, true_and, Nat.reduceLeDiff, Nat.reduceEqDiff, Nat.reduceAdd, Nat.reduceBEq, Int.reduceEq, H.cv_5_3, t0, t5, hv.same, hv.disc, hv.sl.len, e1, Nat.lt_irrefl]
      refine hM _ ?_; clear hN N hM M
      simp (disch := first | omega | (simp only [List.length_cons, List.length_nil, List.length_append, u8s_len]; omega)) only [go_sem, ↓reduceIte, true_and, Nat.reduceLeDiff, Nat.reduceEqDiff, Nat.reduceAdd, Nat.reduceBEq, Int.reduceEq, H.cv_5_3]
      rw [dt (take_all heq hAB)]
  · have d : (((A.length : Nat) : Int) != ((B.length : Nat) : Int)) = true := by simp; omega
    simp (disch := first | omega | (simp only [List.length_cons, List.length_nil, List.length_append, u8s_len]; omega)) only [go_sem, ↓reduceIte, true_and, Nat.reduceLeDiff, Nat.reduceEqDiff, Nat.reduceAdd, Nat.reduceBEq, Int.reduceEq, H.cv_5_3, hv.same, hv.disc, hw.same, hw.disc, hv.sl.len, hw.sl.len, e1, e2, d]
    rw [df fun e => heq (by rw [e])]
theorem ints31_ok {v w : AV} {A B : List Int} (hv : SF 1 v (ints A)) (hw : SF 1 w (ints B)) (hl : A.length < 2 ^ 40) (h : Heap) : AWF P ann 0 31 [v, w] h fun r h' => r = .sc (.bool (decide (A = B))) ∧ h' = h := by
  refine AWF.fnc H.f0_31 rfl ?_
  have e1 := @ints_len A
  have e2 := @ints_len B
  (refine W_seq_gen fun N hN => ?_); simp (disch := first | omega | (simp only [List.length_cons, List.length_nil, List.length_append, u8s_len]; omega)) only [go_sem, ↓reduceIte, true_and, Nat.reduceLeDiff, Nat.reduceEqDiff, Nat.reduceAdd, Nat.reduceBEq, Int.reduceEq, H.cv_5_3]
  refine hN _ ?_; clear hN N
  (refine W_seq_gen fun N hN => ?_)
  by_cases heq : A.length = B.length
  · have d : (((A.length : Nat) : Int) != ((B.length : Nat) : Int)) = false := by simp [heq]
    simp (disch := first | omega | (simp only [List.length_cons, List.length_nil, List.length_append, u8s_len]; omega)) only [go_sem, ↓reduceIte, true_and, Nat.reduceLeDiff, Nat.reduceEqDiff, Nat.reduceAdd, Nat.reduceBEq, Int.reduceEq, H.cv_5_3, hv.same, hv.disc, hw.same, hw.disc, hv.sl.len, hw.sl.len, e1, e2, d]
    refine hN _ ?_; clear hN N
    (refine W_seq_gen fun M hM => ?_)
    simp (disch := first | omega | (simp only [List.length_cons, List.length_nil, List.length_append, u8s_len]; omega)) only [go_sem, ↓reduceIte, true_and, Nat.reduceLeDiff, Nat.reduceEqDiff, Nat.reduceAdd, Nat.reduceBEq, Int.reduceEq, H.cv_5_3, hv.same, hv.disc, hv.sl.len, e1]
    have hN0 := True.intro
    refine AW_loopN (fun n t h' => h' = h ∧ ∃ i, n = A.length - i ∧ i ≤ A.length ∧ t 0 = v ∧ t 1 = w ∧ t 12 = .sc (.int .i64 (A.length : Nat)) ∧ t 13 = .sc (.int .i64 (i : Nat)) ∧ A.take i = B.take i)
      (n := A.length) ⟨rfl, 0, rfl, Nat.zero_le _, rfl, rfl, rfl, rfl, rfl⟩ ?_
    clear hN0
    rintro n t h' ⟨rfl, i, rfl, hi, t0, t1, t12, t13, hAB⟩
    rcases Nat.lt_or_ge i A.length with hlt | hge
    · have g1 := ints_get hlt
      have g2 := ints_get (l := B) (i := i) (heq ▸ hlt)
      have k1 : A[i]? = some A[i] := List.getElem?_eq_getElem hlt
      have k2 : B[i]? = some (B[i]'(heq ▸ hlt)) := List.getElem?_eq_getElem (heq ▸ hlt)
      generalize A[i] = x at g1 k1
      generalize B[i]'(heq ▸ hlt) = y at g2 k2
      (refine W_seq_gen fun N hN => ?_); simp (disch := first | omega | (simp only [List.length_cons, List.length_nil, List.length_append, u8s_len]; omega)) only [go_sem, ↓reduceIte, true_and, Nat.reduceLeDiff, Nat.reduceEqDiff, Nat.reduceAdd, Nat.reduceBEq, Int.reduceEq, H.cv_5_3, t12, t13, hlt]
      refine hN _ ?_; clear hN N
      (refine W_seq_gen fun N hN => ?_); simp (disch := first | omega | (simp only [List.length_cons, List.length_nil, List.length_append, u8s_len]; omega)) only [go_sem, ↓reduceIte, true_and, Nat.reduceLeDiff, Nat.reduceEqDiff, Nat.reduceAdd, Nat.reduceBEq, Int.reduceEq, H.cv_5_3]
      refine hN _ ?_; clear hN N
      (refine W_seq_gen fun R hR => ?_)
      rw [W_block]
      by_cases c : x = y
      · subst c
        have d5 : (x != x) = false := by simp
        simp (disch := first | omega | (simp only [List.length_cons, List.length_nil, List.length_append, u8s_len]; omega)) only [go_sem, ↓reduceIte, true_and, Nat.reduceLeDiff, Nat.reduceEqDiff, Nat.reduceAdd, Nat.reduceBEq, Int.reduceEq, H.cv_5_3, t0, t1, t12, t13, hv.same, hv.disc, hw.same, hw.disc, hv.sl.ia, hw.sl.ia, g1, g2, d5]
        refine hR _ ?_; clear hR R
        simp (disch := first | omega | (simp only [List.length_cons, List.length_nil, List.length_append, u8s_len]; omega)) only [go_sem, ↓reduceIte, true_and, Nat.reduceLeDiff, Nat.reduceEqDiff, Nat.reduceAdd, Nat.reduceBEq, Int.reduceEq, H.cv_5_3, t13, nat_add]
        exact ⟨A.length - (i + 1), by omega, i + 1, rfl, by omega, by simp [upd_at, t0], by simp [upd_at, t1], by simp [upd_at, t12], by simp [upd_at], take_eq k1 k2 hAB⟩
      · have d5 : (x != y) = true := by simpa using c
        simp (disch := first | omega | (simp only [List.length_cons, List.length_nil, List.length_append, u8s_len]; omega)) only [go_sem, ↓reduceIte, true_and, Nat.reduceLeDiff, Nat.reduceEqDiff, Nat.reduceAdd, Nat.reduceBEq, Int.reduceEq, H.cv_5_3, t0, t1, t12, t13, hv.same, hv.disc, hw.same, hw.disc, hv.sl.ia, hw.sl.ia, g1, g2, d5]
        rw [df (take_ne k1 k2 c)]
    · obtain rfl : i = A.length := by omega
      (refine W_seq_gen fun N hN => ?_); simp (disch := first | omega | (simp only [List.length_cons, List.length_nil, List.length_append, u8s_len]; omega)) only [go_sem, ↓reduceIte, true_and, Nat.reduceLeDiff, Nat.reduceEqDiff, Nat.reduceAdd, Nat.reduceBEq, Int.reduceEq, H.cv_5_3, t12, t13, Nat.lt_irrefl]
      refine hN _ ?_; clear hN N
      (refine W_seq_gen fun N hN => ?_); simp (disch := first | omega | (simp only [List.length_cons, List.length_nil, List.length_append, u8s_len]; omega)) only [go_sem, ↓reduceIte, true_and, Nat.reduceLeDiff, Nat.reduceEqDiff, Nat.reduceAdd, Nat.reduceBEq, Int.reduceEq, H.cv_5_3]
      refine hM _ ?_; clear hN N hM M
      simp (disch := first | omega | (simp only [List.length_cons, List.length_nil, List.length_append, u8s_len]; omega)) only [go_sem, ↓reduceIte, true_and, Nat.reduceLeDiff, Nat.reduceEqDiff, Nat.reduceAdd, Nat.reduceBEq, Int.reduceEq, H.cv_5_3]
      rw [dt (take_all heq hAB)]
  · have d : (((A.length : Nat) : Int) != ((B.length : Nat) : Int)) = true := by simp; omega
    simp (disch := first | omega | (simp only [List.length_cons, List.length_nil, List.length_append, u8s_len]; omega)) only [go_sem, ↓reduceIte, true_and, Nat.reduceLeDiff, Nat.reduceEqDiff, Nat.reduceAdd, Nat.reduceBEq, Int.reduceEq, H.cv_5_3, hv.same, hv.disc, hw.same, hw.disc, hv.sl.len, hw.sl.len, e1, e2, d]
    rw [df fun e => heq (by rw [e])]
theorem logs17_ok {v w : AV} {es fs : List (List AV)} {A B : List (Int × List UInt8)} (hv : SF 2 v es) (hw : SF 2 w fs) (hA : RR LgR es A) (hB : RR LgR fs B) (hl : A.length < 2 ^ 40) (h : Heap) : AWF P ann 0 17 [v, w] h fun r h' => r = .sc (.bool (decide (A = B))) ∧ h' = h := by
  refine AWF.fnc H.f0_17 rfl ?_
  have e1 := hA.len
  have e2 := hB.len
  (refine W_seq_gen fun N hN => ?_); simp (disch := first | omega | (simp only [List.length_cons, List.length_nil, List.length_append, u8s_len]; omega)) only [go_sem, ↓reduceIte, true_and, Nat.reduceLeDiff, Nat.reduceEqDiff, Nat.reduceAdd, Nat.reduceBEq, Int.reduceEq, H.cv_5_3]
  refine hN _ ?_; clear hN N
  (refine W_seq_gen fun N hN => ?_)
  by_cases heq : A.length = B.length
  · have d : (((A.length : Nat) : Int) != ((B.length : Nat) : Int)) = false := by simp [heq]
    simp (disch := first | omega | (simp only [List.length_cons, List.length_nil, List.length_append, u8s_len]; omega)) only [go_sem, ↓reduceIte, true_and, Nat.reduceLeDiff, Nat.reduceEqDiff, Nat.reduceAdd, Nat.reduceBEq, Int.reduceEq, H.cv_5_3, hv.same, hv.disc, hw.same, hw.disc, hv.sl.len, hw.sl.len, e1, e2, d]
    refine hN _ ?_; clear hN N
    (refine W_seq_gen fun M hM => ?_)
    (refine W_seq_gen fun N hN => ?_); simp (disch := first | omega | (simp only [List.length_cons, List.length_nil, List.length_append, u8s_len]; omega)) only [go_sem, ↓reduceIte, true_and, Nat.reduceLeDiff, Nat.reduceEqDiff, Nat.reduceAdd, Nat.reduceBEq, Int.reduceEq, H.cv_5_3]
    refine hN _ ?_; clear hN N
    simp (disch := first | omega | (simp only [List.length_cons, List.length_nil, List.length_append, u8s_len]; omega)) only [go_sem, ↓reduceIte, true_and, Nat.reduceLeDiff, Nat.reduceEqDiff, Nat.reduceAdd, Nat.reduceBEq, Int.reduceEq, H.cv_5_3]
    refine AW_loopN (fun n t h' => h' = h ∧ ∃ i, n = A.length - i ∧ i ≤ A.length ∧ t 0 = v ∧ t 1 = w ∧ t 5 = .sc (.int .i64 (i : Nat)) ∧ A.take i = B.take i)
      (n := A.length) ⟨rfl, 0, rfl, Nat.zero_le _, rfl, rfl, rfl, rfl⟩ ?_
    rintro n t h' ⟨rfl, i, rfl, hi, t0, t1, t5, hAB⟩
    rcases Nat.lt_or_ge i A.length with hlt | hge
    · obtain ⟨_, g1, x, rfl, hx⟩ := hA.lt hlt
      obtain ⟨_, g2, y, rfl, hy⟩ := hB.lt (i := i) (heq ▸ hlt)
      have k1 : A[i]? = some A[i] := List.getElem?_eq_getElem hlt
      have k2 : B[i]? = some (B[i]'(heq ▸ hlt)) := List.getElem?_eq_getElem (heq ▸ hlt)
      generalize A[i] = a at g1 k1 hx
      generalize B[i]'(heq ▸ hlt) = b at g2 k2 hy
      (refine W_seq_gen fun N hN => ?_); simp (disch := first | omega | (simp only [List.length_cons, List.length_nil, List.length_append, u8s_len]; omega)) only [go_sem, ↓reduceIte, true_and, Nat.reduceLeDiff, Nat.reduceEqDiff, Nat.reduceAdd, Nat.reduceBEq, Int.reduceEq, H.cv_5_3, t0, t5, hv.same, hv.disc, hv.sl.len, e1, hlt]
      refine hN _ ?_; clear hN N
      (refine W_seq_gen fun R hR => ?_)
      rw [W_block]
      obtain ⟨a1, a2⟩ := a
      obtain ⟨b1, b2⟩ := b
      simp only at hx hy g1 g2
      by_cases c : a1 = b1
      · subst c
        have d5 : (a1 != a1) = false := by simp
        by_cases c2 : a2 = b2
        · subst c2
          have d6 : (!decide (str a2 = str a2)) = false := by simp
          simp (disch := first | omega | (simp only [List.length_cons, List.length_nil, List.length_append, u8s_len]; omega)) only [go_sem, ↓reduceIte, true_and, Nat.reduceLeDiff, Nat.reduceEqDiff, Nat.reduceAdd, Nat.reduceBEq, Int.reduceEq, H.cv_5_3, t0, t1, t5, hv.same, hv.disc, hw.same, hw.disc, hv.sl.ia, hw.sl.ia, g1, g2, d5, hx.same, hx.disc, hy.same, hy.disc, hx.sl.b2s, hy.sl.b2s, d6]
          refine hR _ ?_; clear hR R
          simp (disch := first | omega | (simp only [List.length_cons, List.length_nil, List.length_append, u8s_len]; omega)) only [go_sem, ↓reduceIte, true_and, Nat.reduceLeDiff, Nat.reduceEqDiff, Nat.reduceAdd, Nat.reduceBEq, Int.reduceEq, H.cv_5_3, t5, nat_add]
          exact ⟨A.length - (i + 1), by omega, i + 1, rfl, by omega, by simp [upd_at, t0], by simp [upd_at, t1], by simp [upd_at], take_eq k1 k2 hAB⟩
        · have d6 : (!decide (str a2 = str b2)) = true := by simpa [str_inj] using c2
          simp (disch := first | omega | (simp only [List.length_cons, List.length_nil, List.length_append, u8s_len]; omega)) only [go_sem, ↓reduceIte, true_and, Nat.reduceLeDiff, Nat.reduceEqDiff, Nat.reduceAdd, Nat.reduceBEq, Int.reduceEq, H.cv_5_3, t0, t1, t5, hv.same, hv.disc, hw.same, hw.disc, hv.sl.ia, hw.sl.ia, g1, g2, d5, hx.same, hx.disc, hy.same, hy.disc, hx.sl.b2s, hy.sl.b2s, d6]
          rw [df (take_ne k1 k2 fun e => c2 (Prod.mk.inj e).2)]
      · have d5 : (a1 != b1) = true := by simpa using c
        simp (disch := first | omega | (simp only [List.length_cons, List.length_nil, List.length_append, u8s_len]; omega)) only [go_sem, ↓reduceIte, true_and, Nat.reduceLeDiff, Nat.reduceEqDiff, Nat.reduceAdd, Nat.reduceBEq, Int.reduceEq, H.cv_5_3, t0, t1, t5, hv.same, hv.disc, hw.same, hw.disc, hv.sl.ia, hw.sl.ia, g1, g2, d5, hx.same, hx.disc, hy.same, hy.disc]
        rw [df (take_ne k1 k2 fun e => c (Prod.mk.inj e).1)]
    · obtain rfl : i = A.length := by omega
      (refine W_seq_gen fun N hN => ?_); simp (disch := first | omega | (simp only [List.length_cons, List.length_nil, List.length_append, u8s_len]; omega)) only [go_sem, ↓reduceIte, true_and, Nat.reduceLeDiff, Nat.reduceEqDiff, Nat.reduceAdd, Nat.reduceBEq, Int.reduceEq, H.cv_5_3, t0, t5, hv.same, hv.disc, hv.sl.len, e1, Nat.lt_irrefl]
      refine hM _ ?_; clear hN N hM M
      simp (disch := first | omega | (simp only [List.length_cons, List.length_nil, List.length_append, u8s_len]; omega)) only [go_sem, ↓reduceIte, true_and, Nat.reduceLeDiff, Nat.reduceEqDiff, Nat.reduceAdd, Nat.reduceBEq, Int.reduceEq, H.cv_5_3]
      rw [dt (take_all heq hAB)]
  · have d : (((A.length : Nat) : Int) != ((B.length : Nat) : Int)) = true := by simp; omega
    simp (disch := first | omega | (simp only [List.length_cons, List.length_nil, List.length_append, u8s_len]; omega)) only [go_sem, ↓reduceIte, true_and, Nat.reduceLeDiff, Nat.reduceEqDiff, Nat.reduceAdd, Nat.reduceBEq, Int.reduceEq, H.cv_5_3, hv.same, hv.disc, hw.same, hw.disc, hv.sl.len, hw.sl.len, e1, e2, d]
    rw [df fun e => heq (by rw [e])]
theorem log30_ok {x y : AV} {a b : Int × List UInt8} (hx : SF 1 x (u8s a.2)) (hy : SF 1 y (u8s b.2)) (h : Heap) : AWF P ann 0 30 [.ag [.sc (.int .i64 a.1), x], .ag [.sc (.int .i64 b.1), y]] h fun r h' => r = .sc (.bool (decide (a = b))) ∧ h' = h := by
  refine AWF.fnPurec H.f0_30 rfl ?_
  have hO := OB.nil (h := h)
  (refine W_seq_gen fun N hN => ?_); simp (disch := first | omega | (simp only [List.length_cons, List.length_nil, List.length_append, u8s_len]; omega)) only [go_sem, ↓reduceIte, true_and, Nat.reduceLeDiff, Nat.reduceEqDiff, Nat.reduceAdd, Nat.reduceBEq, Int.reduceEq, H.cv_5_3, hx.disc, hy.disc]
  intro o2 h2 o3 h3
  refine hN _ ?_; clear hN N; refine W_ob ((hO.new h2).new h3) fun hc hO => ?_
  refine W_forget (fun t => t 2 = .op o2 0 ∧ t 3 = .op o3 0 ∧ True) (by simp [upd_at, *] <;> (first | rfl | exact ⟨rfl, rfl⟩ | exact ⟨rfl, rfl, rfl⟩ | exact ⟨rfl, rfl, rfl, rfl⟩ | exact ⟨rfl, rfl, rfl, rfl, rfl⟩)) ?_; rintro t ⟨t2, t3, -⟩
  obtain ⟨a1, a2⟩ := a
  obtain ⟨b1, b2⟩ := b
  simp only at hx hy hO ⊢
  by_cases c : a1 = b1
  · subst c
    have d5 : (a1 == a1) = true := by simp
    by_cases c2 : a2 = b2
    · subst c2
      have d6 : decide (str a2 = str a2) = true := by simp
      simp (disch := first | omega | (simp only [List.length_cons, List.length_nil, List.length_append, u8s_len]; omega)) only [go_sem, ↓reduceIte, true_and, Nat.reduceLeDiff, Nat.reduceEqDiff, Nat.reduceAdd, Nat.reduceBEq, Int.reduceEq, H.cv_5_3, t2, t3, hO.get0, hO.get1, hx.same, hx.disc, hy.same, hy.disc, d5, hx.sl.b2s, hy.sl.b2s, d6]
      first | exact hO.keep | exact ⟨by simp, hO.keep⟩
    · have d6 : decide (str a2 = str b2) = false := by simpa [str_inj] using c2
      simp (disch := first | omega | (simp only [List.length_cons, List.length_nil, List.length_append, u8s_len]; omega)) only [go_sem, ↓reduceIte, true_and, Nat.reduceLeDiff, Nat.reduceEqDiff, Nat.reduceAdd, Nat.reduceBEq, Int.reduceEq, H.cv_5_3, t2, t3, hO.get0, hO.get1, hx.same, hx.disc, hy.same, hy.disc, d5, hx.sl.b2s, hy.sl.b2s, d6]
      exact ⟨by rw [df fun e => c2 (Prod.mk.inj e).2], hO.keep⟩
  · have d5 : (a1 == b1) = false := by simpa using c
    simp (disch := first | omega | (simp only [List.length_cons, List.length_nil, List.length_append, u8s_len]; omega)) only [go_sem, ↓reduceIte, true_and, Nat.reduceLeDiff, Nat.reduceEqDiff, Nat.reduceAdd, Nat.reduceBEq, Int.reduceEq, H.cv_5_3, t2, t3, hO.get0, hO.get1, hx.same, hx.disc, hy.same, hy.disc, d5]
    exact ⟨by rw [df fun e => c (Prod.mk.inj e).1], hO.keep⟩
theorem logs32_ok {v w : AV} {es fs : List (List AV)} {A B : List (Int × List UInt8)} (hv : SF 2 v es) (hw : SF 2 w fs) (hA : RR LgR es A) (hB : RR LgR fs B) (hl : A.length < 2 ^ 40) (h : Heap) : AWF P ann 0 32 [v, w, .fn 30 [] []] h fun r h' => r = .sc (.bool (decide (A = B))) ∧ h' = h := by
  refine AWF.fnPurec H.f0_32 rfl ?_
  have e1 := hA.len
  have e2 := hB.len
  (refine W_seq_gen fun N hN => ?_); simp (disch := first | omega | (simp only [List.length_cons, List.length_nil, List.length_append, u8s_len]; omega)) only [go_sem, ↓reduceIte, true_and, Nat.reduceLeDiff, Nat.reduceEqDiff, Nat.reduceAdd, Nat.reduceBEq, Int.reduceEq, H.cv_5_3]
  refine hN _ ?_; clear hN N
  (refine W_seq_gen fun N hN => ?_)
  by_cases heq : A.length = B.length
  · have d : (((A.length : Nat) : Int) != ((B.length : Nat) : Int)) = false := by simp [heq]
    simp (disch := first | omega | (simp only [List.length_cons, List.length_nil, List.length_append, u8s_len]; omega)) only [go_sem, ↓reduceIte, true_and, Nat.reduceLeDiff, Nat.reduceEqDiff, Nat.reduceAdd, Nat.reduceBEq, Int.reduceEq, H.cv_5_3, hv.same, hv.disc, hw.same, hw.disc, hv.sl.len, hw.sl.len, e1, e2, d]
    refine hN _ ?_; clear hN N
    (refine W_seq_gen fun M hM => ?_)
    simp (disch := first | omega | (simp only [List.length_cons, List.length_nil, List.length_append, u8s_len]; omega)) only [go_sem, ↓reduceIte, true_and, Nat.reduceLeDiff, Nat.reduceEqDiff, Nat.reduceAdd, Nat.reduceBEq, Int.reduceEq, H.cv_5_3, hv.same, hv.disc, hv.sl.len, e1]
    refine AW_loopN (fun n t h' => ∃ i, n = A.length - i ∧ i ≤ A.length ∧ t 0 = v ∧ t 1 = w ∧ t 2 = .fn 30 [] [] ∧ t 15 = v ∧ t 16 = .sc (.int .i64 (A.length : Nat)) ∧ t 17 = .sc (.int .i64 (i : Nat)) ∧ A.take i = B.take i ∧ ∀ x, h x ≠ none → h' x = h x)
      (n := A.length) ⟨0, rfl, Nat.zero_le _, rfl, rfl, rfl, rfl, rfl, rfl, rfl, fun x hx => rfl⟩ ?_
    rintro n t h' ⟨i, rfl, hi, t0, t1, t2, t15, t16, t17, hAB, hk⟩
    rcases Nat.lt_or_ge i A.length with hlt | hge
    · obtain ⟨_, g1, x, rfl, hx⟩ := hA.lt hlt
      obtain ⟨_, g2, y, rfl, hy⟩ := hB.lt (i := i) (heq ▸ hlt)
      have k1 : A[i]? = some A[i] := List.getElem?_eq_getElem hlt
      have k2 : B[i]? = some (B[i]'(heq ▸ hlt)) := List.getElem?_eq_getElem (heq ▸ hlt)
      generalize A[i] = a at g1 k1 hx
      generalize B[i]'(heq ▸ hlt) = b at g2 k2 hy
      (refine W_seq_gen fun N hN => ?_); simp (disch := first | omega | (simp only [List.length_cons, List.length_nil, List.length_append, u8s_len]; omega)) only [go_sem, ↓reduceIte, true_and, Nat.reduceLeDiff, Nat.reduceEqDiff, Nat.reduceAdd, Nat.reduceBEq, Int.reduceEq, H.cv_5_3, t16, t17, hlt]
      refine hN _ ?_; clear hN N
      (refine W_seq_gen fun N hN => ?_); simp (disch := first | omega | (simp only [List.length_cons, List.length_nil, List.length_append, u8s_len]; omega)) only [go_sem, ↓reduceIte, true_and, Nat.reduceLeDiff, Nat.reduceEqDiff, Nat.reduceAdd, Nat.reduceBEq, Int.reduceEq, H.cv_5_3]
      refine hN _ ?_; clear hN N
      (refine W_seq_gen fun R hR => ?_)
      rw [W_block]
      (refine W_seq_gen fun N hN => ?_); simp (disch := first | omega | (simp only [List.length_cons, List.length_nil, List.length_append, u8s_len]; omega)) only [go_sem, ↓reduceIte, true_and, Nat.reduceLeDiff, Nat.reduceEqDiff, Nat.reduceAdd, Nat.reduceBEq, Int.reduceEq, H.cv_5_3, t15, t17, hv.same, hv.disc, hv.sl.ia, g1, hx.same, hx.disc]
      intro o8 h8
      have hO := OB.nil (h := h')
      refine hN _ ?_; clear hN N; refine W_ob (hO.new h8) fun hc hO => ?_
      refine W_forget (fun t => t 0 = v ∧ t 1 = w ∧ t 2 = .fn 30 [] [] ∧ t 7 = .sc (.int .i64 (i : Nat)) ∧ t 8 = .op o8 0 ∧ t 15 = v ∧ t 16 = .sc (.int .i64 (A.length : Nat)) ∧ t 17 = .sc (.int .i64 (i : Nat)) ∧ True) (by simp [upd_at, *] <;> (first | rfl | exact ⟨rfl, rfl⟩ | exact ⟨rfl, rfl, rfl⟩ | exact ⟨rfl, rfl, rfl, rfl⟩ | exact ⟨rfl, rfl, rfl, rfl, rfl⟩)) ?_; rintro t ⟨t0, t1, t2, t7, t8, t15, t16, t17, -⟩
      (refine W_seq_gen fun N hN => ?_); simp (disch := first | omega | (simp only [List.length_cons, List.length_nil, List.length_append, u8s_len]; omega)) only [go_sem, ↓reduceIte, true_and, Nat.reduceLeDiff, Nat.reduceEqDiff, Nat.reduceAdd, Nat.reduceBEq, Int.reduceEq, H.cv_5_3, t1, t7, hw.same, hw.disc, hw.sl.ia, g2, hy.same, hy.disc]
      intro o9 h9
      refine hN _ ?_; clear hN N; refine W_ob (hO.new h9) fun hc hO => ?_
      refine W_forget (fun t => t 0 = v ∧ t 1 = w ∧ t 2 = .fn 30 [] [] ∧ t 7 = .sc (.int .i64 (i : Nat)) ∧ t 8 = .op o8 0 ∧ t 9 = .op o9 0 ∧ t 15 = v ∧ t 16 = .sc (.int .i64 (A.length : Nat)) ∧ t 17 = .sc (.int .i64 (i : Nat)) ∧ True) (by simp [upd_at, *] <;> (first | rfl | exact ⟨rfl, rfl⟩ | exact ⟨rfl, rfl, rfl⟩ | exact ⟨rfl, rfl, rfl, rfl⟩ | exact ⟨rfl, rfl, rfl, rfl, rfl⟩)) ?_; rintro t ⟨t0, t1, t2, t7, t8, t9, t15, t16, t17, -⟩
      have dfn : (AV.fn 30 [] []).dis = .fn 30 [] [] := rfl
      simp (disch := first | omega | (simp only [List.length_cons, List.length_nil, List.length_append, u8s_len]; omega)) only [go_sem, ↓reduceIte, true_and, Nat.reduceLeDiff, Nat.reduceEqDiff, Nat.reduceAdd, Nat.reduceBEq, Int.reduceEq, H.cv_5_3, t2, t8, t9, hO.get0, hO.get1, hx.same, hx.disc, hy.same, hy.disc, dfn, aexDyn_fn]
      have hk2 : ∀ x, h x ≠ none → hc x = h x := fun x hx => by rw [hO.keep x (by rw [hk x hx]; exact hx), hk x hx]
      refine (log30_ok H hx hy _).mono ?_
      rintro _ hc ⟨rfl, rfl⟩
      by_cases c : a = b
      · subst c
        rw [dt rfl]
        rw [contK_some]; simp (disch := first | omega | (simp only [List.length_cons, List.length_nil, List.length_append, u8s_len]; omega)) only [go_sem, ↓reduceIte, true_and, Nat.reduceLeDiff, Nat.reduceEqDiff, Nat.reduceAdd, Nat.reduceBEq, Int.reduceEq, H.cv_5_3, Bool.not_true]
        refine hR _ ?_; clear hR R
        simp (disch := first | omega | (simp only [List.length_cons, List.length_nil, List.length_append, u8s_len]; omega)) only [go_sem, ↓reduceIte, true_and, Nat.reduceLeDiff, Nat.reduceEqDiff, Nat.reduceAdd, Nat.reduceBEq, Int.reduceEq, H.cv_5_3, t17, nat_add]
        exact ⟨A.length - (i + 1), by omega, i + 1, rfl, by omega, by simp [upd_at, t0], by simp [upd_at, t1], by simp [upd_at, t2], by simp [upd_at, t15], by simp [upd_at, t16], by simp [upd_at], take_eq k1 k2 hAB, hk2⟩
      · rw [df c]
        rw [contK_some]; simp (disch := first | omega | (simp only [List.length_cons, List.length_nil, List.length_append, u8s_len]; omega)) only [go_sem, ↓reduceIte, true_and, Nat.reduceLeDiff, Nat.reduceEqDiff, Nat.reduceAdd, Nat.reduceBEq, Int.reduceEq, H.cv_5_3, Bool.not_false]
        exact ⟨by rw [df (take_ne k1 k2 c)], hk2⟩
    · obtain rfl : i = A.length := by omega
      (refine W_seq_gen fun N hN => ?_); simp (disch := first | omega | (simp only [List.length_cons, List.length_nil, List.length_append, u8s_len]; omega)) only [go_sem, ↓reduceIte, true_and, Nat.reduceLeDiff, Nat.reduceEqDiff, Nat.reduceAdd, Nat.reduceBEq, Int.reduceEq, H.cv_5_3, t16, t17, Nat.lt_irrefl]
      refine hN _ ?_; clear hN N
      (refine W_seq_gen fun N hN => ?_); simp (disch := first | omega | (simp only [List.length_cons, List.length_nil, List.length_append, u8s_len]; omega)) only [go_sem, ↓reduceIte, true_and, Nat.reduceLeDiff, Nat.reduceEqDiff, Nat.reduceAdd, Nat.reduceBEq, Int.reduceEq, H.cv_5_3]
      refine hM _ ?_; clear hN N hM M
      simp (disch := first | omega | (simp only [List.length_cons, List.length_nil, List.length_append, u8s_len]; omega)) only [go_sem, ↓reduceIte, true_and, Nat.reduceLeDiff, Nat.reduceEqDiff, Nat.reduceAdd, Nat.reduceBEq, Int.reduceEq, H.cv_5_3]
      exact ⟨by rw [dt (take_all heq hAB)], hk⟩
  · have d : (((A.length : Nat) : Int) != ((B.length : Nat) : Int)) = true := by simp; omega
    simp (disch := first | omega | (simp only [List.length_cons, List.length_nil, List.length_append, u8s_len]; omega)) only [go_sem, ↓reduceIte, true_and, Nat.reduceLeDiff, Nat.reduceEqDiff, Nat.reduceAdd, Nat.reduceBEq, Int.reduceEq, H.cv_5_3, hv.same, hv.disc, hw.same, hw.disc, hv.sl.len, hw.sl.len, e1, e2, d]
    rw [df fun e => heq (by rw [e])]
end Go.Proofs.Ytkmakibigmlfeaa
end

section
set_option linter.unusedVariables false
set_option linter.unusedSimpArgs false
namespace Go.Proofs.Ytkmakibigmlfeaa
open Go.Am
structure Bal where
  id : Int
  T : Int
  vote : Int
  com : Int
  role : Int
  lead : Int
  clock : Int
  p : List Int
  y : List Int
  n : List Int
  m : List Int
  l : List (Int × List UInt8)
def sameB (a b : Bal) : Bool := decide (a.id = b.id) && decide (a.T = b.T) && decide (a.vote = b.vote) && decide (a.com = b.com) && decide (a.role = b.role) && decide (a.lead = b.lead) && decide (a.clock = b.clock) && decide (a.p = b.p) && decide (a.l = b.l) && decide (a.y = b.y) && decide (a.n = b.n) && decide (a.m = b.m)
def BalC (cs : List AV) (a : Bal) : Prop := ∃ (pv lv yv nv mv : AV) (es : List (List AV)), cs = [.sc (.int .i64 a.id), pv, .sc (.int .i64 a.T), .sc (.int .i64 a.vote), lv, .sc (.int .i64 a.com), .sc (.int .i64 a.role), .sc (.int .i64 a.lead), yv, .sc (.int .i64 a.clock), nv, mv] ∧
  SF 1 pv (ints a.p) ∧ SF 2 lv es ∧ RR LgR es a.l ∧ SF 1 yv (ints a.y) ∧ SF 1 nv (ints a.n) ∧ SF 1 mv (ints a.m)
variable {P : Program} (H : Has P)
include H
set_option maxHeartbeats 4000000 in
theorem same13_ok {cs ds : List AV} {a b : Bal} (ha : BalC cs a) (hb : BalC ds b) (z1 : a.p.length < 2 ^ 40) (z2 : a.l.length < 2 ^ 40) (z3 : a.y.length < 2 ^ 40) (z4 : a.n.length < 2 ^ 40) (z5 : a.m.length < 2 ^ 40) (h : Heap) : AWF P ann 0 13 [.ag cs, .ag ds] h fun r h' => r = .sc (.bool (sameB a b)) ∧ h' = h := by
  obtain ⟨pv, lv, yv, nv, mv, es, rfl, u1, u2, u3, u4, u5, u6⟩ := ha
  obtain ⟨pw, lw, yw, nw, mw, fs, rfl, w1, w2, w3, w4, w5, w6⟩ := hb
  refine AWF.fnPurec H.f0_13 rfl ?_
  have hO := OB.nil (h := h)
  (refine W_seq_gen fun N hN => ?_); simp (disch := first | omega | (simp only [List.length_cons, List.length_nil, List.length_append, u8s_len]; omega)) only [go_sem, ↓reduceIte, true_and, Nat.reduceLeDiff, Nat.reduceEqDiff, Nat.reduceAdd, Nat.reduceBEq, Int.reduceEq, H.cv_5_3, u1.disc, u2.disc, u4.disc, u5.disc, u6.disc, w1.disc, w2.disc, w4.disc, w5.disc, w6.disc]
  intro o2 h2 o3 h3
  refine hN _ ?_; clear hN N; refine W_ob ((hO.new h2).new h3) fun hc hO => ?_
  refine W_forget (fun t => t 2 = .op o2 0 ∧ t 3 = .op o3 0 ∧ True) (by simp [upd_at, *] <;> (first | rfl | exact ⟨rfl, rfl⟩ | exact ⟨rfl, rfl, rfl⟩ | exact ⟨rfl, rfl, rfl, rfl⟩ | exact ⟨rfl, rfl, rfl, rfl, rfl⟩)) ?_; rintro t ⟨t2, t3, -⟩
  by_cases c0 : a.id = b.id
  · have d0 : (a.id == b.id) = true := by simpa using c0
    by_cases c1 : a.T = b.T
    · have d1 : (a.T == b.T) = true := by simpa using c1
      by_cases c2 : a.vote = b.vote
      · have d2 : (a.vote == b.vote) = true := by simpa using c2
        by_cases c3 : a.com = b.com
        · have d3 : (a.com == b.com) = true := by simpa using c3
          by_cases c4 : a.role = b.role
          · have d4 : (a.role == b.role) = true := by simpa using c4
            by_cases c5 : a.lead = b.lead
            · have d5 : (a.lead == b.lead) = true := by simpa using c5
              by_cases c6 : a.clock = b.clock
              · have d6 : (a.clock == b.clock) = true := by simpa using c6
                simp (disch := first | omega | (simp only [List.length_cons, List.length_nil, List.length_append, u8s_len]; omega)) only [go_sem, ↓reduceIte, true_and, Nat.reduceLeDiff, Nat.reduceEqDiff, Nat.reduceAdd, Nat.reduceBEq, Int.reduceEq, H.cv_5_3, t2, t3, hO.get0, hO.get1, u1.disc, u2.disc, u4.disc, u5.disc, u6.disc, w1.disc, w2.disc, w4.disc, w5.disc, w6.disc, u1.same, u2.same, u4.same, u5.same, u6.same, w1.same, w2.same, w4.same, w5.same, w6.same, u1.own, u2.own, u4.own, u5.own, u6.own, w1.own, w2.own, w4.own, w5.own, w6.own, Bool.not_false, Bool.true_or, d0, d1, d2, d3, d4, d5, d6]
                refine (ints29_ok H u1 w1 z1 _).mono ?_
                rintro _ hc ⟨rfl, rfl⟩
                by_cases c7 : a.p = b.p
                · rw [dt c7]
                  rw [contK_some]; simp (disch := first | omega | (simp only [List.length_cons, List.length_nil, List.length_append, u8s_len]; omega)) only [go_sem, ↓reduceIte, true_and, Nat.reduceLeDiff, Nat.reduceEqDiff, Nat.reduceAdd, Nat.reduceBEq, Int.reduceEq, H.cv_5_3, t2, t3, hO.get0, hO.get1, u1.disc, u2.disc, u4.disc, u5.disc, u6.disc, w1.disc, w2.disc, w4.disc, w5.disc, w6.disc, u1.same, u2.same, u4.same, u5.same, u6.same, w1.same, w2.same, w4.same, w5.same, w6.same, u1.own, u2.own, u4.own, u5.own, u6.own, w1.own, w2.own, w4.own, w5.own, w6.own, Bool.not_false, Bool.true_or]
                  refine (logs17_ok H u2 w2 u3 w3 z2 _).mono ?_
                  rintro _ hc ⟨rfl, rfl⟩
                  by_cases c8 : a.l = b.l
                  · rw [dt c8]
                    rw [contK_some]; simp (disch := first | omega | (simp only [List.length_cons, List.length_nil, List.length_append, u8s_len]; omega)) only [go_sem, ↓reduceIte, true_and, Nat.reduceLeDiff, Nat.reduceEqDiff, Nat.reduceAdd, Nat.reduceBEq, Int.reduceEq, H.cv_5_3, t2, t3, hO.get0, hO.get1, u1.disc, u2.disc, u4.disc, u5.disc, u6.disc, w1.disc, w2.disc, w4.disc, w5.disc, w6.disc, u1.same, u2.same, u4.same, u5.same, u6.same, w1.same, w2.same, w4.same, w5.same, w6.same, u1.own, u2.own, u4.own, u5.own, u6.own, w1.own, w2.own, w4.own, w5.own, w6.own, Bool.not_false, Bool.true_or]
                    refine (ints29_ok H u4 w4 z3 _).mono ?_
                    rintro _ hc ⟨rfl, rfl⟩
                    by_cases c9 : a.y = b.y
                    · rw [dt c9]
                      rw [contK_some]; simp (disch := first | omega | (simp only [List.length_cons, List.length_nil, List.length_append, u8s_len]; omega)) only [go_sem, ↓reduceIte, true_and, Nat.reduceLeDiff, Nat.reduceEqDiff, Nat.reduceAdd, Nat.reduceBEq, Int.reduceEq, H.cv_5_3, t2, t3, hO.get0, hO.get1, u1.disc, u2.disc, u4.disc, u5.disc, u6.disc, w1.disc, w2.disc, w4.disc, w5.disc, w6.disc, u1.same, u2.same, u4.same, u5.same, u6.same, w1.same, w2.same, w4.same, w5.same, w6.same, u1.own, u2.own, u4.own, u5.own, u6.own, w1.own, w2.own, w4.own, w5.own, w6.own, Bool.not_false, Bool.true_or]
                      refine (ints29_ok H u5 w5 z4 _).mono ?_
                      rintro _ hc ⟨rfl, rfl⟩
                      by_cases c10 : a.n = b.n
                      · rw [dt c10]
                        rw [contK_some]; simp (disch := first | omega | (simp only [List.length_cons, List.length_nil, List.length_append, u8s_len]; omega)) only [go_sem, ↓reduceIte, true_and, Nat.reduceLeDiff, Nat.reduceEqDiff, Nat.reduceAdd, Nat.reduceBEq, Int.reduceEq, H.cv_5_3, t2, t3, hO.get0, hO.get1, u1.disc, u2.disc, u4.disc, u5.disc, u6.disc, w1.disc, w2.disc, w4.disc, w5.disc, w6.disc, u1.same, u2.same, u4.same, u5.same, u6.same, w1.same, w2.same, w4.same, w5.same, w6.same, u1.own, u2.own, u4.own, u5.own, u6.own, w1.own, w2.own, w4.own, w5.own, w6.own, Bool.not_false, Bool.true_or]
                        refine (ints29_ok H u6 w6 z5 _).mono ?_
                        rintro _ hc ⟨rfl, rfl⟩
                        rw [contK_some]; simp (disch := first | omega | (simp only [List.length_cons, List.length_nil, List.length_append, u8s_len]; omega)) only [go_sem, ↓reduceIte, true_and, Nat.reduceLeDiff, Nat.reduceEqDiff, Nat.reduceAdd, Nat.reduceBEq, Int.reduceEq, H.cv_5_3]
                        exact ⟨by simp [sameB, c0, c1, c2, c3, c4, c5, c6, c7, c8, c9, c10], hO.keep⟩
                      · rw [df c10]
                        rw [contK_some]; simp (disch := first | omega | (simp only [List.length_cons, List.length_nil, List.length_append, u8s_len]; omega)) only [go_sem, ↓reduceIte, true_and, Nat.reduceLeDiff, Nat.reduceEqDiff, Nat.reduceAdd, Nat.reduceBEq, Int.reduceEq, H.cv_5_3]
                        exact ⟨by simp [sameB, c10], hO.keep⟩
                    · rw [df c9]
                      rw [contK_some]; simp (disch := first | omega | (simp only [List.length_cons, List.length_nil, List.length_append, u8s_len]; omega)) only [go_sem, ↓reduceIte, true_and, Nat.reduceLeDiff, Nat.reduceEqDiff, Nat.reduceAdd, Nat.reduceBEq, Int.reduceEq, H.cv_5_3]
                      exact ⟨by simp [sameB, c9], hO.keep⟩
                  · rw [df c8]
                    rw [contK_some]; simp (disch := first | omega | (simp only [List.length_cons, List.length_nil, List.length_append, u8s_len]; omega)) only [go_sem, ↓reduceIte, true_and, Nat.reduceLeDiff, Nat.reduceEqDiff, Nat.reduceAdd, Nat.reduceBEq, Int.reduceEq, H.cv_5_3]
                    exact ⟨by simp [sameB, c8], hO.keep⟩
                · rw [df c7]
                  rw [contK_some]; simp (disch := first | omega | (simp only [List.length_cons, List.length_nil, List.length_append, u8s_len]; omega)) only [go_sem, ↓reduceIte, true_and, Nat.reduceLeDiff, Nat.reduceEqDiff, Nat.reduceAdd, Nat.reduceBEq, Int.reduceEq, H.cv_5_3]
                  exact ⟨by simp [sameB, c7], hO.keep⟩
              · have d6 : (a.clock == b.clock) = false := by simpa using c6
                simp (disch := first | omega | (simp only [List.length_cons, List.length_nil, List.length_append, u8s_len]; omega)) only [go_sem, ↓reduceIte, true_and, Nat.reduceLeDiff, Nat.reduceEqDiff, Nat.reduceAdd, Nat.reduceBEq, Int.reduceEq, H.cv_5_3, t2, t3, hO.get0, hO.get1, u1.disc, u2.disc, u4.disc, u5.disc, u6.disc, w1.disc, w2.disc, w4.disc, w5.disc, w6.disc, u1.same, u2.same, u4.same, u5.same, u6.same, w1.same, w2.same, w4.same, w5.same, w6.same, u1.own, u2.own, u4.own, u5.own, u6.own, w1.own, w2.own, w4.own, w5.own, w6.own, Bool.not_false, Bool.true_or, d0, d1, d2, d3, d4, d5, d6]
                exact ⟨by simp [sameB, c6], hO.keep⟩
            · have d5 : (a.lead == b.lead) = false := by simpa using c5
              simp (disch := first | omega | (simp only [List.length_cons, List.length_nil, List.length_append, u8s_len]; omega)) only [go_sem, ↓reduceIte, true_and, Nat.reduceLeDiff, Nat.reduceEqDiff, Nat.reduceAdd, Nat.reduceBEq, Int.reduceEq, H.cv_5_3, t2, t3, hO.get0, hO.get1, u1.disc, u2.disc, u4.disc, u5.disc, u6.disc, w1.disc, w2.disc, w4.disc, w5.disc, w6.disc, u1.same, u2.same, u4.same, u5.same, u6.same, w1.same, w2.same, w4.same, w5.same, w6.same, u1.own, u2.own, u4.own, u5.own, u6.own, w1.own, w2.own, w4.own, w5.own, w6.own, Bool.not_false, Bool.true_or, d0, d1, d2, d3, d4, d5]
              exact ⟨by simp [sameB, c5], hO.keep⟩
          · have d4 : (a.role == b.role) = false := by simpa using c4
            simp (disch := first | omega | (simp only [List.length_cons, List.length_nil, List.length_append, u8s_len]; omega)) only [go_sem, ↓reduceIte, true_and, Nat.reduceLeDiff, Nat.reduceEqDiff, Nat.reduceAdd, Nat.reduceBEq, Int.reduceEq, H.cv_5_3, t2, t3, hO.get0, hO.get1, u1.disc, u2.disc, u4.disc, u5.disc, u6.disc, w1.disc, w2.disc, w4.disc, w5.disc, w6.disc, u1.same, u2.same, u4.same, u5.same, u6.same, w1.same, w2.same, w4.same, w5.same, w6.same, u1.own, u2.own, u4.own, u5.own, u6.own, w1.own, w2.own, w4.own, w5.own, w6.own, Bool.not_false, Bool.true_or, d0, d1, d2, d3, d4]
            exact ⟨by simp [sameB, c4], hO.keep⟩
        · have d3 : (a.com == b.com) = false := by simpa using c3
          simp (disch := first | omega | (simp only [List.length_cons, List.length_nil, List.length_append, u8s_len]; omega)) only [go_sem, ↓reduceIte, true_and, Nat.reduceLeDiff, Nat.reduceEqDiff, Nat.reduceAdd, Nat.reduceBEq, Int.reduceEq, H.cv_5_3, t2, t3, hO.get0, hO.get1, u1.disc, u2.disc, u4.disc, u5.disc, u6.disc, w1.disc, w2.disc, w4.disc, w5.disc, w6.disc, u1.same, u2.same, u4.same, u5.same, u6.same, w1.same, w2.same, w4.same, w5.same, w6.same, u1.own, u2.own, u4.own, u5.own, u6.own, w1.own, w2.own, w4.own, w5.own, w6.own, Bool.not_false, Bool.true_or, d0, d1, d2, d3]
          exact ⟨by simp [sameB, c3], hO.keep⟩
      · have d2 : (a.vote == b.vote) = false := by simpa using c2
        simp (disch := first | omega | (simp only [List.length_cons, List.length_nil, List.length_append, u8s_len]; omega)) only [go_sem, ↓reduceIte, true_and, Nat.reduceLeDiff, Nat.reduceEqDiff, Nat.reduceAdd, Nat.reduceBEq, Int.reduceEq, H.cv_5_3, t2, t3, hO.get0, hO.get1, u1.disc, u2.disc, u4.disc, u5.disc, u6.disc, w1.disc, w2.disc, w4.disc, w5.disc, w6.disc, u1.same, u2.same, u4.same, u5.same, u6.same, w1.same, w2.same, w4.same, w5.same, w6.same, u1.own, u2.own, u4.own, u5.own, u6.own, w1.own, w2.own, w4.own, w5.own, w6.own, Bool.not_false, Bool.true_or, d0, d1, d2]
        exact ⟨by simp [sameB, c2], hO.keep⟩
    · have d1 : (a.T == b.T) = false := by simpa using c1
      simp (disch := first | omega | (simp only [List.length_cons, List.length_nil, List.length_append, u8s_len]; omega)) only [go_sem, ↓reduceIte, true_and, Nat.reduceLeDiff, Nat.reduceEqDiff, Nat.reduceAdd, Nat.reduceBEq, Int.reduceEq, H.cv_5_3, t2, t3, hO.get0, hO.get1, u1.disc, u2.disc, u4.disc, u5.disc, u6.disc, w1.disc, w2.disc, w4.disc, w5.disc, w6.disc, u1.same, u2.same, u4.same, u5.same, u6.same, w1.same, w2.same, w4.same, w5.same, w6.same, u1.own, u2.own, u4.own, u5.own, u6.own, w1.own, w2.own, w4.own, w5.own, w6.own, Bool.not_false, Bool.true_or, d0, d1]
      exact ⟨by simp [sameB, c1], hO.keep⟩
  · have d0 : (a.id == b.id) = false := by simpa using c0
    simp (disch := first | omega | (simp only [List.length_cons, List.length_nil, List.length_append, u8s_len]; omega)) only [go_sem, ↓reduceIte, true_and, Nat.reduceLeDiff, Nat.reduceEqDiff, Nat.reduceAdd, Nat.reduceBEq, Int.reduceEq, H.cv_5_3, t2, t3, hO.get0, hO.get1, u1.disc, u2.disc, u4.disc, u5.disc, u6.disc, w1.disc, w2.disc, w4.disc, w5.disc, w6.disc, u1.same, u2.same, u4.same, u5.same, u6.same, w1.same, w2.same, w4.same, w5.same, w6.same, u1.own, u2.own, u4.own, u5.own, u6.own, w1.own, w2.own, w4.own, w5.own, w6.own, Bool.not_false, Bool.true_or, d0]
    exact ⟨by simp [sameB, c0], hO.keep⟩
set_option maxHeartbeats 4000000 in
theorem same14_ok {cs ds : List AV} {a b : Bal} (ha : BalC cs a) (hb : BalC ds b) (z1 : a.p.length < 2 ^ 40) (z2 : a.l.length < 2 ^ 40) (z3 : a.y.length < 2 ^ 40) (z4 : a.n.length < 2 ^ 40) (z5 : a.m.length < 2 ^ 40) (h : Heap) : AWF P ann 0 14 [.ag cs, .ag ds] h fun r h' => r = .sc (.bool (sameB a b)) ∧ h' = h := by
  obtain ⟨pv, lv, yv, nv, mv, es, rfl, u1, u2, u3, u4, u5, u6⟩ := ha
  obtain ⟨pw, lw, yw, nw, mw, fs, rfl, w1, w2, w3, w4, w5, w6⟩ := hb
  refine AWF.fnPurec H.f0_14 rfl ?_
  have hO := OB.nil (h := h)
  (refine W_seq_gen fun N hN => ?_); simp (disch := first | omega | (simp only [List.length_cons, List.length_nil, List.length_append, u8s_len]; omega)) only [go_sem, ↓reduceIte, true_and, Nat.reduceLeDiff, Nat.reduceEqDiff, Nat.reduceAdd, Nat.reduceBEq, Int.reduceEq, H.cv_5_3, u1.disc, u2.disc, u4.disc, u5.disc, u6.disc, w1.disc, w2.disc, w4.disc, w5.disc, w6.disc]
  intro o2 h2 o3 h3
  refine hN _ ?_; clear hN N; refine W_ob ((hO.new h2).new h3) fun hc hO => ?_
  refine W_forget (fun t => t 2 = .op o2 0 ∧ t 3 = .op o3 0 ∧ True) (by simp [upd_at, *] <;> (first | rfl | exact ⟨rfl, rfl⟩ | exact ⟨rfl, rfl, rfl⟩ | exact ⟨rfl, rfl, rfl, rfl⟩ | exact ⟨rfl, rfl, rfl, rfl, rfl⟩)) ?_; rintro t ⟨t2, t3, -⟩
  have dfn : (AV.fn 30 [] []).dis = .fn 30 [] [] := rfl
  (refine W_seq_gen fun N hN => ?_); simp (disch := first | omega | (simp only [List.length_cons, List.length_nil, List.length_append, u8s_len]; omega)) only [go_sem, ↓reduceIte, true_and, Nat.reduceLeDiff, Nat.reduceEqDiff, Nat.reduceAdd, Nat.reduceBEq, Int.reduceEq, H.cv_5_3, dfn]
  refine hN _ ?_; clear hN N
  refine W_forget (fun t => t 2 = .op o2 0 ∧ t 3 = .op o3 0 ∧ t 5 = .fn 30 [] [] ∧ True) (by simp [upd_at, *] <;> (first | rfl | exact ⟨rfl, rfl⟩ | exact ⟨rfl, rfl, rfl⟩ | exact ⟨rfl, rfl, rfl, rfl⟩ | exact ⟨rfl, rfl, rfl, rfl, rfl⟩)) ?_; rintro t ⟨t2, t3, t5, -⟩
  by_cases c0 : a.id = b.id
  · have d0 : (a.id == b.id) = true := by simpa using c0
    by_cases c1 : a.T = b.T
    · have d1 : (a.T == b.T) = true := by simpa using c1
      by_cases c2 : a.vote = b.vote
      · have d2 : (a.vote == b.vote) = true := by simpa using c2
        by_cases c3 : a.com = b.com
        · have d3 : (a.com == b.com) = true := by simpa using c3
          by_cases c4 : a.role = b.role
          · have d4 : (a.role == b.role) = true := by simpa using c4
            by_cases c5 : a.lead = b.lead
            · have d5 : (a.lead == b.lead) = true := by simpa using c5
              by_cases c6 : a.clock = b.clock
              · have d6 : (a.clock == b.clock) = true := by simpa using c6
                simp (disch := first | omega | (simp only [List.length_cons, List.length_nil, List.length_append, u8s_len]; omega)) only [go_sem, ↓reduceIte, true_and, Nat.reduceLeDiff, Nat.reduceEqDiff, Nat.reduceAdd, Nat.reduceBEq, Int.reduceEq, H.cv_5_3, t2, t3, hO.get0, hO.get1, u1.disc, u2.disc, u4.disc, u5.disc, u6.disc, w1.disc, w2.disc, w4.disc, w5.disc, w6.disc, u1.same, u2.same, u4.same, u5.same, u6.same, w1.same, w2.same, w4.same, w5.same, w6.same, u1.own, u2.own, u4.own, u5.own, u6.own, w1.own, w2.own, w4.own, w5.own, w6.own, Bool.not_false, Bool.true_or, t5, dfn, d0, d1, d2, d3, d4, d5, d6]
                refine (ints31_ok H u1 w1 z1 _).mono ?_
                rintro _ hc ⟨rfl, rfl⟩
                by_cases c7 : a.p = b.p
                · rw [dt c7]
                  rw [contK_some]; simp (disch := first | omega | (simp only [List.length_cons, List.length_nil, List.length_append, u8s_len]; omega)) only [go_sem, ↓reduceIte, true_and, Nat.reduceLeDiff, Nat.reduceEqDiff, Nat.reduceAdd, Nat.reduceBEq, Int.reduceEq, H.cv_5_3, t2, t3, hO.get0, hO.get1, u1.disc, u2.disc, u4.disc, u5.disc, u6.disc, w1.disc, w2.disc, w4.disc, w5.disc, w6.disc, u1.same, u2.same, u4.same, u5.same, u6.same, w1.same, w2.same, w4.same, w5.same, w6.same, u1.own, u2.own, u4.own, u5.own, u6.own, w1.own, w2.own, w4.own, w5.own, w6.own, Bool.not_false, Bool.true_or, t5, dfn]
                  refine (logs32_ok H u2 w2 u3 w3 z2 _).mono ?_
                  rintro _ hc ⟨rfl, rfl⟩
                  by_cases c8 : a.l = b.l
                  · rw [dt c8]
                    rw [contK_some]; simp (disch := first | omega | (simp only [List.length_cons, List.length_nil, List.length_append, u8s_len]; omega)) only [go_sem, ↓reduceIte, true_and, Nat.reduceLeDiff, Nat.reduceEqDiff, Nat.reduceAdd, Nat.reduceBEq, Int.reduceEq, H.cv_5_3, t2, t3, hO.get0, hO.get1, u1.disc, u2.disc, u4.disc, u5.disc, u6.disc, w1.disc, w2.disc, w4.disc, w5.disc, w6.disc, u1.same, u2.same, u4.same, u5.same, u6.same, w1.same, w2.same, w4.same, w5.same, w6.same, u1.own, u2.own, u4.own, u5.own, u6.own, w1.own, w2.own, w4.own, w5.own, w6.own, Bool.not_false, Bool.true_or, t5, dfn]
                    refine (ints31_ok H u4 w4 z3 _).mono ?_
                    rintro _ hc ⟨rfl, rfl⟩
                    by_cases c9 : a.y = b.y
                    · rw [dt c9]
                      rw [contK_some]; simp (disch := first | omega | (simp only [List.length_cons, List.length_nil, List.length_append, u8s_len]; omega)) only [go_sem, ↓reduceIte, true_and, Nat.reduceLeDiff, Nat.reduceEqDiff, Nat.reduceAdd, Nat.reduceBEq, Int.reduceEq, H.cv_5_3, t2, t3, hO.get0, hO.get1, u1.disc, u2.disc, u4.disc, u5.disc, u6.disc, w1.disc, w2.disc, w4.disc, w5.disc, w6.disc, u1.same, u2.same, u4.same, u5.same, u6.same, w1.same, w2.same, w4.same, w5.same, w6.same, u1.own, u2.own, u4.own, u5.own, u6.own, w1.own, w2.own, w4.own, w5.own, w6.own, Bool.not_false, Bool.true_or, t5, dfn]
                      refine (ints31_ok H u5 w5 z4 _).mono ?_
                      rintro _ hc ⟨rfl, rfl⟩
                      by_cases c10 : a.n = b.n
                      · rw [dt c10]
                        rw [contK_some]; simp (disch := first | omega | (simp only [List.length_cons, List.length_nil, List.length_append, u8s_len]; omega)) only [go_sem, ↓reduceIte, true_and, Nat.reduceLeDiff, Nat.reduceEqDiff, Nat.reduceAdd, Nat.reduceBEq, Int.reduceEq, H.cv_5_3, t2, t3, hO.get0, hO.get1, u1.disc, u2.disc, u4.disc, u5.disc, u6.disc, w1.disc, w2.disc, w4.disc, w5.disc, w6.disc, u1.same, u2.same, u4.same, u5.same, u6.same, w1.same, w2.same, w4.same, w5.same, w6.same, u1.own, u2.own, u4.own, u5.own, u6.own, w1.own, w2.own, w4.own, w5.own, w6.own, Bool.not_false, Bool.true_or, t5, dfn]
                        refine (ints31_ok H u6 w6 z5 _).mono ?_
                        rintro _ hc ⟨rfl, rfl⟩
                        rw [contK_some]; simp (disch := first | omega | (simp only [List.length_cons, List.length_nil, List.length_append, u8s_len]; omega)) only [go_sem, ↓reduceIte, true_and, Nat.reduceLeDiff, Nat.reduceEqDiff, Nat.reduceAdd, Nat.reduceBEq, Int.reduceEq, H.cv_5_3]
                        exact ⟨by simp [sameB, c0, c1, c2, c3, c4, c5, c6, c7, c8, c9, c10], hO.keep⟩
                      · rw [df c10]
                        rw [contK_some]; simp (disch := first | omega | (simp only [List.length_cons, List.length_nil, List.length_append, u8s_len]; omega)) only [go_sem, ↓reduceIte, true_and, Nat.reduceLeDiff, Nat.reduceEqDiff, Nat.reduceAdd, Nat.reduceBEq, Int.reduceEq, H.cv_5_3]
                        exact ⟨by simp [sameB, c10], hO.keep⟩
                    · rw [df c9]
                      rw [contK_some]; simp (disch := first | omega | (simp only [List.length_cons, List.length_nil, List.length_append, u8s_len]; omega)) only [go_sem, ↓reduceIte, true_and, Nat.reduceLeDiff, Nat.reduceEqDiff, Nat.reduceAdd, Nat.reduceBEq, Int.reduceEq, H.cv_5_3]
                      exact ⟨by simp [sameB, c9], hO.keep⟩
                  · rw [df c8]
                    rw [contK_some]; simp (disch := first | omega | (simp only [List.length_cons, List.length_nil, List.length_append, u8s_len]; omega)) only [go_sem, ↓reduceIte, true_and, Nat.reduceLeDiff, Nat.reduceEqDiff, Nat.reduceAdd, Nat.reduceBEq, Int.reduceEq, H.cv_5_3]
                    exact ⟨by simp [sameB, c8], hO.keep⟩
                · rw [df c7]
                  rw [contK_some]; simp (disch := first | omega | (simp only [List.length_cons, List.length_nil, List.length_append, u8s_len]; omega)) only [go_sem, ↓reduceIte, true_and, Nat.reduceLeDiff, Nat.reduceEqDiff, Nat.reduceAdd, Nat.reduceBEq, Int.reduceEq, H.cv_5_3]
                  exact ⟨by simp [sameB, c7], hO.keep⟩
              · have d6 : (a.clock == b.clock) = false := by simpa using c6
                simp (disch := first | omega | (simp only [List.length_cons, List.length_nil, List.length_append, u8s_len]; omega)) only [go_sem, ↓reduceIte, true_and, Nat.reduceLeDiff, Nat.reduceEqDiff, Nat.reduceAdd, Nat.reduceBEq, Int.reduceEq, H.cv_5_3, t2, t3, hO.get0, hO.get1, u1.disc, u2.disc, u4.disc, u5.disc, u6.disc, w1.disc, w2.disc, w4.disc, w5.disc, w6.disc, u1.same, u2.same, u4.same, u5.same, u6.same, w1.same, w2.same, w4.same, w5.same, w6.same, u1.own, u2.own, u4.own, u5.own, u6.own, w1.own, w2.own, w4.own, w5.own, w6.own, Bool.not_false, Bool.true_or, t5, dfn, d0, d1, d2, d3, d4, d5, d6]
                exact ⟨by simp [sameB, c6], hO.keep⟩
            · have d5 : (a.lead == b.lead) = false := by simpa using c5
              simp (disch := first | omega | (simp only [List.length_cons, List.length_nil, List.length_append, u8s_len]; omega)) only [go_sem, ↓reduceIte, true_and, Nat.reduceLeDiff, Nat.reduceEqDiff, Nat.reduceAdd, Nat.reduceBEq, Int.reduceEq, H.cv_5_3, t2, t3, hO.get0, hO.get1, u1.disc, u2.disc, u4.disc, u5.disc, u6.disc, w1.disc, w2.disc, w4.disc, w5.disc, w6.disc, u1.same, u2.same, u4.same, u5.same, u6.same, w1.same, w2.same, w4.same, w5.same, w6.same, u1.own, u2.own, u4.own, u5.own, u6.own, w1.own, w2.own, w4.own, w5.own, w6.own, Bool.not_false, Bool.true_or, t5, dfn, d0, d1, d2, d3, d4, d5]
              exact ⟨by simp [sameB, c5], hO.keep⟩
          · have d4 : (a.role == b.role) = false := by simpa using c4
            simp (disch := first | omega | (simp only [List.length_cons, List.length_nil, List.length_append, u8s_len]; omega)) only [go_sem, ↓reduceIte, true_and, Nat.reduceLeDiff, Nat.reduceEqDiff, Nat.reduceAdd, Nat.reduceBEq, Int.reduceEq, H.cv_5_3, t2, t3, hO.get0, hO.get1, u1.disc, u2.disc, u4.disc, u5.disc, u6.disc, w1.disc, w2.disc, w4.disc, w5.disc, w6.disc, u1.same, u2.same, u4.same, u5.same, u6.same, w1.same, w2.same, w4.same, w5.same, w6.same, u1.own, u2.own, u4.own, u5.own, u6.own, w1.own, w2.own, w4.own, w5.own, w6.own, Bool.not_false, Bool.true_or, t5, dfn, d0, d1, d2, d3, d4]
            exact ⟨by simp [sameB, c4], hO.keep⟩
        · have d3 : (a.com == b.com) = false := by simpa using c3
          simp (disch := first | omega | (simp only [List.length_cons, List.length_nil, List.length_append, u8s_len]; omega)) only [go_sem, ↓reduceIte, true_and, Nat.reduceLeDiff, Nat.reduceEqDiff, Nat.reduceAdd, Nat.reduceBEq, Int.reduceEq, H.cv_5_3, t2, t3, hO.get0, hO.get1, u1.disc, u2.disc, u4.disc, u5.disc, u6.disc, w1.disc, w2.disc, w4.disc, w5.disc, w6.disc, u1.same, u2.same, u4.same, u5.same, u6.same, w1.same, w2.same, w4.same, w5.same, w6.same, u1.own, u2.own, u4.own, u5.own, u6.own, w1.own, w2.own, w4.own, w5.own, w6.own, Bool.not_false, Bool.true_or, t5, dfn, d0, d1, d2, d3]
          exact ⟨by simp [sameB, c3], hO.keep⟩
      · have d2 : (a.vote == b.vote) = false := by simpa using c2
        simp (disch := first | omega | (simp only [List.length_cons, List.length_nil, List.length_append, u8s_len]; omega)) only [go_sem, ↓reduceIte, true_and, Nat.reduceLeDiff, Nat.reduceEqDiff, Nat.reduceAdd, Nat.reduceBEq, Int.reduceEq, H.cv_5_3, t2, t3, hO.get0, hO.get1, u1.disc, u2.disc, u4.disc, u5.disc, u6.disc, w1.disc, w2.disc, w4.disc, w5.disc, w6.disc, u1.same, u2.same, u4.same, u5.same, u6.same, w1.same, w2.same, w4.same, w5.same, w6.same, u1.own, u2.own, u4.own, u5.own, u6.own, w1.own, w2.own, w4.own, w5.own, w6.own, Bool.not_false, Bool.true_or, t5, dfn, d0, d1, d2]
        exact ⟨by simp [sameB, c2], hO.keep⟩
    · have d1 : (a.T == b.T) = false := by simpa using c1
      simp (disch := first | omega | (simp only [List.length_cons, List.length_nil, List.length_append, u8s_len]; omega)) only [go_sem, ↓reduceIte, true_and, Nat.reduceLeDiff, Nat.reduceEqDiff, Nat.reduceAdd, Nat.reduceBEq, Int.reduceEq, H.cv_5_3, t2, t3, hO.get0, hO.get1, u1.disc, u2.disc, u4.disc, u5.disc, u6.disc, w1.disc, w2.disc, w4.disc, w5.disc, w6.disc, u1.same, u2.same, u4.same, u5.same, u6.same, w1.same, w2.same, w4.same, w5.same, w6.same, u1.own, u2.own, u4.own, u5.own, u6.own, w1.own, w2.own, w4.own, w5.own, w6.own, Bool.not_false, Bool.true_or, t5, dfn, d0, d1]
      exact ⟨by simp [sameB, c1], hO.keep⟩
  · have d0 : (a.id == b.id) = false := by simpa using c0
    simp (disch := first | omega | (simp only [List.length_cons, List.length_nil, List.length_append, u8s_len]; omega)) only [go_sem, ↓reduceIte, true_and, Nat.reduceLeDiff, Nat.reduceEqDiff, Nat.reduceAdd, Nat.reduceBEq, Int.reduceEq, H.cv_5_3, t2, t3, hO.get0, hO.get1, u1.disc, u2.disc, u4.disc, u5.disc, u6.disc, w1.disc, w2.disc, w4.disc, w5.disc, w6.disc, u1.same, u2.same, u4.same, u5.same, u6.same, w1.same, w2.same, w4.same, w5.same, w6.same, u1.own, u2.own, u4.own, u5.own, u6.own, w1.own, w2.own, w4.own, w5.own, w6.own, Bool.not_false, Bool.true_or, t5, dfn, d0]
    exact ⟨by simp [sameB, c0], hO.keep⟩
end Go.Proofs.Ytkmakibigmlfeaa
end

section
set_option linter.unusedVariables false
set_option linter.unusedSimpArgs false
namespace Go.Proofs.Ytkmakibigmlfeaa
open Go.Am
theorem mem_take_succ {l : List Int} {i : Nat} {x id : Int} (h : l[i]? = some x) : decide (id ∈ l.take (i + 1)) = (decide (id ∈ l.take i) || (x == id)) := by
  rw [List.take_add_one, h]
  by_cases c : id ∈ l.take i
  · simp [c]
  · by_cases c2 : x = id
    · subst c2; simp
    · have : ¬ id = x := fun e => c2 e.symm
      simp [c, c2, this]
variable {P : Program} (H : Has P)
include H
theorem masters_ok {v : AV} {l : List Int} {id : Int} (hv : SF 1 v (ints l)) (hl : l.length < 2 ^ 40) (h : Heap) : AWF P ann 0 27 [.sc (.int .i64 id), v] h fun r h' => r = .sc (.bool (peersB id l)) ∧ h' = h := by
  refine AWF.fnc H.f0_27 rfl ?_
  have e1 := @ints_len l
  (refine W_seq_gen fun N hN => ?_); simp (disch := first | omega | (simp only [List.length_cons, List.length_nil, List.length_append, u8s_len]; omega)) only [go_sem, ↓reduceIte, true_and, Nat.reduceLeDiff, Nat.reduceEqDiff, Nat.reduceAdd, Nat.reduceBEq, Int.reduceEq, H.cv_5_3]
  refine hN _ ?_; clear hN N
  (refine W_seq_gen fun N hN => ?_); simp (disch := first | omega | (simp only [List.length_cons, List.length_nil, List.length_append, u8s_len]; omega)) only [go_sem, ↓reduceIte, true_and, Nat.reduceLeDiff, Nat.reduceEqDiff, Nat.reduceAdd, Nat.reduceBEq, Int.reduceEq, H.cv_5_3]
  refine hN _ ?_; clear hN N
  (refine W_seq_gen fun M hM => ?_)
  (refine W_seq_gen fun N hN => ?_); simp (disch := first | omega | (simp only [List.length_cons, List.length_nil, List.length_append, u8s_len]; omega)) only [go_sem, ↓reduceIte, true_and, Nat.reduceLeDiff, Nat.reduceEqDiff, Nat.reduceAdd, Nat.reduceBEq, Int.reduceEq, H.cv_5_3]
  refine hN _ ?_; clear hN N
  simp (disch := first | omega | (simp only [List.length_cons, List.length_nil, List.length_append, u8s_len]; omega)) only [go_sem, ↓reduceIte, true_and, Nat.reduceLeDiff, Nat.reduceEqDiff, Nat.reduceAdd, Nat.reduceBEq, Int.reduceEq, H.cv_5_3]
  refine AW_loopN (fun m t h' => h' = h ∧ ∃ i, m = l.length - i ∧ i ≤ l.length ∧ t 0 = .sc (.int .i64 id) ∧ t 1 = v ∧ t 5 = .sc (.bool (decide (id ∈ l.take i))) ∧ t 6 = .sc (.int .i64 (i : Nat)) ∧ ∀ j, j < i → bP l j = false)
    (n := l.length) ⟨rfl, 0, rfl, Nat.zero_le _, rfl, rfl, by simp [upd_at], rfl, fun j h => by omega⟩ ?_
  rintro m t h' ⟨rfl, i, rfl, hi, t0, t1, t5, t6, hno⟩
  rcases Nat.lt_or_ge i l.length with hlt | hge
  · have g0 := ints_get hlt
    have gx : l[i]? = some l[i] := List.getElem?_eq_getElem hlt
    have gd : l.getD i 0 = l[i] := by simp [hlt]
    generalize l[i] = x at g0 gd gx
    (refine W_seq_gen fun N hN => ?_); simp (disch := first | omega | (simp only [List.length_cons, List.length_nil, List.length_append, u8s_len]; omega)) only [go_sem, ↓reduceIte, true_and, Nat.reduceLeDiff, Nat.reduceEqDiff, Nat.reduceAdd, Nat.reduceBEq, Int.reduceEq, H.cv_5_3, t1, t6, hv.same, hv.disc, hv.sl.len, e1, hlt]
    refine hN _ ?_; clear hN N
    (refine W_seq_gen fun R hR => ?_)
    rw [W_block]
    have bad : bP l i = true → peersB id l = false := fun q => by simp [peersB, goodP, good_false hlt q]
    (refine W_seq_gen fun N hN => ?_)
    by_cases c1 : x < 1
    · have d1 : decide (x < ((1 : Nat) : Int)) = true := by simpa using c1
      simp (disch := first | omega | (simp only [List.length_cons, List.length_nil, List.length_append, u8s_len]; omega)) only [go_sem, ↓reduceIte, true_and, Nat.reduceLeDiff, Nat.reduceEqDiff, Nat.reduceAdd, Nat.reduceBEq, Int.reduceEq, H.cv_5_3, t1, t6, hv.same, hv.disc, hv.sl.ia, g0, d1]
      rw [bad (by unfold bP; rw [gd]; simp [c1])]
    · have d1 : decide (x < ((1 : Nat) : Int)) = false := by simpa using c1
      by_cases c2 : 999 < x
      · have d2 : decide (x > ((999 : Nat) : Int)) = true := by simpa using c2
        simp (disch := first | omega | (simp only [List.length_cons, List.length_nil, List.length_append, u8s_len]; omega)) only [go_sem, ↓reduceIte, true_and, Nat.reduceLeDiff, Nat.reduceEqDiff, Nat.reduceAdd, Nat.reduceBEq, Int.reduceEq, H.cv_5_3, t1, t6, hv.same, hv.disc, hv.sl.ia, g0, d1, d2]
        rw [bad (by unfold bP; rw [gd]; simp [c2])]
      · have d2 : decide (x > ((999 : Nat) : Int)) = false := by simpa using c2
        by_cases c3 : i = 0
        · have d3 : decide (0 < i) = false := by simp [c3]
          simp (disch := first | omega | (simp only [List.length_cons, List.length_nil, List.length_append, u8s_len]; omega)) only [go_sem, ↓reduceIte, true_and, Nat.reduceLeDiff, Nat.reduceEqDiff, Nat.reduceAdd, Nat.reduceBEq, Int.reduceEq, H.cv_5_3, t1, t6, hv.same, hv.disc, hv.sl.ia, g0, d1, d2, d3]
          refine hN _ ?_; clear hN N
          refine W_forget (fun t => t 0 = .sc (.int .i64 id) ∧ t 1 = v ∧ t 5 = .sc (.bool (decide (id ∈ l.take i))) ∧ t 6 = .sc (.int .i64 (i : Nat)) ∧ True) (by simp [upd_at, *] <;> (first | rfl | exact ⟨rfl, rfl⟩ | exact ⟨rfl, rfl, rfl⟩ | exact ⟨rfl, rfl, rfl, rfl⟩ | exact ⟨rfl, rfl, rfl, rfl, rfl⟩)) ?_; rintro t ⟨t0, t1, t5, t6, -⟩
          clear bad
          cases q : decide (id ∈ l.take i) with
          | true =>
            rw [q] at t5
            simp (disch := first | omega | (simp only [List.length_cons, List.length_nil, List.length_append, u8s_len]; omega)) only [go_sem, ↓reduceIte, true_and, Nat.reduceLeDiff, Nat.reduceEqDiff, Nat.reduceAdd, Nat.reduceBEq, Int.reduceEq, H.cv_5_3, t5]
            refine hR _ ?_; clear hR R
            simp (disch := first | omega | (simp only [List.length_cons, List.length_nil, List.length_append, u8s_len]; omega)) only [go_sem, ↓reduceIte, true_and, Nat.reduceLeDiff, Nat.reduceEqDiff, Nat.reduceAdd, Nat.reduceBEq, Int.reduceEq, H.cv_5_3, t6, nat_add]
            refine ⟨l.length - (i + 1), by omega, i + 1, rfl, by omega, by simp [upd_at, t0], by simp [upd_at, t1], ?_, by simp [upd_at], fun j hj => by
              rcases Nat.lt_or_ge j i with q | q
              · exact hno j q
              · obtain rfl : j = i := by omega
                exact (by unfold bP; rw [gd]; simp [c1, c2, c3])⟩
            rw [mem_take_succ gx, q]
            simp [upd_at]
          | false =>
            rw [q] at t5
            by_cases c9 : x = id
            · have d9 : (x == id) = true := by simpa using c9
              simp (disch := first | omega | (simp only [List.length_cons, List.length_nil, List.length_append, u8s_len]; omega)) only [go_sem, ↓reduceIte, true_and, Nat.reduceLeDiff, Nat.reduceEqDiff, Nat.reduceAdd, Nat.reduceBEq, Int.reduceEq, H.cv_5_3, t0, t1, t5, t6, hv.same, hv.disc, hv.sl.ia, g0, d9]
              refine hR _ ?_; clear hR R
              simp (disch := first | omega | (simp only [List.length_cons, List.length_nil, List.length_append, u8s_len]; omega)) only [go_sem, ↓reduceIte, true_and, Nat.reduceLeDiff, Nat.reduceEqDiff, Nat.reduceAdd, Nat.reduceBEq, Int.reduceEq, H.cv_5_3, t6, nat_add]
              refine ⟨l.length - (i + 1), by omega, i + 1, rfl, by omega, by simp [upd_at, t0], by simp [upd_at, t1], ?_, by simp [upd_at], fun j hj => by
                rcases Nat.lt_or_ge j i with q | q
                · exact hno j q
                · obtain rfl : j = i := by omega
                  exact (by unfold bP; rw [gd]; simp [c1, c2, c3])⟩
              rw [mem_take_succ gx, q, d9]
              simp [upd_at]
            · have d9 : (x == id) = false := by simpa using c9
              simp (disch := first | omega | (simp only [List.length_cons, List.length_nil, List.length_append, u8s_len]; omega)) only [go_sem, ↓reduceIte, true_and, Nat.reduceLeDiff, Nat.reduceEqDiff, Nat.reduceAdd, Nat.reduceBEq, Int.reduceEq, H.cv_5_3, t0, t1, t5, t6, hv.same, hv.disc, hv.sl.ia, g0, d9]
              refine hR _ ?_; clear hR R
              simp (disch := first | omega | (simp only [List.length_cons, List.length_nil, List.length_append, u8s_len]; omega)) only [go_sem, ↓reduceIte, true_and, Nat.reduceLeDiff, Nat.reduceEqDiff, Nat.reduceAdd, Nat.reduceBEq, Int.reduceEq, H.cv_5_3, t6, nat_add]
              refine ⟨l.length - (i + 1), by omega, i + 1, rfl, by omega, by simp [upd_at, t0], by simp [upd_at, t1], ?_, by simp [upd_at], fun j hj => by
                rcases Nat.lt_or_ge j i with q | q
                · exact hno j q
                · obtain rfl : j = i := by omega
                  exact (by unfold bP; rw [gd]; simp [c1, c2, c3])⟩
              rw [mem_take_succ gx, q, d9]
              simp [upd_at]
        · have d3 : decide (0 < i) = true := by simp; omega
          have hp := nat_pred (n := i) (by omega) (by omega)
          have g1 := ints_get (l := l) (i := i - 1) (by omega)
          have gd1 : l.getD (i - 1) 0 = l[i - 1] := by simp [show i - 1 < l.length by omega]
          generalize l[i - 1] = y at g1 gd1
          by_cases c4 : x ≤ y
          · have d4 : decide (y ≥ x) = true := by simpa using c4
            simp (disch := first | omega | (simp only [List.length_cons, List.length_nil, List.length_append, u8s_len]; omega)) only [go_sem, ↓reduceIte, true_and, Nat.reduceLeDiff, Nat.reduceEqDiff, Nat.reduceAdd, Nat.reduceBEq, Int.reduceEq, H.cv_5_3, t1, t6, hv.same, hv.disc, hv.sl.ia, g0, g1, hp, d1, d2, d3, d4]
            rw [bad (by unfold bP; rw [gd, gd1]; simp [c4, d3])]
          · have d4 : decide (y ≥ x) = false := by simpa using c4
            simp (disch := first | omega | (simp only [List.length_cons, List.length_nil, List.length_append, u8s_len]; omega)) only [go_sem, ↓reduceIte, true_and, Nat.reduceLeDiff, Nat.reduceEqDiff, Nat.reduceAdd, Nat.reduceBEq, Int.reduceEq, H.cv_5_3, t1, t6, hv.same, hv.disc, hv.sl.ia, g0, g1, hp, d1, d2, d3, d4]
            refine hN _ ?_; clear hN N
            refine W_forget (fun t => t 0 = .sc (.int .i64 id) ∧ t 1 = v ∧ t 5 = .sc (.bool (decide (id ∈ l.take i))) ∧ t 6 = .sc (.int .i64 (i : Nat)) ∧ True) (by simp [upd_at, *] <;> (first | rfl | exact ⟨rfl, rfl⟩ | exact ⟨rfl, rfl, rfl⟩ | exact ⟨rfl, rfl, rfl, rfl⟩ | exact ⟨rfl, rfl, rfl, rfl, rfl⟩)) ?_; rintro t ⟨t0, t1, t5, t6, -⟩
            clear bad
            cases q : decide (id ∈ l.take i) with
            | true =>
              rw [q] at t5
              simp (disch := first | omega | (simp only [List.length_cons, List.length_nil, List.length_append, u8s_len]; omega)) only [go_sem, ↓reduceIte, true_and, Nat.reduceLeDiff, Nat.reduceEqDiff, Nat.reduceAdd, Nat.reduceBEq, Int.reduceEq, H.cv_5_3, t5]
              refine hR _ ?_; clear hR R
              simp (disch := first | omega | (simp only [List.length_cons, List.length_nil, List.length_append, u8s_len]; omega)) only [go_sem, ↓reduceIte, true_and, Nat.reduceLeDiff, Nat.reduceEqDiff, Nat.reduceAdd, Nat.reduceBEq, Int.reduceEq, H.cv_5_3, t6, nat_add]
              refine ⟨l.length - (i + 1), by omega, i + 1, rfl, by omega, by simp [upd_at, t0], by simp [upd_at, t1], ?_, by simp [upd_at], fun j hj => by
                rcases Nat.lt_or_ge j i with q | q
                · exact hno j q
                · obtain rfl : j = i := by omega
                  exact (by unfold bP; rw [gd, gd1]; simp [c1, c2, c4])⟩
              rw [mem_take_succ gx, q]
              simp [upd_at]
            | false =>
              rw [q] at t5
              by_cases c9 : x = id
              · have d9 : (x == id) = true := by simpa using c9
                simp (disch := first | omega | (simp only [List.length_cons, List.length_nil, List.length_append, u8s_len]; omega)) only [go_sem, ↓reduceIte, true_and, Nat.reduceLeDiff, Nat.reduceEqDiff, Nat.reduceAdd, Nat.reduceBEq, Int.reduceEq, H.cv_5_3, t0, t1, t5, t6, hv.same, hv.disc, hv.sl.ia, g0, d9]
                refine hR _ ?_; clear hR R
                simp (disch := first | omega | (simp only [List.length_cons, List.length_nil, List.length_append, u8s_len]; omega)) only [go_sem, ↓reduceIte, true_and, Nat.reduceLeDiff, Nat.reduceEqDiff, Nat.reduceAdd, Nat.reduceBEq, Int.reduceEq, H.cv_5_3, t6, nat_add]
                refine ⟨l.length - (i + 1), by omega, i + 1, rfl, by omega, by simp [upd_at, t0], by simp [upd_at, t1], ?_, by simp [upd_at], fun j hj => by
                  rcases Nat.lt_or_ge j i with q | q
                  · exact hno j q
                  · obtain rfl : j = i := by omega
                    exact (by unfold bP; rw [gd, gd1]; simp [c1, c2, c4])⟩
                rw [mem_take_succ gx, q, d9]
                simp [upd_at]
              · have d9 : (x == id) = false := by simpa using c9
                simp (disch := first | omega | (simp only [List.length_cons, List.length_nil, List.length_append, u8s_len]; omega)) only [go_sem, ↓reduceIte, true_and, Nat.reduceLeDiff, Nat.reduceEqDiff, Nat.reduceAdd, Nat.reduceBEq, Int.reduceEq, H.cv_5_3, t0, t1, t5, t6, hv.same, hv.disc, hv.sl.ia, g0, d9]
                refine hR _ ?_; clear hR R
                simp (disch := first | omega | (simp only [List.length_cons, List.length_nil, List.length_append, u8s_len]; omega)) only [go_sem, ↓reduceIte, true_and, Nat.reduceLeDiff, Nat.reduceEqDiff, Nat.reduceAdd, Nat.reduceBEq, Int.reduceEq, H.cv_5_3, t6, nat_add]
                refine ⟨l.length - (i + 1), by omega, i + 1, rfl, by omega, by simp [upd_at, t0], by simp [upd_at, t1], ?_, by simp [upd_at], fun j hj => by
                  rcases Nat.lt_or_ge j i with q | q
                  · exact hno j q
                  · obtain rfl : j = i := by omega
                    exact (by unfold bP; rw [gd, gd1]; simp [c1, c2, c4])⟩
                rw [mem_take_succ gx, q, d9]
                simp [upd_at]
  · obtain rfl : i = l.length := by omega
    (refine W_seq_gen fun N hN => ?_); simp (disch := first | omega | (simp only [List.length_cons, List.length_nil, List.length_append, u8s_len]; omega)) only [go_sem, ↓reduceIte, true_and, Nat.reduceLeDiff, Nat.reduceEqDiff, Nat.reduceAdd, Nat.reduceBEq, Int.reduceEq, H.cv_5_3, t1, t6, hv.same, hv.disc, hv.sl.len, e1, Nat.lt_irrefl]
    refine hM _ ?_; clear hN N hM M
    have hgood : goodP l = true := by simp [goodP, good_true hno]
    rw [List.take_length] at t5
    by_cases c6 : id ∈ l
    · rw [dt c6] at t5
      by_cases c5 : l.length ≤ 5
      · have d5 : decide (l.length ≤ 5) = true := by simpa using c5
        simp (disch := first | omega | (simp only [List.length_cons, List.length_nil, List.length_append, u8s_len]; omega)) only [go_sem, ↓reduceIte, true_and, Nat.reduceLeDiff, Nat.reduceEqDiff, Nat.reduceAdd, Nat.reduceBEq, Int.reduceEq, H.cv_5_3, t1, t5, hv.same, hv.disc, hv.sl.len, e1, d5]
        simp [peersB, hgood, c5, c6]
      · have d5 : decide (l.length ≤ 5) = false := by simpa using c5
        simp (disch := first | omega | (simp only [List.length_cons, List.length_nil, List.length_append, u8s_len]; omega)) only [go_sem, ↓reduceIte, true_and, Nat.reduceLeDiff, Nat.reduceEqDiff, Nat.reduceAdd, Nat.reduceBEq, Int.reduceEq, H.cv_5_3, t1, t5, hv.same, hv.disc, hv.sl.len, e1, d5]
        simp [peersB, d5]
    · rw [df c6] at t5
      simp (disch := first | omega | (simp only [List.length_cons, List.length_nil, List.length_append, u8s_len]; omega)) only [go_sem, ↓reduceIte, true_and, Nat.reduceLeDiff, Nat.reduceEqDiff, Nat.reduceAdd, Nat.reduceBEq, Int.reduceEq, H.cv_5_3, t5]
      simp [peersB, c6]
theorem at_ok {v : AV} {l : List Int} {x : Int} (hv : SF 1 v (ints l)) (hl : l.length < 2 ^ 40) (h : Heap) :
    AWF P ann 0 28 [.ag [.sc (.int .i64 ((0 : Nat) : Int)), v, .sc (.int .i64 ((0 : Nat) : Int)), .sc (.int .i64 ((0 : Nat) : Int)), .sc (.slice none 0 0), .sc (.int .i64 ((0 : Nat) : Int)), .sc (.int .i64 ((0 : Nat) : Int)), .sc (.int .i64 ((0 : Nat) : Int)), .sc (.slice none 0 0), .sc (.int .i64 ((0 : Nat) : Int)), .sc (.slice none 0 0), .sc (.slice none 0 0)], .sc (.int .i64 x)] h
      fun r h' => (∃ z : Int, r = .sc (.int .i64 z) ∧ decide (z < ((0 : Nat) : Int)) = decide (x ∉ l)) ∧ h' = h := by
  refine AWF.fnPurec H.f0_28 rfl ?_
  have e1 := @ints_len l
  have hO := OB.nil (h := h)
  (refine W_seq_gen fun N hN => ?_); simp (disch := first | omega | (simp only [List.length_cons, List.length_nil, List.length_append, u8s_len]; omega)) only [go_sem, ↓reduceIte, true_and, Nat.reduceLeDiff, Nat.reduceEqDiff, Nat.reduceAdd, Nat.reduceBEq, Int.reduceEq, H.cv_5_3, hv.disc]
  intro o2 h2
  refine hN _ ?_; clear hN N; refine W_ob (hO.new h2) fun hc hO => ?_
  refine W_forget (fun t => t 1 = .sc (.int .i64 x) ∧ t 2 = .op o2 0 ∧ True) (by simp [upd_at, *] <;> (first | rfl | exact ⟨rfl, rfl⟩ | exact ⟨rfl, rfl, rfl⟩ | exact ⟨rfl, rfl, rfl, rfl⟩ | exact ⟨rfl, rfl, rfl, rfl, rfl⟩)) ?_; rintro t ⟨t1, t2, -⟩
  have ho := hO.get0
  have hk := hO.keep
  (refine W_seq_gen fun M hM => ?_)
  (refine W_seq_gen fun N hN => ?_); simp (disch := first | omega | (simp only [List.length_cons, List.length_nil, List.length_append, u8s_len]; omega)) only [go_sem, ↓reduceIte, true_and, Nat.reduceLeDiff, Nat.reduceEqDiff, Nat.reduceAdd, Nat.reduceBEq, Int.reduceEq, H.cv_5_3]
  refine hN _ ?_; clear hN N
  simp (disch := first | omega | (simp only [List.length_cons, List.length_nil, List.length_append, u8s_len]; omega)) only [go_sem, ↓reduceIte, true_and, Nat.reduceLeDiff, Nat.reduceEqDiff, Nat.reduceAdd, Nat.reduceBEq, Int.reduceEq, H.cv_5_3]
  refine AW_loopN (fun m t h' => h' = hc ∧ ∃ i, m = l.length - i ∧ i ≤ l.length ∧ t 1 = .sc (.int .i64 x) ∧ t 2 = .op o2 0 ∧ t 5 = .sc (.int .i64 (i : Nat)) ∧ ∀ (j : Nat) (hj : j < l.length), j < i → l[j] ≠ x)
    (n := l.length) ⟨rfl, 0, rfl, Nat.zero_le _, by simp [upd_at, t1], by simp [upd_at, t2], by simp [upd_at], fun j hj h => by omega⟩ ?_
  clear t1 t2 t
  rintro m t h' ⟨rfl, i, rfl, hi, t1, t2, t5, hno⟩
  rcases Nat.lt_or_ge i l.length with hlt | hge
  · have g0 := ints_get hlt
    (refine W_seq_gen fun N hN => ?_); simp (disch := first | omega | (simp only [List.length_cons, List.length_nil, List.length_append, u8s_len]; omega)) only [go_sem, ↓reduceIte, true_and, Nat.reduceLeDiff, Nat.reduceEqDiff, Nat.reduceAdd, Nat.reduceBEq, Int.reduceEq, H.cv_5_3, t2, t5, ho, hv.same, hv.disc, hv.sl.len, e1, hlt]
    refine hN _ ?_; clear hN N
    (refine W_seq_gen fun R hR => ?_)
    rw [W_block]
    by_cases c : l[i] = x
    · have d : (l[i] == x) = true := by simp [c]
      simp (disch := first | omega | (simp only [List.length_cons, List.length_nil, List.length_append, u8s_len]; omega)) only [go_sem, ↓reduceIte, true_and, Nat.reduceLeDiff, Nat.reduceEqDiff, Nat.reduceAdd, Nat.reduceBEq, Int.reduceEq, H.cv_5_3, t1, t2, t5, ho, hv.same, hv.disc, hv.sl.ia, g0, d]
      have hm : x ∈ l := c ▸ List.getElem_mem hlt
      exact ⟨⟨_, rfl, by rw [df (show ¬ ((i : Nat) : Int) < ((0 : Nat) : Int) by omega), df (fun h => h hm)]⟩, hk⟩
    · have d : (l[i] == x) = false := by simp [c]
      simp (disch := first | omega | (simp only [List.length_cons, List.length_nil, List.length_append, u8s_len]; omega)) only [go_sem, ↓reduceIte, true_and, Nat.reduceLeDiff, Nat.reduceEqDiff, Nat.reduceAdd, Nat.reduceBEq, Int.reduceEq, H.cv_5_3, t1, t2, t5, ho, hv.same, hv.disc, hv.sl.ia, g0, d]
      refine hR _ ?_; clear hR R
      simp (disch := first | omega | (simp only [List.length_cons, List.length_nil, List.length_append, u8s_len]; omega)) only [go_sem, ↓reduceIte, true_and, Nat.reduceLeDiff, Nat.reduceEqDiff, Nat.reduceAdd, Nat.reduceBEq, Int.reduceEq, H.cv_5_3, t5, nat_add]
      exact ⟨l.length - (i + 1), by omega, i + 1, rfl, by omega, by simp [upd_at, t1], by simp [upd_at, t2], by simp [upd_at], fun j hj hlt' => by
        rcases Nat.lt_or_ge j i with q | q
        · exact hno j hj q
        · obtain rfl : j = i := by omega
          exact c⟩
  · obtain rfl : i = l.length := by omega
    (refine W_seq_gen fun N hN => ?_); simp (disch := first | omega | (simp only [List.length_cons, List.length_nil, List.length_append, u8s_len]; omega)) only [go_sem, ↓reduceIte, true_and, Nat.reduceLeDiff, Nat.reduceEqDiff, Nat.reduceAdd, Nat.reduceBEq, Int.reduceEq, H.cv_5_3, t2, t5, ho, hv.same, hv.disc, hv.sl.len, e1, Nat.lt_irrefl]
    refine hM _ ?_; clear hN N hM M
    have hf : x ∉ l := fun hm => by
      obtain ⟨j, hj, e⟩ := List.getElem_of_mem hm
      exact hno j hj hj e
    simp (disch := first | omega | (simp only [List.length_cons, List.length_nil, List.length_append, u8s_len]; omega)) only [go_sem, ↓reduceIte, true_and, Nat.reduceLeDiff, Nat.reduceEqDiff, Nat.reduceAdd, Nat.reduceBEq, Int.reduceEq, H.cv_5_3]
    exact ⟨⟨_, rfl, by simp [hf]⟩, hk⟩
def GuR (b : Prop) (r : AV) : Prop := ∃ x : Bool, r = .sc (.bool x) ∧ (x = true → b)
theorem light_ok {v : AV} {es : List (List AV)} {l : List (Int × List UInt8)} (hv : SF 2 v es) (hL : RR LgR es l) (hl : l.length < 2 ^ 60) (h : Heap) :
    AWF P ann 0 11 [v] h fun r h' => GuR (l.length ≤ 600 ∧ ∀ x ∈ l, x.2.length ≤ 3000) r ∧ h' = h := by
  refine AWF.fnc H.f0_11 rfl ?_
  have e1 := hL.len
  (refine W_seq_gen fun N hN => ?_); simp (disch := first | omega | (simp only [List.length_cons, List.length_nil, List.length_append, u8s_len]; omega)) only [go_sem, ↓reduceIte, true_and, Nat.reduceLeDiff, Nat.reduceEqDiff, Nat.reduceAdd, Nat.reduceBEq, Int.reduceEq, H.cv_5_3]
  refine hN _ ?_; clear hN N
  (refine W_seq_gen fun N hN => ?_); simp (disch := first | omega | (simp only [List.length_cons, List.length_nil, List.length_append, u8s_len]; omega)) only [go_sem, ↓reduceIte, true_and, Nat.reduceLeDiff, Nat.reduceEqDiff, Nat.reduceAdd, Nat.reduceBEq, Int.reduceEq, H.cv_5_3]
  refine hN _ ?_; clear hN N
  (refine W_seq_gen fun M hM => ?_)
  (refine W_seq_gen fun N hN => ?_); simp (disch := first | omega | (simp only [List.length_cons, List.length_nil, List.length_append, u8s_len]; omega)) only [go_sem, ↓reduceIte, true_and, Nat.reduceLeDiff, Nat.reduceEqDiff, Nat.reduceAdd, Nat.reduceBEq, Int.reduceEq, H.cv_5_3]
  refine hN _ ?_; clear hN N
  simp (disch := first | omega | (simp only [List.length_cons, List.length_nil, List.length_append, u8s_len]; omega)) only [go_sem, ↓reduceIte, true_and, Nat.reduceLeDiff, Nat.reduceEqDiff, Nat.reduceAdd, Nat.reduceBEq, Int.reduceEq, H.cv_5_3]
  refine AW_loopN (fun n t h' => h' = h ∧ ∃ i k, n = l.length - i ∧ i ≤ l.length ∧ k ≤ 3000 ∧ t 0 = v ∧ t 3 = .sc (.int .i64 (k : Nat)) ∧ t 4 = .sc (.int .i64 (i : Nat)) ∧ ∀ (j : Nat) (hj : j < l.length), j < i → l[j].2.length ≤ 3000)
    (n := l.length) ⟨rfl, 0, 0, rfl, Nat.zero_le _, Nat.zero_le _, rfl, rfl, rfl, fun j hj h => by omega⟩ ?_
  rintro n t h' ⟨rfl, i, k, rfl, hi, hk, t0, t3, t4, hno⟩
  have fin : (i < l.length → ¬ i < 600) → ∀ t : Nat → AV, t 0 = v → M ⟨t, h'⟩ := by
    clear t0 t3 t4
    intro hend t t0
    refine hM _ ?_; clear hM M
    simp (disch := first | omega | (simp only [List.length_cons, List.length_nil, List.length_append, u8s_len]; omega)) only [go_sem, ↓reduceIte, true_and, Nat.reduceLeDiff, Nat.reduceEqDiff, Nat.reduceAdd, Nat.reduceBEq, Int.reduceEq, H.cv_5_3, t0, hv.same, hv.disc, hv.sl.len, e1]
    refine ⟨_, rfl, fun hx => ?_⟩
    have hle : l.length ≤ 600 := of_decide_eq_true hx
    refine ⟨hle, fun x hx => ?_⟩
    obtain ⟨j, hj, rfl⟩ := List.getElem_of_mem hx
    exact hno j hj (by omega)
  rcases Nat.lt_or_ge i l.length with hlt | hge
  · by_cases c : i < 600
    · obtain ⟨_, g0, w, rfl, hw⟩ := hL.lt (i := i) (by omega)
      have lw := fun (t : Nat → AV) (h : Heap) => hw.sl.len (t := t) (h := h)
      simp only [u8s_len] at lw
      clear fin
      have dl : decide (i < es.length) = true := by simp; omega
      have d6 : decide (i < 600) = true := by simpa using c
      (refine W_seq_gen fun N hN => ?_); simp (disch := first | omega | (simp only [List.length_cons, List.length_nil, List.length_append, u8s_len]; omega)) only [go_sem, ↓reduceIte, true_and, Nat.reduceLeDiff, Nat.reduceEqDiff, Nat.reduceAdd, Nat.reduceBEq, Int.reduceEq, H.cv_5_3, t0, t4, hv.same, hv.disc, hv.sl.len, dl, d6]
      refine hN _ ?_; clear hN N
      (refine W_seq_gen fun N hN => ?_)
      rw [W_block]
      have hs : IntKind.wrap .i64 (((3000 : Nat) : Int) - ((k : Nat) : Int)) = ((3000 - k : Nat) : Int) := by
        have : ((3000 : Nat) : Int) - ((k : Nat) : Int) = ((3000 - k : Nat) : Int) := by omega
        rw [this]
        exact wrap_i64u (by omega) (by omega)
      (refine W_seq_gen fun S hS => ?_)
      by_cases q : 3000 - k < l[i].2.length
      · have dq : decide (3000 - k < l[i].2.length) = true := by simpa using q
        simp (disch := first | omega | (simp only [List.length_cons, List.length_nil, List.length_append, u8s_len]; omega)) only [go_sem, ↓reduceIte, true_and, Nat.reduceLeDiff, Nat.reduceEqDiff, Nat.reduceAdd, Nat.reduceBEq, Int.reduceEq, H.cv_5_3, t0, t3, t4, hv.same, hv.disc, hv.sl.ia, g0, hw.same, hw.disc, lw, hs, dq]
        exact ⟨_, rfl, fun h => by cases h⟩
      · have dq : decide (3000 - k < l[i].2.length) = false := by simpa using q
        simp (disch := first | omega | (simp only [List.length_cons, List.length_nil, List.length_append, u8s_len]; omega)) only [go_sem, ↓reduceIte, true_and, Nat.reduceLeDiff, Nat.reduceEqDiff, Nat.reduceAdd, Nat.reduceBEq, Int.reduceEq, H.cv_5_3, t0, t3, t4, hv.same, hv.disc, hv.sl.ia, g0, hw.same, hw.disc, lw, hs, dq]
        refine hS _ ?_; clear hS S
        simp (disch := first | omega | (simp only [List.length_cons, List.length_nil, List.length_append, u8s_len]; omega)) only [go_sem, ↓reduceIte, true_and, Nat.reduceLeDiff, Nat.reduceEqDiff, Nat.reduceAdd, Nat.reduceBEq, Int.reduceEq, H.cv_5_3, t0, t3, t4, hv.same, hv.disc, hv.sl.ia, g0, hw.same, hw.disc, lw, nat_add]
        refine hN _ ?_; clear hN N
        simp (disch := first | omega | (simp only [List.length_cons, List.length_nil, List.length_append, u8s_len]; omega)) only [go_sem, ↓reduceIte, true_and, Nat.reduceLeDiff, Nat.reduceEqDiff, Nat.reduceAdd, Nat.reduceBEq, Int.reduceEq, H.cv_5_3, t4, nat_add]
        exact ⟨l.length - (i + 1), by omega, i + 1, k + l[i].2.length, rfl, by omega, by omega, by simp [upd_at, t0], by simp [upd_at], by simp [upd_at], fun j hj hlt' => by
          rcases Nat.lt_or_ge j i with p | p
          · exact hno j hj p
          · obtain rfl : j = i := by omega
            omega⟩
    · have dl : decide (i < es.length) = true := by simp; omega
      have d6 : decide (i < 600) = false := by simpa using c
      (refine W_seq_gen fun N hN => ?_); simp (disch := first | omega | (simp only [List.length_cons, List.length_nil, List.length_append, u8s_len]; omega)) only [go_sem, ↓reduceIte, true_and, Nat.reduceLeDiff, Nat.reduceEqDiff, Nat.reduceAdd, Nat.reduceBEq, Int.reduceEq, H.cv_5_3, t0, t4, hv.same, hv.disc, hv.sl.len, dl, d6]
      clear hN N
      exact fin (fun _ => c) _ (by simp [upd_at, t0])
  · have dl : decide (i < es.length) = false := by simp; omega
    (refine W_seq_gen fun N hN => ?_); simp (disch := first | omega | (simp only [List.length_cons, List.length_nil, List.length_append, u8s_len]; omega)) only [go_sem, ↓reduceIte, true_and, Nat.reduceLeDiff, Nat.reduceEqDiff, Nat.reduceAdd, Nat.reduceBEq, Int.reduceEq, H.cv_5_3, t0, t4, hv.same, hv.disc, hv.sl.len, dl]
    clear hN N
    exact fin (fun h => by omega) _ (by simp [upd_at, t0])
end Go.Proofs.Ytkmakibigmlfeaa
end

section
set_option linter.unusedVariables false
set_option linter.unusedSimpArgs false
namespace Go.Proofs.Ytkmakibigmlfeaa
open Go.Am
def RestW (id : Int) (pv : AV) (T vote : Int) (lv : AV) (b : Bool) : AV :=
  if b then .tu [.ag [.sc (.int .i64 id), pv, .sc (.int .i64 T), .sc (.int .i64 vote), lv, .sc (.int .i64 ((0 : Nat) : Int)), .sc (.int .i64 ((1 : Nat) : Int)), .sc (.int .i64 ((0 : Nat) : Int)), .sc (.slice none 0 0), .sc (.int .i64 ((0 : Nat) : Int)), .sc (.slice none 0 0), .sc (.slice none 0 0)], .sc (.bool true)]
  else .tu [.ag [.sc (.int .i64 ((0 : Nat) : Int)), .sc (.slice none 0 0), .sc (.int .i64 ((0 : Nat) : Int)), .sc (.int .i64 ((0 : Nat) : Int)), .sc (.slice none 0 0), .sc (.int .i64 ((0 : Nat) : Int)), .sc (.int .i64 ((0 : Nat) : Int)), .sc (.int .i64 ((0 : Nat) : Int)), .sc (.slice none 0 0), .sc (.int .i64 ((0 : Nat) : Int)), .sc (.slice none 0 0), .sc (.slice none 0 0)], .sc (.bool false)]
def restA (id : Int) (p : List Int) (T : Int) (n : Nat) : Bool := peersB id p && decide (0 ≤ T) && decide (T ≤ 2147483647) && decide (n ≤ 512)
theorem restA0 {id : Int} {p : List Int} {T vote : Int} {n : Nat} : (restA id p T n && (vote == 0 || decide (vote ∈ p))) = rest0 id p T vote n := by
  unfold restA rest0
  cases peersB id p <;> cases decide (0 ≤ T) <;> cases decide (T ≤ 2147483647) <;> cases decide (n ≤ 512) <;> cases (vote == 0 || decide (vote ∈ p)) <;> rfl
theorem not_succ {f : Nat → Bool} {i : Nat} {b : Bool} : (b && !(List.range (i + 1)).any f) = ((b && !(List.range i).any f) && !f i) := by
  rw [List.range_succ, List.any_append]
  cases b <;> cases (List.range i).any f <;> simp
variable {P : Program} (H : Has P)
include H
set_option maxHeartbeats 4000000 in
theorem rrestore_ok {pv lv : AV} {p : List Int} {id T vote : Int} {es : List (List AV)} {l : List (Int × List UInt8)} (hpv : SF 1 pv (ints p)) (hlv : SF 2 lv es) (hL : RR LgR es l) (hpl : p.length ≤ 2 ^ 20) (hl : l.length ≤ 2 ^ 20) (h : Heap) :
    AWF P ann 0 12 [.sc (.int .i64 id), pv, .sc (.int .i64 T), .sc (.int .i64 vote), lv] h fun r h' => r = RestW id pv T vote lv (restB id p T vote (l.map Prod.fst)) ∧ h' = h := by
  refine AWF.fnPurec H.f0_12 rfl ?_
  have hel := hL.len
  have cpv : pv.cells = [pv] := by rcases hpv with ⟨rfl, _⟩ | ⟨_, rfl⟩ <;> rfl
  have tpv : pv.isTu = false := by rcases hpv with ⟨rfl, _⟩ | ⟨_, rfl⟩ <;> rfl
  have clv : lv.cells = [lv] := by rcases hlv with ⟨rfl, _⟩ | ⟨_, rfl⟩ <;> rfl
  have tlv : lv.isTu = false := by rcases hlv with ⟨rfl, _⟩ | ⟨_, rfl⟩ <;> rfl
  have hO := OB.nil (h := h)
  (refine W_seq_gen fun N hN => ?_); simp (disch := first | omega | (simp only [List.length_cons, List.length_nil, List.length_append, u8s_len]; omega)) only [go_sem, ↓reduceIte, true_and, Nat.reduceLeDiff, Nat.reduceEqDiff, Nat.reduceAdd, Nat.reduceBEq, Int.reduceEq, H.cv_5_3]
  intro o10 h10
  refine hN _ ?_; clear hN N; refine W_ob (hO.new h10) fun hc hO => ?_
  have ho := hO.get0
  have hkk : ∀ (X : AObj) (x : Nat), ¬ h x = none → (if x = o10 then some X else hc x) = h x := fun X x hx => by
    have : x ≠ o10 := fun e => hx (by rw [e]; exact h10)
    rw [if_neg this]
    exact hO.keep x hx
  clear hO
  refine W_forget (fun t => t 0 = .sc (.int .i64 id) ∧ t 1 = pv ∧ t 2 = .sc (.int .i64 T) ∧ t 3 = .sc (.int .i64 vote) ∧ t 4 = lv ∧ t 10 = .op o10 0 ∧ True) (by simp [upd_at, *] <;> (first | rfl | exact ⟨rfl, rfl⟩ | exact ⟨rfl, rfl, rfl⟩ | exact ⟨rfl, rfl, rfl, rfl⟩ | exact ⟨rfl, rfl, rfl, rfl, rfl⟩)) ?_; rintro t ⟨t0, t1, t2, t3, t4, t10, -⟩
  (refine W_seq_gen fun N hN => ?_)
  have rest : ∀ t', t' 0 = .sc (.int .i64 id) → t' 1 = pv → t' 2 = .sc (.int .i64 T) → t' 3 = .sc (.int .i64 vote) → t' 4 = lv → t' 10 = .op o10 0 → t' 12 = .sc (.bool (restA id p T l.length)) → N ⟨t', hc⟩ := by
    intro t' t0 t1 t2 t3 t4 t10 t12
    refine hN _ ?_; clear hN N
    (refine W_seq_gen fun M hM => ?_)
    have rest2 : ∀ t', t' 0 = .sc (.int .i64 id) → t' 1 = pv → t' 2 = .sc (.int .i64 T) → t' 3 = .sc (.int .i64 vote) → t' 4 = lv → t' 10 = .op o10 0 → t' 12 = .sc (.bool (restA id p T l.length && (vote == 0 || decide (vote ∈ p)))) → M ⟨t', hc⟩ := by
      intro t' t0 t1 t2 t3 t4 t10 t12
      rw [restA0] at t12
      refine hM _ ?_; clear hM M
      refine W_forget (fun t => t 0 = .sc (.int .i64 id) ∧ t 1 = pv ∧ t 2 = .sc (.int .i64 T) ∧ t 3 = .sc (.int .i64 vote) ∧ t 4 = lv ∧ t 10 = .op o10 0 ∧ t 12 = .sc (.bool (rest0 id p T vote l.length)) ∧ True) (by simp [upd_at, *] <;> (first | rfl | exact ⟨rfl, rfl⟩ | exact ⟨rfl, rfl, rfl⟩ | exact ⟨rfl, rfl, rfl, rfl⟩ | exact ⟨rfl, rfl, rfl, rfl, rfl⟩)) ?_; rintro t ⟨t0, t1, t2, t3, t4, t10, t12, -⟩
      (refine W_seq_gen fun M hM => ?_)
      simp (disch := first | omega | (simp only [List.length_cons, List.length_nil, List.length_append, u8s_len]; omega)) only [go_sem, ↓reduceIte, true_and, Nat.reduceLeDiff, Nat.reduceEqDiff, Nat.reduceAdd, Nat.reduceBEq, Int.reduceEq, H.cv_5_3]
      refine AW_loopN (fun m t h' => h' = hc ∧ ∃ i, m = l.length - i ∧ i ≤ l.length ∧ t 0 = .sc (.int .i64 id) ∧ t 1 = pv ∧ t 2 = .sc (.int .i64 T) ∧ t 3 = .sc (.int .i64 vote) ∧ t 4 = lv ∧ t 10 = .op o10 0 ∧
          t 12 = .sc (.bool (rest0 id p T vote l.length && !(List.range i).any (bL T (l.map Prod.fst)))) ∧ t 13 = .sc (.int .i64 (i : Nat))) (n := l.length)
        ⟨rfl, 0, rfl, Nat.zero_le _, by simp [upd_at, t0], by simp [upd_at, t1], by simp [upd_at, t2], by simp [upd_at, t3], by simp [upd_at, t4], by simp [upd_at, t10], by simp [upd_at, t12], by simp [upd_at]⟩ ?_
      clear t0 t1 t2 t3 t4 t10 t12 t
      rintro m t h' ⟨rfl, i, rfl, hi, t0, t1, t2, t3, t4, t10, t12, t13⟩
      rcases Nat.lt_or_ge i l.length with hlt | hge
      · obtain ⟨e, g0, w, he, hw⟩ := hL.lt hlt
        have gd : (l.map Prod.fst).getD i 0 = l[i].1 := by simp [hlt]
        generalize l[i] = x at he hw gd
        subst he
        have dl : decide (i < es.length) = true := by rw [hel]; simpa using hlt
        (refine W_seq_gen fun N hN => ?_); simp (disch := first | omega | (simp only [List.length_cons, List.length_nil, List.length_append, u8s_len]; omega)) only [go_sem, ↓reduceIte, true_and, Nat.reduceLeDiff, Nat.reduceEqDiff, Nat.reduceAdd, Nat.reduceBEq, Int.reduceEq, H.cv_5_3, t4, t13, hlv.same, hlv.disc, hlv.sl.len, dl]
        refine hN _ ?_; clear hN N
        (refine W_seq_gen fun R hR => ?_)
        rw [W_block]
        by_cases c1 : x.1 < 1
        · have d1 : decide (x.1 < ((1 : Nat) : Int)) = true := by simpa using c1
          simp (disch := first | omega | (simp only [List.length_cons, List.length_nil, List.length_append, u8s_len]; omega)) only [go_sem, ↓reduceIte, true_and, Nat.reduceLeDiff, Nat.reduceEqDiff, Nat.reduceAdd, Nat.reduceBEq, Int.reduceEq, H.cv_5_3, t4, t13, hlv.same, hlv.disc, hlv.sl.ia, g0, hw.same, hw.disc, d1]
          refine hR _ ?_; clear hR R
          simp (disch := first | omega | (simp only [List.length_cons, List.length_nil, List.length_append, u8s_len]; omega)) only [go_sem, ↓reduceIte, true_and, Nat.reduceLeDiff, Nat.reduceEqDiff, Nat.reduceAdd, Nat.reduceBEq, Int.reduceEq, H.cv_5_3, t13, nat_add]
          refine ⟨l.length - (i + 1), by omega, i + 1, rfl, by omega, by simp [upd_at, t0], by simp [upd_at, t1], by simp [upd_at, t2], by simp [upd_at, t3], by simp [upd_at, t4], by simp [upd_at, t10], ?_, by simp [upd_at]⟩
          rw [not_succ]
          have : bL T (l.map Prod.fst) i = true := by unfold bL; rw [gd]; simp [c1]
          simp [this, upd_at]
        · have d1 : decide (x.1 < ((1 : Nat) : Int)) = false := by simpa using c1
          by_cases c2 : T < x.1
          · have d2 : decide (x.1 > T) = true := by simpa using c2
            simp (disch := first | omega | (simp only [List.length_cons, List.length_nil, List.length_append, u8s_len]; omega)) only [go_sem, ↓reduceIte, true_and, Nat.reduceLeDiff, Nat.reduceEqDiff, Nat.reduceAdd, Nat.reduceBEq, Int.reduceEq, H.cv_5_3, t2, t4, t13, hlv.same, hlv.disc, hlv.sl.ia, g0, hw.same, hw.disc, d1, d2]
            refine hR _ ?_; clear hR R
            simp (disch := first | omega | (simp only [List.length_cons, List.length_nil, List.length_append, u8s_len]; omega)) only [go_sem, ↓reduceIte, true_and, Nat.reduceLeDiff, Nat.reduceEqDiff, Nat.reduceAdd, Nat.reduceBEq, Int.reduceEq, H.cv_5_3, t13, nat_add]
            refine ⟨l.length - (i + 1), by omega, i + 1, rfl, by omega, by simp [upd_at, t0], by simp [upd_at, t1], by simp [upd_at, t2], by simp [upd_at, t3], by simp [upd_at, t4], by simp [upd_at, t10], ?_, by simp [upd_at]⟩
            rw [not_succ]
            have : bL T (l.map Prod.fst) i = true := by unfold bL; rw [gd]; simp [c2]
            simp [this, upd_at]
          · have d2 : decide (x.1 > T) = false := by simpa using c2
            by_cases c3 : i = 0
            · have d3 : decide (0 < i) = false := by simp [c3]
              simp (disch := first | omega | (simp only [List.length_cons, List.length_nil, List.length_append, u8s_len]; omega)) only [go_sem, ↓reduceIte, true_and, Nat.reduceLeDiff, Nat.reduceEqDiff, Nat.reduceAdd, Nat.reduceBEq, Int.reduceEq, H.cv_5_3, t2, t4, t13, hlv.same, hlv.disc, hlv.sl.ia, g0, hw.same, hw.disc, d1, d2, d3]
              refine hR _ ?_; clear hR R
              simp (disch := first | omega | (simp only [List.length_cons, List.length_nil, List.length_append, u8s_len]; omega)) only [go_sem, ↓reduceIte, true_and, Nat.reduceLeDiff, Nat.reduceEqDiff, Nat.reduceAdd, Nat.reduceBEq, Int.reduceEq, H.cv_5_3, t13, nat_add]
              refine ⟨l.length - (i + 1), by omega, i + 1, rfl, by omega, by simp [upd_at, t0], by simp [upd_at, t1], by simp [upd_at, t2], by simp [upd_at, t3], by simp [upd_at, t4], by simp [upd_at, t10], ?_, by simp [upd_at]⟩
              rw [not_succ]
              have : bL T (l.map Prod.fst) i = false := by unfold bL; rw [gd]; simp [c1, c2, c3]
              simp [this, upd_at, t12]
            · have d3 : decide (0 < i) = true := by simp; omega
              have hp := nat_pred (n := i) (by omega) (by omega)
              obtain ⟨e1, g1, w1, rfl, hw1⟩ := hL.lt (i := i - 1) (by omega)
              have gd1 : (l.map Prod.fst).getD (i - 1) 0 = (l[i - 1]'(by omega)).1 := by simp [show i - 1 < l.length by omega]
              generalize (l[i - 1]'(by omega)).1 = y at g1 gd1
              by_cases c4 : x.1 < y
              · have d4 : decide (y > x.1) = true := by simpa using c4
                simp (disch := first | omega | (simp only [List.length_cons, List.length_nil, List.length_append, u8s_len]; omega)) only [go_sem, ↓reduceIte, true_and, Nat.reduceLeDiff, Nat.reduceEqDiff, Nat.reduceAdd, Nat.reduceBEq, Int.reduceEq, H.cv_5_3, t2, t4, t13, hlv.same, hlv.disc, hlv.sl.ia, g0, hw.same, hw.disc, g1, hp, d1, d2, d3, d4]
                refine hR _ ?_; clear hR R
                simp (disch := first | omega | (simp only [List.length_cons, List.length_nil, List.length_append, u8s_len]; omega)) only [go_sem, ↓reduceIte, true_and, Nat.reduceLeDiff, Nat.reduceEqDiff, Nat.reduceAdd, Nat.reduceBEq, Int.reduceEq, H.cv_5_3, t13, nat_add]
                refine ⟨l.length - (i + 1), by omega, i + 1, rfl, by omega, by simp [upd_at, t0], by simp [upd_at, t1], by simp [upd_at, t2], by simp [upd_at, t3], by simp [upd_at, t4], by simp [upd_at, t10], ?_, by simp [upd_at]⟩
                rw [not_succ]
                have : bL T (l.map Prod.fst) i = true := by unfold bL; rw [gd, gd1]; simp [c4, d3]
                simp [this, upd_at]
              · have d4 : decide (y > x.1) = false := by simpa using c4
                simp (disch := first | omega | (simp only [List.length_cons, List.length_nil, List.length_append, u8s_len]; omega)) only [go_sem, ↓reduceIte, true_and, Nat.reduceLeDiff, Nat.reduceEqDiff, Nat.reduceAdd, Nat.reduceBEq, Int.reduceEq, H.cv_5_3, t2, t4, t13, hlv.same, hlv.disc, hlv.sl.ia, g0, hw.same, hw.disc, g1, hp, d1, d2, d3, d4]
                refine hR _ ?_; clear hR R
                simp (disch := first | omega | (simp only [List.length_cons, List.length_nil, List.length_append, u8s_len]; omega)) only [go_sem, ↓reduceIte, true_and, Nat.reduceLeDiff, Nat.reduceEqDiff, Nat.reduceAdd, Nat.reduceBEq, Int.reduceEq, H.cv_5_3, t13, nat_add]
                refine ⟨l.length - (i + 1), by omega, i + 1, rfl, by omega, by simp [upd_at, t0], by simp [upd_at, t1], by simp [upd_at, t2], by simp [upd_at, t3], by simp [upd_at, t4], by simp [upd_at, t10], ?_, by simp [upd_at]⟩
                rw [not_succ]
                have : bL T (l.map Prod.fst) i = false := by unfold bL; rw [gd, gd1]; simp [c1, c2, c4]
                simp [this, upd_at, t12]
      · obtain rfl : i = l.length := by omega
        have dl : decide (l.length < es.length) = false := by rw [hel]; simp
        (refine W_seq_gen fun N hN => ?_); simp (disch := first | omega | (simp only [List.length_cons, List.length_nil, List.length_append, u8s_len]; omega)) only [go_sem, ↓reduceIte, true_and, Nat.reduceLeDiff, Nat.reduceEqDiff, Nat.reduceAdd, Nat.reduceBEq, Int.reduceEq, H.cv_5_3, t4, t13, hlv.same, hlv.disc, hlv.sl.len, dl]
        refine hM _ ?_; clear hN N hM M
        have hR : (rest0 id p T vote l.length && !(List.range l.length).any (bL T (l.map Prod.fst))) = restB id p T vote (l.map Prod.fst) := by
          unfold restB goodL
          rw [List.length_map]
        rw [hR] at t12
        cases hB : restB id p T vote (l.map Prod.fst) with
        | false =>
          rw [hB] at t12
          simp (disch := first | omega | (simp only [List.length_cons, List.length_nil, List.length_append, u8s_len]; omega)) only [go_sem, ↓reduceIte, true_and, Nat.reduceLeDiff, Nat.reduceEqDiff, Nat.reduceAdd, Nat.reduceBEq, Int.reduceEq, H.cv_5_3, t10, t12, Bool.not_false, ho]
          exact ⟨rfl, hkk _⟩
        | true =>
          rw [hB] at t12
          (refine W_seq_gen fun N hN => ?_)
          simp (disch := first | omega | (simp only [List.length_cons, List.length_nil, List.length_append, u8s_len]; omega)) only [go_sem, ↓reduceIte, true_and, Nat.reduceLeDiff, Nat.reduceEqDiff, Nat.reduceAdd, Nat.reduceBEq, Int.reduceEq, H.cv_5_3, t12, Bool.not_true]
          refine hN _ ?_; clear hN N
          simp (disch := first | omega | (simp only [List.length_cons, List.length_nil, List.length_append, u8s_len]; omega)) only [go_sem, ↓reduceIte, true_and, Nat.reduceLeDiff, Nat.reduceEqDiff, Nat.reduceAdd, Nat.reduceBEq, Int.reduceEq, H.cv_5_3, t0, t1, t2, t3, t4, t10, ho, hpv.same, hpv.disc, hpv.sl.ddisc, hlv.same, hlv.disc, hlv.sl.ddisc, cpv, tpv, clv, tlv, setR0, setR1]
          exact ⟨rfl, hkk _⟩
    by_cases c3 : vote = 0
    · have d3 : (vote != ((0 : Nat) : Int)) = false := by simp [c3]
      simp (disch := first | omega | (simp only [List.length_cons, List.length_nil, List.length_append, u8s_len]; omega)) only [go_sem, ↓reduceIte, true_and, Nat.reduceLeDiff, Nat.reduceEqDiff, Nat.reduceAdd, Nat.reduceBEq, Int.reduceEq, H.cv_5_3, t3, d3]
      exact rest2 _ (by simp [upd_at, t0]) (by simp [upd_at, t1]) (by simp [upd_at, t2]) (by simp [upd_at, t3]) (by simp [upd_at, t4]) (by simp [upd_at, t10]) (by simp [upd_at, t12, c3])
    · have d3 : (vote != ((0 : Nat) : Int)) = true := by simpa using c3
      simp (disch := first | omega | (simp only [List.length_cons, List.length_nil, List.length_append, u8s_len]; omega)) only [go_sem, ↓reduceIte, true_and, Nat.reduceLeDiff, Nat.reduceEqDiff, Nat.reduceAdd, Nat.reduceBEq, Int.reduceEq, H.cv_5_3, t1, t3, d3, hpv.same, hpv.disc, setR0, setR1, cpv, tpv]
      refine (at_ok H hpv (by omega) _).mono ?_
      rintro _ h7 ⟨⟨z, rfl, hz⟩, rfl⟩
      by_cases c4 : vote ∈ p
      · have d4 : decide (z < ((0 : Nat) : Int)) = false := by rw [hz]; simp [c4]
        rw [contK_some]; simp (disch := first | omega | (simp only [List.length_cons, List.length_nil, List.length_append, u8s_len]; omega)) only [go_sem, ↓reduceIte, true_and, Nat.reduceLeDiff, Nat.reduceEqDiff, Nat.reduceAdd, Nat.reduceBEq, Int.reduceEq, H.cv_5_3, d4]
        exact rest2 _ (by simp [upd_at, t0]) (by simp [upd_at, t1]) (by simp [upd_at, t2]) (by simp [upd_at, t3]) (by simp [upd_at, t4]) (by simp [upd_at, t10]) (by simp [upd_at, t12, c3, c4])
      · have d4 : decide (z < ((0 : Nat) : Int)) = true := by rw [hz]; simp [c4]
        rw [contK_some]; simp (disch := first | omega | (simp only [List.length_cons, List.length_nil, List.length_append, u8s_len]; omega)) only [go_sem, ↓reduceIte, true_and, Nat.reduceLeDiff, Nat.reduceEqDiff, Nat.reduceAdd, Nat.reduceBEq, Int.reduceEq, H.cv_5_3, d4]
        exact rest2 _ (by simp [upd_at, t0]) (by simp [upd_at, t1]) (by simp [upd_at, t2]) (by simp [upd_at, t3]) (by simp [upd_at, t4]) (by simp [upd_at, t10]) (by simp [upd_at, t12, c3, c4])
  simp (disch := first | omega | (simp only [List.length_cons, List.length_nil, List.length_append, u8s_len]; omega)) only [go_sem, ↓reduceIte, true_and, Nat.reduceLeDiff, Nat.reduceEqDiff, Nat.reduceAdd, Nat.reduceBEq, Int.reduceEq, H.cv_5_3, t0, t1, hpv.same]
  refine (masters_ok H hpv (by omega) _).mono ?_
  rintro _ h2 ⟨rfl, rfl⟩
  cases q1 : peersB id p with
  | false =>
    rw [contK_some]; simp (disch := first | omega | (simp only [List.length_cons, List.length_nil, List.length_append, u8s_len]; omega)) only [go_sem, ↓reduceIte, true_and, Nat.reduceLeDiff, Nat.reduceEqDiff, Nat.reduceAdd, Nat.reduceBEq, Int.reduceEq, H.cv_5_3]
    exact rest _ (by simp [upd_at, t0]) (by simp [upd_at, t1]) (by simp [upd_at, t2]) (by simp [upd_at, t3]) (by simp [upd_at, t4]) (by simp [upd_at, t10]) (by simp [upd_at, restA, q1])
  | true =>
    by_cases c1 : 0 ≤ T
    · have d1 : decide (T ≥ ((0 : Nat) : Int)) = true := by simpa using c1
      by_cases c2 : T ≤ 2147483647
      · have d2 : decide (T ≤ ((2147483647 : Nat) : Int)) = true := by simpa using c2
        by_cases c5 : l.length ≤ 512
        · have d5 : decide (l.length ≤ 512) = true := by simpa using c5
          rw [contK_some]; simp (disch := first | omega | (simp only [List.length_cons, List.length_nil, List.length_append, u8s_len]; omega)) only [go_sem, ↓reduceIte, true_and, Nat.reduceLeDiff, Nat.reduceEqDiff, Nat.reduceAdd, Nat.reduceBEq, Int.reduceEq, H.cv_5_3, t2, t4, d1, d2, hlv.same, hlv.disc, hlv.sl.len, hel, d5]
          exact rest _ (by simp [upd_at, t0]) (by simp [upd_at, t1]) (by simp [upd_at, t2]) (by simp [upd_at, t3]) (by simp [upd_at, t4]) (by simp [upd_at, t10]) (by simp [upd_at, restA, q1, c1, c2, c5])
        · have d5 : decide (l.length ≤ 512) = false := by simpa using c5
          rw [contK_some]; simp (disch := first | omega | (simp only [List.length_cons, List.length_nil, List.length_append, u8s_len]; omega)) only [go_sem, ↓reduceIte, true_and, Nat.reduceLeDiff, Nat.reduceEqDiff, Nat.reduceAdd, Nat.reduceBEq, Int.reduceEq, H.cv_5_3, t2, t4, d1, d2, hlv.same, hlv.disc, hlv.sl.len, hel, d5]
          exact rest _ (by simp [upd_at, t0]) (by simp [upd_at, t1]) (by simp [upd_at, t2]) (by simp [upd_at, t3]) (by simp [upd_at, t4]) (by simp [upd_at, t10]) (by simp [upd_at, restA, q1, c1, c2, c5])
      · have d2 : decide (T ≤ ((2147483647 : Nat) : Int)) = false := by simpa using c2
        rw [contK_some]; simp (disch := first | omega | (simp only [List.length_cons, List.length_nil, List.length_append, u8s_len]; omega)) only [go_sem, ↓reduceIte, true_and, Nat.reduceLeDiff, Nat.reduceEqDiff, Nat.reduceAdd, Nat.reduceBEq, Int.reduceEq, H.cv_5_3, t2, d1, d2]
        exact rest _ (by simp [upd_at, t0]) (by simp [upd_at, t1]) (by simp [upd_at, t2]) (by simp [upd_at, t3]) (by simp [upd_at, t4]) (by simp [upd_at, t10]) (by simp [upd_at, restA, q1, c1, c2])
    · have d1 : decide (T ≥ ((0 : Nat) : Int)) = false := by simpa using c1
      rw [contK_some]; simp (disch := first | omega | (simp only [List.length_cons, List.length_nil, List.length_append, u8s_len]; omega)) only [go_sem, ↓reduceIte, true_and, Nat.reduceLeDiff, Nat.reduceEqDiff, Nat.reduceAdd, Nat.reduceBEq, Int.reduceEq, H.cv_5_3, t2, d1]
      exact rest _ (by simp [upd_at, t0]) (by simp [upd_at, t1]) (by simp [upd_at, t2]) (by simp [upd_at, t3]) (by simp [upd_at, t4]) (by simp [upd_at, t10]) (by simp [upd_at, restA, q1, c1])
end Go.Proofs.Ytkmakibigmlfeaa
end

section
set_option linter.unusedVariables false
set_option linter.unusedSimpArgs false
namespace Go.Proofs.Ytkmakibigmlfeaa
open Go.Am
def restBal (b : Bool) (id : Int) (p : List Int) (T vote : Int) (l : List (Int × List UInt8)) : Bal :=
  if b then ⟨id, T, vote, ((0 : Nat) : Int), ((1 : Nat) : Int), ((0 : Nat) : Int), ((0 : Nat) : Int), p, [], [], [], l⟩ else ⟨((0 : Nat) : Int), ((0 : Nat) : Int), ((0 : Nat) : Int), ((0 : Nat) : Int), ((0 : Nat) : Int), ((0 : Nat) : Int), ((0 : Nat) : Int), [], [], [], [], []⟩
theorem frzL_sf {lv : AV} {es : List (List AV)} (h : SF 2 lv es) : SF 2 (frzL lv) (es.map logD) := by
  rcases h with ⟨rfl, rfl⟩ | ⟨lim, rfl⟩
  · exact .inl ⟨rfl, rfl⟩
  · exact .inr ⟨_, rfl⟩
theorem restv {pv lv : AV} {p : List Int} {id T vote : Int} {es : List (List AV)} {l : List (Int × List UInt8)} (hpv : SF 1 pv (ints p)) (hlv : SF 2 lv es) (hL : RR LgR es l) (b : Bool) :
    ∃ cs, RestV id pv T vote lv b = .tu [.ag cs, .sc (.int .i64 ((cond b 0 1 : Nat) : Int))] ∧ BalC cs (restBal b id p T vote l) := by
  cases b with
  | true => exact ⟨_, rfl, _, _, _, _, _, _, rfl, frz_sf hpv, frzL_sf hlv, lgr_D hL, .inl ⟨rfl, rfl⟩, .inl ⟨rfl, rfl⟩, .inl ⟨rfl, rfl⟩⟩
  | false => exact ⟨_, rfl, _, _, _, _, _, [], rfl, .inl ⟨rfl, rfl⟩, .inl ⟨rfl, rfl⟩, trivial, .inl ⟨rfl, rfl⟩, .inl ⟨rfl, rfl⟩, .inl ⟨rfl, rfl⟩⟩
theorem restw {pv lv : AV} {p : List Int} {id T vote : Int} {es : List (List AV)} {l : List (Int × List UInt8)} (hpv : SF 1 pv (ints p)) (hlv : SF 2 lv es) (hL : RR LgR es l) (b : Bool) :
    ∃ cs, RestW id pv T vote lv b = .tu [.ag cs, .sc (.bool b)] ∧ BalC cs (restBal b id p T vote l) := by
  cases b with
  | true => exact ⟨_, rfl, _, _, _, _, _, _, rfl, hpv, hlv, hL, .inl ⟨rfl, rfl⟩, .inl ⟨rfl, rfl⟩, .inl ⟨rfl, rfl⟩⟩
  | false => exact ⟨_, rfl, _, _, _, _, _, [], rfl, .inl ⟨rfl, rfl⟩, .inl ⟨rfl, rfl⟩, trivial, .inl ⟨rfl, rfl⟩, .inl ⟨rfl, rfl⟩, .inl ⟨rfl, rfl⟩⟩
theorem BalC.at {cs : List AV} {a : Bal} (h : BalC cs a) : ∃ (i0 i1 i2 i3 i4 i5 i6 : Int) (pv lv yv nv mv : AV), cs = [.sc (.int .i64 i0), pv, .sc (.int .i64 i1), .sc (.int .i64 i2), lv, .sc (.int .i64 i3), .sc (.int .i64 i4), .sc (.int .i64 i5), yv, .sc (.int .i64 i6), nv, mv] ∧
    pv.disc = pv ∧ lv.disc = lv ∧ yv.disc = yv ∧ nv.disc = nv ∧ mv.disc = mv := by
  obtain ⟨pv, lv, yv, nv, mv, es, rfl, u1, u2, u3, u4, u5, u6⟩ := h
  exact ⟨_, _, _, _, _, _, _, _, _, _, _, _, rfl, u1.disc, u2.disc, u4.disc, u5.disc, u6.disc⟩
theorem sameB_refl {a : Bal} : sameB a a = true := by simp [sameB]
theorem restBal_len {b : Bool} {id : Int} {p : List Int} {T vote : Int} {l : List (Int × List UInt8)} (hp : p.length ≤ 20) (hl : l.length ≤ 600) :
    (restBal b id p T vote l).p.length < 2 ^ 40 ∧ (restBal b id p T vote l).l.length < 2 ^ 40 ∧ (restBal b id p T vote l).y.length < 2 ^ 40 ∧ (restBal b id p T vote l).n.length < 2 ^ 40 ∧ (restBal b id p T vote l).m.length < 2 ^ 40 := by
  have z : (0 : Nat) < 2 ^ 40 := by decide
  cases b with
  | true => exact ⟨by show p.length < _; omega, by show l.length < _; omega, z, z, z⟩
  | false => exact ⟨z, z, z, z, z⟩
variable {P : Program} (H : Has P) (HN : ∀ p q : Bool, scalarBin P .neq 4 (.bool p) (.bool q) = some (.bool (p != q))) (HB : ∀ p q : Bool, scalarBin P .eql 4 (.bool p) (.bool q) = some (.bool (p == q)))
include H HN HB
set_option maxHeartbeats 4000000 in
theorem restores_law {id kid T vote kc kr kl kk : Int} {pv kp lv ky kn km : AV} {p : List Int} {es : List (List AV)} {l : List (Int × List UInt8)} (hpv : SF 1 pv (ints p)) (hlv : SF 2 lv es) (hL : RR LgR es l) (hpl : p.length < 2 ^ 60) (hll : l.length < 2 ^ 60)
    (q1 : kp.disc = kp) (q2 : ky.disc = ky) (q3 : kn.disc = kn) (q4 : km.disc = km) (h : Heap) :
    AWF P ann 0 4 [.sc (.int .i64 id), pv, .ag [.sc (.int .i64 kid), kp, .sc (.int .i64 T), .sc (.int .i64 vote), lv, .sc (.int .i64 kc), .sc (.int .i64 kr), .sc (.int .i64 kl), ky, .sc (.int .i64 kk), kn, km]] h fun r h' => r = .sc (.bool true) := by
  refine AWF.fnc H.f0_4 rfl ?_
  have hO := OB.nil (h := h)
  have e1 := @ints_len p
  (refine W_seq_gen fun N hN => ?_); simp (disch := first | omega | (simp only [List.length_cons, List.length_nil, List.length_append, u8s_len]; omega)) only [go_sem, ↓reduceIte, true_and, Nat.reduceLeDiff, Nat.reduceEqDiff, Nat.reduceAdd, Nat.reduceBEq, Int.reduceEq, H.cv_5_3, hlv.disc, q1, q2, q3, q4]
  intro o5 h5
  refine hN _ ?_; clear hN N; refine W_ob (hO.new h5) fun hc hO => ?_
  refine W_forget (fun t => t 0 = .sc (.int .i64 id) ∧ t 1 = pv ∧ t 5 = .op o5 0 ∧ True) (by simp [upd_at, *] <;> (first | rfl | exact ⟨rfl, rfl⟩ | exact ⟨rfl, rfl, rfl⟩ | exact ⟨rfl, rfl, rfl, rfl⟩ | exact ⟨rfl, rfl, rfl, rfl, rfl⟩)) ?_; rintro t ⟨t0, t1, t5, -⟩
  (refine W_seq_gen fun M hM => ?_)
  by_cases c20 : 20 < p.length
  · have d20 : decide (20 < p.length) = true := by simpa using c20
    simp (disch := first | omega | (simp only [List.length_cons, List.length_nil, List.length_append, u8s_len]; omega)) only [go_sem, ↓reduceIte, true_and, Nat.reduceLeDiff, Nat.reduceEqDiff, Nat.reduceAdd, Nat.reduceBEq, Int.reduceEq, H.cv_5_3, t1, hpv.same, hpv.disc, hpv.sl.len, e1, d20]
    refine (awake_ok H _).mono ?_
    rintro _ h4 ⟨rfl, rfl⟩
    rw [contK_some]; simp (disch := first | omega | (simp only [List.length_cons, List.length_nil, List.length_append, u8s_len]; omega)) only [go_sem, ↓reduceIte, true_and, Nat.reduceLeDiff, Nat.reduceEqDiff, Nat.reduceAdd, Nat.reduceBEq, Int.reduceEq, H.cv_5_3]
  have d20 : decide (20 < p.length) = false := by simpa using c20
  simp (disch := first | omega | (simp only [List.length_cons, List.length_nil, List.length_append, u8s_len]; omega)) only [go_sem, ↓reduceIte, true_and, Nat.reduceLeDiff, Nat.reduceEqDiff, Nat.reduceAdd, Nat.reduceBEq, Int.reduceEq, H.cv_5_3, t1, t5, hO.get0, hpv.same, hpv.disc, hpv.sl.len, e1, d20, hlv.same, hlv.disc]
  refine (light_ok H hlv hL hll _).mono ?_
  rintro _ hc ⟨⟨x, rfl, hx⟩, rfl⟩
  cases x with
  | false =>
    rw [contK_some]; simp (disch := first | omega | (simp only [List.length_cons, List.length_nil, List.length_append, u8s_len]; omega)) only [go_sem, ↓reduceIte, true_and, Nat.reduceLeDiff, Nat.reduceEqDiff, Nat.reduceAdd, Nat.reduceBEq, Int.reduceEq, H.cv_5_3, Bool.not_false]
    refine (awake_ok H _).mono ?_
    rintro _ h4 ⟨rfl, rfl⟩
    rw [contK_some]; simp (disch := first | omega | (simp only [List.length_cons, List.length_nil, List.length_append, u8s_len]; omega)) only [go_sem, ↓reduceIte, true_and, Nat.reduceLeDiff, Nat.reduceEqDiff, Nat.reduceAdd, Nat.reduceBEq, Int.reduceEq, H.cv_5_3]
  | true =>
    obtain ⟨hx1, hx2⟩ := hx rfl
    rw [contK_some]; simp (disch := first | omega | (simp only [List.length_cons, List.length_nil, List.length_append, u8s_len]; omega)) only [go_sem, ↓reduceIte, true_and, Nat.reduceLeDiff, Nat.reduceEqDiff, Nat.reduceAdd, Nat.reduceBEq, Int.reduceEq, H.cv_5_3, Bool.not_true]
    refine hM _ ?_; clear hM M
    have hs0 : ∀ x ∈ l, x.2.length ≤ 2 ^ 30 := fun x hx => by have := hx2 x hx; omega
    refine W_forget (fun t => t 0 = .sc (.int .i64 id) ∧ t 1 = pv ∧ t 5 = .op o5 0 ∧ True) (by simp [upd_at, *] <;> (first | rfl | exact ⟨rfl, rfl⟩ | exact ⟨rfl, rfl, rfl⟩ | exact ⟨rfl, rfl, rfl, rfl⟩ | exact ⟨rfl, rfl, rfl, rfl, rfl⟩)) ?_; rintro t ⟨t0, t1, t5, -⟩
    (refine W_seq_gen fun N hN => ?_)
    simp (disch := first | omega | (simp only [List.length_cons, List.length_nil, List.length_append, u8s_len]; omega)) only [go_sem, ↓reduceIte, true_and, Nat.reduceLeDiff, Nat.reduceEqDiff, Nat.reduceAdd, Nat.reduceBEq, Int.reduceEq, H.cv_5_3, t0, t1, t5, hO.get0, hpv.same, hlv.same, hlv.disc, hpv.own, hlv.own, Bool.not_false, Bool.true_or]
    refine (restore_ok H hpv.sl hlv hL (by omega) (by omega) hs0 _).mono ?_
    rw [hpv.same]
    rintro _ hc ⟨rfl, rfl⟩
    obtain ⟨cs7, e7, hb7⟩ := restv (id := id) (T := T) (vote := vote) hpv hlv hL (restB id p T vote (l.map Prod.fst))
    rw [e7]
    clear e7
    generalize hB1 : restB id p T vote (l.map Prod.fst) = b1 at hb7 ⊢
    obtain ⟨i0, i1, i2, i3, i4, i5, i6, pv7, lv7, yv7, nv7, mv7, rfl, d17, d27, d37, d47, d57⟩ := hb7.at
    rw [contK_some]; simp (disch := first | omega | (simp only [List.length_cons, List.length_nil, List.length_append, u8s_len]; omega)) only [go_sem, ↓reduceIte, true_and, Nat.reduceLeDiff, Nat.reduceEqDiff, Nat.reduceAdd, Nat.reduceBEq, Int.reduceEq, H.cv_5_3, d17, d27, d37, d47, d57]
    intro o7 h7
    refine hN _ ?_; clear hN N; refine W_ob (hO.new h7) fun hc hO => ?_
    refine W_forget (fun t => t 0 = .sc (.int .i64 id) ∧ t 1 = pv ∧ t 5 = .op o5 0 ∧ t 7 = .op o7 0 ∧ t 8 = .sc (.int .i64 ((cond b1 0 1 : Nat) : Int)) ∧ True) (by simp [upd_at, *] <;> (first | rfl | exact ⟨rfl, rfl⟩ | exact ⟨rfl, rfl, rfl⟩ | exact ⟨rfl, rfl, rfl, rfl⟩ | exact ⟨rfl, rfl, rfl, rfl, rfl⟩)) ?_; rintro t ⟨t0, t1, t5, t7, t8, -⟩
    (refine W_seq_gen fun N hN => ?_)
    simp (disch := first | omega | (simp only [List.length_cons, List.length_nil, List.length_append, u8s_len]; omega)) only [go_sem, ↓reduceIte, true_and, Nat.reduceLeDiff, Nat.reduceEqDiff, Nat.reduceAdd, Nat.reduceBEq, Int.reduceEq, H.cv_5_3, t0, t1, hpv.same]
    refine (new_ok H hpv.sl (by omega) _).mono ?_
    rw [hpv.same]
    rintro _ hc ⟨rfl, rfl⟩
    obtain ⟨cs9, e9, hb9⟩ := restv (id := id) (T := ((0 : Nat) : Int)) (vote := ((0 : Nat) : Int)) (lv := .sc (.slice none 0 0)) (es := []) (l := []) hpv (.inl ⟨rfl, rfl⟩) trivial (restB id p 0 0 [])
    rw [e9]
    clear e9
    generalize hB2 : restB id p 0 0 [] = b2 at hb9 ⊢
    obtain ⟨j0, j1, j2, j3, j4, j5, j6, pv9, lv9, yv9, nv9, mv9, rfl, d19, d29, d39, d49, d59⟩ := hb9.at
    rw [contK_some]; simp (disch := first | omega | (simp only [List.length_cons, List.length_nil, List.length_append, u8s_len]; omega)) only [go_sem, ↓reduceIte, true_and, Nat.reduceLeDiff, Nat.reduceEqDiff, Nat.reduceAdd, Nat.reduceBEq, Int.reduceEq, H.cv_5_3, d19, d29, d39, d49, d59]
    intro o9 h9
    refine hN _ ?_; clear hN N; refine W_ob (hO.new h9) fun hc hO => ?_
    refine W_forget (fun t => t 0 = .sc (.int .i64 id) ∧ t 1 = pv ∧ t 5 = .op o5 0 ∧ t 7 = .op o7 0 ∧ t 8 = .sc (.int .i64 ((cond b1 0 1 : Nat) : Int)) ∧ t 9 = .op o9 0 ∧ t 10 = .sc (.int .i64 ((cond b2 0 1 : Nat) : Int)) ∧ True) (by simp [upd_at, *] <;> (first | rfl | exact ⟨rfl, rfl⟩ | exact ⟨rfl, rfl, rfl⟩ | exact ⟨rfl, rfl, rfl, rfl⟩ | exact ⟨rfl, rfl, rfl, rfl, rfl⟩)) ?_; rintro t ⟨t0, t1, t5, t7, t8, t9, t10, -⟩
    (refine W_seq_gen fun N hN => ?_)
    simp (disch := first | omega | (simp only [List.length_cons, List.length_nil, List.length_append, u8s_len]; omega)) only [go_sem, ↓reduceIte, true_and, Nat.reduceLeDiff, Nat.reduceEqDiff, Nat.reduceAdd, Nat.reduceBEq, Int.reduceEq, H.cv_5_3, t0, t1, t5, hO.get2, hpv.same, hlv.same, hlv.disc, hpv.own, hlv.own, Bool.not_false, Bool.true_or]
    refine (rrestore_ok H hpv hlv hL (by omega) (by omega) _).mono ?_
    rintro _ hc ⟨rfl, rfl⟩
    rw [hB1]
    obtain ⟨cs11, e11, hb11⟩ := restw (id := id) (T := T) (vote := vote) hpv hlv hL b1
    rw [e11]
    clear e11
    obtain ⟨k0, k1, k2, k3, k4, k5, k6, pv11, lv11, yv11, nv11, mv11, rfl, d111, d211, d311, d411, d511⟩ := hb11.at
    rw [contK_some]; simp (disch := first | omega | (simp only [List.length_cons, List.length_nil, List.length_append, u8s_len]; omega)) only [go_sem, ↓reduceIte, true_and, Nat.reduceLeDiff, Nat.reduceEqDiff, Nat.reduceAdd, Nat.reduceBEq, Int.reduceEq, H.cv_5_3, d111, d211, d311, d411, d511]
    intro o11 h11
    refine hN _ ?_; clear hN N; refine W_ob (hO.new h11) fun hc hO => ?_
    refine W_forget (fun t => t 0 = .sc (.int .i64 id) ∧ t 1 = pv ∧ t 5 = .op o5 0 ∧ t 7 = .op o7 0 ∧ t 8 = .sc (.int .i64 ((cond b1 0 1 : Nat) : Int)) ∧ t 9 = .op o9 0 ∧ t 10 = .sc (.int .i64 ((cond b2 0 1 : Nat) : Int)) ∧ t 11 = .op o11 0 ∧ t 12 = .sc (.bool b1) ∧ True) (by simp [upd_at, *] <;> (first | rfl | exact ⟨rfl, rfl⟩ | exact ⟨rfl, rfl, rfl⟩ | exact ⟨rfl, rfl, rfl, rfl⟩ | exact ⟨rfl, rfl, rfl, rfl, rfl⟩)) ?_; rintro t ⟨t0, t1, t5, t7, t8, t9, t10, t11, t12, -⟩
    (refine W_seq_gen fun N hN => ?_)
    simp (disch := first | omega | (simp only [List.length_cons, List.length_nil, List.length_append, u8s_len]; omega)) only [go_sem, ↓reduceIte, true_and, Nat.reduceLeDiff, Nat.reduceEqDiff, Nat.reduceAdd, Nat.reduceBEq, Int.reduceEq, H.cv_5_3, t0, t1, hpv.same, hpv.own, Bool.not_false, Bool.true_or]
    refine (rrestore_ok H hpv (lv := .sc (.slice none 0 0)) (es := []) (l := []) (.inl ⟨rfl, rfl⟩) trivial (by omega) (by simp) _).mono ?_
    rintro _ hc ⟨rfl, rfl⟩
    rw [show restB id p ((0 : Nat) : Int) ((0 : Nat) : Int) (([] : List (Int × List UInt8)).map Prod.fst) = b2 from hB2]
    obtain ⟨cs13, e13, hb13⟩ := restw (id := id) (T := ((0 : Nat) : Int)) (vote := ((0 : Nat) : Int)) (lv := .sc (.slice none 0 0)) (es := []) (l := []) hpv (.inl ⟨rfl, rfl⟩) trivial b2
    rw [e13]
    clear e13
    obtain ⟨m0, m1, m2, m3, m4, m5, m6, pv13, lv13, yv13, nv13, mv13, rfl, d113, d213, d313, d413, d513⟩ := hb13.at
    rw [contK_some]; simp (disch := first | omega | (simp only [List.length_cons, List.length_nil, List.length_append, u8s_len]; omega)) only [go_sem, ↓reduceIte, true_and, Nat.reduceLeDiff, Nat.reduceEqDiff, Nat.reduceAdd, Nat.reduceBEq, Int.reduceEq, H.cv_5_3, d113, d213, d313, d413, d513]
    intro o13 h13
    refine hN _ ?_; clear hN N; refine W_ob (hO.new h13) fun hc hO => ?_
    refine W_forget (fun t => t 7 = .op o7 0 ∧ t 8 = .sc (.int .i64 ((cond b1 0 1 : Nat) : Int)) ∧ t 9 = .op o9 0 ∧ t 10 = .sc (.int .i64 ((cond b2 0 1 : Nat) : Int)) ∧ t 11 = .op o11 0 ∧ t 12 = .sc (.bool b1) ∧ t 13 = .op o13 0 ∧ t 14 = .sc (.bool b2) ∧ True) (by simp [upd_at, *] <;> (first | rfl | exact ⟨rfl, rfl⟩ | exact ⟨rfl, rfl, rfl⟩ | exact ⟨rfl, rfl, rfl, rfl⟩ | exact ⟨rfl, rfl, rfl, rfl, rfl⟩)) ?_; rintro t ⟨t7, t8, t9, t10, t11, t12, t13, t14, -⟩
    have g0 := hO.get0
    have g1 := hO.get1
    have g2 := hO.get2
    have g3 := hO.get3
    clear hO
    obtain ⟨z1, z2, z3, z4, z5⟩ := restBal_len (b := b1) (id := id) (p := p) (T := T) (vote := vote) (l := l) (by omega) hx1
    obtain ⟨y1, y2, y3, y4, y5⟩ := restBal_len (b := b2) (id := id) (p := p) (T := ((0 : Nat) : Int)) (vote := ((0 : Nat) : Int)) (l := []) (by omega) (by simp)
    (refine W_seq_gen fun N hN => ?_)
    have cont : ∀ t', t' 7 = .op o7 0 → t' 9 = .op o9 0 → t' 11 = .op o11 0 → t' 13 = .op o13 0 → N ⟨t', hc⟩ := by
      intro t' t7 t9 t11 t13
      refine hN _ ?_; clear hN N
      (refine W_seq_gen fun N hN => ?_)
      -- DEF D: d17, d27, d37, d47, d57, d19, d29, d39, d49, d59, d111, d211, d311, d411, d511, d113, d213, d313, d413, d513
      simp (disch := first | omega | (simp only [List.length_cons, List.length_nil, List.length_append, u8s_len]; omega)) only [go_sem, ↓reduceIte, true_and, Nat.reduceLeDiff, Nat.reduceEqDiff, Nat.reduceAdd, Nat.reduceBEq, Int.reduceEq, H.cv_5_3, t7, t9, t11, t13, g0, g1, g2, g3, d17, d27, d37, d47, d57, d19, d29, d39, d49, d59, d111, d211, d311, d411, d511, d113, d213, d313, d413, d513]
      refine ⟨_, same13_ok H hb7 hb11 z1 z2 z3 z4 z5 _, ?_⟩
      rw [sameB_refl]
      rw [contK_some]; simp (disch := first | omega | (simp only [List.length_cons, List.length_nil, List.length_append, u8s_len]; omega)) only [go_sem, ↓reduceIte, true_and, Nat.reduceLeDiff, Nat.reduceEqDiff, Nat.reduceAdd, Nat.reduceBEq, Int.reduceEq, H.cv_5_3, t7, t9, t11, t13, g0, g1, g2, g3, d17, d27, d37, d47, d57, d19, d29, d39, d49, d59, d111, d211, d311, d411, d511, d113, d213, d313, d413, d513]
      refine ⟨_, same13_ok H hb9 hb13 y1 y2 y3 y4 y5 _, ?_⟩
      rw [sameB_refl]
      rw [contK_some]; simp (disch := first | omega | (simp only [List.length_cons, List.length_nil, List.length_append, u8s_len]; omega)) only [go_sem, ↓reduceIte, true_and, Nat.reduceLeDiff, Nat.reduceEqDiff, Nat.reduceAdd, Nat.reduceBEq, Int.reduceEq, H.cv_5_3, t7, t9, t11, t13, g0, g1, g2, g3, d17, d27, d37, d47, d57, d19, d29, d39, d49, d59, d111, d211, d311, d411, d511, d113, d213, d313, d413, d513]
      refine ⟨_, same14_ok H hb7 hb9 z1 z2 z3 z4 z5 _, ?_⟩
      rw [contK_some]; simp (disch := first | omega | (simp only [List.length_cons, List.length_nil, List.length_append, u8s_len]; omega)) only [go_sem, ↓reduceIte, true_and, Nat.reduceLeDiff, Nat.reduceEqDiff, Nat.reduceAdd, Nat.reduceBEq, Int.reduceEq, H.cv_5_3, t7, t9, t11, t13, g0, g1, g2, g3, d17, d27, d37, d47, d57, d19, d29, d39, d49, d59, d111, d211, d311, d411, d511, d113, d213, d313, d413, d513]
      refine ⟨_, same13_ok H hb7 hb9 z1 z2 z3 z4 z5 _, ?_⟩
      have bb : ∀ b : Bool, (b == b) = true := fun b => by cases b <;> rfl
      rw [contK_some]; simp (disch := first | omega | (simp only [List.length_cons, List.length_nil, List.length_append, u8s_len]; omega)) only [go_sem, ↓reduceIte, true_and, Nat.reduceLeDiff, Nat.reduceEqDiff, Nat.reduceAdd, Nat.reduceBEq, Int.reduceEq, H.cv_5_3, HB, bb]
      refine ⟨_, awake_ok H _, ?_⟩
      rw [contK_some]; simp (disch := first | omega | (simp only [List.length_cons, List.length_nil, List.length_append, u8s_len]; omega)) only [go_sem, ↓reduceIte, true_and, Nat.reduceLeDiff, Nat.reduceEqDiff, Nat.reduceAdd, Nat.reduceBEq, Int.reduceEq, H.cv_5_3]
      refine hN _ ?_; clear hN N
      simp (disch := first | omega | (simp only [List.length_cons, List.length_nil, List.length_append, u8s_len]; omega)) only [go_sem, ↓reduceIte, true_and, Nat.reduceLeDiff, Nat.reduceEqDiff, Nat.reduceAdd, Nat.reduceBEq, Int.reduceEq, H.cv_5_3]
    have b00 : (((0 : Nat) : Int) == ((0 : Nat) : Int)) = true := by decide
    have b10 : (((1 : Nat) : Int) == ((0 : Nat) : Int)) = false := by decide
    have n00 : (((0 : Nat) : Int) != ((0 : Nat) : Int)) = false := by decide
    have n10 : (((1 : Nat) : Int) != ((0 : Nat) : Int)) = true := by decide
    have n11 : (((1 : Nat) : Int) != ((1 : Nat) : Int)) = false := by decide
    have bf : ((false : Bool) != false) = false := rfl
    have bt : ((true : Bool) != true) = false := rfl
    cases b1 with
    | true =>
      cases b2 with
      | true =>
        simp (disch := first | omega | (simp only [List.length_cons, List.length_nil, List.length_append, u8s_len]; omega)) only [go_sem, ↓reduceIte, true_and, Nat.reduceLeDiff, Nat.reduceEqDiff, Nat.reduceAdd, Nat.reduceBEq, Int.reduceEq, H.cv_5_3, t8, t10, t12, t14, cond_true, b00, n00, HN, bt]
        exact cont _ (by simp [upd_at, t7]) (by simp [upd_at, t9]) (by simp [upd_at, t11]) (by simp [upd_at, t13])
      | false =>
        simp (disch := first | omega | (simp only [List.length_cons, List.length_nil, List.length_append, u8s_len]; omega)) only [go_sem, ↓reduceIte, true_and, Nat.reduceLeDiff, Nat.reduceEqDiff, Nat.reduceAdd, Nat.reduceBEq, Int.reduceEq, H.cv_5_3, t8, t10, t12, t14, cond_true, cond_false, b00, b10, n00, n10, n11, HN, bt, bf]
        exact cont _ (by simp [upd_at, t7]) (by simp [upd_at, t9]) (by simp [upd_at, t11]) (by simp [upd_at, t13])
    | false =>
      cases b2 with
      | true =>
        simp (disch := first | omega | (simp only [List.length_cons, List.length_nil, List.length_append, u8s_len]; omega)) only [go_sem, ↓reduceIte, true_and, Nat.reduceLeDiff, Nat.reduceEqDiff, Nat.reduceAdd, Nat.reduceBEq, Int.reduceEq, H.cv_5_3, t8, t10, t12, t14, cond_true, cond_false, b00, b10, n00, n10, n11, HN, bt, bf]
        exact cont _ (by simp [upd_at, t7]) (by simp [upd_at, t9]) (by simp [upd_at, t11]) (by simp [upd_at, t13])
      | false =>
        simp (disch := first | omega | (simp only [List.length_cons, List.length_nil, List.length_append, u8s_len]; omega)) only [go_sem, ↓reduceIte, true_and, Nat.reduceLeDiff, Nat.reduceEqDiff, Nat.reduceAdd, Nat.reduceBEq, Int.reduceEq, H.cv_5_3, t8, t10, t12, t14, cond_false, b10, n10, n11, HN, bf]
        exact cont _ (by simp [upd_at, t7]) (by simp [upd_at, t9]) (by simp [upd_at, t11]) (by simp [upd_at, t13])
end Go.Proofs.Ytkmakibigmlfeaa
end
