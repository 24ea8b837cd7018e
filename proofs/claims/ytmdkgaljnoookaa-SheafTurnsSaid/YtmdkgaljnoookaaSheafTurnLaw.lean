/- The law of a sheaf with a pair, and without one. -/
import Derived.Test.YtmdkgaljnoookaaSheafTurn
import Derived.Test.YtmdkgaljnoookaaSheafOrd
set_option linter.unusedVariables false
set_option linter.unusedSimpArgs false
namespace Go.Proofs.Ytmdkgaljnoookaa
open Go.Am
/-- What the law asks of booleans. -/
structure HasB (P : Program) : Prop where
  bne : ∀ p q : Bool, scalarBin P .neq 4 (.bool p) (.bool q) = some (.bool (p != q))
  beq : ∀ p q : Bool, scalarBin P .eql 4 (.bool p) (.bool q) = some (.bool (p == q))
variable {P : Program} (H : Has P) (L : Lb P) (HC : HasC P) (HB : HasB P)
include H
theorem pset_bad {v : AV} {l : List Pr} {k w : ByteArray} (hv : SL 2 v (prs l)) (hl : l.length < 2 ^ 38) (hs : Srt l = false) (h : Heap) :
    AWF P ann 0 13 [v, .sc (.string k), .sc (.string w)] h fun r h' => r = .tu [.sc (.slice none 0 0), errN false] ∧ h' = h := by
  refine AWF.fnc H.f0_13 rfl ?_
  (refine W_seq_gen fun N hN => ?_); simp (disch := first | omega | (simp only [List.length_cons, List.length_nil, List.length_append, u8s_len]; omega)) only [go_sem, ↓reduceIte, true_and, Nat.reduceLeDiff, Nat.reduceEqDiff, Nat.reduceAdd, Nat.reduceBEq, Int.reduceEq, H.cv_3_57, H.cv_5_3, H.cv_57_3]
  refine hN _ ?_; clear hN N
  simp (disch := first | omega | (simp only [List.length_cons, List.length_nil, List.length_append, u8s_len]; omega)) only [go_sem, ↓reduceIte, true_and, Nat.reduceLeDiff, Nat.reduceEqDiff, Nat.reduceAdd, Nat.reduceBEq, Int.reduceEq, H.cv_3_57, H.cv_5_3, H.cv_57_3]
  refine (merge_bad H hv.dis (w := .bs true 2 [[.sc (.string k), .sc (.string w)]] (some 1)) (m := [(k, w)]) SL.bs (by omega) (by simp) (by rw [hs]; rfl) _).mono ?_
  rintro _ _ ⟨rfl, hh⟩; subst hh
  rw [contK_some]; simp (disch := first | omega | (simp only [List.length_cons, List.length_nil, List.length_append, u8s_len]; omega)) only [go_sem, ↓reduceIte, true_and, Nat.reduceLeDiff, Nat.reduceEqDiff, Nat.reduceAdd, Nat.reduceBEq, Int.reduceEq, H.cv_3_57, H.cv_5_3, H.cv_57_3, errN]
include HC
theorem equal_ok {v w : AV} {l m : List Pr} (hv : SL 2 v (prs l)) (hw : SL 2 w (prs m)) (hl : l.length < 2 ^ 60) (hm : m.length < 2 ^ 60) (h : Heap) : AWF P ann 0 27 [v, w] h fun r h' => r = .sc (.bool (decide (l = m))) ∧ h' = h := by
  refine AWF.fnc H.f0_27 rfl ?_
  have e1 := @prs_len l
  have e2 := @prs_len m
  (refine W_seq_gen fun N hN => ?_); simp (disch := first | omega | (simp only [List.length_cons, List.length_nil, List.length_append, u8s_len]; omega)) only [go_sem, ↓reduceIte, true_and, Nat.reduceLeDiff, Nat.reduceEqDiff, Nat.reduceAdd, Nat.reduceBEq, Int.reduceEq, H.cv_3_57, H.cv_5_3, H.cv_57_3]
  refine hN _ ?_; clear hN N
  by_cases hlen : l.length = m.length
  · (refine W_seq_gen fun N hN => ?_); simp (disch := first | omega | (simp only [List.length_cons, List.length_nil, List.length_append, u8s_len]; omega)) only [go_sem, ↓reduceIte, true_and, Nat.reduceLeDiff, Nat.reduceEqDiff, Nat.reduceAdd, Nat.reduceBEq, Int.reduceEq, H.cv_3_57, H.cv_5_3, H.cv_57_3, hv.dis.len, hw.dis.len, e1, e2, hlen]
    refine hN _ ?_; clear hN N
    (refine W_seq_gen fun M hM => ?_)
    simp (disch := first | omega | (simp only [List.length_cons, List.length_nil, List.length_append, u8s_len]; omega)) only [go_sem, ↓reduceIte, true_and, Nat.reduceLeDiff, Nat.reduceEqDiff, Nat.reduceAdd, Nat.reduceBEq, Int.reduceEq, H.cv_3_57, H.cv_5_3, H.cv_57_3, hv.dis.len, e1, hlen]
    refine AW_loopN (fun n t h' => h' = h ∧ ∃ i, n = l.length - i ∧ i ≤ l.length ∧ t 0 = v ∧ t 1 = w ∧ t 12 = .sc (.int .i64 (l.length : Nat)) ∧ t 13 = .sc (.int .i64 (i : Nat)) ∧ l.take i = m.take i)
      (n := l.length) ⟨rfl, 0, rfl, Nat.zero_le _, rfl, rfl, by simp [upd_at, hlen], rfl, rfl⟩ ?_
    rintro n t h' ⟨rfl, i, rfl, hi, t0, t1, t12, t13, he⟩
    rcases Nat.lt_or_ge i l.length with hlt | hge
    · have hlt2 : i < m.length := by omega
      have g0 := prs_get hlt
      have g1 := prs_get hlt2
      (refine W_seq_gen fun N hN => ?_); simp (disch := first | omega | (simp only [List.length_cons, List.length_nil, List.length_append, u8s_len]; omega)) only [go_sem, ↓reduceIte, true_and, Nat.reduceLeDiff, Nat.reduceEqDiff, Nat.reduceAdd, Nat.reduceBEq, Int.reduceEq, H.cv_3_57, H.cv_5_3, H.cv_57_3, t12, t13, hlt]
      refine hN _ ?_; clear hN N
      (refine W_seq_gen fun N hN => ?_); simp (disch := first | omega | (simp only [List.length_cons, List.length_nil, List.length_append, u8s_len]; omega)) only [go_sem, ↓reduceIte, true_and, Nat.reduceLeDiff, Nat.reduceEqDiff, Nat.reduceAdd, Nat.reduceBEq, Int.reduceEq, H.cv_3_57, H.cv_5_3, H.cv_57_3]
      refine hN _ ?_; clear hN N
      (refine W_seq_gen fun N hN => ?_)
      rw [W_block]
      (refine W_seq_gen fun N hN => ?_); simp (disch := first | omega | (simp only [List.length_cons, List.length_nil, List.length_append, u8s_len]; omega)) only [go_sem, ↓reduceIte, true_and, Nat.reduceLeDiff, Nat.reduceEqDiff, Nat.reduceAdd, Nat.reduceBEq, Int.reduceEq, H.cv_3_57, H.cv_5_3, H.cv_57_3, t13]
      refine hN _ ?_; clear hN N
      by_cases hq : l[i] = m[i]
      · have hq2 : (decide ((l[i]).1 = (m[i]).1) && decide ((l[i]).2 = (m[i]).2)) = true := by rw [hq]; simp
        simp (disch := first | omega | (simp only [List.length_cons, List.length_nil, List.length_append, u8s_len]; omega)) only [go_sem, ↓reduceIte, true_and, Nat.reduceLeDiff, Nat.reduceEqDiff, Nat.reduceAdd, Nat.reduceBEq, Int.reduceEq, H.cv_3_57, H.cv_5_3, H.cv_57_3, t0, t1, hv.dis.ia, hw.dis.ia, g0, g1, HC.ne, hq2]
        refine hN _ ?_; clear hN N
        simp (disch := first | omega | (simp only [List.length_cons, List.length_nil, List.length_append, u8s_len]; omega)) only [go_sem, ↓reduceIte, true_and, Nat.reduceLeDiff, Nat.reduceEqDiff, Nat.reduceAdd, Nat.reduceBEq, Int.reduceEq, H.cv_3_57, H.cv_5_3, H.cv_57_3, t13, nat_add]
        exact ⟨l.length - (i + 1), by omega, i + 1, rfl, by omega, by simp [upd_at, t0], by simp [upd_at, t1], by simp [upd_at, t12], by simp [upd_at], by rw [List.take_add_one, List.take_add_one, he]; simp [hlt, hlt2, hq]⟩
      · have hq2 := pr_ne hq
        simp (disch := first | omega | (simp only [List.length_cons, List.length_nil, List.length_append, u8s_len]; omega)) only [go_sem, ↓reduceIte, true_and, Nat.reduceLeDiff, Nat.reduceEqDiff, Nat.reduceAdd, Nat.reduceBEq, Int.reduceEq, H.cv_3_57, H.cv_5_3, H.cv_57_3, t0, t1, hv.dis.ia, hw.dis.ia, g0, g1, HC.ne, hq2]
        have : l ≠ m := fun e => hq (by simp [e])
        simp [this]
    obtain rfl : i = l.length := by omega
    have : l = m := by
      rw [List.take_length] at he
      rw [he, hlen, List.take_length]
    (refine W_seq_gen fun N hN => ?_); simp (disch := first | omega | (simp only [List.length_cons, List.length_nil, List.length_append, u8s_len]; omega)) only [go_sem, ↓reduceIte, true_and, Nat.reduceLeDiff, Nat.reduceEqDiff, Nat.reduceAdd, Nat.reduceBEq, Int.reduceEq, H.cv_3_57, H.cv_5_3, H.cv_57_3, t12, t13, Nat.lt_irrefl]
    refine hN _ ?_; clear hN N
    (refine W_seq_gen fun N hN => ?_); simp (disch := first | omega | (simp only [List.length_cons, List.length_nil, List.length_append, u8s_len]; omega)) only [go_sem, ↓reduceIte, true_and, Nat.reduceLeDiff, Nat.reduceEqDiff, Nat.reduceAdd, Nat.reduceBEq, Int.reduceEq, H.cv_3_57, H.cv_5_3, H.cv_57_3]
    refine hM _ ?_; clear hN N hM M
    simp (disch := first | omega | (simp only [List.length_cons, List.length_nil, List.length_append, u8s_len]; omega)) only [go_sem, ↓reduceIte, true_and, Nat.reduceLeDiff, Nat.reduceEqDiff, Nat.reduceAdd, Nat.reduceBEq, Int.reduceEq, H.cv_3_57, H.cv_5_3, H.cv_57_3]
    simp [this]
  · have : l ≠ m := fun e => hlen (by rw [e])
    (refine W_seq_gen fun N hN => ?_); simp (disch := first | omega | (simp only [List.length_cons, List.length_nil, List.length_append, u8s_len]; omega)) only [go_sem, ↓reduceIte, true_and, Nat.reduceLeDiff, Nat.reduceEqDiff, Nat.reduceAdd, Nat.reduceBEq, Int.reduceEq, H.cv_3_57, H.cv_5_3, H.cv_57_3, hv.dis.len, hw.dis.len, e1, e2, hlen]
    simp [this]
theorem psame_ok {v w : AV} {l m : List Pr} (hv : SL 2 v (prs l)) (hw : SL 2 w (prs m)) (hl : l.length < 2 ^ 60) (hm : m.length < 2 ^ 60) (h : Heap) : AWF P ann 0 22 [v, w] h fun r h' => r = .sc (.bool (decide (l = m))) ∧ h' = h := by
  refine AWF.fnc H.f0_22 rfl ?_
  (refine W_seq_gen fun N hN => ?_); simp (disch := first | omega | (simp only [List.length_cons, List.length_nil, List.length_append, u8s_len]; omega)) only [go_sem, ↓reduceIte, true_and, Nat.reduceLeDiff, Nat.reduceEqDiff, Nat.reduceAdd, Nat.reduceBEq, Int.reduceEq, H.cv_3_57, H.cv_5_3, H.cv_57_3]
  refine hN _ ?_; clear hN N
  simp (disch := first | omega | (simp only [List.length_cons, List.length_nil, List.length_append, u8s_len]; omega)) only [go_sem, ↓reduceIte, true_and, Nat.reduceLeDiff, Nat.reduceEqDiff, Nat.reduceAdd, Nat.reduceBEq, Int.reduceEq, H.cv_3_57, H.cv_5_3, H.cv_57_3, hv.disc, hv.dd, hw.disc, hw.dd, hv.df.own, hw.df.own, Bool.not_false, Bool.true_or]
  refine (equal_ok H HC hv.dis hw.dis hl hm _).mono ?_
  rintro _ _ ⟨rfl, hh⟩; subst hh
  rw [contK_some]; simp (disch := first | omega | (simp only [List.length_cons, List.length_nil, List.length_append, u8s_len]; omega)) only [go_sem, ↓reduceIte, true_and, Nat.reduceLeDiff, Nat.reduceEqDiff, Nat.reduceAdd, Nat.reduceBEq, Int.reduceEq, H.cv_3_57, H.cv_5_3, H.cv_57_3]
include L HB
theorem turns_law {v : AV} {l : List Pr} {k w : ByteArray} (hv : SF 2 v (prs l)) (hl : l.length < 2 ^ 60) (h : Heap) :
    AWF P ann 0 6 [v, .sc (.string k), .sc (.string w)] h fun r h' => r = .sc (.bool true) := by
  refine AWF.fnc H.f0_6 rfl ?_
  have e1 := @prs_len l
  (refine W_seq_gen fun N hN => ?_); simp (disch := first | omega | (simp only [List.length_cons, List.length_nil, List.length_append, u8s_len]; omega)) only [go_sem, ↓reduceIte, true_and, Nat.reduceLeDiff, Nat.reduceEqDiff, Nat.reduceAdd, Nat.reduceBEq, Int.reduceEq, H.cv_3_57, H.cv_5_3, H.cv_57_3]
  refine hN _ ?_; clear hN N
  refine W_forget (fun t => t 0 = v ∧ t 1 = .sc (.string k) ∧ t 2 = .sc (.string w) ∧ True) (by simp [upd_at, *] <;> (first | rfl | exact ⟨rfl, rfl⟩ | exact ⟨rfl, rfl, rfl⟩ | exact ⟨rfl, rfl, rfl, rfl⟩ | exact ⟨rfl, rfl, rfl, rfl, rfl⟩)) ?_; rintro t ⟨t0, t1, t2, -⟩
  by_cases hb1 : 300 < l.length
  · (refine W_seq_gen fun N hN => ?_); simp (disch := first | omega | (simp only [List.length_cons, List.length_nil, List.length_append, u8s_len]; omega)) only [go_sem, ↓reduceIte, true_and, Nat.reduceLeDiff, Nat.reduceEqDiff, Nat.reduceAdd, Nat.reduceBEq, Int.reduceEq, H.cv_3_57, H.cv_5_3, H.cv_57_3, t0, hv.same, hv.disc, hv.sl.len, e1, hb1]
    refine (awake_ok H L _).mono ?_
    rintro _ _ ⟨rfl, hh⟩; subst hh
    rw [contK_some]; simp (disch := first | omega | (simp only [List.length_cons, List.length_nil, List.length_append, u8s_len]; omega)) only [go_sem, ↓reduceIte, true_and, Nat.reduceLeDiff, Nat.reduceEqDiff, Nat.reduceAdd, Nat.reduceBEq, Int.reduceEq, H.cv_3_57, H.cv_5_3, H.cv_57_3]
  (refine W_seq_gen fun N hN => ?_); simp (disch := first | omega | (simp only [List.length_cons, List.length_nil, List.length_append, u8s_len]; omega)) only [go_sem, ↓reduceIte, true_and, Nat.reduceLeDiff, Nat.reduceEqDiff, Nat.reduceAdd, Nat.reduceBEq, Int.reduceEq, H.cv_3_57, H.cv_5_3, H.cv_57_3, t0, hv.same, hv.disc, hv.sl.len, e1, hb1]
  refine hN _ ?_; clear hN N
  refine W_forget (fun t => t 0 = v ∧ t 1 = .sc (.string k) ∧ t 2 = .sc (.string w) ∧ True) (by simp [upd_at, *] <;> (first | rfl | exact ⟨rfl, rfl⟩ | exact ⟨rfl, rfl, rfl⟩ | exact ⟨rfl, rfl, rfl, rfl⟩ | exact ⟨rfl, rfl, rfl, rfl, rfl⟩)) ?_; rintro t ⟨t0, t1, t2, -⟩
  have hdl := List.length_filter_le (fun p : Pr => !decide (p.1 = k)) l
  change (dropS l k).length ≤ l.length at hdl
  cases hs : Srt l with
  | false =>
    have hdrop := drop_ok H (k := k) hv (by omega)
    rw [hs] at hdrop
    (refine W_seq_gen fun N hN => ?_); simp (disch := first | omega | (simp only [List.length_cons, List.length_nil, List.length_append, u8s_len]; omega)) only [go_sem, ↓reduceIte, true_and, Nat.reduceLeDiff, Nat.reduceEqDiff, Nat.reduceAdd, Nat.reduceBEq, Int.reduceEq, H.cv_3_57, H.cv_5_3, H.cv_57_3, t0, t1, t2, hv.same, hv.disc]
    refine (pset_bad H hv.sl (by omega) hs _).mono ?_
    rintro _ _ ⟨rfl, hh⟩; subst hh
    rw [contK_some]; simp (disch := first | omega | (simp only [List.length_cons, List.length_nil, List.length_append, u8s_len]; omega)) only [go_sem, ↓reduceIte, true_and, Nat.reduceLeDiff, Nat.reduceEqDiff, Nat.reduceAdd, Nat.reduceBEq, Int.reduceEq, H.cv_3_57, H.cv_5_3, H.cv_57_3, errN]
    refine hN _ ?_; clear hN N
    refine W_forget (fun t => t 0 = v ∧ t 1 = .sc (.string k) ∧ t 7 = .sc (.slice none 0 0) ∧ t 8 = .sc (.int .i64 ((1 : Nat) : Int)) ∧ True) (by simp [upd_at, *] <;> (first | rfl | exact ⟨rfl, rfl⟩ | exact ⟨rfl, rfl, rfl⟩ | exact ⟨rfl, rfl, rfl, rfl⟩ | exact ⟨rfl, rfl, rfl, rfl, rfl⟩)) ?_; rintro t ⟨t0, t1, t7, t8, -⟩
    (refine W_seq_gen fun N hN => ?_); simp (disch := first | omega | (simp only [List.length_cons, List.length_nil, List.length_append, u8s_len]; omega)) only [go_sem, ↓reduceIte, true_and, Nat.reduceLeDiff, Nat.reduceEqDiff, Nat.reduceAdd, Nat.reduceBEq, Int.reduceEq, H.cv_3_57, H.cv_5_3, H.cv_57_3, t0, t1, hv.same, hv.disc]
    refine (hdrop _).mono ?_
    rintro r h ⟨rfl, rfl⟩
    rw [contK_some]; simp (disch := first | omega | (simp only [List.length_cons, List.length_nil, List.length_append, u8s_len]; omega)) only [go_sem, ↓reduceIte, true_and, Nat.reduceLeDiff, Nat.reduceEqDiff, Nat.reduceAdd, Nat.reduceBEq, Int.reduceEq, H.cv_3_57, H.cv_5_3, H.cv_57_3, errN]
    refine hN _ ?_; clear hN N
    refine W_forget (fun t => t 0 = v ∧ t 7 = .sc (.slice none 0 0) ∧ t 8 = .sc (.int .i64 ((1 : Nat) : Int)) ∧ t 9 = .sc (.slice none 0 0) ∧ t 10 = .sc (.int .i64 ((1 : Nat) : Int)) ∧ True) (by simp [upd_at, *] <;> (first | rfl | exact ⟨rfl, rfl⟩ | exact ⟨rfl, rfl, rfl⟩ | exact ⟨rfl, rfl, rfl, rfl⟩ | exact ⟨rfl, rfl, rfl, rfl, rfl⟩)) ?_; rintro t ⟨t0, t7, t8, t9, t10, -⟩
    (refine W_seq_gen fun N hN => ?_); simp (disch := first | omega | (simp only [List.length_cons, List.length_nil, List.length_append, u8s_len]; omega)) only [go_sem, ↓reduceIte, true_and, Nat.reduceLeDiff, Nat.reduceEqDiff, Nat.reduceAdd, Nat.reduceBEq, Int.reduceEq, H.cv_3_57, H.cv_5_3, H.cv_57_3, t0, hv.same, hv.disc]
    refine (may_ok H hv (by omega) _).mono ?_
    rintro _ _ ⟨rfl, hh⟩; subst hh
    rw [hs]
    rw [contK_some]; simp (disch := first | omega | (simp only [List.length_cons, List.length_nil, List.length_append, u8s_len]; omega)) only [go_sem, ↓reduceIte, true_and, Nat.reduceLeDiff, Nat.reduceEqDiff, Nat.reduceAdd, Nat.reduceBEq, Int.reduceEq, H.cv_3_57, H.cv_5_3, H.cv_57_3, t0, hv.same, hv.disc]
    refine (check_ok H hv (by omega) _).mono ?_
    rintro _ _ ⟨rfl, hh⟩; subst hh
    rw [hs]
    rw [contK_some]; simp (disch := first | omega | (simp only [List.length_cons, List.length_nil, List.length_append, u8s_len]; omega)) only [go_sem, ↓reduceIte, true_and, Nat.reduceLeDiff, Nat.reduceEqDiff, Nat.reduceAdd, Nat.reduceBEq, Int.reduceEq, H.cv_3_57, H.cv_5_3, H.cv_57_3, errN, t7, t8]
    refine (none_ok H (n := 1) SL.nil (by simp) _).mono ?_
    rintro _ _ ⟨rfl, hh⟩; subst hh
    rw [contK_some]; simp (disch := first | omega | (simp only [List.length_cons, List.length_nil, List.length_append, u8s_len]; omega)) only [go_sem, ↓reduceIte, true_and, Nat.reduceLeDiff, Nat.reduceEqDiff, Nat.reduceAdd, Nat.reduceBEq, Int.reduceEq, H.cv_3_57, H.cv_5_3, H.cv_57_3, t9, t10]
    refine (none_ok H (n := 1) SL.nil (by simp) _).mono ?_
    rintro _ _ ⟨rfl, hh⟩; subst hh
    rw [contK_some]; simp (disch := first | omega | (simp only [List.length_cons, List.length_nil, List.length_append, u8s_len]; omega)) only [go_sem, ↓reduceIte, true_and, Nat.reduceLeDiff, Nat.reduceEqDiff, Nat.reduceAdd, Nat.reduceBEq, Int.reduceEq, H.cv_3_57, H.cv_5_3, H.cv_57_3]
    refine (awake_ok H L _).mono ?_
    rintro _ _ ⟨rfl, hh⟩; subst hh
    rw [contK_some]; simp (disch := first | omega | (simp only [List.length_cons, List.length_nil, List.length_append, u8s_len]; omega)) only [go_sem, ↓reduceIte, true_and, Nat.reduceLeDiff, Nat.reduceEqDiff, Nat.reduceAdd, Nat.reduceBEq, Int.reduceEq, H.cv_3_57, H.cv_5_3, H.cv_57_3]
  | true =>
    have hdrop := drop_ok H (k := k) hv (by omega)
    rw [hs] at hdrop
    have hset := pset_ok H (k := k) (w := w) hv.sl (by omega) hs
    rw [show mergeS l [(k, w)] = setS l k w from merge_one (k, w) hs] at hset
    have hsl := setS_len1 l k w
    (refine W_seq_gen fun N hN => ?_); simp (disch := first | omega | (simp only [List.length_cons, List.length_nil, List.length_append, u8s_len]; omega)) only [go_sem, ↓reduceIte, true_and, Nat.reduceLeDiff, Nat.reduceEqDiff, Nat.reduceAdd, Nat.reduceBEq, Int.reduceEq, H.cv_3_57, H.cv_5_3, H.cv_57_3, t0, t1, t2, hv.same, hv.disc]
    refine (hset _).mono ?_
    rintro _ h1 ⟨⟨s, rfl, hS⟩, rfl⟩
    rw [contK_some]; simp (disch := first | omega | (simp only [List.length_cons, List.length_nil, List.length_append, u8s_len]; omega)) only [go_sem, ↓reduceIte, true_and, Nat.reduceLeDiff, Nat.reduceEqDiff, Nat.reduceAdd, Nat.reduceBEq, Int.reduceEq, H.cv_3_57, H.cv_5_3, H.cv_57_3, errN, hS.same, hS.disc]
    refine hN _ ?_; clear hN N
    refine W_forget (fun t => t 0 = v ∧ t 1 = .sc (.string k) ∧ t 2 = .sc (.string w) ∧ t 7 = s ∧ t 8 = .sc (.int .i64 ((0 : Nat) : Int)) ∧ True) (by simp [upd_at, *] <;> (first | rfl | exact ⟨rfl, rfl⟩ | exact ⟨rfl, rfl, rfl⟩ | exact ⟨rfl, rfl, rfl, rfl⟩ | exact ⟨rfl, rfl, rfl, rfl, rfl⟩)) ?_; rintro t ⟨t0, t1, t2, t7, t8, -⟩
    (refine W_seq_gen fun N hN => ?_); simp (disch := first | omega | (simp only [List.length_cons, List.length_nil, List.length_append, u8s_len]; omega)) only [go_sem, ↓reduceIte, true_and, Nat.reduceLeDiff, Nat.reduceEqDiff, Nat.reduceAdd, Nat.reduceBEq, Int.reduceEq, H.cv_3_57, H.cv_5_3, H.cv_57_3, t0, t1, hv.same, hv.disc]
    refine (hdrop _).mono ?_
    rintro _ h1 ⟨⟨d, rfl, hD⟩, rfl⟩
    rw [contK_some]; simp (disch := first | omega | (simp only [List.length_cons, List.length_nil, List.length_append, u8s_len]; omega)) only [go_sem, ↓reduceIte, true_and, Nat.reduceLeDiff, Nat.reduceEqDiff, Nat.reduceAdd, Nat.reduceBEq, Int.reduceEq, H.cv_3_57, H.cv_5_3, H.cv_57_3, errN, hD.same, hD.disc]
    refine hN _ ?_; clear hN N
    refine W_forget (fun t => t 0 = v ∧ t 1 = .sc (.string k) ∧ t 2 = .sc (.string w) ∧ t 7 = s ∧ t 8 = .sc (.int .i64 ((0 : Nat) : Int)) ∧ t 9 = d ∧ t 10 = .sc (.int .i64 ((0 : Nat) : Int)) ∧ True) (by simp [upd_at, *] <;> (first | rfl | exact ⟨rfl, rfl⟩ | exact ⟨rfl, rfl, rfl⟩ | exact ⟨rfl, rfl, rfl, rfl⟩ | exact ⟨rfl, rfl, rfl, rfl, rfl⟩)) ?_; rintro t ⟨t0, t1, t2, t7, t8, t9, t10, -⟩
    (refine W_seq_gen fun N hN => ?_); simp (disch := first | omega | (simp only [List.length_cons, List.length_nil, List.length_append, u8s_len]; omega)) only [go_sem, ↓reduceIte, true_and, Nat.reduceLeDiff, Nat.reduceEqDiff, Nat.reduceAdd, Nat.reduceBEq, Int.reduceEq, H.cv_3_57, H.cv_5_3, H.cv_57_3, t0, hv.same, hv.disc]
    refine (may_ok H hv (by omega) _).mono ?_
    rintro _ h1 ⟨rfl, rfl⟩
    rw [hs]
    rw [contK_some]; simp (disch := first | omega | (simp only [List.length_cons, List.length_nil, List.length_append, u8s_len]; omega)) only [go_sem, ↓reduceIte, true_and, Nat.reduceLeDiff, Nat.reduceEqDiff, Nat.reduceAdd, Nat.reduceBEq, Int.reduceEq, H.cv_3_57, H.cv_5_3, H.cv_57_3]
    refine hN _ ?_; clear hN N
    refine W_forget (fun t => t 0 = v ∧ t 1 = .sc (.string k) ∧ t 2 = .sc (.string w) ∧ t 7 = s ∧ t 8 = .sc (.int .i64 ((0 : Nat) : Int)) ∧ t 9 = d ∧ t 10 = .sc (.int .i64 ((0 : Nat) : Int)) ∧ True) (by simp [upd_at, *] <;> (first | rfl | exact ⟨rfl, rfl⟩ | exact ⟨rfl, rfl, rfl⟩ | exact ⟨rfl, rfl, rfl, rfl⟩ | exact ⟨rfl, rfl, rfl, rfl, rfl⟩)) ?_; rintro t ⟨t0, t1, t2, t7, t8, t9, t10, -⟩
    (refine W_seq_gen fun N hN => ?_); simp (disch := first | omega | (simp only [List.length_cons, List.length_nil, List.length_append, u8s_len]; omega)) only [go_sem, ↓reduceIte, true_and, Nat.reduceLeDiff, Nat.reduceEqDiff, Nat.reduceAdd, Nat.reduceBEq, Int.reduceEq, H.cv_3_57, H.cv_5_3, H.cv_57_3, t0, t1, hv.same, hv.disc]
    refine (get_ok H L hv (by omega) hs _).mono ?_
    rintro _ h1 ⟨rfl, rfl⟩
    rw [contK_some]; simp (disch := first | omega | (simp only [List.length_cons, List.length_nil, List.length_append, u8s_len]; omega)) only [go_sem, ↓reduceIte, true_and, Nat.reduceLeDiff, Nat.reduceEqDiff, Nat.reduceAdd, Nat.reduceBEq, Int.reduceEq, H.cv_3_57, H.cv_5_3, H.cv_57_3]
    refine hN _ ?_; clear hN N
    refine W_forget (fun t => t 0 = v ∧ t 1 = .sc (.string k) ∧ t 2 = .sc (.string w) ∧ t 7 = s ∧ t 8 = .sc (.int .i64 ((0 : Nat) : Int)) ∧ t 9 = d ∧ t 10 = .sc (.int .i64 ((0 : Nat) : Int)) ∧ t 11 = .sc (.string (valOf l k)) ∧ t 12 = .sc (.bool (isk l k)) ∧ True) (by simp [upd_at, *] <;> (first | rfl | exact ⟨rfl, rfl⟩ | exact ⟨rfl, rfl, rfl⟩ | exact ⟨rfl, rfl, rfl, rfl⟩ | exact ⟨rfl, rfl, rfl, rfl, rfl⟩)) ?_; rintro t ⟨t0, t1, t2, t7, t8, t9, t10, t11, t12, -⟩
    (refine W_seq_gen fun N hN => ?_); simp (disch := first | omega | (simp only [List.length_cons, List.length_nil, List.length_append, u8s_len]; omega)) only [go_sem, ↓reduceIte, true_and, Nat.reduceLeDiff, Nat.reduceEqDiff, Nat.reduceAdd, Nat.reduceBEq, Int.reduceEq, H.cv_3_57, H.cv_5_3, H.cv_57_3, t0, t1, hv.same, hv.disc]
    refine (rat_ok H hv (by omega) _).mono ?_
    rintro _ h1 ⟨rfl, rfl⟩
    rw [contK_some]; simp (disch := first | omega | (simp only [List.length_cons, List.length_nil, List.length_append, u8s_len]; omega)) only [go_sem, ↓reduceIte, true_and, Nat.reduceLeDiff, Nat.reduceEqDiff, Nat.reduceAdd, Nat.reduceBEq, Int.reduceEq, H.cv_3_57, H.cv_5_3, H.cv_57_3]
    refine hN _ ?_; clear hN N
    refine W_forget (fun t => t 0 = v ∧ t 1 = .sc (.string k) ∧ t 2 = .sc (.string w) ∧ t 7 = s ∧ t 8 = .sc (.int .i64 ((0 : Nat) : Int)) ∧ t 9 = d ∧ t 10 = .sc (.int .i64 ((0 : Nat) : Int)) ∧ t 11 = .sc (.string (valOf l k)) ∧ t 12 = .sc (.bool (isk l k)) ∧ t 13 = .sc (.int .i64 (firstI l k)) ∧ True) (by simp [upd_at, *] <;> (first | rfl | exact ⟨rfl, rfl⟩ | exact ⟨rfl, rfl, rfl⟩ | exact ⟨rfl, rfl, rfl, rfl⟩ | exact ⟨rfl, rfl, rfl, rfl, rfl⟩)) ?_; rintro t ⟨t0, t1, t2, t7, t8, t9, t10, t11, t12, t13, -⟩
    (refine W_seq_gen fun M hM => ?_)
    have go : ∀ t : Nat → AV, t 0 = v → t 1 = .sc (.string k) → t 2 = .sc (.string w) → t 7 = s → t 8 = .sc (.int .i64 ((0 : Nat) : Int)) → t 9 = d → t 10 = .sc (.int .i64 ((0 : Nat) : Int)) → M ⟨t, h1⟩ := by
      clear t0 t1 t2 t7 t8 t9 t10 t11 t12 t13
      intro t t0 t1 t2 t7 t8 t9 t10
      refine hM _ ?_; clear hM M
      have hSl : (setS l k w).length < 2 ^ 38 := by omega
      have hDl : (dropS l k).length < 2 ^ 38 := by omega
      obtain ⟨k1, k2⟩ := isk_set (k := k) (w := w) hs
      have k3 := isk_drop l k
      (refine W_seq_gen fun N hN => ?_); simp (disch := first | omega | (simp only [List.length_cons, List.length_nil, List.length_append, u8s_len]; omega)) only [go_sem, ↓reduceIte, true_and, Nat.reduceLeDiff, Nat.reduceEqDiff, Nat.reduceAdd, Nat.reduceBEq, Int.reduceEq, H.cv_3_57, H.cv_5_3, H.cv_57_3, t1, t7, hS.same, hS.disc]
      refine (get_ok H L hS (Nat.lt_trans hSl (by decide)) (srt_set l k w hs) _).mono ?_
      rintro _ h1 ⟨rfl, rfl⟩
      rw [k1, k2]
      rw [contK_some]; simp (disch := first | omega | (simp only [List.length_cons, List.length_nil, List.length_append, u8s_len]; omega)) only [go_sem, ↓reduceIte, true_and, Nat.reduceLeDiff, Nat.reduceEqDiff, Nat.reduceAdd, Nat.reduceBEq, Int.reduceEq, H.cv_3_57, H.cv_5_3, H.cv_57_3]
      refine hN _ ?_; clear hN N
      refine W_forget (fun t => t 0 = v ∧ t 1 = .sc (.string k) ∧ t 2 = .sc (.string w) ∧ t 7 = s ∧ t 8 = .sc (.int .i64 ((0 : Nat) : Int)) ∧ t 9 = d ∧ t 10 = .sc (.int .i64 ((0 : Nat) : Int)) ∧ t 14 = .sc (.string w) ∧ t 15 = .sc (.bool true) ∧ True) (by simp [upd_at, *] <;> (first | rfl | exact ⟨rfl, rfl⟩ | exact ⟨rfl, rfl, rfl⟩ | exact ⟨rfl, rfl, rfl, rfl⟩ | exact ⟨rfl, rfl, rfl, rfl, rfl⟩)) ?_; rintro t ⟨t0, t1, t2, t7, t8, t9, t10, t14, t15, -⟩
      (refine W_seq_gen fun N hN => ?_); simp (disch := first | omega | (simp only [List.length_cons, List.length_nil, List.length_append, u8s_len]; omega)) only [go_sem, ↓reduceIte, true_and, Nat.reduceLeDiff, Nat.reduceEqDiff, Nat.reduceAdd, Nat.reduceBEq, Int.reduceEq, H.cv_3_57, H.cv_5_3, H.cv_57_3, t1, t9, hD.same, hD.disc]
      refine (get_ok H L hD (Nat.lt_trans hDl (by decide)) (srt_drop k hs) _).mono ?_
      rintro _ h1 ⟨rfl, rfl⟩
      rw [k3]
      rw [contK_some]; simp (disch := first | omega | (simp only [List.length_cons, List.length_nil, List.length_append, u8s_len]; omega)) only [go_sem, ↓reduceIte, true_and, Nat.reduceLeDiff, Nat.reduceEqDiff, Nat.reduceAdd, Nat.reduceBEq, Int.reduceEq, H.cv_3_57, H.cv_5_3, H.cv_57_3]
      refine hN _ ?_; clear hN N
      refine W_forget (fun t => t 0 = v ∧ t 1 = .sc (.string k) ∧ t 2 = .sc (.string w) ∧ t 7 = s ∧ t 8 = .sc (.int .i64 ((0 : Nat) : Int)) ∧ t 9 = d ∧ t 10 = .sc (.int .i64 ((0 : Nat) : Int)) ∧ t 14 = .sc (.string w) ∧ t 15 = .sc (.bool true) ∧ t 17 = .sc (.bool false) ∧ True) (by simp [upd_at, *] <;> (first | rfl | exact ⟨rfl, rfl⟩ | exact ⟨rfl, rfl, rfl⟩ | exact ⟨rfl, rfl, rfl, rfl⟩ | exact ⟨rfl, rfl, rfl, rfl, rfl⟩)) ?_; rintro t ⟨t0, t1, t2, t7, t8, t9, t10, t14, t15, t17, -⟩
      simp (disch := first | omega | (simp only [List.length_cons, List.length_nil, List.length_append, u8s_len]; omega)) only [go_sem, ↓reduceIte, true_and, Nat.reduceLeDiff, Nat.reduceEqDiff, Nat.reduceAdd, Nat.reduceBEq, Int.reduceEq, H.cv_3_57, H.cv_5_3, H.cv_57_3, t0, hv.same, hv.disc]
      refine (check_ok H hv (by omega) _).mono ?_
      rintro _ h1 ⟨rfl, rfl⟩
      rw [hs]
      rw [contK_some]; simp (disch := first | omega | (simp only [List.length_cons, List.length_nil, List.length_append, u8s_len]; omega)) only [go_sem, ↓reduceIte, true_and, Nat.reduceLeDiff, Nat.reduceEqDiff, Nat.reduceAdd, Nat.reduceBEq, Int.reduceEq, H.cv_3_57, H.cv_5_3, H.cv_57_3, errN, t0, t1, t2, t7, t8, t10, hv.same, hv.disc, hS.same, hS.disc]
      refine (set_ok H hv (by omega) _).mono ?_
      rintro _ h1 ⟨rfl, rfl⟩
      have hG := growV_ok 2 (prs (setS l k w))
      generalize growV 2 (prs (setS l k w)) = g at hG
      rw [contK_some]; simp (disch := first | omega | (simp only [List.length_cons, List.length_nil, List.length_append, u8s_len]; omega)) only [go_sem, ↓reduceIte, true_and, Nat.reduceLeDiff, Nat.reduceEqDiff, Nat.reduceAdd, Nat.reduceBEq, Int.reduceEq, H.cv_3_57, H.cv_5_3, H.cv_57_3, hG.sl.disc, hG.sl.dd, hS.own, Bool.not_false, Bool.true_or]
      refine (same_ok H HC hS.sl hG.sl (by omega) (by omega) _).mono ?_
      rintro _ h1 ⟨rfl, rfl⟩
      rw [contK_some]; simp (disch := first | omega | (simp only [List.length_cons, List.length_nil, List.length_append, u8s_len]; omega)) only [go_sem, ↓reduceIte, true_and, Nat.reduceLeDiff, Nat.reduceEqDiff, Nat.reduceAdd, Nat.reduceBEq, Int.reduceEq, H.cv_3_57, H.cv_5_3, H.cv_57_3, decide_true, t0, t1, t9, hv.same, hv.disc, hD.same, hD.disc]
      refine (rdrop_ok H hv (by omega) _).mono ?_
      rintro y h1 ⟨hy, rfl⟩
      rw [contK_some]; simp (disch := first | omega | (simp only [List.length_cons, List.length_nil, List.length_append, u8s_len]; omega)) only [go_sem, ↓reduceIte, true_and, Nat.reduceLeDiff, Nat.reduceEqDiff, Nat.reduceAdd, Nat.reduceBEq, Int.reduceEq, H.cv_3_57, H.cv_5_3, H.cv_57_3, hy.disc, hy.dd, hD.own, Bool.not_false, Bool.true_or]
      refine (same_ok H HC hD.sl hy (by omega) (by omega) _).mono ?_
      rintro _ h1 ⟨rfl, rfl⟩
      have hbe : scalarBin P .eql 4 (.bool (decide (l = setS l k w))) (.bool (decide (l = setS l k w))) = some (.bool true) := by rw [HB.beq]; simp
      rw [contK_some]; simp (disch := first | omega | (simp only [List.length_cons, List.length_nil, List.length_append, u8s_len]; omega)) only [go_sem, ↓reduceIte, true_and, Nat.reduceLeDiff, Nat.reduceEqDiff, Nat.reduceAdd, Nat.reduceBEq, Int.reduceEq, H.cv_3_57, H.cv_5_3, H.cv_57_3, decide_true, t0, t1, t2, t7, t9, t14, t15, t17, hv.same, hv.disc, hS.same, hS.disc, hv.own, hS.own, Bool.not_false, Bool.true_or]
      refine (psame_ok H HC hv.sl hS.sl hl (by omega) _).mono ?_
      rintro _ h1 ⟨rfl, rfl⟩
      rw [contK_some]; simp (disch := first | omega | (simp only [List.length_cons, List.length_nil, List.length_append, u8s_len]; omega)) only [go_sem, ↓reduceIte, true_and, Nat.reduceLeDiff, Nat.reduceEqDiff, Nat.reduceAdd, Nat.reduceBEq, Int.reduceEq, H.cv_3_57, H.cv_5_3, H.cv_57_3, t0, t7, hv.same, hv.disc, hS.same, hS.disc, hv.own, hS.own, Bool.not_false, Bool.true_or]
      refine (same_ok H HC hv.sl hS.sl hl (by omega) _).mono ?_
      rintro _ h1 ⟨rfl, rfl⟩
      rw [contK_some]; simp (disch := first | omega | (simp only [List.length_cons, List.length_nil, List.length_append, u8s_len]; omega)) only [go_sem, ↓reduceIte, true_and, Nat.reduceLeDiff, Nat.reduceEqDiff, Nat.reduceAdd, Nat.reduceBEq, Int.reduceEq, H.cv_3_57, H.cv_5_3, H.cv_57_3, hbe]
      refine (awake_ok H L _).mono ?_
      rintro _ _ ⟨rfl, hh⟩; subst hh
      rw [contK_some]; simp (disch := first | omega | (simp only [List.length_cons, List.length_nil, List.length_append, u8s_len]; omega)) only [go_sem, ↓reduceIte, true_and, Nat.reduceLeDiff, Nat.reduceEqDiff, Nat.reduceAdd, Nat.reduceBEq, Int.reduceEq, H.cv_3_57, H.cv_5_3, H.cv_57_3]
    rcases isk_first (k := k) hs with ⟨q1, i, hi, q2, q3⟩ | ⟨q1, q2, q3⟩
    · rw [q1] at t12
      rw [q2] at t13
      rw [q3] at t11
      have g0 := prs_get hi
      have b1 : scalarBin P .neq 4 (.bool true) (.bool (decide (0 ≤ i))) = some (.bool false) := by rw [HB.bne]; simp
      have d1 : (!decide (l[i].2 = l[i].2)) = false := by simp
      simp (disch := first | omega | (simp only [List.length_cons, List.length_nil, List.length_append, u8s_len]; omega)) only [go_sem, ↓reduceIte, true_and, Nat.reduceLeDiff, Nat.reduceEqDiff, Nat.reduceAdd, Nat.reduceBEq, Int.reduceEq, H.cv_3_57, H.cv_5_3, H.cv_57_3, t0, t11, t12, t13, b1, d1, hv.same, hv.disc, hv.sl.ia, g0]
      exact go _ (by simp [upd_at, t0]) (by simp [upd_at, t1]) (by simp [upd_at, t2]) (by simp [upd_at, t7]) (by simp [upd_at, t8]) (by simp [upd_at, t9]) (by simp [upd_at, t10])
    · rw [q1] at t12
      rw [q2] at t13
      rw [q3] at t11
      have b0 : scalarBin P .geq 3 (.int .i64 (-1)) (.int .i64 ((0 : Nat) : Int)) = some (.bool false) := by rw [sb_geq]; rfl
      have b1 : scalarBin P .neq 4 (.bool false) (.bool false) = some (.bool false) := HB.bne false false
      have d1 : (!decide (noS = noS)) = false := by simp
      simp (disch := first | omega | (simp only [List.length_cons, List.length_nil, List.length_append, u8s_len]; omega)) only [go_sem, ↓reduceIte, true_and, Nat.reduceLeDiff, Nat.reduceEqDiff, Nat.reduceAdd, Nat.reduceBEq, Int.reduceEq, H.cv_3_57, H.cv_5_3, H.cv_57_3, t0, t11, t12, t13, b0, b1, d1, hv.same, hv.disc]
      exact go _ (by simp [upd_at, t0]) (by simp [upd_at, t1]) (by simp [upd_at, t2]) (by simp [upd_at, t7]) (by simp [upd_at, t8]) (by simp [upd_at, t9]) (by simp [upd_at, t10])
end Go.Proofs.Ytmdkgaljnoookaa
