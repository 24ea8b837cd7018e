/- Which masters there may be. -/
import Derived.Test.YtkmakibigmlfeaaBallotM3
section
set_option linter.unusedVariables false
set_option linter.unusedSimpArgs false
namespace Go.Proofs.Ytkmakibigmlfeaa
open Go.Am
def bP (l : List Int) (i : Nat) : Bool := decide (l.getD i 0 < 1) || decide (999 < l.getD i 0) || (decide (0 < i) && decide (l.getD i 0 ≤ l.getD (i - 1) 0))
def goodP (l : List Int) : Bool := !(List.range l.length).any (bP l)
def bL (T : Int) (l : List Int) (i : Nat) : Bool := decide (l.getD i 0 < 1) || decide (T < l.getD i 0) || (decide (0 < i) && decide (l.getD i 0 < l.getD (i - 1) 0))
def goodL (T : Int) (l : List Int) : Bool := !(List.range l.length).any (bL T l)
theorem good_true {n : Nat} {f : Nat → Bool} (h : ∀ j, j < n → f j = false) : (List.range n).any f = false := by
  rw [List.any_eq_false]
  intro x hx
  rw [h x (List.mem_range.1 hx)]
  decide
theorem good_false {n i : Nat} {f : Nat → Bool} (hi : i < n) (h : f i = true) : (List.range n).any f = true := List.any_eq_true.2 ⟨i, List.mem_range.2 hi, h⟩
def peersB (id : Int) (l : List Int) : Bool := goodP l && decide (l.length ≤ 5) && decide (id ∈ l)
def IdxR (b : Bool) (r : AV) : Prop := ∃ z : Int, r = .sc (.int .i64 z) ∧ decide (z ≥ ((0 : Nat) : Int)) = b
variable {P : Program} (H : Has P)
include H
theorem indexg_ok {v : AV} {l : List Int} {x : Int} (hv : SF 1 v (ints l)) (hl : l.length < 2 ^ 40) (h : Heap) : AWF P ann 0 20 [v, .sc (.int .i64 x)] h fun r h' => IdxR (decide (x ∈ l)) r ∧ h' = h := by
  refine AWF.fnc H.f0_20 rfl ?_
  have e1 := @ints_len l
  (refine W_seq_gen fun N hN => ?_); simp (disch := first | omega | (simp only [List.length_cons, List.length_nil, List.length_append, u8s_len]; omega)) only [go_sem, ↓reduceIte, true_and, Nat.reduceLeDiff, Nat.reduceEqDiff, Nat.reduceAdd, Nat.reduceBEq, Int.reduceEq, H.cv_5_3]
  refine hN _ ?_; clear hN N
  (refine W_seq_gen fun M hM => ?_)
  simp (disch := first | omega | (simp only [List.length_cons, List.length_nil, List.length_append, u8s_len]; omega)) only [go_sem, ↓reduceIte, true_and, Nat.reduceLeDiff, Nat.reduceEqDiff, Nat.reduceAdd, Nat.reduceBEq, Int.reduceEq, H.cv_5_3, hv.same, hv.disc, hv.sl.len, e1]
  refine AW_loopN (fun m t h' => h' = h ∧ ∃ i, m = l.length - i ∧ i ≤ l.length ∧ t 0 = v ∧ t 1 = .sc (.int .i64 x) ∧ t 7 = .sc (.int .i64 (l.length : Nat)) ∧ t 8 = .sc (.int .i64 (i : Nat)) ∧ ∀ (j : Nat) (hj : j < l.length), j < i → l[j] ≠ x)
    (n := l.length) ⟨rfl, 0, rfl, Nat.zero_le _, rfl, rfl, rfl, rfl, fun j hj h => by omega⟩ ?_
  rintro m t h' ⟨rfl, i, rfl, hi, t0, t1, t7, t8, hno⟩
  rcases Nat.lt_or_ge i l.length with hlt | hge
  · have g0 := ints_get hlt
    (refine W_seq_gen fun N hN => ?_); simp (disch := first | omega | (simp only [List.length_cons, List.length_nil, List.length_append, u8s_len]; omega)) only [go_sem, ↓reduceIte, true_and, Nat.reduceLeDiff, Nat.reduceEqDiff, Nat.reduceAdd, Nat.reduceBEq, Int.reduceEq, H.cv_5_3, t7, t8, hlt]
    refine hN _ ?_; clear hN N
    (refine W_seq_gen fun N hN => ?_); simp (disch := first | omega | (simp only [List.length_cons, List.length_nil, List.length_append, u8s_len]; omega)) only [go_sem, ↓reduceIte, true_and, Nat.reduceLeDiff, Nat.reduceEqDiff, Nat.reduceAdd, Nat.reduceBEq, Int.reduceEq, H.cv_5_3]
    refine hN _ ?_; clear hN N
    (refine W_seq_gen fun N hN => ?_)
    rw [W_block]
    (refine W_seq_gen fun N hN => ?_); simp (disch := first | omega | (simp only [List.length_cons, List.length_nil, List.length_append, u8s_len]; omega)) only [go_sem, ↓reduceIte, true_and, Nat.reduceLeDiff, Nat.reduceEqDiff, Nat.reduceAdd, Nat.reduceBEq, Int.reduceEq, H.cv_5_3, t8]
    refine hN _ ?_; clear hN N
    by_cases c : x = l[i]
    · have d : (x == l[i]) = true := by simp [c]
      simp (disch := first | omega | (simp only [List.length_cons, List.length_nil, List.length_append, u8s_len]; omega)) only [go_sem, ↓reduceIte, true_and, Nat.reduceLeDiff, Nat.reduceEqDiff, Nat.reduceAdd, Nat.reduceBEq, Int.reduceEq, H.cv_5_3, t0, t1, hv.same, hv.disc, hv.sl.ia, g0, d]
      exact ⟨_, rfl, by rw [c]; simp⟩
    · have d : (x == l[i]) = false := by simp [c]
      simp (disch := first | omega | (simp only [List.length_cons, List.length_nil, List.length_append, u8s_len]; omega)) only [go_sem, ↓reduceIte, true_and, Nat.reduceLeDiff, Nat.reduceEqDiff, Nat.reduceAdd, Nat.reduceBEq, Int.reduceEq, H.cv_5_3, t0, t1, hv.same, hv.disc, hv.sl.ia, g0, d]
      refine hN _ ?_; clear hN N
      simp (disch := first | omega | (simp only [List.length_cons, List.length_nil, List.length_append, u8s_len]; omega)) only [go_sem, ↓reduceIte, true_and, Nat.reduceLeDiff, Nat.reduceEqDiff, Nat.reduceAdd, Nat.reduceBEq, Int.reduceEq, H.cv_5_3, t8, nat_add]
      exact ⟨l.length - (i + 1), by omega, i + 1, rfl, by omega, by simp [upd_at, t0], by simp [upd_at, t1], by simp [upd_at, t7], by simp [upd_at], fun j hj hlt' => by
        rcases Nat.lt_or_ge j i with q | q
        · exact hno j hj q
        · obtain rfl : j = i := by omega
          exact fun e => c e.symm⟩
  · obtain rfl : i = l.length := by omega
    (refine W_seq_gen fun N hN => ?_); simp (disch := first | omega | (simp only [List.length_cons, List.length_nil, List.length_append, u8s_len]; omega)) only [go_sem, ↓reduceIte, true_and, Nat.reduceLeDiff, Nat.reduceEqDiff, Nat.reduceAdd, Nat.reduceBEq, Int.reduceEq, H.cv_5_3, t7, t8, Nat.lt_irrefl]
    refine hN _ ?_; clear hN N
    (refine W_seq_gen fun N hN => ?_); simp (disch := first | omega | (simp only [List.length_cons, List.length_nil, List.length_append, u8s_len]; omega)) only [go_sem, ↓reduceIte, true_and, Nat.reduceLeDiff, Nat.reduceEqDiff, Nat.reduceAdd, Nat.reduceBEq, Int.reduceEq, H.cv_5_3]
    refine hM _ ?_; clear hN N hM M
    have hf : x ∉ l := fun hm => by
      obtain ⟨j, hj, e⟩ := List.getElem_of_mem hm
      exact hno j hj hj e
    simp (disch := first | omega | (simp only [List.length_cons, List.length_nil, List.length_append, u8s_len]; omega)) only [go_sem, ↓reduceIte, true_and, Nat.reduceLeDiff, Nat.reduceEqDiff, Nat.reduceAdd, Nat.reduceBEq, Int.reduceEq, H.cv_5_3]
    exact ⟨_, rfl, by simp [hf]⟩
theorem contains_ok {v : AV} {l : List Int} {x : Int} (hv : SF 1 v (ints l)) (hl : l.length < 2 ^ 40) (h : Heap) : AWF P ann 0 24 [v, .sc (.int .i64 x)] h fun r h' => r = .sc (.bool (decide (x ∈ l))) ∧ h' = h := by
  refine AWF.fnc H.f0_24 rfl ?_
  (refine W_seq_gen fun N hN => ?_); simp (disch := first | omega | (simp only [List.length_cons, List.length_nil, List.length_append, u8s_len]; omega)) only [go_sem, ↓reduceIte, true_and, Nat.reduceLeDiff, Nat.reduceEqDiff, Nat.reduceAdd, Nat.reduceBEq, Int.reduceEq, H.cv_5_3]
  refine hN _ ?_; clear hN N
  simp (disch := first | omega | (simp only [List.length_cons, List.length_nil, List.length_append, u8s_len]; omega)) only [go_sem, ↓reduceIte, true_and, Nat.reduceLeDiff, Nat.reduceEqDiff, Nat.reduceAdd, Nat.reduceBEq, Int.reduceEq, H.cv_5_3, hv.same, hv.disc]
  refine (indexg_ok H hv hl _).mono ?_
  rintro _ h1 ⟨⟨z, rfl, hz⟩, rfl⟩
  have hz2 : scalarBin P .geq 3 (.int .i64 z) (.int .i64 ((0 : Nat) : Int)) = some (.bool (decide (x ∈ l))) := by rw [sb_geq, ← hz]
  rw [contK_some]; simp (disch := first | omega | (simp only [List.length_cons, List.length_nil, List.length_append, u8s_len]; omega)) only [go_sem, ↓reduceIte, true_and, Nat.reduceLeDiff, Nat.reduceEqDiff, Nat.reduceAdd, Nat.reduceBEq, Int.reduceEq, H.cv_5_3, hz2]
theorem peers_ok {v : AV} {l : List Int} {id : Int} (hv : SF 1 v (ints l)) (hl : l.length < 2 ^ 40) (h : Heap) : AWF P ann 0 23 [.sc (.int .i64 id), v] h fun r h' => r = .sc (.bool (peersB id l)) ∧ h' = h := by
  refine AWF.fnc H.f0_23 rfl ?_
  have e1 := @ints_len l
  (refine W_seq_gen fun N hN => ?_); simp (disch := first | omega | (simp only [List.length_cons, List.length_nil, List.length_append, u8s_len]; omega)) only [go_sem, ↓reduceIte, true_and, Nat.reduceLeDiff, Nat.reduceEqDiff, Nat.reduceAdd, Nat.reduceBEq, Int.reduceEq, H.cv_5_3]
  refine hN _ ?_; clear hN N
  (refine W_seq_gen fun M hM => ?_)
  simp (disch := first | omega | (simp only [List.length_cons, List.length_nil, List.length_append, u8s_len]; omega)) only [go_sem, ↓reduceIte, true_and, Nat.reduceLeDiff, Nat.reduceEqDiff, Nat.reduceAdd, Nat.reduceBEq, Int.reduceEq, H.cv_5_3, hv.same, hv.disc, hv.sl.len, e1]
  refine AW_loopN (fun m t h' => h' = h ∧ ∃ i, m = l.length - i ∧ i ≤ l.length ∧ t 0 = .sc (.int .i64 id) ∧ t 1 = v ∧ t 7 = v ∧ t 8 = .sc (.int .i64 (l.length : Nat)) ∧ t 9 = .sc (.int .i64 (i : Nat)) ∧ ∀ j, j < i → bP l j = false)
    (n := l.length) ⟨rfl, 0, rfl, Nat.zero_le _, rfl, rfl, rfl, rfl, rfl, fun j h => by omega⟩ ?_
  rintro m t h' ⟨rfl, i, rfl, hi, t0, t1, t7, t8, t9, hno⟩
  rcases Nat.lt_or_ge i l.length with hlt | hge
  · have g0 := ints_get hlt
    have gd : l.getD i 0 = l[i] := by simp [hlt]
    generalize l[i] = x at g0 gd
    (refine W_seq_gen fun N hN => ?_); simp (disch := first | omega | (simp only [List.length_cons, List.length_nil, List.length_append, u8s_len]; omega)) only [go_sem, ↓reduceIte, true_and, Nat.reduceLeDiff, Nat.reduceEqDiff, Nat.reduceAdd, Nat.reduceBEq, Int.reduceEq, H.cv_5_3, t8, t9, hlt]
    refine hN _ ?_; clear hN N
    (refine W_seq_gen fun N hN => ?_); simp (disch := first | omega | (simp only [List.length_cons, List.length_nil, List.length_append, u8s_len]; omega)) only [go_sem, ↓reduceIte, true_and, Nat.reduceLeDiff, Nat.reduceEqDiff, Nat.reduceAdd, Nat.reduceBEq, Int.reduceEq, H.cv_5_3]
    refine hN _ ?_; clear hN N
    (refine W_seq_gen fun R hR => ?_)
    rw [W_block]
    (refine W_seq_gen fun N hN => ?_); simp (disch := first | omega | (simp only [List.length_cons, List.length_nil, List.length_append, u8s_len]; omega)) only [go_sem, ↓reduceIte, true_and, Nat.reduceLeDiff, Nat.reduceEqDiff, Nat.reduceAdd, Nat.reduceBEq, Int.reduceEq, H.cv_5_3, t7, t9, hv.same, hv.disc, hv.sl.ia, g0]
    refine hN _ ?_; clear hN N
    refine W_forget (fun t => t 0 = .sc (.int .i64 id) ∧ t 1 = v ∧ t 5 = .sc (.int .i64 (i : Nat)) ∧ t 6 = .sc (.int .i64 x) ∧ t 7 = v ∧ t 8 = .sc (.int .i64 (l.length : Nat)) ∧ t 9 = .sc (.int .i64 (i : Nat)) ∧ True) (by simp [upd_at, *] <;> (first | rfl | exact ⟨rfl, rfl⟩ | exact ⟨rfl, rfl, rfl⟩ | exact ⟨rfl, rfl, rfl, rfl⟩ | exact ⟨rfl, rfl, rfl, rfl, rfl⟩)) ?_; rintro t ⟨t0, t1, t5, t6, t7, t8, t9, -⟩
    have bad : bP l i = true → peersB id l = false := fun q => by simp [peersB, goodP, good_false hlt q]
    (refine W_seq_gen fun N hN => ?_)
    by_cases c1 : x < 1
    · have d1 : decide (x < ((1 : Nat) : Int)) = true := by simpa using c1
      simp (disch := first | omega | (simp only [List.length_cons, List.length_nil, List.length_append, u8s_len]; omega)) only [go_sem, ↓reduceIte, true_and, Nat.reduceLeDiff, Nat.reduceEqDiff, Nat.reduceAdd, Nat.reduceBEq, Int.reduceEq, H.cv_5_3, t5, t6, d1]
      refine hN _ ?_; clear hN N
      simp (disch := first | omega | (simp only [List.length_cons, List.length_nil, List.length_append, u8s_len]; omega)) only [go_sem, ↓reduceIte, true_and, Nat.reduceLeDiff, Nat.reduceEqDiff, Nat.reduceAdd, Nat.reduceBEq, Int.reduceEq, H.cv_5_3]
      rw [bad (by unfold bP; rw [gd]; simp [c1])]
    · have d1 : decide (x < ((1 : Nat) : Int)) = false := by simpa using c1
      by_cases c2 : 999 < x
      · have d2 : decide (x > ((999 : Nat) : Int)) = true := by simpa using c2
        simp (disch := first | omega | (simp only [List.length_cons, List.length_nil, List.length_append, u8s_len]; omega)) only [go_sem, ↓reduceIte, true_and, Nat.reduceLeDiff, Nat.reduceEqDiff, Nat.reduceAdd, Nat.reduceBEq, Int.reduceEq, H.cv_5_3, t5, t6, d1, d2]
        refine hN _ ?_; clear hN N
        simp (disch := first | omega | (simp only [List.length_cons, List.length_nil, List.length_append, u8s_len]; omega)) only [go_sem, ↓reduceIte, true_and, Nat.reduceLeDiff, Nat.reduceEqDiff, Nat.reduceAdd, Nat.reduceBEq, Int.reduceEq, H.cv_5_3]
        rw [bad (by unfold bP; rw [gd]; simp [c2])]
      · have d2 : decide (x > ((999 : Nat) : Int)) = false := by simpa using c2
        by_cases c3 : i = 0
        · have d3 : decide (0 < i) = false := by simp [c3]
          simp (disch := first | omega | (simp only [List.length_cons, List.length_nil, List.length_append, u8s_len]; omega)) only [go_sem, ↓reduceIte, true_and, Nat.reduceLeDiff, Nat.reduceEqDiff, Nat.reduceAdd, Nat.reduceBEq, Int.reduceEq, H.cv_5_3, t5, t6, d1, d2, d3]
          refine hN _ ?_; clear hN N
          simp (disch := first | omega | (simp only [List.length_cons, List.length_nil, List.length_append, u8s_len]; omega)) only [go_sem, ↓reduceIte, true_and, Nat.reduceLeDiff, Nat.reduceEqDiff, Nat.reduceAdd, Nat.reduceBEq, Int.reduceEq, H.cv_5_3]
          refine hR _ ?_; clear hR R
          simp (disch := first | omega | (simp only [List.length_cons, List.length_nil, List.length_append, u8s_len]; omega)) only [go_sem, ↓reduceIte, true_and, Nat.reduceLeDiff, Nat.reduceEqDiff, Nat.reduceAdd, Nat.reduceBEq, Int.reduceEq, H.cv_5_3, t9, nat_add]
          exact ⟨l.length - (i + 1), by omega, i + 1, rfl, by omega, by simp [upd_at, t0], by simp [upd_at, t1], by simp [upd_at, t7], by simp [upd_at, t8], by simp [upd_at], fun j hj => by
            rcases Nat.lt_or_ge j i with q | q
            · exact hno j q
            · obtain rfl : j = i := by omega
              exact (by unfold bP; rw [gd]; simp [c1, c2, c3])⟩
        · have d3 : decide (0 < i) = true := by simp; omega
          have hp := nat_pred (n := i) (by omega) (by omega)
          have g1 := ints_get (l := l) (i := i - 1) (by omega)
          have gd1 : l.getD (i - 1) 0 = l[i - 1] := by simp [show i - 1 < l.length by omega]
          generalize l[i - 1] = y at g1 gd1
          by_cases c4 : x ≤ y
          · have d4 : decide (x ≤ y) = true := by simpa using c4
            simp (disch := first | omega | (simp only [List.length_cons, List.length_nil, List.length_append, u8s_len]; omega)) only [go_sem, ↓reduceIte, true_and, Nat.reduceLeDiff, Nat.reduceEqDiff, Nat.reduceAdd, Nat.reduceBEq, Int.reduceEq, H.cv_5_3, t1, t5, t6, d1, d2, d3, hp, hv.same, hv.disc, hv.sl.ia, g1, d4]
            refine hN _ ?_; clear hN N
            simp (disch := first | omega | (simp only [List.length_cons, List.length_nil, List.length_append, u8s_len]; omega)) only [go_sem, ↓reduceIte, true_and, Nat.reduceLeDiff, Nat.reduceEqDiff, Nat.reduceAdd, Nat.reduceBEq, Int.reduceEq, H.cv_5_3]
            rw [bad (by unfold bP; rw [gd, gd1]; simp [c4, d3])]
          · have d4 : decide (x ≤ y) = false := by simpa using c4
            simp (disch := first | omega | (simp only [List.length_cons, List.length_nil, List.length_append, u8s_len]; omega)) only [go_sem, ↓reduceIte, true_and, Nat.reduceLeDiff, Nat.reduceEqDiff, Nat.reduceAdd, Nat.reduceBEq, Int.reduceEq, H.cv_5_3, t1, t5, t6, d1, d2, d3, hp, hv.same, hv.disc, hv.sl.ia, g1, d4]
            refine hN _ ?_; clear hN N
            simp (disch := first | omega | (simp only [List.length_cons, List.length_nil, List.length_append, u8s_len]; omega)) only [go_sem, ↓reduceIte, true_and, Nat.reduceLeDiff, Nat.reduceEqDiff, Nat.reduceAdd, Nat.reduceBEq, Int.reduceEq, H.cv_5_3]
            refine hR _ ?_; clear hR R
            simp (disch := first | omega | (simp only [List.length_cons, List.length_nil, List.length_append, u8s_len]; omega)) only [go_sem, ↓reduceIte, true_and, Nat.reduceLeDiff, Nat.reduceEqDiff, Nat.reduceAdd, Nat.reduceBEq, Int.reduceEq, H.cv_5_3, t9, nat_add]
            exact ⟨l.length - (i + 1), by omega, i + 1, rfl, by omega, by simp [upd_at, t0], by simp [upd_at, t1], by simp [upd_at, t7], by simp [upd_at, t8], by simp [upd_at], fun j hj => by
              rcases Nat.lt_or_ge j i with q | q
              · exact hno j q
              · obtain rfl : j = i := by omega
                exact (by unfold bP; rw [gd, gd1]; simp [c1, c2, c4])⟩
  · obtain rfl : i = l.length := by omega
    (refine W_seq_gen fun N hN => ?_); simp (disch := first | omega | (simp only [List.length_cons, List.length_nil, List.length_append, u8s_len]; omega)) only [go_sem, ↓reduceIte, true_and, Nat.reduceLeDiff, Nat.reduceEqDiff, Nat.reduceAdd, Nat.reduceBEq, Int.reduceEq, H.cv_5_3, t8, t9, Nat.lt_irrefl]
    refine hN _ ?_; clear hN N
    (refine W_seq_gen fun N hN => ?_); simp (disch := first | omega | (simp only [List.length_cons, List.length_nil, List.length_append, u8s_len]; omega)) only [go_sem, ↓reduceIte, true_and, Nat.reduceLeDiff, Nat.reduceEqDiff, Nat.reduceAdd, Nat.reduceBEq, Int.reduceEq, H.cv_5_3]
    refine hM _ ?_; clear hN N hM M
    have hgood : goodP l = true := by simp [goodP, good_true hno]
    by_cases c5 : l.length ≤ 5
    · have d5 : decide (l.length ≤ 5) = true := by simpa using c5
      simp (disch := first | omega | (simp only [List.length_cons, List.length_nil, List.length_append, u8s_len]; omega)) only [go_sem, ↓reduceIte, true_and, Nat.reduceLeDiff, Nat.reduceEqDiff, Nat.reduceAdd, Nat.reduceBEq, Int.reduceEq, H.cv_5_3, t0, t1, hv.same, hv.disc, hv.sl.len, e1, d5]
      refine (contains_ok H hv hl _).mono ?_
      rintro _ h1 ⟨rfl, rfl⟩
      rw [contK_some]; simp (disch := first | omega | (simp only [List.length_cons, List.length_nil, List.length_append, u8s_len]; omega)) only [go_sem, ↓reduceIte, true_and, Nat.reduceLeDiff, Nat.reduceEqDiff, Nat.reduceAdd, Nat.reduceBEq, Int.reduceEq, H.cv_5_3]
      simp [peersB, hgood, c5]
    · have d5 : decide (l.length ≤ 5) = false := by simpa using c5
      simp (disch := first | omega | (simp only [List.length_cons, List.length_nil, List.length_append, u8s_len]; omega)) only [go_sem, ↓reduceIte, true_and, Nat.reduceLeDiff, Nat.reduceEqDiff, Nat.reduceAdd, Nat.reduceBEq, Int.reduceEq, H.cv_5_3, t0, t1, hv.same, hv.disc, hv.sl.len, e1, d5]
      simp [peersB, d5]
end Go.Proofs.Ytkmakibigmlfeaa
end

section
set_option linter.unusedVariables false
set_option linter.unusedSimpArgs false
namespace Go.Proofs.Ytkmakibigmlfeaa
open Go.Am
def rest0 (id : Int) (p : List Int) (T vote : Int) (n : Nat) : Bool := peersB id p && decide (0 ≤ T) && decide (T ≤ 2147483647) && (vote == 0 || decide (vote ∈ p)) && decide (n ≤ 512)
def restB (id : Int) (p : List Int) (T vote : Int) (ts : List Int) : Bool := rest0 id p T vote ts.length && goodL T ts
theorem goodL_not {T : Int} {ts : List Int} {b : Bool} : (!b || (List.range ts.length).any (bL T ts)) = !(b && goodL T ts) := by
  unfold goodL
  cases b <;> simp
theorem any_succ {f : Nat → Bool} {i : Nat} {b : Bool} : (b || (List.range (i + 1)).any f) = ((b || (List.range i).any f) || f i) := by
  rw [List.range_succ, List.any_append]
  simp [Bool.or_assoc]
theorem setR0 {a x : AV} {l} : setRange (a :: l) 0 [x] = x :: l := by simp [setRange]
theorem setR1 {a b x : AV} {l} : setRange (a :: b :: l) 1 [x] = a :: x :: l := by simp [setRange]
theorem cells_bs2 {own sz es lim} : (AV.bs own sz es lim).cells = [.bs own sz es lim] := rfl
theorem cells_rs2 {o c sz n lim} : (AV.rs o c sz n lim).cells = [.rs o c sz n lim] := rfl
def frzL : AV → AV
  | .bs _ _ es _ => .bs false 2 (es.map logD) none
  | v => v
/-- A master of what it kept, or none. -/
def RestV (id : Int) (pv : AV) (T vote : Int) (lv : AV) (b : Bool) : AV :=
  if b then .tu [.ag [.sc (.int .i64 id), frz pv, .sc (.int .i64 T), .sc (.int .i64 vote), frzL lv, .sc (.int .i64 ((0 : Nat) : Int)), .sc (.int .i64 ((1 : Nat) : Int)), .sc (.int .i64 ((0 : Nat) : Int)), .sc (.slice none 0 0), .sc (.int .i64 ((0 : Nat) : Int)), .sc (.slice none 0 0), .sc (.slice none 0 0)], .sc (.int .i64 ((0 : Nat) : Int))]
  else .tu [.ag [.sc (.int .i64 ((0 : Nat) : Int)), .sc (.slice none 0 0), .sc (.int .i64 ((0 : Nat) : Int)), .sc (.int .i64 ((0 : Nat) : Int)), .sc (.slice none 0 0), .sc (.int .i64 ((0 : Nat) : Int)), .sc (.int .i64 ((0 : Nat) : Int)), .sc (.int .i64 ((0 : Nat) : Int)), .sc (.slice none 0 0), .sc (.int .i64 ((0 : Nat) : Int)), .sc (.slice none 0 0), .sc (.slice none 0 0)], .sc (.int .i64 ((1 : Nat) : Int))]
abbrev zero12 : List AV := [.sc (.int .i64 ((0 : Nat) : Int)), .sc (.slice none 0 0), .sc (.int .i64 ((0 : Nat) : Int)), .sc (.int .i64 ((0 : Nat) : Int)), .sc (.slice none 0 0), .sc (.int .i64 ((0 : Nat) : Int)), .sc (.int .i64 ((0 : Nat) : Int)), .sc (.int .i64 ((0 : Nat) : Int)), .sc (.slice none 0 0), .sc (.int .i64 ((0 : Nat) : Int)), .sc (.slice none 0 0), .sc (.slice none 0 0)]
theorem toF {sz : Nat} {v : AV} {es : List (List AV)} (h : SL sz v es) : SF sz v.dis es := by
  rcases h with ⟨rfl, rfl⟩ | ⟨o, lim, rfl⟩
  · exact .inl ⟨rfl, rfl⟩
  · exact .inr ⟨lim, rfl⟩
variable {P : Program} (H : Has P)
include H
set_option maxHeartbeats 4000000 in
theorem restore_ok {pw lv : AV} {p : List Int} {id T vote : Int} {es : List (List AV)} {l : List (Int × List UInt8)} (hpw : SL 1 pw (ints p)) (hlv : SF 2 lv es) (hL : RR LgR es l) (hpl : p.length ≤ 2 ^ 20) (hl : l.length ≤ 2 ^ 20) (hs0 : ∀ x ∈ l, x.2.length ≤ 2 ^ 30) (h : Heap) :
    AWF P ann 0 10 [.sc (.int .i64 id), pw, .sc (.int .i64 T), .sc (.int .i64 vote), lv] h fun r h' => r = RestV id pw.dis T vote lv (restB id p T vote (l.map Prod.fst)) ∧ h' = h := by
  obtain ⟨pv, epv⟩ : ∃ pv, pw.dis = pv := ⟨_, rfl⟩
  have hpv : SF 1 pv (ints p) := by rw [← epv]; exact toF hpw
  rw [epv]
  refine AWF.fnPureA H.f0_10 rfl ?_
  have hel := hL.len
  have hil := @ints_len p
  refine A_seq_gen fun N hN => W_sound ?_
  simp (disch := first | omega | (simp only [List.length_cons, List.length_nil, List.length_append, u8s_len]; omega)) only [go_sem, ↓reduceIte, true_and, Nat.reduceLeDiff, Nat.reduceEqDiff, Nat.reduceAdd, Nat.reduceBEq, Int.reduceEq, H.cv_5_3]
  intro o10 h10
  refine hN _ ?_; clear hN N
  refine A_seq_gen fun N hN => W_sound ?_
  refine W_forget (fun t => t 0 = .sc (.int .i64 id) ∧ t 1 = pw ∧ t 2 = .sc (.int .i64 T) ∧ t 3 = .sc (.int .i64 vote) ∧ t 4 = lv ∧ t 10 = .op o10 0 ∧ t 11 = .sc (.int .i64 ((0 : Nat) : Int)) ∧ True) (by simp [upd_at, *] <;> (first | rfl | exact ⟨rfl, rfl⟩ | exact ⟨rfl, rfl, rfl⟩ | exact ⟨rfl, rfl, rfl, rfl⟩ | exact ⟨rfl, rfl, rfl, rfl, rfl⟩)) ?_; rintro t ⟨t0, t1, t2, t3, t4, t10, t11, -⟩
  have rest : ∀ t', t' 0 = .sc (.int .i64 id) → t' 1 = pw → t' 2 = .sc (.int .i64 T) → t' 3 = .sc (.int .i64 vote) → t' 4 = lv → t' 10 = .op o10 0 → t' 12 = .sc (.bool (!rest0 id p T vote l.length)) → N ⟨t', upd h o10 (some (.arr zero12))⟩ := by
    intro t' t0 t1 t2 t3 t4 t10 t12
    refine hN _ ?_; clear hN N
    refine A_seq_gen fun M hM => W_sound ?_
    refine W_forget (fun t => t 0 = .sc (.int .i64 id) ∧ t 1 = pw ∧ t 2 = .sc (.int .i64 T) ∧ t 3 = .sc (.int .i64 vote) ∧ t 4 = lv ∧ t 10 = .op o10 0 ∧ t 12 = .sc (.bool (!rest0 id p T vote l.length)) ∧ True) (by simp [upd_at, *] <;> (first | rfl | exact ⟨rfl, rfl⟩ | exact ⟨rfl, rfl, rfl⟩ | exact ⟨rfl, rfl, rfl, rfl⟩ | exact ⟨rfl, rfl, rfl, rfl, rfl⟩)) ?_; rintro t ⟨t0, t1, t2, t3, t4, t10, t12, -⟩
    simp (disch := first | omega | (simp only [List.length_cons, List.length_nil, List.length_append, u8s_len]; omega)) only [go_sem, ↓reduceIte, true_and, Nat.reduceLeDiff, Nat.reduceEqDiff, Nat.reduceAdd, Nat.reduceBEq, Int.reduceEq, H.cv_5_3, t4, hlv.same, hlv.disc, hlv.sl.len]
    refine AW_loopN (fun m t h' => ∃ i, m = l.length - i ∧ i ≤ l.length ∧ t 0 = .sc (.int .i64 id) ∧ t 1 = pw ∧ t 2 = .sc (.int .i64 T) ∧ t 3 = .sc (.int .i64 vote) ∧ t 4 = lv ∧ t 10 = .op o10 0 ∧ t 42 = lv ∧ t 43 = .sc (.int .i64 (l.length : Nat)) ∧ t 44 = .sc (.int .i64 (i : Nat)) ∧
        t 12 = .sc (.bool (!rest0 id p T vote l.length || (List.range i).any (bL T (l.map Prod.fst)))) ∧ (∀ x, h x ≠ none → h' x = h x) ∧ h' o10 = some (.arr zero12)) (n := l.length)
      ⟨0, rfl, Nat.zero_le _, by simp [upd_at, t0], by simp [upd_at, t1], by simp [upd_at, t2], by simp [upd_at, t3], by simp [upd_at, t4], by simp [upd_at, t10], by simp [upd_at], by simp [upd_at, hel], by simp [upd_at], by simp [upd_at, t12], fun x hx => by
        have : x ≠ o10 := fun e => hx (by rw [e]; exact h10)
        rw [upd_ne _ _ this], by rw [upd_same]⟩ ?_
    clear t0 t1 t2 t3 t4 t10 t12 t
    rintro m t h' ⟨i, rfl, hi, t0, t1, t2, t3, t4, t10, t42, t43, t44, t12, hk, hz⟩
    rcases Nat.lt_or_ge i l.length with hlt | hge
    · obtain ⟨e, g0, w, he, hw⟩ := hL.lt hlt
      have gd : (l.map Prod.fst).getD i 0 = l[i].1 := by simp [hlt]
      generalize l[i] = x at he hw gd
      subst he
      (refine W_seq_gen fun N hN => ?_); simp (disch := first | omega | (simp only [List.length_cons, List.length_nil, List.length_append, u8s_len]; omega)) only [go_sem, ↓reduceIte, true_and, Nat.reduceLeDiff, Nat.reduceEqDiff, Nat.reduceAdd, Nat.reduceBEq, Int.reduceEq, H.cv_5_3, t43, t44, hlt]
      refine hN _ ?_; clear hN N
      (refine W_seq_gen fun N hN => ?_); simp (disch := first | omega | (simp only [List.length_cons, List.length_nil, List.length_append, u8s_len]; omega)) only [go_sem, ↓reduceIte, true_and, Nat.reduceLeDiff, Nat.reduceEqDiff, Nat.reduceAdd, Nat.reduceBEq, Int.reduceEq, H.cv_5_3]
      refine hN _ ?_; clear hN N
      (refine W_seq_gen fun R hR => ?_)
      rw [W_block]
      (refine W_seq_gen fun N hN => ?_); simp (disch := first | omega | (simp only [List.length_cons, List.length_nil, List.length_append, u8s_len]; omega)) only [go_sem, ↓reduceIte, true_and, Nat.reduceLeDiff, Nat.reduceEqDiff, Nat.reduceAdd, Nat.reduceBEq, Int.reduceEq, H.cv_5_3, t42, t44, hlv.same, hlv.disc, hlv.sl.ia, g0, hw.same, hw.disc]
      intro o4 h4
      have hO := OB.nil (h := h')
      refine hN _ ?_; clear hN N; refine W_ob (hO.new h4) fun hc hO => ?_
      refine W_forget (fun t => t 0 = .sc (.int .i64 id) ∧ t 1 = pw ∧ t 2 = .sc (.int .i64 T) ∧ t 3 = .sc (.int .i64 vote) ∧ t 4 = lv ∧ t 10 = .op o10 0 ∧ t 12 = .sc (.bool (!rest0 id p T vote l.length || (List.range i).any (bL T (l.map Prod.fst)))) ∧ t 13 = .sc (.int .i64 (i : Nat)) ∧ t 14 = .op o4 0 ∧ t 42 = lv ∧ t 43 = .sc (.int .i64 (l.length : Nat)) ∧ t 44 = .sc (.int .i64 (i : Nat)) ∧ True) (by simp [upd_at, *] <;> (first | rfl | exact ⟨rfl, rfl⟩ | exact ⟨rfl, rfl, rfl⟩ | exact ⟨rfl, rfl, rfl, rfl⟩ | exact ⟨rfl, rfl, rfl, rfl, rfl⟩)) ?_; rintro t ⟨t0, t1, t2, t3, t4, t10, t12, t13, t14, t42, t43, t44, -⟩
      have ho4 := hO.get0
      have hz2 := hO.live hz
      have hk2 : ∀ x, h x ≠ none → hc x = h x := fun x hx => by rw [hO.keep x (by rw [hk x hx]; exact hx), hk x hx]
      cases hb : (!rest0 id p T vote l.length || (List.range i).any (bL T (l.map Prod.fst))) with
      | true =>
        rw [hb] at t12
        simp (disch := first | omega | (simp only [List.length_cons, List.length_nil, List.length_append, u8s_len]; omega)) only [go_sem, ↓reduceIte, true_and, Nat.reduceLeDiff, Nat.reduceEqDiff, Nat.reduceAdd, Nat.reduceBEq, Int.reduceEq, H.cv_5_3, t12]
        refine hR _ ?_; clear hR R
        simp (disch := first | omega | (simp only [List.length_cons, List.length_nil, List.length_append, u8s_len]; omega)) only [go_sem, ↓reduceIte, true_and, Nat.reduceLeDiff, Nat.reduceEqDiff, Nat.reduceAdd, Nat.reduceBEq, Int.reduceEq, H.cv_5_3, t44, nat_add]
        refine ⟨l.length - (i + 1), by omega, i + 1, rfl, by omega, by simp [upd_at, t0], by simp [upd_at, t1], by simp [upd_at, t2], by simp [upd_at, t3], by simp [upd_at, t4], by simp [upd_at, t10], by simp [upd_at, t42], by simp [upd_at, t43], by simp [upd_at], ?_, hk2, hz2⟩
        rw [any_succ, hb]
        simp only [upd_at, Bool.true_or, Bool.false_or]

      | false =>
        rw [hb] at t12
        by_cases c1 : x.1 < 1
        · have d1 : decide (x.1 < ((1 : Nat) : Int)) = true := by simpa using c1
          simp (disch := first | omega | (simp only [List.length_cons, List.length_nil, List.length_append, u8s_len]; omega)) only [go_sem, ↓reduceIte, true_and, Nat.reduceLeDiff, Nat.reduceEqDiff, Nat.reduceAdd, Nat.reduceBEq, Int.reduceEq, H.cv_5_3, t12, t14, ho4, d1]
          refine hR _ ?_; clear hR R
          simp (disch := first | omega | (simp only [List.length_cons, List.length_nil, List.length_append, u8s_len]; omega)) only [go_sem, ↓reduceIte, true_and, Nat.reduceLeDiff, Nat.reduceEqDiff, Nat.reduceAdd, Nat.reduceBEq, Int.reduceEq, H.cv_5_3, t44, nat_add]
          refine ⟨l.length - (i + 1), by omega, i + 1, rfl, by omega, by simp [upd_at, t0], by simp [upd_at, t1], by simp [upd_at, t2], by simp [upd_at, t3], by simp [upd_at, t4], by simp [upd_at, t10], by simp [upd_at, t42], by simp [upd_at, t43], by simp [upd_at], ?_, hk2, hz2⟩
          rw [any_succ, hb]
          simp only [upd_at, Bool.true_or, Bool.false_or]
          have : bL T (l.map Prod.fst) i = true := by unfold bL; rw [gd]; simp [c1]
          simp [this]
        · have d1 : decide (x.1 < ((1 : Nat) : Int)) = false := by simpa using c1
          by_cases c2 : T < x.1
          · have d2 : decide (x.1 > T) = true := by simpa using c2
            simp (disch := first | omega | (simp only [List.length_cons, List.length_nil, List.length_append, u8s_len]; omega)) only [go_sem, ↓reduceIte, true_and, Nat.reduceLeDiff, Nat.reduceEqDiff, Nat.reduceAdd, Nat.reduceBEq, Int.reduceEq, H.cv_5_3, t2, t12, t14, ho4, d1, d2]
            refine hR _ ?_; clear hR R
            simp (disch := first | omega | (simp only [List.length_cons, List.length_nil, List.length_append, u8s_len]; omega)) only [go_sem, ↓reduceIte, true_and, Nat.reduceLeDiff, Nat.reduceEqDiff, Nat.reduceAdd, Nat.reduceBEq, Int.reduceEq, H.cv_5_3, t44, nat_add]
            refine ⟨l.length - (i + 1), by omega, i + 1, rfl, by omega, by simp [upd_at, t0], by simp [upd_at, t1], by simp [upd_at, t2], by simp [upd_at, t3], by simp [upd_at, t4], by simp [upd_at, t10], by simp [upd_at, t42], by simp [upd_at, t43], by simp [upd_at], ?_, hk2, hz2⟩
            rw [any_succ, hb]
            simp only [upd_at, Bool.true_or, Bool.false_or]
            have : bL T (l.map Prod.fst) i = true := by unfold bL; rw [gd]; simp [c2]
            simp [this]
          · have d2 : decide (x.1 > T) = false := by simpa using c2
            by_cases c3 : i = 0
            · have d3 : decide (0 < i) = false := by simp [c3]
              simp (disch := first | omega | (simp only [List.length_cons, List.length_nil, List.length_append, u8s_len]; omega)) only [go_sem, ↓reduceIte, true_and, Nat.reduceLeDiff, Nat.reduceEqDiff, Nat.reduceAdd, Nat.reduceBEq, Int.reduceEq, H.cv_5_3, t2, t12, t13, t14, ho4, d1, d2, d3]
              refine hR _ ?_; clear hR R
              simp (disch := first | omega | (simp only [List.length_cons, List.length_nil, List.length_append, u8s_len]; omega)) only [go_sem, ↓reduceIte, true_and, Nat.reduceLeDiff, Nat.reduceEqDiff, Nat.reduceAdd, Nat.reduceBEq, Int.reduceEq, H.cv_5_3, t44, nat_add]
              refine ⟨l.length - (i + 1), by omega, i + 1, rfl, by omega, by simp [upd_at, t0], by simp [upd_at, t1], by simp [upd_at, t2], by simp [upd_at, t3], by simp [upd_at, t4], by simp [upd_at, t10], by simp [upd_at, t42], by simp [upd_at, t43], by simp [upd_at], ?_, hk2, hz2⟩
              rw [any_succ, hb]
              simp only [upd_at, Bool.true_or, Bool.false_or]
              have : bL T (l.map Prod.fst) i = false := by unfold bL; rw [gd]; simp [c1, c2, c3]
              simp [this]
            · have d3 : decide (0 < i) = true := by simp; omega
              have hp := nat_pred (n := i) (by omega) (by omega)
              obtain ⟨e1, g1, w1, rfl, hw1⟩ := hL.lt (i := i - 1) (by omega)
              have gd1 : (l.map Prod.fst).getD (i - 1) 0 = (l[i - 1]'(by omega)).1 := by simp [show i - 1 < l.length by omega]
              generalize (l[i - 1]'(by omega)).1 = y at g1 gd1
              by_cases c4 : x.1 < y
              · have d4 : decide (x.1 < y) = true := by simpa using c4
                simp (disch := first | omega | (simp only [List.length_cons, List.length_nil, List.length_append, u8s_len]; omega)) only [go_sem, ↓reduceIte, true_and, Nat.reduceLeDiff, Nat.reduceEqDiff, Nat.reduceAdd, Nat.reduceBEq, Int.reduceEq, H.cv_5_3, t2, t4, t12, t13, t14, ho4, d1, d2, d3, hp, hlv.same, hlv.disc, hlv.sl.ia, g1, d4]
                refine hR _ ?_; clear hR R
                simp (disch := first | omega | (simp only [List.length_cons, List.length_nil, List.length_append, u8s_len]; omega)) only [go_sem, ↓reduceIte, true_and, Nat.reduceLeDiff, Nat.reduceEqDiff, Nat.reduceAdd, Nat.reduceBEq, Int.reduceEq, H.cv_5_3, t44, nat_add]
                refine ⟨l.length - (i + 1), by omega, i + 1, rfl, by omega, by simp [upd_at, t0], by simp [upd_at, t1], by simp [upd_at, t2], by simp [upd_at, t3], by simp [upd_at, t4], by simp [upd_at, t10], by simp [upd_at, t42], by simp [upd_at, t43], by simp [upd_at], ?_, hk2, hz2⟩
                rw [any_succ, hb]
                simp only [upd_at, Bool.true_or, Bool.false_or]
                have : bL T (l.map Prod.fst) i = true := by unfold bL; rw [gd, gd1]; simp [c4, d3]
                simp [this]
              · have d4 : decide (x.1 < y) = false := by simpa using c4
                simp (disch := first | omega | (simp only [List.length_cons, List.length_nil, List.length_append, u8s_len]; omega)) only [go_sem, ↓reduceIte, true_and, Nat.reduceLeDiff, Nat.reduceEqDiff, Nat.reduceAdd, Nat.reduceBEq, Int.reduceEq, H.cv_5_3, t2, t4, t12, t13, t14, ho4, d1, d2, d3, hp, hlv.same, hlv.disc, hlv.sl.ia, g1, d4]
                refine hR _ ?_; clear hR R
                simp (disch := first | omega | (simp only [List.length_cons, List.length_nil, List.length_append, u8s_len]; omega)) only [go_sem, ↓reduceIte, true_and, Nat.reduceLeDiff, Nat.reduceEqDiff, Nat.reduceAdd, Nat.reduceBEq, Int.reduceEq, H.cv_5_3, t44, nat_add]
                refine ⟨l.length - (i + 1), by omega, i + 1, rfl, by omega, by simp [upd_at, t0], by simp [upd_at, t1], by simp [upd_at, t2], by simp [upd_at, t3], by simp [upd_at, t4], by simp [upd_at, t10], by simp [upd_at, t42], by simp [upd_at, t43], by simp [upd_at], ?_, hk2, hz2⟩
                rw [any_succ, hb]
                simp only [upd_at, Bool.true_or, Bool.false_or]
                have : bL T (l.map Prod.fst) i = false := by unfold bL; rw [gd, gd1]; simp [c1, c2, c4]
                simp [this]
    · obtain rfl : i = l.length := by omega
      (refine W_seq_gen fun N hN => ?_); simp (disch := first | omega | (simp only [List.length_cons, List.length_nil, List.length_append, u8s_len]; omega)) only [go_sem, ↓reduceIte, true_and, Nat.reduceLeDiff, Nat.reduceEqDiff, Nat.reduceAdd, Nat.reduceBEq, Int.reduceEq, H.cv_5_3, t43, t44, Nat.lt_irrefl]
      refine hN _ ?_; clear hN N
      (refine W_seq_gen fun N hN => ?_); simp (disch := first | omega | (simp only [List.length_cons, List.length_nil, List.length_append, u8s_len]; omega)) only [go_sem, ↓reduceIte, true_and, Nat.reduceLeDiff, Nat.reduceEqDiff, Nat.reduceAdd, Nat.reduceBEq, Int.reduceEq, H.cv_5_3]
      refine hM _ ?_; clear hN N hM M
      have hR : (!rest0 id p T vote l.length || (List.range l.length).any (bL T (l.map Prod.fst))) = !restB id p T vote (l.map Prod.fst) := by
        have := goodL_not (T := T) (ts := l.map Prod.fst) (b := rest0 id p T vote l.length)
        rw [List.length_map] at this
        rw [this, restB, List.length_map]
      rw [hR] at t12
      refine A_seq_gen fun N hN => W_sound ?_
      refine W_forget (fun t => t 0 = .sc (.int .i64 id) ∧ t 1 = pw ∧ t 2 = .sc (.int .i64 T) ∧ t 3 = .sc (.int .i64 vote) ∧ t 4 = lv ∧ t 10 = .op o10 0 ∧ t 12 = .sc (.bool (!restB id p T vote (l.map Prod.fst))) ∧ True) (by simp [upd_at, *] <;> (first | rfl | exact ⟨rfl, rfl⟩ | exact ⟨rfl, rfl, rfl⟩ | exact ⟨rfl, rfl, rfl, rfl⟩ | exact ⟨rfl, rfl, rfl, rfl, rfl⟩)) ?_; rintro t ⟨t0, t1, t2, t3, t4, t10, t12, -⟩
      cases hB : restB id p T vote (l.map Prod.fst) with
      | false =>
        rw [hB, Bool.not_false] at t12
        simp (disch := first | omega | (simp only [List.length_cons, List.length_nil, List.length_append, u8s_len]; omega)) only [go_sem, ↓reduceIte, true_and, Nat.reduceLeDiff, Nat.reduceEqDiff, Nat.reduceAdd, Nat.reduceBEq, Int.reduceEq, H.cv_5_3, t10, t12, hz]
        exact ⟨rfl, fun x hx => by
          have : x ≠ o10 := fun e => hx (by rw [e]; exact h10)
          rw [if_neg this]
          exact hk x hx⟩
      | true =>
        rw [hB, Bool.not_true] at t12
        simp (disch := first | omega | (simp only [List.length_cons, List.length_nil, List.length_append, u8s_len]; omega)) only [go_sem, ↓reduceIte, true_and, Nat.reduceLeDiff, Nat.reduceEqDiff, Nat.reduceAdd, Nat.reduceBEq, Int.reduceEq, H.cv_5_3, t12]
        refine hN _ ?_; clear hN N
        refine A_seq_gen fun N hN => W_sound ?_
        have hfp := frz_sf hpv
        have cfp : (frz pv).cells = [frz pv] := by rcases hfp with ⟨e, _⟩ | ⟨_, e⟩ <;> rw [e] <;> rfl
        have tfp : (frz pv).isTu = false := by rcases hfp with ⟨e, _⟩ | ⟨_, e⟩ <;> rw [e] <;> rfl
        simp (disch := first | omega | (simp only [List.length_cons, List.length_nil, List.length_append, u8s_len]; omega)) only [go_sem, ↓reduceIte, true_and, Nat.reduceLeDiff, Nat.reduceEqDiff, Nat.reduceAdd, Nat.reduceBEq, Int.reduceEq, H.cv_5_3, t0, t1, t2, t3, t4, t10, epv]
        refine (clone25_ok H hpv (by omega) _).mono ?_
        rintro _ h5 ⟨rfl, rfl⟩
        rw [contK_some]; simp (disch := first | omega | (simp only [List.length_cons, List.length_nil, List.length_append, u8s_len]; omega)) only [go_sem, ↓reduceIte, true_and, Nat.reduceLeDiff, Nat.reduceEqDiff, Nat.reduceAdd, Nat.reduceBEq, Int.reduceEq, H.cv_5_3, t2, t3, t4, hlv.same]
        refine (records_ok H hlv hL (by omega) hs0 _).mono ?_
        intro r h6 hr
        have hk6 := hr.keep
        have hz6 : h6 o10 = some (.arr zero12) := by rw [hk6 o10 (by rw [hz]; simp), hz]
        have hkk : ∀ x, h x ≠ none → h6 x = h x := fun x hx => by rw [hk6 x (by rw [hk x hx]; exact hx), hk x hx]
        rcases hr with ⟨rfl, rfl, rfl, rfl⟩ | ⟨⟨lim, rfl⟩, rfl, rfl, rfl⟩ | ⟨lim, rfl, hne, q, cap, z, a1, rfl, a3, a4, a5, a6⟩
        · rw [contK_some]; simp (disch := first | omega | (simp only [List.length_cons, List.length_nil, List.length_append, u8s_len]; omega)) only [go_sem, ↓reduceIte, true_and, Nat.reduceLeDiff, Nat.reduceEqDiff, Nat.reduceAdd, Nat.reduceBEq, Int.reduceEq, H.cv_5_3, t10, hz6, setR0, setR1, hfp.same, hfp.disc, cfp, tfp]
          refine hN _ ?_; clear hN N
          refine W_sound ?_
          simp (disch := first | omega | (simp only [List.length_cons, List.length_nil, List.length_append, u8s_len]; omega)) only [go_sem, ↓reduceIte, true_and, Nat.reduceLeDiff, Nat.reduceEqDiff, Nat.reduceAdd, Nat.reduceBEq, Int.reduceEq, H.cv_5_3, t10, hfp.disc]
          rw [hB]
          exact ⟨rfl, fun x hx => by
            have : x ≠ o10 := fun e => hx (by rw [e]; exact h10)
            simp only [if_neg this]
            exact hkk x hx⟩
        · rw [contK_some]; simp (disch := first | omega | (simp only [List.length_cons, List.length_nil, List.length_append, u8s_len]; omega)) only [go_sem, ↓reduceIte, true_and, Nat.reduceLeDiff, Nat.reduceEqDiff, Nat.reduceAdd, Nat.reduceBEq, Int.reduceEq, H.cv_5_3, t10, hz6, setR0, setR1, hfp.same, hfp.disc, cfp, tfp, cells_bs2, tu_bs]
          refine hN _ ?_; clear hN N
          refine .ghost (.clim (o := o10) (m := 4) (own := false) (sz := 2) (es := []) (lim := some 0) (upd_same ..) rfl) ?_
          rw [upd2]
          have cl : ((AV.bs false 2 [] Option.none).disc = .bs false 2 [] Option.none) := rfl
          refine W_sound ?_
          simp (disch := first | omega | (simp only [List.length_cons, List.length_nil, List.length_append, u8s_len]; omega)) only [go_sem, ↓reduceIte, true_and, Nat.reduceLeDiff, Nat.reduceEqDiff, Nat.reduceAdd, Nat.reduceBEq, Int.reduceEq, H.cv_5_3, t10, hfp.disc, List.set_cons_succ, List.set_cons_zero, cl]
          rw [hB]
          exact ⟨rfl, fun x hx => by
            have : x ≠ o10 := fun e => hx (by rw [e]; exact h10)
            simp only [if_neg this]
            exact hkk x hx⟩
        · rw [contK_some]; simp (disch := first | omega | (simp only [List.length_cons, List.length_nil, List.length_append, u8s_len]; omega)) only [go_sem, ↓reduceIte, true_and, Nat.reduceLeDiff, Nat.reduceEqDiff, Nat.reduceAdd, Nat.reduceBEq, Int.reduceEq, H.cv_5_3, t10, hz6, setR0, setR1, hfp.same, hfp.disc, cfp, tfp, cells_rs2, tu_rs, dis_rs]
          refine hN _ ?_; clear hN N
          have nq : q ≠ o10 := fun e => by rw [e, hz] at a1; cases a1
          have hgD := lgr_ge (lgr_D hL)
          have hlD : (es.map logD).length = es.length := List.length_map ..
          have hfl : (es.map logD).flatten.length = es.length * 2 := by rw [hgD.len, hlD]
          refine .ghost (.cell (o' := o10) (m := 4) (o := q) (c := 0) (sz := 2) (n := es.length) (lim := some cap) (upd_same ..) rfl (by rw [upd_ne _ _ nq]; exact a6) nq (by rw [List.length_append, hfl]; omega)) ?_
          have e1 : chunks 2 es.length ((((es.map logD).flatten ++ z).drop 0).map AV.disc) = es.map logD := by
            have := hgD.chunks (z.map AV.disc)
            rw [hlD] at this
            rw [List.drop_zero, List.map_append, hgD.disc, this]
          rw [e1, upd2]
          refine .ghost (.clim (o := o10) (m := 4) (own := false) (sz := 2) (es := es.map logD) (lim := some cap) (by rw [upd_ne _ _ (Ne.symm nq), upd_same]) rfl) ?_
          have cl : ((AV.bs false 2 (es.map logD) Option.none).disc = .bs false 2 (es.map logD) Option.none) := rfl
          refine W_sound ?_
          simp (disch := first | omega | (simp only [List.length_cons, List.length_nil, List.length_append, u8s_len]; omega)) only [go_sem, ↓reduceIte, true_and, Nat.reduceLeDiff, Nat.reduceEqDiff, Nat.reduceAdd, Nat.reduceBEq, Int.reduceEq, H.cv_5_3, t10, hfp.disc, List.set_cons_succ, List.set_cons_zero, cl]
          rw [hB]
          exact ⟨rfl, fun x hx => by
            have n1 : x ≠ o10 := fun e => hx (by rw [e]; exact h10)
            have n2 : x ≠ q := fun e => hx (by
              cases qq : h q with
              | none => rw [e]; exact qq
              | some X => have := hk q (by rw [qq]; simp); rw [a1, qq] at this; cases this)
            simp only [upd, if_neg n1, if_neg n2]
            exact hkk x hx⟩

  simp (disch := first | omega | (simp only [List.length_cons, List.length_nil, List.length_append, u8s_len]; omega)) only [go_sem, ↓reduceIte, true_and, Nat.reduceLeDiff, Nat.reduceEqDiff, Nat.reduceAdd, Nat.reduceBEq, Int.reduceEq, H.cv_5_3, t0, t1, epv]
  refine (peers_ok H hpv (by omega) _).mono ?_
  rintro _ h2 ⟨rfl, rfl⟩
  cases q1 : peersB id p with
  | false =>
    rw [contK_some]; simp (disch := first | omega | (simp only [List.length_cons, List.length_nil, List.length_append, u8s_len]; omega)) only [go_sem, ↓reduceIte, true_and, Nat.reduceLeDiff, Nat.reduceEqDiff, Nat.reduceAdd, Nat.reduceBEq, Int.reduceEq, H.cv_5_3, t2, Bool.not_false]
    exact rest _ (by simp [upd_at, t0]) (by simp [upd_at, t1]) (by simp [upd_at, t2]) (by simp [upd_at, t3]) (by simp [upd_at, t4]) (by simp [upd_at, t10]) (by simp [upd_at, rest0, q1])
  | true =>
    by_cases c1 : T < 0
    · have d1 : decide (T < ((0 : Nat) : Int)) = true := by simpa using c1
      rw [contK_some]; simp (disch := first | omega | (simp only [List.length_cons, List.length_nil, List.length_append, u8s_len]; omega)) only [go_sem, ↓reduceIte, true_and, Nat.reduceLeDiff, Nat.reduceEqDiff, Nat.reduceAdd, Nat.reduceBEq, Int.reduceEq, H.cv_5_3, t2, Bool.not_true, d1]
      exact rest _ (by simp [upd_at, t0]) (by simp [upd_at, t1]) (by simp [upd_at, t2]) (by simp [upd_at, t3]) (by simp [upd_at, t4]) (by simp [upd_at, t10]) (by simp [upd_at, rest0, q1, show ¬ (0 ≤ T) by omega])
    · have d1 : decide (T < ((0 : Nat) : Int)) = false := by simpa using c1
      by_cases c2 : 2147483647 < T
      · have d2 : decide (T > ((2147483647 : Nat) : Int)) = true := by simpa using c2
        rw [contK_some]; simp (disch := first | omega | (simp only [List.length_cons, List.length_nil, List.length_append, u8s_len]; omega)) only [go_sem, ↓reduceIte, true_and, Nat.reduceLeDiff, Nat.reduceEqDiff, Nat.reduceAdd, Nat.reduceBEq, Int.reduceEq, H.cv_5_3, t2, Bool.not_true, d1, d2]
        exact rest _ (by simp [upd_at, t0]) (by simp [upd_at, t1]) (by simp [upd_at, t2]) (by simp [upd_at, t3]) (by simp [upd_at, t4]) (by simp [upd_at, t10]) (by simp [upd_at, rest0, q1, show ¬ (T ≤ 2147483647) by omega])
      · have d2 : decide (T > ((2147483647 : Nat) : Int)) = false := by simpa using c2
        have c1' : 0 ≤ T := by omega
        have c2' : T ≤ 2147483647 := by omega
        by_cases c3 : vote = 0
        · have d3 : (vote != ((0 : Nat) : Int)) = false := by simp [c3]
          by_cases c5 : 512 < l.length
          · have d5 : decide (512 < l.length) = true := by simpa using c5
            rw [contK_some]; simp (disch := first | omega | (simp only [List.length_cons, List.length_nil, List.length_append, u8s_len]; omega)) only [go_sem, ↓reduceIte, true_and, Nat.reduceLeDiff, Nat.reduceEqDiff, Nat.reduceAdd, Nat.reduceBEq, Int.reduceEq, H.cv_5_3, t2, t3, t4, Bool.not_true, d1, d2, d3, hlv.same, hlv.disc, hlv.sl.len, hel, d5]
            exact rest _ (by simp [upd_at, t0]) (by simp [upd_at, t1]) (by simp [upd_at, t2]) (by simp [upd_at, t3]) (by simp [upd_at, t4]) (by simp [upd_at, t10]) (by simp [upd_at, rest0, q1, c1', c2', c3, show ¬ (l.length ≤ 512) by omega])
          · have d5 : decide (512 < l.length) = false := by simpa using c5
            rw [contK_some]; simp (disch := first | omega | (simp only [List.length_cons, List.length_nil, List.length_append, u8s_len]; omega)) only [go_sem, ↓reduceIte, true_and, Nat.reduceLeDiff, Nat.reduceEqDiff, Nat.reduceAdd, Nat.reduceBEq, Int.reduceEq, H.cv_5_3, t2, t3, t4, Bool.not_true, d1, d2, d3, hlv.same, hlv.disc, hlv.sl.len, hel, d5]
            exact rest _ (by simp [upd_at, t0]) (by simp [upd_at, t1]) (by simp [upd_at, t2]) (by simp [upd_at, t3]) (by simp [upd_at, t4]) (by simp [upd_at, t10]) (by simp [upd_at, rest0, q1, c1', c2', c3, show l.length ≤ 512 by omega])
        · have d3 : (vote != ((0 : Nat) : Int)) = true := by simpa using c3
          rw [contK_some]; simp (disch := first | omega | (simp only [List.length_cons, List.length_nil, List.length_append, u8s_len]; omega)) only [go_sem, ↓reduceIte, true_and, Nat.reduceLeDiff, Nat.reduceEqDiff, Nat.reduceAdd, Nat.reduceBEq, Int.reduceEq, H.cv_5_3, t1, t2, t3, Bool.not_true, d1, d2, d3, epv]
          refine (contains_ok H hpv (by omega) _).mono ?_
          rintro _ h7 ⟨rfl, rfl⟩
          by_cases c4 : vote ∈ p
          · have d4 : decide (vote ∈ p) = true := by simpa using c4
            rw [d4]
            by_cases c5 : 512 < l.length
            · have d5 : decide (512 < l.length) = true := by simpa using c5
              rw [contK_some]; simp (disch := first | omega | (simp only [List.length_cons, List.length_nil, List.length_append, u8s_len]; omega)) only [go_sem, ↓reduceIte, true_and, Nat.reduceLeDiff, Nat.reduceEqDiff, Nat.reduceAdd, Nat.reduceBEq, Int.reduceEq, H.cv_5_3, t4, Bool.not_true, hlv.same, hlv.disc, hlv.sl.len, hel, d5]
              exact rest _ (by simp [upd_at, t0]) (by simp [upd_at, t1]) (by simp [upd_at, t2]) (by simp [upd_at, t3]) (by simp [upd_at, t4]) (by simp [upd_at, t10]) (by simp [upd_at, rest0, q1, c1', c2', c3, c4, show ¬ (l.length ≤ 512) by omega])
            · have d5 : decide (512 < l.length) = false := by simpa using c5
              rw [contK_some]; simp (disch := first | omega | (simp only [List.length_cons, List.length_nil, List.length_append, u8s_len]; omega)) only [go_sem, ↓reduceIte, true_and, Nat.reduceLeDiff, Nat.reduceEqDiff, Nat.reduceAdd, Nat.reduceBEq, Int.reduceEq, H.cv_5_3, t4, Bool.not_true, hlv.same, hlv.disc, hlv.sl.len, hel, d5]
              exact rest _ (by simp [upd_at, t0]) (by simp [upd_at, t1]) (by simp [upd_at, t2]) (by simp [upd_at, t3]) (by simp [upd_at, t4]) (by simp [upd_at, t10]) (by simp [upd_at, rest0, q1, c1', c2', c3, c4, show l.length ≤ 512 by omega])
          · have d4 : decide (vote ∈ p) = false := by simpa using c4
            rw [d4]
            rw [contK_some]; simp (disch := first | omega | (simp only [List.length_cons, List.length_nil, List.length_append, u8s_len]; omega)) only [go_sem, ↓reduceIte, true_and, Nat.reduceLeDiff, Nat.reduceEqDiff, Nat.reduceAdd, Nat.reduceBEq, Int.reduceEq, H.cv_5_3, Bool.not_false]
            exact rest _ (by simp [upd_at, t0]) (by simp [upd_at, t1]) (by simp [upd_at, t2]) (by simp [upd_at, t3]) (by simp [upd_at, t4]) (by simp [upd_at, t10]) (by simp [upd_at, rest0, q1, c1', c2', c3, c4])
theorem new_ok {pw : AV} {p : List Int} {id : Int} (hpw : SL 1 pw (ints p)) (hpl : p.length ≤ 2 ^ 20) (h : Heap) :
    AWF P ann 0 6 [.sc (.int .i64 id), pw] h fun r h' => r = RestV id pw.dis ((0 : Nat) : Int) ((0 : Nat) : Int) (.sc (.slice none 0 0)) (restB id p 0 0 []) ∧ h' = h := by
  obtain ⟨pv, epv⟩ : ∃ pv, pw.dis = pv := ⟨_, rfl⟩
  have hpv : SF 1 pv (ints p) := by rw [← epv]; exact toF hpw
  rw [epv]
  refine AWF.fnPurec H.f0_6 rfl ?_
  have hfd := (frz_sf hpv).disc
  (refine W_seq_gen fun N hN => ?_); simp (disch := first | omega | (simp only [List.length_cons, List.length_nil, List.length_append, u8s_len]; omega)) only [go_sem, ↓reduceIte, true_and, Nat.reduceLeDiff, Nat.reduceEqDiff, Nat.reduceAdd, Nat.reduceBEq, Int.reduceEq, H.cv_5_3]
  intro o1 h1
  refine hN _ ?_; clear hN N
  simp (disch := first | omega | (simp only [List.length_cons, List.length_nil, List.length_append, u8s_len]; omega)) only [go_sem, ↓reduceIte, true_and, Nat.reduceLeDiff, Nat.reduceEqDiff, Nat.reduceAdd, Nat.reduceBEq, Int.reduceEq, H.cv_5_3, epv]
  refine (restore_ok H hpv.sl (lv := .sc (.slice none 0 0)) (es := []) (l := []) (.inl ⟨rfl, rfl⟩) trivial hpl (by simp) (fun x hx => by cases hx) _).mono ?_
  rw [hpv.same]
  rintro _ h2 ⟨rfl, rfl⟩
  have hO := (OB.nil (h := h)).new h1 (X := .arr zero12)
  have e0 : restB id p ((0 : Nat) : Int) ((0 : Nat) : Int) ([].map (Prod.fst (α := Int) (β := List UInt8))) = restB id p 0 0 [] := rfl
  cases hb : restB id p 0 0 [] with
  | false =>
    rw [e0, hb]
    simp only [RestV, Bool.false_eq_true, if_false]
    rw [contK_some]; simp (disch := first | omega | (simp only [List.length_cons, List.length_nil, List.length_append, u8s_len]; omega)) only [go_sem, ↓reduceIte, true_and, Nat.reduceLeDiff, Nat.reduceEqDiff, Nat.reduceAdd, Nat.reduceBEq, Int.reduceEq, H.cv_5_3, hO.get0]
    intro x hx
    have n1 : x ≠ o1 := fun e => hx (by rw [e]; exact h1)
    simp only [if_neg n1]
  | true =>
    rw [e0, hb]
    simp only [RestV, if_true]
    rw [contK_some]; simp (disch := first | omega | (simp only [List.length_cons, List.length_nil, List.length_append, u8s_len]; omega)) only [go_sem, ↓reduceIte, true_and, Nat.reduceLeDiff, Nat.reduceEqDiff, Nat.reduceAdd, Nat.reduceBEq, Int.reduceEq, H.cv_5_3, hO.get0, hfd]
    refine ⟨rfl, fun x hx => ?_⟩
    have n1 : x ≠ o1 := fun e => hx (by rw [e]; exact h1)
    simp only [if_neg n1]
end Go.Proofs.Ytkmakibigmlfeaa
end
