/- The reference's scan, walked. -/
import Derived.Test.YtmdkgaljnoookaaSheafScan2
set_option linter.unusedVariables false
set_option linter.unusedSimpArgs false
namespace Go.Proofs.Ytmdkgaljnoookaa
open Go.Am
variable {P : Program} (H : Has P) (L : Lb P)
include H
theorem rscan_ok {v : AV} {l : List Pr} {f to : ByteArray} {m : Nat} (hv : SF 2 v (prs l)) (hl : l.length < 2 ^ 40) (hm : m < 2 ^ 63) (h : Heap) :
    AWF P ann 0 15 [v, .sc (.string f), .sc (.string to), .sc (.int .i64 (m : Nat))] h fun r h' => SL 2 r (prs ((l.filter (inS f to)).take m)) ∧ h' = h := by
  refine AWF.fnc H.f0_15 rfl ?_
  have e1 := @prs_len l
  (refine W_seq_gen fun N hN => ?_); simp (disch := first | omega | (simp only [List.length_cons, List.length_nil, List.length_append, u8s_len]; omega)) only [go_sem, ↓reduceIte, true_and, Nat.reduceLeDiff, Nat.reduceEqDiff, Nat.reduceAdd, Nat.reduceBEq, Int.reduceEq, H.cv_3_57, H.cv_5_3, H.cv_57_3]
  refine hN _ ?_; clear hN N
  (refine W_seq_gen fun N hN => ?_); simp (disch := first | omega | (simp only [List.length_cons, List.length_nil, List.length_append, u8s_len]; omega)) only [go_sem, ↓reduceIte, true_and, Nat.reduceLeDiff, Nat.reduceEqDiff, Nat.reduceAdd, Nat.reduceBEq, Int.reduceEq, H.cv_3_57, H.cv_5_3, H.cv_57_3]
  refine hN _ ?_; clear hN N
  (refine W_seq_gen fun M hM => ?_)
  (refine W_seq_gen fun N hN => ?_); simp (disch := first | omega | (simp only [List.length_cons, List.length_nil, List.length_append, u8s_len]; omega)) only [go_sem, ↓reduceIte, true_and, Nat.reduceLeDiff, Nat.reduceEqDiff, Nat.reduceAdd, Nat.reduceBEq, Int.reduceEq, H.cv_3_57, H.cv_5_3, H.cv_57_3]
  refine hN _ ?_; clear hN N
  simp (disch := first | omega | (simp only [List.length_cons, List.length_nil, List.length_append, u8s_len]; omega)) only [go_sem, ↓reduceIte, true_and, Nat.reduceLeDiff, Nat.reduceEqDiff, Nat.reduceAdd, Nat.reduceBEq, Int.reduceEq, H.cv_3_57, H.cv_5_3, H.cv_57_3]
  refine AW_loopN (fun n t h' => h' = h ∧ ∃ i w, n = l.length - i ∧ i ≤ l.length ∧ t 0 = v ∧ t 1 = .sc (.string f) ∧ t 2 = .sc (.string to) ∧ t 3 = .sc (.int .i64 (m : Nat)) ∧ t 10 = .sc (.int .i64 (i : Nat)) ∧ t 9 = w ∧ SG 2 w (prs (((l.take i).filter (inS f to)).take m)))
    (n := l.length) ⟨rfl, 0, .bs true 2 [] (some 0), rfl, Nat.zero_le _, rfl, rfl, rfl, rfl, rfl, rfl, by simpa [prs] using SG.bs⟩ ?_
  rintro n t h' ⟨rfl, i, w, rfl, hi, t0, t1, t2, t3, t10, t9, hw⟩
  rcases Nat.lt_or_ge i l.length with hlt | hge
  · have g0 := prs_get hlt
    have hn : l.take (i + 1) = l.take i ++ [l[i]] := by rw [List.take_add_one]; simp [hlt]
    have e9 : (prs (((l.take i).filter (inS f to)).take m)).length = min m ((l.take i).filter (inS f to)).length := by rw [prs_len, List.length_take]
    have hfl := List.length_filter_le (inS f to) (l.take i)
    rw [List.length_take] at hfl
    have hap := fun (t : Nat → AV) (h : Heap) => hw.app (t := t) (h := h) (ys := [[.sc (.string l[i].1), .sc (.string l[i].2)]]) (bytes := 32) (by rw [e9, List.length_singleton]; omega)
    have wl := fun (t : Nat → AV) (h : Heap) => hw.sl.dis.len (t := t) (h := h)
    have wd := hw.sl.dd
    have hcat := hw.cat [[.sc (.string l[i].1), .sc (.string l[i].2)]]
    (refine W_seq_gen fun N hN => ?_); simp (disch := first | omega | (simp only [List.length_cons, List.length_nil, List.length_append, u8s_len]; omega)) only [go_sem, ↓reduceIte, true_and, Nat.reduceLeDiff, Nat.reduceEqDiff, Nat.reduceAdd, Nat.reduceBEq, Int.reduceEq, H.cv_3_57, H.cv_5_3, H.cv_57_3, t0, t10, hv.same, hv.sl.len, e1, hlt]
    refine hN _ ?_; clear hN N
    (refine W_seq_gen fun N hN => ?_)
    rw [W_block]
    have skip : ((l.take (i + 1)).filter (inS f to)).take m = ((l.take i).filter (inS f to)).take m → ∀ t : Nat → AV, t 0 = v → t 1 = .sc (.string f) → t 2 = .sc (.string to) → t 3 = .sc (.int .i64 (m : Nat)) → t 10 = .sc (.int .i64 (i : Nat)) → t 9 = w → N ⟨t, h'⟩ := by
      clear t0 t1 t2 t3 t9 t10
      intro he t t0 t1 t2 t3 t10 t9
      refine hN _ ?_; clear hN N
      simp (disch := first | omega | (simp only [List.length_cons, List.length_nil, List.length_append, u8s_len]; omega)) only [go_sem, ↓reduceIte, true_and, Nat.reduceLeDiff, Nat.reduceEqDiff, Nat.reduceAdd, Nat.reduceBEq, Int.reduceEq, H.cv_3_57, H.cv_5_3, H.cv_57_3, t10, nat_add]
      exact ⟨l.length - (i + 1), by omega, i + 1, w, rfl, by omega, by simp [upd_at, t0], by simp [upd_at, t1], by simp [upd_at, t2], by simp [upd_at, t3], by simp [upd_at], by simp [upd_at, t9], by rw [he]; exact hw⟩
    refine W_forget (fun t => t 0 = v ∧ t 1 = .sc (.string f) ∧ t 2 = .sc (.string to) ∧ t 3 = .sc (.int .i64 (m : Nat)) ∧ t 10 = .sc (.int .i64 (i : Nat)) ∧ t 9 = w ∧ True) (by simp [upd_at, *] <;> (first | rfl | exact ⟨rfl, rfl⟩ | exact ⟨rfl, rfl, rfl⟩ | exact ⟨rfl, rfl, rfl, rfl⟩ | exact ⟨rfl, rfl, rfl, rfl, rfl⟩)) ?_; rintro t ⟨t0, t1, t2, t3, t10, t9, -⟩
    have out : inS f to l[i] = false → ((l.take (i + 1)).filter (inS f to)).take m = ((l.take i).filter (inS f to)).take m := fun h => by
      rw [hn, List.filter_append]; simp [h]
    have fin : ∀ b, b = inS f to l[i] → b = true → ((l.take i).filter (inS f to)).length < m → ((l.take (i + 1)).filter (inS f to)).take m = ((l.take i).filter (inS f to)).take m ++ [l[i]] := fun b hb hb2 hlt => by
      rw [hn, List.filter_append]
      simp only [List.filter_cons, ← hb, hb2, if_true, List.filter_nil]
      generalize (l.take i).filter (inS f to) = z at hlt
      rw [List.take_of_length_le (l := z ++ [l[i]]) (by simp; omega), List.take_of_length_le (l := z) (by omega)]
    have full : ¬ ((l.take i).filter (inS f to)).length < m → ((l.take (i + 1)).filter (inS f to)).take m = ((l.take i).filter (inS f to)).take m := fun h => by
      rw [hn, List.filter_append, List.take_append_of_le_length (by omega)]
    have hmin : min m ((l.take i).filter (inS f to)).length < m ↔ ((l.take i).filter (inS f to)).length < m := by omega
    have hgo : ∀ t : Nat → AV, t 0 = v → t 1 = .sc (.string f) → t 2 = .sc (.string to) → t 3 = .sc (.int .i64 (m : Nat)) → t 10 = .sc (.int .i64 (i : Nat)) → t 9 = w → True := fun _ _ _ _ _ _ _ => trivial
    clear hgo
    cases q1 : sl l[i].1 f with
    | true =>
      simp (disch := first | omega | (simp only [List.length_cons, List.length_nil, List.length_append, u8s_len]; omega)) only [go_sem, ↓reduceIte, true_and, Nat.reduceLeDiff, Nat.reduceEqDiff, Nat.reduceAdd, Nat.reduceBEq, Int.reduceEq, H.cv_3_57, H.cv_5_3, H.cv_57_3, t0, t1, t10, hv.same, hv.sl.ia, g0, q1]
      exact skip (out (by simp [inS, q1])) _ (by simp [upd_at, t0]) (by simp [upd_at, t1]) (by simp [upd_at, t2]) (by simp [upd_at, t3]) (by simp [upd_at, t10]) (by simp [upd_at, t9])
    | false =>
      cases q2 : (decide (to = noS) || sl l[i].1 to) with
      | false =>
        have q3 : decide (to = noS) = false := by cases h : decide (to = noS) <;> simp_all
        have q4 : sl l[i].1 to = false := by cases h : sl l[i].1 to <;> simp_all
        simp (disch := first | omega | (simp only [List.length_cons, List.length_nil, List.length_append, u8s_len]; omega)) only [go_sem, ↓reduceIte, true_and, Nat.reduceLeDiff, Nat.reduceEqDiff, Nat.reduceAdd, Nat.reduceBEq, Int.reduceEq, H.cv_3_57, H.cv_5_3, H.cv_57_3, t0, t1, t2, t10, hv.same, hv.sl.ia, g0, q1, q3, q4]
        exact skip (out (by simp only [inS, q1, q2]; rfl)) _ (by simp [upd_at, t0]) (by simp [upd_at, t1]) (by simp [upd_at, t2]) (by simp [upd_at, t3]) (by simp [upd_at, t10]) (by simp [upd_at, t9])
      | true =>
        have hin : inS f to l[i] = true := by simp only [inS, q1, q2]; rfl
        (refine W_seq_gen fun K hK => ?_)
        have go : ∀ (t : Nat → AV) (b : Bool), b = decide (((l.take i).filter (inS f to)).length < m) → t 0 = v → t 1 = .sc (.string f) → t 2 = .sc (.string to) → t 3 = .sc (.int .i64 (m : Nat)) → t 10 = .sc (.int .i64 (i : Nat)) → t 9 = w → t 43 = .sc (.bool b) → K ⟨t, h'⟩ := by
          clear t0 t1 t2 t3 t10 t9
          intro t b hb t0 t1 t2 t3 t10 t9 t43
          refine hK _ ?_; clear hK K
          cases b with
          | false =>
            simp (disch := first | omega | (simp only [List.length_cons, List.length_nil, List.length_append, u8s_len]; omega)) only [go_sem, ↓reduceIte, true_and, Nat.reduceLeDiff, Nat.reduceEqDiff, Nat.reduceAdd, Nat.reduceBEq, Int.reduceEq, H.cv_3_57, H.cv_5_3, H.cv_57_3, t43]
            exact skip (full (of_decide_eq_false hb.symm)) _ (by simp [upd_at, t0]) (by simp [upd_at, t1]) (by simp [upd_at, t2]) (by simp [upd_at, t3]) (by simp [upd_at, t10]) (by simp [upd_at, t9])
          | true =>
            have he := fin _ rfl hin (of_decide_eq_true hb.symm)
            generalize catV 2 [[.sc (.string l[i].1), .sc (.string l[i].2)]] w = w2 at hap hcat
            simp (disch := first | omega | (simp only [List.length_cons, List.length_nil, List.length_append, u8s_len]; omega)) only [go_sem, ↓reduceIte, true_and, Nat.reduceLeDiff, Nat.reduceEqDiff, Nat.reduceAdd, Nat.reduceBEq, Int.reduceEq, H.cv_3_57, H.cv_5_3, H.cv_57_3, t0, t9, t10, t43, hv.same, hv.sl.ia, g0, hap]
            refine hN _ ?_; clear skip hN N
            simp (disch := first | omega | (simp only [List.length_cons, List.length_nil, List.length_append, u8s_len]; omega)) only [go_sem, ↓reduceIte, true_and, Nat.reduceLeDiff, Nat.reduceEqDiff, Nat.reduceAdd, Nat.reduceBEq, Int.reduceEq, H.cv_3_57, H.cv_5_3, H.cv_57_3, t10, nat_add]
            rw [← prs_one, prs_app] at hcat
            exact ⟨l.length - (i + 1), by omega, i + 1, w2, rfl, by omega, by simp [upd_at, t0], by simp [upd_at, t1], by simp [upd_at, t2], by simp [upd_at, t3], by simp [upd_at], by simp [upd_at], by rw [he]; exact hcat⟩
        rw [e9] at wl
        by_cases q3 : to = noS
        · have q3' : decide (to = noS) = true := decide_eq_true q3
          simp (disch := first | omega | (simp only [List.length_cons, List.length_nil, List.length_append, u8s_len]; omega)) only [go_sem, ↓reduceIte, true_and, Nat.reduceLeDiff, Nat.reduceEqDiff, Nat.reduceAdd, Nat.reduceBEq, Int.reduceEq, H.cv_3_57, H.cv_5_3, H.cv_57_3, t0, t1, t2, t3, t9, t10, hv.same, hv.sl.ia, g0, q1, q3', wl, hmin]
          exact go _ _ rfl (by simp [upd_at, t0]) (by simp [upd_at, t1]) (by simp [upd_at, t2]) (by simp [upd_at, t3]) (by simp [upd_at, t10]) (by simp [upd_at, t9]) (by simp [upd_at])
        · have q3' : decide (to = noS) = false := decide_eq_false q3
          have q4 : sl l[i].1 to = true := by rw [q3'] at q2; simpa using q2
          simp (disch := first | omega | (simp only [List.length_cons, List.length_nil, List.length_append, u8s_len]; omega)) only [go_sem, ↓reduceIte, true_and, Nat.reduceLeDiff, Nat.reduceEqDiff, Nat.reduceAdd, Nat.reduceBEq, Int.reduceEq, H.cv_3_57, H.cv_5_3, H.cv_57_3, t0, t1, t2, t3, t9, t10, hv.same, hv.sl.ia, g0, q1, q3', q4, wl, hmin]
          exact go _ _ rfl (by simp [upd_at, t0]) (by simp [upd_at, t1]) (by simp [upd_at, t2]) (by simp [upd_at, t3]) (by simp [upd_at, t10]) (by simp [upd_at, t9]) (by simp [upd_at])
  · obtain rfl : i = l.length := by omega
    (refine W_seq_gen fun N hN => ?_); simp (disch := first | omega | (simp only [List.length_cons, List.length_nil, List.length_append, u8s_len]; omega)) only [go_sem, ↓reduceIte, true_and, Nat.reduceLeDiff, Nat.reduceEqDiff, Nat.reduceAdd, Nat.reduceBEq, Int.reduceEq, H.cv_3_57, H.cv_5_3, H.cv_57_3, t0, t10, hv.same, hv.sl.len, e1, Nat.lt_irrefl]
    refine hM _ ?_; clear hN N hM M
    rw [List.take_length] at hw
    simp (disch := first | omega | (simp only [List.length_cons, List.length_nil, List.length_append, u8s_len]; omega)) only [go_sem, ↓reduceIte, true_and, Nat.reduceLeDiff, Nat.reduceEqDiff, Nat.reduceAdd, Nat.reduceBEq, Int.reduceEq, H.cv_3_57, H.cv_5_3, H.cv_57_3, t9]
    exact hw.sl
end Go.Proofs.Ytmdkgaljnoookaa
