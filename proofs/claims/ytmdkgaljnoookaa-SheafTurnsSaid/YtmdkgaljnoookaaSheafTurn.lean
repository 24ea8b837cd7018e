/- Sheaves with a pair, and without one: what the functions come to. -/
import Derived.Test.YtmdkgaljnoookaaSheafDrop
import Derived.Test.YtmdkgaljnoookaaSheafScan2
set_option linter.unusedVariables false
set_option linter.unusedSimpArgs false
namespace Go.Proofs.Ytmdkgaljnoookaa
open Go.Am
theorem lbk_at {l : List Pr} {j : Nat} (hs : Srt l = true) (hj : j < l.length) : lbk l l[j].1 = j := by
  have h1 := fun i hi => lbk_iff l l[j].1 i hi hs
  have h2 := h1 j hj
  rw [sl_irr] at h2
  have h3 : ¬ j < lbk l l[j].1 := fun h => by simpa using h2.2 h
  rcases Nat.lt_or_ge (lbk l l[j].1) j with c | c
  · have h4 := (h1 _ (by omega)).1 (srt_get l _ _ c hj hs)
    omega
  · omega
theorem isk_at {l : List Pr} {j : Nat} (hs : Srt l = true) (hj : j < l.length) : isk l l[j].1 = true ∧ valOf l l[j].1 = l[j].2 := by
  simp [isk, valOf, lbk_at hs hj, hj]
theorem isk_no {l : List Pr} {k : ByteArray} (h : ∀ p ∈ l, p.1 ≠ k) : isk l k = false ∧ valOf l k = noS := by
  unfold isk valOf
  cases hq : l[lbk l k]? with
  | none => exact ⟨rfl, rfl⟩
  | some p =>
    have hp := h p (List.mem_of_getElem? hq)
    simp [hp]
theorem isk_first {l : List Pr} {k : ByteArray} (hs : Srt l = true) : (isk l k = true ∧ ∃ (i : Nat) (hi : i < l.length), firstI l k = (i : Nat) ∧ valOf l k = l[i].2) ∨ (isk l k = false ∧ firstI l k = -1 ∧ valOf l k = noS) := by
  rcases firstI_cases l k with ⟨hf, hno⟩ | ⟨i, hi, hf, hk, _⟩
  · obtain ⟨h1, h2⟩ := isk_no hno
    exact .inr ⟨h1, hf, h2⟩
  · obtain ⟨h1, h2⟩ := isk_at hs hi
    rw [hk] at h1 h2
    exact .inl ⟨h1, i, hi, hf, h2⟩
theorem isk_set {l : List Pr} {k w : ByteArray} (hs : Srt l = true) : isk (setS l k w) k = true ∧ valOf (setS l k w) k = w := by
  have hm : (k, w) ∈ setS l k w := by simp [setS]
  obtain ⟨j, hj, he⟩ := List.getElem_of_mem hm
  have := isk_at (srt_set l k w hs) hj
  rw [he] at this
  exact this
theorem isk_drop (l : List Pr) (k : ByteArray) : isk (dropS l k) k = false := (isk_no fun p hp => by simpa [dropS] using (List.mem_filter.1 hp).2).1
theorem srt_drop {l : List Pr} (k : ByteArray) (hs : Srt l = true) : Srt (dropS l k) = true := by
  induction l with
  | nil => rfl
  | cons a l ih =>
    unfold dropS
    rw [List.filter_cons]
    split
    · exact srt_of (fun p hp => srt_lt hs p (List.mem_filter.1 hp).1) (ih (srt_tail hs))
    · exact ih (srt_tail hs)
variable {P : Program} (H : Has P)
include H
theorem rat_ok {v : AV} {l : List Pr} {k : ByteArray} (hv : SF 2 v (prs l)) (hl : l.length < 2 ^ 60) (h : Heap) : AWF P ann 0 19 [v, .sc (.string k)] h fun r h' => r = .sc (.int .i64 (firstI l k)) ∧ h' = h := by
  refine AWF.fnc H.f0_19 rfl ?_
  have e1 := @prs_len l
  (refine W_seq_gen fun N hN => ?_); simp (disch := first | omega | (simp only [List.length_cons, List.length_nil, List.length_append, u8s_len]; omega)) only [go_sem, ↓reduceIte, true_and, Nat.reduceLeDiff, Nat.reduceEqDiff, Nat.reduceAdd, Nat.reduceBEq, Int.reduceEq, H.cv_3_57, H.cv_5_3, H.cv_57_3]
  refine hN _ ?_; clear hN N
  (refine W_seq_gen fun M hM => ?_)
  (refine W_seq_gen fun N hN => ?_); simp (disch := first | omega | (simp only [List.length_cons, List.length_nil, List.length_append, u8s_len]; omega)) only [go_sem, ↓reduceIte, true_and, Nat.reduceLeDiff, Nat.reduceEqDiff, Nat.reduceAdd, Nat.reduceBEq, Int.reduceEq, H.cv_3_57, H.cv_5_3, H.cv_57_3]
  refine hN _ ?_; clear hN N
  simp (disch := first | omega | (simp only [List.length_cons, List.length_nil, List.length_append, u8s_len]; omega)) only [go_sem, ↓reduceIte, true_and, Nat.reduceLeDiff, Nat.reduceEqDiff, Nat.reduceAdd, Nat.reduceBEq, Int.reduceEq, H.cv_3_57, H.cv_5_3, H.cv_57_3]
  refine AW_loopN (fun n t h' => h' = h ∧ ∃ i, n = l.length - i ∧ i ≤ l.length ∧ t 0 = v ∧ t 1 = .sc (.string k) ∧ t 5 = .sc (.int .i64 (i : Nat)) ∧ ∀ (j : Nat) (hj : j < l.length), j < i → l[j].1 ≠ k)
    (n := l.length) ⟨rfl, 0, rfl, Nat.zero_le _, rfl, rfl, rfl, fun j hj h => by omega⟩ ?_
  rintro n t h' ⟨rfl, i, rfl, hi, t0, t1, t5, hno⟩
  rcases Nat.lt_or_ge i l.length with hlt | hge
  · have g0 := prs_get hlt
    (refine W_seq_gen fun N hN => ?_); simp (disch := first | omega | (simp only [List.length_cons, List.length_nil, List.length_append, u8s_len]; omega)) only [go_sem, ↓reduceIte, true_and, Nat.reduceLeDiff, Nat.reduceEqDiff, Nat.reduceAdd, Nat.reduceBEq, Int.reduceEq, H.cv_3_57, H.cv_5_3, H.cv_57_3, t0, t5, hv.same, hv.disc, hv.sl.len, e1, hlt]
    refine hN _ ?_; clear hN N
    (refine W_seq_gen fun N hN => ?_)
    rw [W_block]
    by_cases c : l[i].1 = k
    · have d : decide (l[i].1 = k) = true := decide_eq_true c
      simp (disch := first | omega | (simp only [List.length_cons, List.length_nil, List.length_append, u8s_len]; omega)) only [go_sem, ↓reduceIte, true_and, Nat.reduceLeDiff, Nat.reduceEqDiff, Nat.reduceAdd, Nat.reduceBEq, Int.reduceEq, H.cv_3_57, H.cv_5_3, H.cv_57_3, t0, t1, t5, hv.same, hv.disc, hv.sl.ia, g0, d]
      have hf : firstI l k = (i : Nat) := by
        rcases firstI_cases l k with ⟨h1, h2⟩ | ⟨i', hi', h1, h2, h3⟩
        · exact absurd c (h2 _ (List.getElem_mem _))
        · rw [h1]
          rcases Nat.lt_trichotomy i i' with q | q | q
          · exact absurd c (h3 i hlt q)
          · rw [q]
          · exact absurd h2 (hno i' hi' q)
      rw [hf]
    · have d : decide (l[i].1 = k) = false := decide_eq_false c
      simp (disch := first | omega | (simp only [List.length_cons, List.length_nil, List.length_append, u8s_len]; omega)) only [go_sem, ↓reduceIte, true_and, Nat.reduceLeDiff, Nat.reduceEqDiff, Nat.reduceAdd, Nat.reduceBEq, Int.reduceEq, H.cv_3_57, H.cv_5_3, H.cv_57_3, t0, t1, t5, hv.same, hv.disc, hv.sl.ia, g0, d]
      refine hN _ ?_; clear hN N
      simp (disch := first | omega | (simp only [List.length_cons, List.length_nil, List.length_append, u8s_len]; omega)) only [go_sem, ↓reduceIte, true_and, Nat.reduceLeDiff, Nat.reduceEqDiff, Nat.reduceAdd, Nat.reduceBEq, Int.reduceEq, H.cv_3_57, H.cv_5_3, H.cv_57_3, t5, nat_add]
      exact ⟨l.length - (i + 1), by omega, i + 1, rfl, by omega, by simp [upd_at, t0], by simp [upd_at, t1], by simp [upd_at], fun j hj hlt' => by
        rcases Nat.lt_or_ge j i with q | q
        · exact hno j hj q
        · obtain rfl : j = i := by omega
          exact c⟩
  · obtain rfl : i = l.length := by omega
    (refine W_seq_gen fun N hN => ?_); simp (disch := first | omega | (simp only [List.length_cons, List.length_nil, List.length_append, u8s_len]; omega)) only [go_sem, ↓reduceIte, true_and, Nat.reduceLeDiff, Nat.reduceEqDiff, Nat.reduceAdd, Nat.reduceBEq, Int.reduceEq, H.cv_3_57, H.cv_5_3, H.cv_57_3, t0, t5, hv.same, hv.disc, hv.sl.len, e1, Nat.lt_irrefl]
    refine hM _ ?_; clear hN N hM M
    have hf : firstI l k = -1 := by
      rcases firstI_cases l k with ⟨h1, _⟩ | ⟨i', hi', _, h2, _⟩
      · exact h1
      · exact absurd h2 (hno i' hi' hi')
    simp (disch := first | omega | (simp only [List.length_cons, List.length_nil, List.length_append, u8s_len]; omega)) only [go_sem, ↓reduceIte, true_and, Nat.reduceLeDiff, Nat.reduceEqDiff, Nat.reduceAdd, Nat.reduceBEq, Int.reduceEq, H.cv_3_57, H.cv_5_3, H.cv_57_3]
    rw [hf]
theorem rdrop_ok {v : AV} {l : List Pr} {k : ByteArray} (hv : SF 2 v (prs l)) (hl : l.length < 2 ^ 40) (h : Heap) : AWF P ann 0 21 [v, .sc (.string k)] h fun r h' => SL 2 r (prs (dropS l k)) ∧ h' = h := by
  refine AWF.fnc H.f0_21 rfl ?_
  have e1 := @prs_len l
  (refine W_seq_gen fun N hN => ?_); simp (disch := first | omega | (simp only [List.length_cons, List.length_nil, List.length_append, u8s_len]; omega)) only [go_sem, ↓reduceIte, true_and, Nat.reduceLeDiff, Nat.reduceEqDiff, Nat.reduceAdd, Nat.reduceBEq, Int.reduceEq, H.cv_3_57, H.cv_5_3, H.cv_57_3]
  refine hN _ ?_; clear hN N
  (refine W_seq_gen fun N hN => ?_); simp (disch := first | omega | (simp only [List.length_cons, List.length_nil, List.length_append, u8s_len]; omega)) only [go_sem, ↓reduceIte, true_and, Nat.reduceLeDiff, Nat.reduceEqDiff, Nat.reduceAdd, Nat.reduceBEq, Int.reduceEq, H.cv_3_57, H.cv_5_3, H.cv_57_3]
  refine hN _ ?_; clear hN N
  (refine W_seq_gen fun M hM => ?_)
  (refine W_seq_gen fun N hN => ?_); simp (disch := first | omega | (simp only [List.length_cons, List.length_nil, List.length_append, u8s_len]; omega)) only [go_sem, ↓reduceIte, true_and, Nat.reduceLeDiff, Nat.reduceEqDiff, Nat.reduceAdd, Nat.reduceBEq, Int.reduceEq, H.cv_3_57, H.cv_5_3, H.cv_57_3]
  refine hN _ ?_; clear hN N
  simp (disch := first | omega | (simp only [List.length_cons, List.length_nil, List.length_append, u8s_len]; omega)) only [go_sem, ↓reduceIte, true_and, Nat.reduceLeDiff, Nat.reduceEqDiff, Nat.reduceAdd, Nat.reduceBEq, Int.reduceEq, H.cv_3_57, H.cv_5_3, H.cv_57_3]
  refine AW_loopN (fun n t h' => h' = h ∧ ∃ i w, n = l.length - i ∧ i ≤ l.length ∧ t 0 = v ∧ t 1 = .sc (.string k) ∧ t 6 = .sc (.int .i64 (i : Nat)) ∧ t 5 = w ∧ SG 2 w (prs (dropS (l.take i) k)))
    (n := l.length) ⟨rfl, 0, .bs true 2 [] (some 0), rfl, Nat.zero_le _, rfl, rfl, rfl, rfl, SG.bs⟩ ?_
  rintro n t h' ⟨rfl, i, w, rfl, hi, t0, t1, t6, t5, hw⟩
  rcases Nat.lt_or_ge i l.length with hlt | hge
  · have g0 := prs_get hlt
    have tk : l.take (i + 1) = l.take i ++ [l[i]] := by rw [List.take_add_one]; simp [hlt]
    have hfl := List.length_filter_le (fun p : Pr => !decide (p.1 = k)) (l.take i)
    rw [List.length_take] at hfl
    have hap := fun (t : Nat → AV) (h : Heap) => hw.app (t := t) (h := h) (ys := [[.sc (.string l[i].1), .sc (.string l[i].2)]]) (bytes := 32) (by rw [prs_len, List.length_singleton, dropS]; omega)
    have hcat := hw.cat [[.sc (.string l[i].1), .sc (.string l[i].2)]]
    generalize catV 2 [[.sc (.string l[i].1), .sc (.string l[i].2)]] w = w2 at hap hcat
    (refine W_seq_gen fun N hN => ?_); simp (disch := first | omega | (simp only [List.length_cons, List.length_nil, List.length_append, u8s_len]; omega)) only [go_sem, ↓reduceIte, true_and, Nat.reduceLeDiff, Nat.reduceEqDiff, Nat.reduceAdd, Nat.reduceBEq, Int.reduceEq, H.cv_3_57, H.cv_5_3, H.cv_57_3, t0, t6, hv.same, hv.disc, hv.sl.len, e1, hlt]
    refine hN _ ?_; clear hN N
    (refine W_seq_gen fun N hN => ?_)
    rw [W_block]
    by_cases c : l[i].1 = k
    · have d : (!decide (l[i].1 = k)) = false := by simp [c]
      simp (disch := first | omega | (simp only [List.length_cons, List.length_nil, List.length_append, u8s_len]; omega)) only [go_sem, ↓reduceIte, true_and, Nat.reduceLeDiff, Nat.reduceEqDiff, Nat.reduceAdd, Nat.reduceBEq, Int.reduceEq, H.cv_3_57, H.cv_5_3, H.cv_57_3, t0, t1, t6, hv.same, hv.disc, hv.sl.ia, g0, d]
      refine hN _ ?_; clear hN N
      simp (disch := first | omega | (simp only [List.length_cons, List.length_nil, List.length_append, u8s_len]; omega)) only [go_sem, ↓reduceIte, true_and, Nat.reduceLeDiff, Nat.reduceEqDiff, Nat.reduceAdd, Nat.reduceBEq, Int.reduceEq, H.cv_3_57, H.cv_5_3, H.cv_57_3, t6, nat_add]
      exact ⟨l.length - (i + 1), by omega, i + 1, w, rfl, by omega, by simp [upd_at, t0], by simp [upd_at, t1], by simp [upd_at], by simp [upd_at, t5], by rw [tk, dropS, List.filter_append]; simpa [c, dropS] using hw⟩
    · have d : (!decide (l[i].1 = k)) = true := by simp [c]
      simp (disch := first | omega | (simp only [List.length_cons, List.length_nil, List.length_append, u8s_len]; omega)) only [go_sem, ↓reduceIte, true_and, Nat.reduceLeDiff, Nat.reduceEqDiff, Nat.reduceAdd, Nat.reduceBEq, Int.reduceEq, H.cv_3_57, H.cv_5_3, H.cv_57_3, t0, t1, t5, t6, hv.same, hv.disc, hv.sl.ia, g0, d, hap]
      refine hN _ ?_; clear hN N
      simp (disch := first | omega | (simp only [List.length_cons, List.length_nil, List.length_append, u8s_len]; omega)) only [go_sem, ↓reduceIte, true_and, Nat.reduceLeDiff, Nat.reduceEqDiff, Nat.reduceAdd, Nat.reduceBEq, Int.reduceEq, H.cv_3_57, H.cv_5_3, H.cv_57_3, t6, nat_add]
      rw [← prs_one, prs_app] at hcat
      exact ⟨l.length - (i + 1), by omega, i + 1, w2, rfl, by omega, by simp [upd_at, t0], by simp [upd_at, t1], by simp [upd_at], by simp [upd_at], by rw [tk, dropS, List.filter_append]; simpa [c, dropS] using hcat⟩
  · obtain rfl : i = l.length := by omega
    (refine W_seq_gen fun N hN => ?_); simp (disch := first | omega | (simp only [List.length_cons, List.length_nil, List.length_append, u8s_len]; omega)) only [go_sem, ↓reduceIte, true_and, Nat.reduceLeDiff, Nat.reduceEqDiff, Nat.reduceAdd, Nat.reduceBEq, Int.reduceEq, H.cv_3_57, H.cv_5_3, H.cv_57_3, t0, t6, hv.same, hv.disc, hv.sl.len, e1, Nat.lt_irrefl]
    refine hM _ ?_; clear hN N hM M
    rw [List.take_length] at hw
    simp (disch := first | omega | (simp only [List.length_cons, List.length_nil, List.length_append, u8s_len]; omega)) only [go_sem, ↓reduceIte, true_and, Nat.reduceLeDiff, Nat.reduceEqDiff, Nat.reduceAdd, Nat.reduceBEq, Int.reduceEq, H.cv_3_57, H.cv_5_3, H.cv_57_3, t5]
    exact hw.sl
end Go.Proofs.Ytmdkgaljnoookaa
