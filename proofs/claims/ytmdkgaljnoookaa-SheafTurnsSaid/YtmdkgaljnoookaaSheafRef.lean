/- The reference's functions: Set, Merge, Same; the law's own. -/
import Derived.Test.YtmdkgaljnoookaaSheafFn
set_option linter.unusedVariables false
set_option linter.unusedSimpArgs false
namespace Go.Proofs.Ytmdkgaljnoookaa
open Go.Am

theorem takeWhile_of {p : Pr → Bool} : ∀ (l : List Pr) (i : Nat), i ≤ l.length → (∀ (j : Nat) (hj : j < i) (hl : j < l.length), p l[j] = true) → (∀ hl : i < l.length, p l[i] = false) → l.takeWhile p = l.take i
  | [], i, _, _, _ => by simp
  | a :: l, 0, _, _, h => by
    have := h (by simp)
    simp at this
    simp [List.takeWhile_cons, this]
  | a :: l, i + 1, hi, h1, h2 => by
    have h0 := h1 0 (by omega) (by simp)
    simp at h0
    rw [List.takeWhile_cons, h0, List.take_succ_cons]
    simp only [if_true]
    rw [takeWhile_of l i (by simpa using hi) (fun j hj hl => h1 (j + 1) (by omega) (by simpa using hl)) (fun hl => h2 (by simpa using hl))]

def gtk (k : ByteArray) (p : Pr) : Bool := !(sl p.1 k || decide (p.1 = k))

variable {P : Program} (H : Has P)
include H

theorem set_ok {v : AV} {l : List Pr} {k w : ByteArray} (hv : SF 2 v (prs l)) (hl : l.length < 2 ^ 38) (h : Heap) : AWF P ann 0 20 [v, .sc (.string k), .sc (.string w)] h fun r h' => r = growV 2 (prs (setS l k w)) ∧ h' = h := by
  refine AWF.fnc H.f0_20 rfl ?_
  have e1 := @prs_len l
  (refine W_seq_gen fun N hN => ?_); simp (disch := first | omega | (simp only [List.length_cons, List.length_nil, List.length_append, u8s_len]; omega)) only [go_sem, ↓reduceIte, true_and, Nat.reduceLeDiff, Nat.reduceEqDiff, Nat.reduceAdd, Nat.reduceBEq, Int.reduceEq, H.cv_3_57, H.cv_5_3, H.cv_57_3]
  refine hN _ ?_; clear hN N
  (refine W_seq_gen fun N hN => ?_); simp (disch := first | omega | (simp only [List.length_cons, List.length_nil, List.length_append, u8s_len]; omega)) only [go_sem, ↓reduceIte, true_and, Nat.reduceLeDiff, Nat.reduceEqDiff, Nat.reduceAdd, Nat.reduceBEq, Int.reduceEq, H.cv_3_57, H.cv_5_3, H.cv_57_3]
  refine hN _ ?_; clear hN N
  (refine W_seq_gen fun M hM => ?_)
  (refine W_seq_gen fun N hN => ?_); simp (disch := first | omega | (simp only [List.length_cons, List.length_nil, List.length_append, u8s_len]; omega)) only [go_sem, ↓reduceIte, true_and, Nat.reduceLeDiff, Nat.reduceEqDiff, Nat.reduceAdd, Nat.reduceBEq, Int.reduceEq, H.cv_3_57, H.cv_5_3, H.cv_57_3]
  refine hN _ ?_; clear hN N
  simp (disch := first | omega | (simp only [List.length_cons, List.length_nil, List.length_append, u8s_len]; omega)) only [go_sem, ↓reduceIte, true_and, Nat.reduceLeDiff, Nat.reduceEqDiff, Nat.reduceAdd, Nat.reduceBEq, Int.reduceEq, H.cv_3_57, H.cv_5_3, H.cv_57_3]
  refine AW_loopN (fun n t h' => h' = h ∧ ∃ i, n = l.length - i ∧ i ≤ l.length ∧ t 0 = v ∧ t 1 = .sc (.string k) ∧ t 2 = .sc (.string w) ∧ t 8 = .sc (.int .i64 (i : Nat)) ∧ t 7 = growV 2 (prs (l.take i)) ∧ ∀ (j : Nat) (hj : j < i) (hl : j < l.length), sl l[j].1 k = true)
    (n := l.length) ⟨rfl, 0, rfl, Nat.zero_le _, rfl, rfl, rfl, rfl, rfl, fun j hj => by omega⟩ ?_
  rintro n t h' ⟨rfl, i, rfl, hi, t0, t1, t2, t8, t7, hs⟩
  have hg := growV_ok 2 (prs (l.take i))
  have hgl : (prs (l.take i)).length = i := by rw [prs_len]; simp; omega
  by_cases hlt : i < l.length ∧ sl (l[i]!).1 k = true
  · obtain ⟨hlt, hss⟩ := hlt
    rw [getElem!_pos l i hlt] at hss
    have g0 := prs_get hlt
    have hn : l.take (i + 1) = l.take i ++ [l[i]] := by rw [List.take_add_one]; simp [hlt]
    (refine W_seq_gen fun N hN => ?_); simp (disch := first | omega | (simp only [List.length_cons, List.length_nil, List.length_append, u8s_len]; omega)) only [go_sem, ↓reduceIte, true_and, Nat.reduceLeDiff, Nat.reduceEqDiff, Nat.reduceAdd, Nat.reduceBEq, Int.reduceEq, H.cv_3_57, H.cv_5_3, H.cv_57_3, t0, t1, t8, hv.same, hv.sl.len, hv.sl.ia, e1, g0, hlt, hss]
    refine hN _ ?_; clear hN N
    (refine W_seq_gen fun N hN => ?_)
    rw [W_block]
    simp (disch := first | omega | (simp only [List.length_cons, List.length_nil, List.length_append, u8s_len]; omega)) only [go_sem, ↓reduceIte, true_and, Nat.reduceLeDiff, Nat.reduceEqDiff, Nat.reduceAdd, Nat.reduceBEq, Int.reduceEq, H.cv_3_57, H.cv_5_3, H.cv_57_3, t0, t7, t8, hv.same, hv.sl.ia, g0, hg.app (ys := [[.sc (.string l[i].1), .sc (.string l[i].2)]]) (bytes := 32) (by simp [hgl]; omega)]
    refine hN _ ?_; clear hN N
    simp (disch := first | omega | (simp only [List.length_cons, List.length_nil, List.length_append, u8s_len]; omega)) only [go_sem, ↓reduceIte, true_and, Nat.reduceLeDiff, Nat.reduceEqDiff, Nat.reduceAdd, Nat.reduceBEq, Int.reduceEq, H.cv_3_57, H.cv_5_3, H.cv_57_3, t8, nat_add]
    exact ⟨l.length - (i + 1), by omega, i + 1, rfl, by omega, t0, t1, t2, rfl, by rw [hn, prs_snoc, growV_snoc], fun j hj hl => by
      rcases Nat.lt_or_ge j i with h | h
      · exact hs j h hl
      · obtain rfl : j = i := by omega
        exact hss⟩
  have htw : l.takeWhile (fun p => sl p.1 k) = l.take i := takeWhile_of l i hi hs (fun hl => by
    cases h : sl l[i].1 k with
    | false => rfl
    | true => exact absurd ⟨hl, by rw [getElem!_pos l i hl]; exact h⟩ hlt)
  have fin : ∀ s : St, s = ⟨s.t, h'⟩ → s.t 0 = v → s.t 1 = .sc (.string k) → s.t 2 = .sc (.string w) → s.t 7 = growV 2 (prs (l.take i)) → M s := by
    intro s hs t0 t1 t2 t7
    rw [hs]
    generalize s.t = t at t0 t1 t2 t7
    refine hM _ ?_
    clear hM M
    have hap := fun (t : Nat → AV) (h : Heap) => hg.app (t := t) (h := h) (ys := [[.sc (.string k), .sc (.string w)]]) (bytes := 32) (by simp [hgl]; omega)
    (refine W_seq_gen fun N hN => ?_); simp (disch := first | omega | (simp only [List.length_cons, List.length_nil, List.length_append, u8s_len]; omega)) only [go_sem, ↓reduceIte, true_and, Nat.reduceLeDiff, Nat.reduceEqDiff, Nat.reduceAdd, Nat.reduceBEq, Int.reduceEq, H.cv_3_57, H.cv_5_3, H.cv_57_3, t1, t2, t7, hap]
    refine hN _ ?_; clear hN N
    rw [← growV_snoc, ← prs_snoc 
      (l.take i) (k, w), ← htw]
    (refine W_seq_gen fun M hM => ?_)
    (refine W_seq_gen fun N hN => ?_); simp (disch := first | omega | (simp only [List.length_cons, List.length_nil, List.length_append, u8s_len]; omega)) only [go_sem, ↓reduceIte, true_and, Nat.reduceLeDiff, Nat.reduceEqDiff, Nat.reduceAdd, Nat.reduceBEq, Int.reduceEq, H.cv_3_57, H.cv_5_3, H.cv_57_3]
    refine hN _ ?_; clear hN N
    simp (disch := first | omega | (simp only [List.length_cons, List.length_nil, List.length_append, u8s_len]; omega)) only [go_sem, ↓reduceIte, true_and, Nat.reduceLeDiff, Nat.reduceEqDiff, Nat.reduceAdd, Nat.reduceBEq, Int.reduceEq, H.cv_3_57, H.cv_5_3, H.cv_57_3]
    refine AW_loopN (fun n t h'' => h'' = h' ∧ ∃ i, n = l.length - i ∧ i ≤ l.length ∧ t 0 = v ∧ t 1 = .sc (.string k) ∧ t 9 = .sc (.int .i64 (i : Nat)) ∧ t 7 = growV 2 (prs (l.takeWhile (fun p => sl p.1 k) ++ (k, w) :: (l.take i).filter (gtk k))))
      (n := l.length) ⟨rfl, 0, rfl, Nat.zero_le _, ?_, ?_, rfl, rfl⟩ ?_
    · simpa [upd_at] using t0
    · simpa [upd_at] using t1
    clear t0 t1 t2 t7 t
    rintro n t h'' ⟨rfl, i, rfl, hi, t0, t1, t9, t7⟩
    have hlen : (prs (l.takeWhile (fun p => sl p.1 k) ++ (k, w) :: (l.take i).filter (gtk k))).length ≤ 2 * l.length + 1 := by
      rw [prs_len, List.length_append, List.length_cons]
      have h1 := List.length_filter_le (gtk k) (l.take i)
      have h2 := (List.takeWhile_prefix (l := l) (fun p : Pr => sl p.1 k)).length_le
      have h3 : (l.take i).length ≤ l.length := by simp; omega
      omega
    have hg2 := growV_ok 2 (prs (l.takeWhile (fun p => sl p.1 k) ++ (k, w) :: (l.take i).filter (gtk k)))
    rcases Nat.lt_or_ge i l.length with hlt | hge
    · have g0 := prs_get hlt
      have hn : l.take (i + 1) = l.take i ++ [l[i]] := by rw [List.take_add_one]; simp [hlt]
      (refine W_seq_gen fun N hN => ?_); simp (disch := first | omega | (simp only [List.length_cons, List.length_nil, List.length_append, u8s_len]; omega)) only [go_sem, ↓reduceIte, true_and, Nat.reduceLeDiff, Nat.reduceEqDiff, Nat.reduceAdd, Nat.reduceBEq, Int.reduceEq, H.cv_3_57, H.cv_5_3, H.cv_57_3, t0, t9, hv.same, hv.sl.len, e1, hlt]
      refine hN _ ?_; clear hN N
      (refine W_seq_gen fun N hN => ?_)
      rw [W_block]
      by_cases hq : (sl l[i].1 k || decide (l[i].1 = k)) = true
      · (refine W_seq_gen fun N hN => ?_); simp (disch := first | omega | (simp only [List.length_cons, List.length_nil, List.length_append, u8s_len]; omega)) only [go_sem, ↓reduceIte, true_and, Nat.reduceLeDiff, Nat.reduceEqDiff, Nat.reduceAdd, Nat.reduceBEq, Int.reduceEq, H.cv_3_57, H.cv_5_3, H.cv_57_3, t0, t1, t9, hv.same, hv.sl.ia, g0, hq]
        refine hN _ ?_; clear hN N
        simp (disch := first | omega | (simp only [List.length_cons, List.length_nil, List.length_append, u8s_len]; omega)) only [go_sem, ↓reduceIte, true_and, Nat.reduceLeDiff, Nat.reduceEqDiff, Nat.reduceAdd, Nat.reduceBEq, Int.reduceEq, H.cv_3_57, H.cv_5_3, H.cv_57_3]
        refine hN _ ?_; clear hN N
        simp (disch := first | omega | (simp only [List.length_cons, List.length_nil, List.length_append, u8s_len]; omega)) only [go_sem, ↓reduceIte, true_and, Nat.reduceLeDiff, Nat.reduceEqDiff, Nat.reduceAdd, Nat.reduceBEq, Int.reduceEq, H.cv_3_57, H.cv_5_3, H.cv_57_3, t9, nat_add]
        refine ⟨l.length - (i + 1), by omega, i + 1, rfl, by omega, t0, t1, rfl, ?_⟩
        rw [t7, hn, List.filter_append]
        have hf : [l[i]].filter (gtk k) = [] := by simp [gtk, hq]
        rw [hf, List.append_nil]
      · have hq : (sl l[i].1 k || decide (l[i].1 = k)) = false := by simpa using hq
        have hap := fun (t : Nat → AV) (h : Heap) => hg2.app (t := t) (h := h) (ys := [[.sc (.string l[i].1), .sc (.string l[i].2)]]) (bytes := 32) (by rw [List.length_singleton]; omega)
        (refine W_seq_gen fun N hN => ?_); simp (disch := first | omega | (simp only [List.length_cons, List.length_nil, List.length_append, u8s_len]; omega)) only [go_sem, ↓reduceIte, true_and, Nat.reduceLeDiff, Nat.reduceEqDiff, Nat.reduceAdd, Nat.reduceBEq, Int.reduceEq, H.cv_3_57, H.cv_5_3, H.cv_57_3, t0, t1, t9, hv.same, hv.sl.ia, g0, hq]
        refine hN _ ?_; clear hN N
        simp (disch := first | omega | (simp only [List.length_cons, List.length_nil, List.length_append, u8s_len]; omega)) only [go_sem, ↓reduceIte, true_and, Nat.reduceLeDiff, Nat.reduceEqDiff, Nat.reduceAdd, Nat.reduceBEq, Int.reduceEq, H.cv_3_57, H.cv_5_3, H.cv_57_3, t0, t7, t9, hv.same, hv.sl.ia, g0, hap]
        refine hN _ ?_; clear hN N
        simp (disch := first | omega | (simp only [List.length_cons, List.length_nil, List.length_append, u8s_len]; omega)) only [go_sem, ↓reduceIte, true_and, Nat.reduceLeDiff, Nat.reduceEqDiff, Nat.reduceAdd, Nat.reduceBEq, Int.reduceEq, H.cv_3_57, H.cv_5_3, H.cv_57_3, t9, nat_add]
        refine ⟨l.length - (i + 1), by omega, i + 1, rfl, by omega, t0, t1, rfl, ?_⟩
        have hf : [l[i]].filter (gtk k) = [l[i]] := by
          have : gtk k l[i] = true := by rw [gtk, hq]; rfl
          simp [this]
        rw [hn, List.filter_append, ← growV_snoc, ← prs_snoc, hf]
        simp
    obtain rfl : i = l.length := by omega
    (refine W_seq_gen fun N hN => ?_); simp (disch := first | omega | (simp only [List.length_cons, List.length_nil, List.length_append, u8s_len]; omega)) only [go_sem, ↓reduceIte, true_and, Nat.reduceLeDiff, Nat.reduceEqDiff, Nat.reduceAdd, Nat.reduceBEq, Int.reduceEq, H.cv_3_57, H.cv_5_3, H.cv_57_3, t0, t9, hv.same, hv.sl.len, e1, Nat.lt_irrefl]
    refine hM _ ?_; clear hN N hM M
    simp (disch := first | omega | (simp only [List.length_cons, List.length_nil, List.length_append, u8s_len]; omega)) only [go_sem, ↓reduceIte, true_and, Nat.reduceLeDiff, Nat.reduceEqDiff, Nat.reduceAdd, Nat.reduceBEq, Int.reduceEq, H.cv_3_57, H.cv_5_3, H.cv_57_3, t7]
    rw [List.take_length]
    rfl
  by_cases hlt0 : i < l.length
  · have hss : sl l[i].1 k = false := by
      cases h : sl l[i].1 k with
      | false => rfl
      | true => exact absurd ⟨hlt0, by rw [getElem!_pos l i hlt0]; exact h⟩ hlt
    have g0 := prs_get hlt0
    (refine W_seq_gen fun N hN => ?_); simp (disch := first | omega | (simp only [List.length_cons, List.length_nil, List.length_append, u8s_len]; omega)) only [go_sem, ↓reduceIte, true_and, Nat.reduceLeDiff, Nat.reduceEqDiff, Nat.reduceAdd, Nat.reduceBEq, Int.reduceEq, H.cv_3_57, H.cv_5_3, H.cv_57_3, t0, t1, t8, hv.same, hv.sl.len, hv.sl.ia, e1, g0, hlt0, hss]
    refine fin _ rfl ?_ ?_ ?_ ?_
    · simpa [upd_at] using t0
    · simpa [upd_at] using t1
    · simpa [upd_at] using t2
    · simpa [upd_at] using t7
  · (refine W_seq_gen fun N hN => ?_); simp (disch := first | omega | (simp only [List.length_cons, List.length_nil, List.length_append, u8s_len]; omega)) only [go_sem, ↓reduceIte, true_and, Nat.reduceLeDiff, Nat.reduceEqDiff, Nat.reduceAdd, Nat.reduceBEq, Int.reduceEq, H.cv_3_57, H.cv_5_3, H.cv_57_3, t0, t1, t8, hv.same, hv.sl.len, e1, hlt0]
    refine fin _ rfl ?_ ?_ ?_ ?_
    · simpa [upd_at] using t0
    · simpa [upd_at] using t1
    · simpa [upd_at] using t2
    · simpa [upd_at] using t7

omit H in
theorem tw_filter {α : Type} (p q : α → Bool) (hpq : ∀ x, q x = true → p x = false) : ∀ l : List α, (l.takeWhile p).length + (l.filter q).length ≤ l.length
  | [] => by simp
  | a :: l => by
    have ih := tw_filter p q hpq l
    have h3 := List.length_filter_le q l
    rw [List.takeWhile_cons, List.filter_cons]
    cases hp : p a with
    | true =>
      have : q a = false := by
        cases hq : q a with
        | false => rfl
        | true => rw [hpq a hq] at hp; cases hp
      simp [this]; omega
    | false =>
      cases hq : q a <;> simp <;> omega
omit H in
theorem setS_len1 (l : List Pr) (k v : ByteArray) : (setS l k v).length ≤ l.length + 1 := by
  have := tw_filter (fun p : Pr => sl p.1 k) (gtk k) (fun x hx => by
    simp only [gtk, Bool.not_eq_true', Bool.or_eq_false_iff] at hx
    exact hx.1) l
  have e : (setS l k v).length = (l.takeWhile (fun p : Pr => sl p.1 k)).length + ((l.filter (gtk k)).length + 1) := by
    show (_ ++ _ :: l.filter (gtk k)).length = _
    rw [List.length_append, List.length_cons]
  omega
omit H in
theorem mergeR_snoc (a b : List Pr) (q : Pr) : mergeR a (b ++ [q]) = setS (mergeR a b) q.1 q.2 := by simp [mergeR]
omit H in
theorem mergeR_len (a : List Pr) : ∀ b : List Pr, (mergeR a b).length ≤ a.length + b.length := by
  intro b
  unfold mergeR
  induction b generalizing a with
  | nil => simp
  | cons q b ih =>
    rw [List.foldl_cons]
    have := ih (setS a q.1 q.2)
    have := setS_len1 a q.1 q.2
    rw [List.length_cons]
    omega

theorem refmerge_ok {v w : AV} {l m : List Pr} (hv : SF 2 v (prs l)) (hw : SF 2 w (prs m)) (hl : l.length < 2 ^ 36) (hm : m.length < 2 ^ 36) (h : Heap) : AWF P ann 0 12 [v, w] h fun r h' => SL 2 r (prs (mergeR l m)) ∧ h' = h := by
  refine AWF.fnc H.f0_12 rfl ?_
  have e1 := @prs_len m
  (refine W_seq_gen fun N hN => ?_); simp (disch := first | omega | (simp only [List.length_cons, List.length_nil, List.length_append, u8s_len]; omega)) only [go_sem, ↓reduceIte, true_and, Nat.reduceLeDiff, Nat.reduceEqDiff, Nat.reduceAdd, Nat.reduceBEq, Int.reduceEq, H.cv_3_57, H.cv_5_3, H.cv_57_3]
  refine hN _ ?_; clear hN N
  (refine W_seq_gen fun M hM => ?_)
  (refine W_seq_gen fun N hN => ?_); simp (disch := first | omega | (simp only [List.length_cons, List.length_nil, List.length_append, u8s_len]; omega)) only [go_sem, ↓reduceIte, true_and, Nat.reduceLeDiff, Nat.reduceEqDiff, Nat.reduceAdd, Nat.reduceBEq, Int.reduceEq, H.cv_3_57, H.cv_5_3, H.cv_57_3]
  refine hN _ ?_; clear hN N
  simp (disch := first | omega | (simp only [List.length_cons, List.length_nil, List.length_append, u8s_len]; omega)) only [go_sem, ↓reduceIte, true_and, Nat.reduceLeDiff, Nat.reduceEqDiff, Nat.reduceAdd, Nat.reduceBEq, Int.reduceEq, H.cv_3_57, H.cv_5_3, H.cv_57_3]
  refine AW_loopN (fun n t h' => h' = h ∧ ∃ i x, n = m.length - i ∧ i ≤ m.length ∧ t 0 = x ∧ t 1 = w ∧ t 5 = .sc (.int .i64 (i : Nat)) ∧ SL 2 x (prs (mergeR l (m.take i))))
    (n := m.length) ⟨rfl, 0, _, rfl, Nat.zero_le _, rfl, rfl, rfl, hv.sl⟩ ?_
  rintro n t h' ⟨rfl, i, x, rfl, hi, t0, t1, t5, hx⟩
  rcases Nat.lt_or_ge i m.length with hlt | hge
  · have g0 := prs_get hlt
    have hn : m.take (i + 1) = m.take i ++ [m[i]] := by rw [List.take_add_one]; simp [hlt]
    have hml := mergeR_len l (m.take i)
    have hti : (m.take i).length ≤ m.length := by simp; omega
    (refine W_seq_gen fun N hN => ?_); simp (disch := first | omega | (simp only [List.length_cons, List.length_nil, List.length_append, u8s_len]; omega)) only [go_sem, ↓reduceIte, true_and, Nat.reduceLeDiff, Nat.reduceEqDiff, Nat.reduceAdd, Nat.reduceBEq, Int.reduceEq, H.cv_3_57, H.cv_5_3, H.cv_57_3, t1, t5, hw.same, hw.sl.len, e1, hlt]
    refine hN _ ?_; clear hN N
    (refine W_seq_gen fun N hN => ?_)
    rw [W_block]
    simp (disch := first | omega | (simp only [List.length_cons, List.length_nil, List.length_append, u8s_len]; omega)) only [go_sem, ↓reduceIte, true_and, Nat.reduceLeDiff, Nat.reduceEqDiff, Nat.reduceAdd, Nat.reduceBEq, Int.reduceEq, H.cv_3_57, H.cv_5_3, H.cv_57_3, t0, t1, t5, hw.same, hw.sl.ia, g0]
    refine ⟨_, set_ok H hx.df (by omega) _, ?_⟩
    rw [contK_some]; simp (disch := first | omega | (simp only [List.length_cons, List.length_nil, List.length_append, u8s_len]; omega)) only [go_sem, ↓reduceIte, true_and, Nat.reduceLeDiff, Nat.reduceEqDiff, Nat.reduceAdd, Nat.reduceBEq, Int.reduceEq, H.cv_3_57, H.cv_5_3, H.cv_57_3]
    refine hN _ ?_; clear hN N
    simp (disch := first | omega | (simp only [List.length_cons, List.length_nil, List.length_append, u8s_len]; omega)) only [go_sem, ↓reduceIte, true_and, Nat.reduceLeDiff, Nat.reduceEqDiff, Nat.reduceAdd, Nat.reduceBEq, Int.reduceEq, H.cv_3_57, H.cv_5_3, H.cv_57_3, t5, nat_add]
    exact ⟨m.length - (i + 1), by omega, i + 1, _, rfl, by omega, rfl, t1, rfl, by rw [hn, mergeR_snoc]; exact (growV_ok 2 _).sl⟩
  obtain rfl : i = m.length := by omega
  (refine W_seq_gen fun N hN => ?_); simp (disch := first | omega | (simp only [List.length_cons, List.length_nil, List.length_append, u8s_len]; omega)) only [go_sem, ↓reduceIte, true_and, Nat.reduceLeDiff, Nat.reduceEqDiff, Nat.reduceAdd, Nat.reduceBEq, Int.reduceEq, H.cv_3_57, H.cv_5_3, H.cv_57_3, t1, t5, hw.same, hw.sl.len, e1, Nat.lt_irrefl]
  refine hM _ ?_; clear hN N hM M
  rw [List.take_length] at hx
  simp (disch := first | omega | (simp only [List.length_cons, List.length_nil, List.length_append, u8s_len]; omega)) only [go_sem, ↓reduceIte, true_and, Nat.reduceLeDiff, Nat.reduceEqDiff, Nat.reduceAdd, Nat.reduceBEq, Int.reduceEq, H.cv_3_57, H.cv_5_3, H.cv_57_3, t0]
  exact hx

theorem none_ok {v : AV} {es : List (List AV)} {n : Nat} (hv : SL 2 v es) (hl : es.length < 2 ^ 60) (h : Heap) : AWF P ann 0 10 [v, .sc (.int .i64 (n : Nat))] h fun r h' => r = .sc (.bool (decide (n = 1) && decide (es.length = 0))) ∧ h' = h := by
  refine AWF.fnc H.f0_10 rfl ?_
  by_cases hn : n = 1
  · subst hn
    simp (disch := first | omega | (simp only [List.length_cons, List.length_nil, List.length_append, u8s_len]; omega)) only [go_sem, ↓reduceIte, true_and, Nat.reduceLeDiff, Nat.reduceEqDiff, Nat.reduceAdd, Nat.reduceBEq, Int.reduceEq, H.cv_3_57, H.cv_5_3, H.cv_57_3, hv.dis.len]
  · simp (disch := first | omega | (simp only [List.length_cons, List.length_nil, List.length_append, u8s_len]; omega)) only [go_sem, ↓reduceIte, true_and, Nat.reduceLeDiff, Nat.reduceEqDiff, Nat.reduceAdd, Nat.reduceBEq, Int.reduceEq, H.cv_3_57, H.cv_5_3, H.cv_57_3, hn]

/-- What the program needs to know of pairs that are compared. -/
structure HasC (P : Program) : Prop where
  ne : ∀ a b c d : ByteArray, scalarBin P .neq 33 (.agg #[.string a, .string b]) (.agg #[.string c, .string d]) = some (.bool (!(decide (a = c) && decide (b = d))))

omit H in
theorem pr_ne {p q : Pr} (h : p ≠ q) : (!(decide (p.1 = q.1) && decide (p.2 = q.2))) = true := by
  simp only [Bool.not_eq_true', Bool.and_eq_false_iff, decide_eq_false_iff_not]
  by_cases h1 : p.1 = q.1
  · exact .inr fun h2 => h (Prod.ext h1 h2)
  · exact .inl h1

theorem same_ok (HC : HasC P) {v w : AV} {l m : List Pr} (hv : SL 2 v (prs l)) (hw : SL 2 w (prs m)) (hl : l.length < 2 ^ 60) (hm : m.length < 2 ^ 60) (h : Heap) : AWF P ann 0 11 [v, w] h fun r h' => r = .sc (.bool (decide (l = m))) ∧ h' = h := by
  refine AWF.fnc H.f0_11 rfl ?_
  have e1 := @prs_len l
  have e2 := @prs_len m
  (refine W_seq_gen fun N hN => ?_); simp (disch := first | omega | (simp only [List.length_cons, List.length_nil, List.length_append, u8s_len]; omega)) only [go_sem, ↓reduceIte, true_and, Nat.reduceLeDiff, Nat.reduceEqDiff, Nat.reduceAdd, Nat.reduceBEq, Int.reduceEq, H.cv_3_57, H.cv_5_3, H.cv_57_3]
  refine hN _ ?_; clear hN N
  by_cases hlen : l.length = m.length
  · (refine W_seq_gen fun N hN => ?_); simp (disch := first | omega | (simp only [List.length_cons, List.length_nil, List.length_append, u8s_len]; omega)) only [go_sem, ↓reduceIte, true_and, Nat.reduceLeDiff, Nat.reduceEqDiff, Nat.reduceAdd, Nat.reduceBEq, Int.reduceEq, H.cv_3_57, H.cv_5_3, H.cv_57_3, hv.dis.len, hw.dis.len, e1, e2, hlen]
    refine hN _ ?_; clear hN N
    (refine W_seq_gen fun M hM => ?_)
    (refine W_seq_gen fun N hN => ?_); simp (disch := first | omega | (simp only [List.length_cons, List.length_nil, List.length_append, u8s_len]; omega)) only [go_sem, ↓reduceIte, true_and, Nat.reduceLeDiff, Nat.reduceEqDiff, Nat.reduceAdd, Nat.reduceBEq, Int.reduceEq, H.cv_3_57, H.cv_5_3, H.cv_57_3]
    refine hN _ ?_; clear hN N
    simp (disch := first | omega | (simp only [List.length_cons, List.length_nil, List.length_append, u8s_len]; omega)) only [go_sem, ↓reduceIte, true_and, Nat.reduceLeDiff, Nat.reduceEqDiff, Nat.reduceAdd, Nat.reduceBEq, Int.reduceEq, H.cv_3_57, H.cv_5_3, H.cv_57_3]
    refine AW_loopN (fun n t h' => h' = h ∧ ∃ i, n = l.length - i ∧ i ≤ l.length ∧ t 0 = v ∧ t 1 = w ∧ t 5 = .sc (.int .i64 (i : Nat)) ∧ l.take i = m.take i)
      (n := l.length) ⟨rfl, 0, rfl, Nat.zero_le _, rfl, rfl, rfl, rfl⟩ ?_
    rintro n t h' ⟨rfl, i, rfl, hi, t0, t1, t5, he⟩
    rcases Nat.lt_or_ge i l.length with hlt | hge
    · have hlt2 : i < m.length := by omega
      have g0 := prs_get hlt
      have g1 := prs_get hlt2
      (refine W_seq_gen fun N hN => ?_); simp (disch := first | omega | (simp only [List.length_cons, List.length_nil, List.length_append, u8s_len]; omega)) only [go_sem, ↓reduceIte, true_and, Nat.reduceLeDiff, Nat.reduceEqDiff, Nat.reduceAdd, Nat.reduceBEq, Int.reduceEq, H.cv_3_57, H.cv_5_3, H.cv_57_3, t0, t1, t5, hv.dis.len, e1, hlt]
      refine hN _ ?_; clear hN N
      (refine W_seq_gen fun N hN => ?_)
      rw [W_block]
      by_cases hq : l[i] = m[i]
      · have hq2 : (decide ((l[i]).1 = (m[i]).1) && decide ((l[i]).2 = (m[i]).2)) = true := by rw [hq]; simp
        (refine W_seq_gen fun N hN => ?_); simp (disch := first | omega | (simp only [List.length_cons, List.length_nil, List.length_append, u8s_len]; omega)) only [go_sem, ↓reduceIte, true_and, Nat.reduceLeDiff, Nat.reduceEqDiff, Nat.reduceAdd, Nat.reduceBEq, Int.reduceEq, H.cv_3_57, H.cv_5_3, H.cv_57_3, t0, t1, t5, hv.dis.ia, hw.dis.ia, g0, g1, HC.ne, hq2]
        refine hN _ ?_; clear hN N
        simp (disch := first | omega | (simp only [List.length_cons, List.length_nil, List.length_append, u8s_len]; omega)) only [go_sem, ↓reduceIte, true_and, Nat.reduceLeDiff, Nat.reduceEqDiff, Nat.reduceAdd, Nat.reduceBEq, Int.reduceEq, H.cv_3_57, H.cv_5_3, H.cv_57_3]
        refine hN _ ?_; clear hN N
        simp (disch := first | omega | (simp only [List.length_cons, List.length_nil, List.length_append, u8s_len]; omega)) only [go_sem, ↓reduceIte, true_and, Nat.reduceLeDiff, Nat.reduceEqDiff, Nat.reduceAdd, Nat.reduceBEq, Int.reduceEq, H.cv_3_57, H.cv_5_3, H.cv_57_3, t5, nat_add]
        exact ⟨l.length - (i + 1), by omega, i + 1, rfl, by omega, t0, t1, rfl, by rw [List.take_add_one, List.take_add_one, he]; simp [hlt, hlt2, hq]⟩
      · have hq2 := pr_ne hq
        (refine W_seq_gen fun N hN => ?_); simp (disch := first | omega | (simp only [List.length_cons, List.length_nil, List.length_append, u8s_len]; omega)) only [go_sem, ↓reduceIte, true_and, Nat.reduceLeDiff, Nat.reduceEqDiff, Nat.reduceAdd, Nat.reduceBEq, Int.reduceEq, H.cv_3_57, H.cv_5_3, H.cv_57_3, t0, t1, t5, hv.dis.ia, hw.dis.ia, g0, g1, HC.ne, hq2]
        refine hN _ ?_; clear hN N
        simp (disch := first | omega | (simp only [List.length_cons, List.length_nil, List.length_append, u8s_len]; omega)) only [go_sem, ↓reduceIte, true_and, Nat.reduceLeDiff, Nat.reduceEqDiff, Nat.reduceAdd, Nat.reduceBEq, Int.reduceEq, H.cv_3_57, H.cv_5_3, H.cv_57_3]
        have : l ≠ m := fun e => hq (by simp [e])
        simp [this]
    obtain rfl : i = l.length := by omega
    have : l = m := by
      rw [List.take_length] at he
      rw [he, hlen, List.take_length]
    (refine W_seq_gen fun N hN => ?_); simp (disch := first | omega | (simp only [List.length_cons, List.length_nil, List.length_append, u8s_len]; omega)) only [go_sem, ↓reduceIte, true_and, Nat.reduceLeDiff, Nat.reduceEqDiff, Nat.reduceAdd, Nat.reduceBEq, Int.reduceEq, H.cv_3_57, H.cv_5_3, H.cv_57_3, t0, t1, t5, hv.dis.len, e1, Nat.lt_irrefl]
    refine hM _ ?_; clear hN N hM M
    simp (disch := first | omega | (simp only [List.length_cons, List.length_nil, List.length_append, u8s_len]; omega)) only [go_sem, ↓reduceIte, true_and, Nat.reduceLeDiff, Nat.reduceEqDiff, Nat.reduceAdd, Nat.reduceBEq, Int.reduceEq, H.cv_3_57, H.cv_5_3, H.cv_57_3]
    simp [this]
  · have : l ≠ m := fun e => hlen (by rw [e])
    (refine W_seq_gen fun N hN => ?_); simp (disch := first | omega | (simp only [List.length_cons, List.length_nil, List.length_append, u8s_len]; omega)) only [go_sem, ↓reduceIte, true_and, Nat.reduceLeDiff, Nat.reduceEqDiff, Nat.reduceAdd, Nat.reduceBEq, Int.reduceEq, H.cv_3_57, H.cv_5_3, H.cv_57_3, hv.dis.len, hw.dis.len, e1, e2, hlen]
    simp [this]
end Go.Proofs.Ytmdkgaljnoookaa
