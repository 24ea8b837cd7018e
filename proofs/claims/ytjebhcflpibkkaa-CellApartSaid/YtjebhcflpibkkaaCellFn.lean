/- What the functions of the package cell come to. -/
import Derived.Test.YtjebhcflpibkkaaCellPure
set_option linter.unusedVariables false
set_option linter.unusedSimpArgs false
namespace Go.Proofs.Ytjebhcflpibkkaa
open Go.Am
variable {P : Program} (H : Has P)
include H
theorem deep_ok : ∀ (left : Nat) (c : Cel) (cs : List AV), left < 2 ^ 60 → CE cs c → ∀ h, AWF P ann 0 25 [.ag cs, .sc (.int .i64 (left : Nat))] h fun r h' => r = .sc (.bool (deepS left c)) ∧ h' = h := by
  intro left
  induction left with
  | zero =>
    intro c cs _ hc h
    obtain ⟨v, es, rfl, hv, hl, hf⟩ := hc.out
    refine AWF.fnPurec H.f0_25 rfl ?_
    have hO := OB.nil (h := h)
    (refine W_seq_gen fun N hN => ?_); simp (disch := first | omega | (simp only [List.length_cons, List.length_nil, List.length_append, u8s_len]; omega)) only [go_sem, ↓reduceIte, true_and, Nat.reduceLeDiff, Nat.reduceEqDiff, Nat.reduceAdd, Nat.reduceBEq, Int.reduceEq, H.cv_3_5, H.cv_5_3, hv.disc, hv.same]
    intro o2 h2
    refine hN _ ?_; clear hN N; refine W_ob (hO.new h2) fun hc hO => ?_
    simp (disch := first | omega | (simp only [List.length_cons, List.length_nil, List.length_append, u8s_len]; omega)) only [go_sem, ↓reduceIte, true_and, Nat.reduceLeDiff, Nat.reduceEqDiff, Nat.reduceAdd, Nat.reduceBEq, Int.reduceEq, H.cv_3_5, H.cv_5_3]
    exact ⟨rfl, hO.keep⟩
  | succ left ih =>
    intro c cs hlt hc h
    obtain ⟨v, es, rfl, hv, hl, hf⟩ := hc.out
    have hfl := hf.l
    have hes := hl.len
    refine AWF.fnPurec H.f0_25 rfl ?_
    have hO := OB.nil (h := h)
    (refine W_seq_gen fun N hN => ?_); simp (disch := first | omega | (simp only [List.length_cons, List.length_nil, List.length_append, u8s_len]; omega)) only [go_sem, ↓reduceIte, true_and, Nat.reduceLeDiff, Nat.reduceEqDiff, Nat.reduceAdd, Nat.reduceBEq, Int.reduceEq, H.cv_3_5, H.cv_5_3, hv.disc, hv.same]
    intro o2 h2
    refine hN _ ?_; clear hN N; refine W_ob (hO.new h2) fun hc hO => ?_
    refine W_forget (fun t => t 1 = .sc (.int .i64 ((left + 1 : Nat) : Int)) ∧ t 2 = .op o2 0 ∧ True) (by simp [upd_at, *] <;> (first | rfl | exact ⟨rfl, rfl⟩ | exact ⟨rfl, rfl, rfl⟩)) ?_; rintro t ⟨t1, t2, -⟩
    have hne : ¬ ((left + 1 : Nat) : Int) = ((0 : Nat) : Int) := by omega
    (refine W_seq_gen fun N hN => ?_); simp (disch := first | omega | (simp only [List.length_cons, List.length_nil, List.length_append, u8s_len]; omega)) only [go_sem, ↓reduceIte, true_and, Nat.reduceLeDiff, Nat.reduceEqDiff, Nat.reduceAdd, Nat.reduceBEq, Int.reduceEq, H.cv_3_5, H.cv_5_3, t1, hne]
    refine hN _ ?_; clear hN N
    (refine W_seq_gen fun M hM => ?_)
    simp (disch := first | omega | (simp only [List.length_cons, List.length_nil, List.length_append, u8s_len]; omega)) only [go_sem, ↓reduceIte, true_and, Nat.reduceLeDiff, Nat.reduceEqDiff, Nat.reduceAdd, Nat.reduceBEq, Int.reduceEq, H.cv_3_5, H.cv_5_3, t1, t2, hv.same, hv.disc, hv.sl.len, hes, hO.get0]
    refine AW_loopN (fun m t h' => ∃ i, m = c.l.length - i ∧ i ≤ c.l.length ∧ (c.l.drop i).any (deepS left) = c.l.any (deepS left) ∧ t 1 = .sc (.int .i64 ((left + 1 : Nat) : Int)) ∧ t 10 = v ∧ t 11 = .sc (.int .i64 (c.l.length : Nat)) ∧ t 12 = .sc (.int .i64 (i : Nat)) ∧
        OB h [(o2, .arr [.sc (.int .i64 c.k), .sc (.int .i64 c.n), .sc (.string c.s), v])] h')
      (n := c.l.length) ⟨0, rfl, Nat.zero_le _, rfl, by simp [upd_at, t1], by simp [upd_at], by simp [upd_at], rfl, hO⟩ ?_
    clear hO t1 t2
    rintro m t h' ⟨i, rfl, hi, hany, t1, t10, t11, t12, hO⟩
    rcases Nat.lt_or_ge i c.l.length with hlt2 | hge
    · obtain ⟨e, he, hce⟩ := hl.lt hlt2
      have hx := any_drop (f := deepS left) hlt2
      generalize c.l[i] = x at hce hx
      obtain ⟨v', es', rfl, hv', hl', hf'⟩ := hce.out
      (refine W_seq_gen fun N hN => ?_); simp (disch := first | omega | (simp only [List.length_cons, List.length_nil, List.length_append, u8s_len]; omega)) only [go_sem, ↓reduceIte, true_and, Nat.reduceLeDiff, Nat.reduceEqDiff, Nat.reduceAdd, Nat.reduceBEq, Int.reduceEq, H.cv_3_5, H.cv_5_3, t11, t12, hlt2]
      refine hN _ ?_; clear hN N
      (refine W_seq_gen fun N hN => ?_); simp (disch := first | omega | (simp only [List.length_cons, List.length_nil, List.length_append, u8s_len]; omega)) only [go_sem, ↓reduceIte, true_and, Nat.reduceLeDiff, Nat.reduceEqDiff, Nat.reduceAdd, Nat.reduceBEq, Int.reduceEq, H.cv_3_5, H.cv_5_3]
      refine hN _ ?_; clear hN N
      (refine W_seq_gen fun N hN => ?_)
      rw [W_block]
      (refine W_seq_gen fun N hN => ?_); simp (disch := first | omega | (simp only [List.length_cons, List.length_nil, List.length_append, u8s_len]; omega)) only [go_sem, ↓reduceIte, true_and, Nat.reduceLeDiff, Nat.reduceEqDiff, Nat.reduceAdd, Nat.reduceBEq, Int.reduceEq, H.cv_3_5, H.cv_5_3, t10, t12, hv.same, hv.sl.ia, he, hv'.disc, hv'.same]
      intro o6 h6
      refine hN _ ?_; clear hN N; refine W_ob (hO.new h6) fun hc hO => ?_
      have sb : ((left + 1 : Nat) : Int) - ((1 : Nat) : Int) = (left : Nat) := by omega
      (refine W_seq_gen fun N hN => ?_); simp (disch := first | omega | (simp only [List.length_cons, List.length_nil, List.length_append, u8s_len]; omega)) only [go_sem, ↓reduceIte, true_and, Nat.reduceLeDiff, Nat.reduceEqDiff, Nat.reduceAdd, Nat.reduceBEq, Int.reduceEq, H.cv_3_5, H.cv_5_3, t1, hO.get0, hv'.same, hv'.disc, sb]
      refine (ih x _ (by omega) hce _).mono ?_
      rintro _ _ ⟨rfl, hh⟩; subst hh
      cases hd : deepS left x with
      | true =>
        rw [contK_some]; simp (disch := first | omega | (simp only [List.length_cons, List.length_nil, List.length_append, u8s_len]; omega)) only [go_sem, ↓reduceIte, true_and, Nat.reduceLeDiff, Nat.reduceEqDiff, Nat.reduceAdd, Nat.reduceBEq, Int.reduceEq, H.cv_3_5, H.cv_5_3]
        refine hN _ ?_; clear hN N
        simp (disch := first | omega | (simp only [List.length_cons, List.length_nil, List.length_append, u8s_len]; omega)) only [go_sem, ↓reduceIte, true_and, Nat.reduceLeDiff, Nat.reduceEqDiff, Nat.reduceAdd, Nat.reduceBEq, Int.reduceEq, H.cv_3_5, H.cv_5_3]
        rw [hd] at hx
        rw [deepS_succ, ← hany, hx]
        exact ⟨rfl, hO.keep⟩
      | false =>
        rw [contK_some]; simp (disch := first | omega | (simp only [List.length_cons, List.length_nil, List.length_append, u8s_len]; omega)) only [go_sem, ↓reduceIte, true_and, Nat.reduceLeDiff, Nat.reduceEqDiff, Nat.reduceAdd, Nat.reduceBEq, Int.reduceEq, H.cv_3_5, H.cv_5_3]
        refine hN _ ?_; clear hN N
        simp (disch := first | omega | (simp only [List.length_cons, List.length_nil, List.length_append, u8s_len]; omega)) only [go_sem, ↓reduceIte, true_and, Nat.reduceLeDiff, Nat.reduceEqDiff, Nat.reduceAdd, Nat.reduceBEq, Int.reduceEq, H.cv_3_5, H.cv_5_3]
        refine hN _ ?_; clear hN N
        simp (disch := first | omega | (simp only [List.length_cons, List.length_nil, List.length_append, u8s_len]; omega)) only [go_sem, ↓reduceIte, true_and, Nat.reduceLeDiff, Nat.reduceEqDiff, Nat.reduceAdd, Nat.reduceBEq, Int.reduceEq, H.cv_3_5, H.cv_5_3, t12, nat_add]
        refine ⟨c.l.length - (i + 1), by omega, i + 1, rfl, by omega, ?_, t1, t10, t11, rfl, hO.tail⟩
        rw [← hany, hx, hd, Bool.false_or]
    obtain rfl : i = c.l.length := by omega
    (refine W_seq_gen fun N hN => ?_); simp (disch := first | omega | (simp only [List.length_cons, List.length_nil, List.length_append, u8s_len]; omega)) only [go_sem, ↓reduceIte, true_and, Nat.reduceLeDiff, Nat.reduceEqDiff, Nat.reduceAdd, Nat.reduceBEq, Int.reduceEq, H.cv_3_5, H.cv_5_3, t11, t12, Nat.lt_irrefl]
    refine hN _ ?_; clear hN N
    (refine W_seq_gen fun N hN => ?_); simp (disch := first | omega | (simp only [List.length_cons, List.length_nil, List.length_append, u8s_len]; omega)) only [go_sem, ↓reduceIte, true_and, Nat.reduceLeDiff, Nat.reduceEqDiff, Nat.reduceAdd, Nat.reduceBEq, Int.reduceEq, H.cv_3_5, H.cv_5_3]
    refine hM _ ?_; clear hN N hM M
    simp (disch := first | omega | (simp only [List.length_cons, List.length_nil, List.length_append, u8s_len]; omega)) only [go_sem, ↓reduceIte, true_and, Nat.reduceLeDiff, Nat.reduceEqDiff, Nat.reduceAdd, Nat.reduceBEq, Int.reduceEq, H.cv_3_5, H.cv_5_3]
    rw [deepS_succ, ← hany]
    simp
    exact hO.keep
theorem depth_ok : ∀ (most : Nat) (c : Cel) (cs : List AV), most < 2 ^ 60 → CE cs c → ∀ h, AWF P ann 0 14 [.ag cs, .sc (.int .i64 (most : Nat))] h fun r h' => r = .sc (.int .i64 (depthS most c : Nat)) ∧ h' = h := by
  intro most
  induction most with
  | zero =>
    intro c cs _ hc h
    obtain ⟨v, es, rfl, hv, hl, hf⟩ := hc.out
    refine AWF.fnPurec H.f0_14 rfl ?_
    have hO := OB.nil (h := h)
    (refine W_seq_gen fun N hN => ?_); simp (disch := first | omega | (simp only [List.length_cons, List.length_nil, List.length_append, u8s_len]; omega)) only [go_sem, ↓reduceIte, true_and, Nat.reduceLeDiff, Nat.reduceEqDiff, Nat.reduceAdd, Nat.reduceBEq, Int.reduceEq, H.cv_3_5, H.cv_5_3, hv.disc, hv.same]
    intro o2 h2
    refine hN _ ?_; clear hN N; refine W_ob (hO.new h2) fun hc hO => ?_
    simp (disch := first | omega | (simp only [List.length_cons, List.length_nil, List.length_append, u8s_len]; omega)) only [go_sem, ↓reduceIte, true_and, Nat.reduceLeDiff, Nat.reduceEqDiff, Nat.reduceAdd, Nat.reduceBEq, Int.reduceEq, H.cv_3_5, H.cv_5_3]
    exact ⟨rfl, hO.keep⟩
  | succ most ih =>
    intro c cs hlt hc h
    obtain ⟨v, es, rfl, hv, hl, hf⟩ := hc.out
    have hfl := hf.l
    have hes := hl.len
    refine AWF.fnPurec H.f0_14 rfl ?_
    have hO := OB.nil (h := h)
    (refine W_seq_gen fun N hN => ?_); simp (disch := first | omega | (simp only [List.length_cons, List.length_nil, List.length_append, u8s_len]; omega)) only [go_sem, ↓reduceIte, true_and, Nat.reduceLeDiff, Nat.reduceEqDiff, Nat.reduceAdd, Nat.reduceBEq, Int.reduceEq, H.cv_3_5, H.cv_5_3, hv.disc, hv.same]
    intro o2 h2
    refine hN _ ?_; clear hN N; refine W_ob (hO.new h2) fun hc hO => ?_
    refine W_forget (fun t => t 1 = .sc (.int .i64 ((most + 1 : Nat) : Int)) ∧ t 2 = .op o2 0 ∧ True) (by simp [upd_at, *] <;> (first | rfl | exact ⟨rfl, rfl⟩ | exact ⟨rfl, rfl, rfl⟩)) ?_; rintro t ⟨t1, t2, -⟩
    have hne : ¬ ((most + 1 : Nat) : Int) = ((0 : Nat) : Int) := by omega
    (refine W_seq_gen fun N hN => ?_); simp (disch := first | omega | (simp only [List.length_cons, List.length_nil, List.length_append, u8s_len]; omega)) only [go_sem, ↓reduceIte, true_and, Nat.reduceLeDiff, Nat.reduceEqDiff, Nat.reduceAdd, Nat.reduceBEq, Int.reduceEq, H.cv_3_5, H.cv_5_3, t1, hne]
    refine hN _ ?_; clear hN N
    (refine W_seq_gen fun N hN => ?_); simp (disch := first | omega | (simp only [List.length_cons, List.length_nil, List.length_append, u8s_len]; omega)) only [go_sem, ↓reduceIte, true_and, Nat.reduceLeDiff, Nat.reduceEqDiff, Nat.reduceAdd, Nat.reduceBEq, Int.reduceEq, H.cv_3_5, H.cv_5_3]
    refine hN _ ?_; clear hN N
    (refine W_seq_gen fun M hM => ?_)
    (refine W_seq_gen fun N hN => ?_); simp (disch := first | omega | (simp only [List.length_cons, List.length_nil, List.length_append, u8s_len]; omega)) only [go_sem, ↓reduceIte, true_and, Nat.reduceLeDiff, Nat.reduceEqDiff, Nat.reduceAdd, Nat.reduceBEq, Int.reduceEq, H.cv_3_5, H.cv_5_3]
    refine hN _ ?_; clear hN N
    simp (disch := first | omega | (simp only [List.length_cons, List.length_nil, List.length_append, u8s_len]; omega)) only [go_sem, ↓reduceIte, true_and, Nat.reduceLeDiff, Nat.reduceEqDiff, Nat.reduceAdd, Nat.reduceBEq, Int.reduceEq, H.cv_3_5, H.cv_5_3]
    refine AW_loopN (fun m t h' => ∃ i, m = c.l.length - i ∧ i ≤ c.l.length ∧ t 1 = .sc (.int .i64 ((most + 1 : Nat) : Int)) ∧ t 2 = .op o2 0 ∧ t 5 = .sc (.int .i64 ((((c.l.take i).map (depthS most)).foldl max 0 : Nat) : Int)) ∧ t 6 = .sc (.int .i64 (i : Nat)) ∧
        OB h [(o2, .arr [.sc (.int .i64 c.k), .sc (.int .i64 c.n), .sc (.string c.s), v])] h')
      (n := c.l.length) ⟨0, rfl, Nat.zero_le _, by simp [upd_at, t1], by simp [upd_at, t2], by simp [upd_at], rfl, hO⟩ ?_
    clear hO t1 t2
    rintro m t h' ⟨i, rfl, hi, t1, t2, t5, t6, hO⟩
    rcases Nat.lt_or_ge i c.l.length with hlt2 | hge
    · obtain ⟨e, he, hce⟩ := hl.lt hlt2
      have hn : c.l.take (i + 1) = c.l.take i ++ [c.l[i]] := by rw [List.take_add_one]; simp [hlt2]
      have hm : ((c.l.take (i + 1)).map (depthS most)).foldl max 0 = max (((c.l.take i).map (depthS most)).foldl max 0) (depthS most c.l[i]) := by
        rw [hn, List.map_append, List.map_singleton, foldmax_snoc]
      generalize c.l[i] = x at hce hm
      have hle := depthS_le most x
      obtain ⟨v', es', rfl, hv', hl', hf'⟩ := hce.out
      (refine W_seq_gen fun N hN => ?_); simp (disch := first | omega | (simp only [List.length_cons, List.length_nil, List.length_append, u8s_len]; omega)) only [go_sem, ↓reduceIte, true_and, Nat.reduceLeDiff, Nat.reduceEqDiff, Nat.reduceAdd, Nat.reduceBEq, Int.reduceEq, H.cv_3_5, H.cv_5_3, t2, t6, hlt2, hv.same, hv.sl.len, hes, hO.get0]
      refine hN _ ?_; clear hN N
      (refine W_seq_gen fun N hN => ?_)
      rw [W_block]
      have sb : ((most + 1 : Nat) : Int) - ((1 : Nat) : Int) = (most : Nat) := by omega
      (refine W_seq_gen fun N hN => ?_); simp (disch := first | omega | (simp only [List.length_cons, List.length_nil, List.length_append, u8s_len]; omega)) only [go_sem, ↓reduceIte, true_and, Nat.reduceLeDiff, Nat.reduceEqDiff, Nat.reduceAdd, Nat.reduceBEq, Int.reduceEq, H.cv_3_5, H.cv_5_3, t1, t2, t6, hO.get0, hv.same, hv.sl.ia, he, sb, hv'.disc, hv'.same]
      refine (ih x _ (by omega) hce _).mono ?_
      rintro _ _ ⟨rfl, hh⟩; subst hh
      rw [contK_some]; simp (disch := first | omega | (simp only [List.length_cons, List.length_nil, List.length_append, u8s_len]; omega)) only [go_sem, ↓reduceIte, true_and, Nat.reduceLeDiff, Nat.reduceEqDiff, Nat.reduceAdd, Nat.reduceBEq, Int.reduceEq, H.cv_3_5, H.cv_5_3]
      refine hN _ ?_; clear hN N
      generalize hd : depthS most x = d at hm hle
      generalize ha : ((c.l.take i).map (depthS most)).foldl max 0 = a at hm t5
      by_cases hgt : d > a
      · simp (disch := first | omega | (simp only [List.length_cons, List.length_nil, List.length_append, u8s_len]; omega)) only [go_sem, ↓reduceIte, true_and, Nat.reduceLeDiff, Nat.reduceEqDiff, Nat.reduceAdd, Nat.reduceBEq, Int.reduceEq, H.cv_3_5, H.cv_5_3, t5, hgt]
        refine hN _ ?_; clear hN N
        simp (disch := first | omega | (simp only [List.length_cons, List.length_nil, List.length_append, u8s_len]; omega)) only [go_sem, ↓reduceIte, true_and, Nat.reduceLeDiff, Nat.reduceEqDiff, Nat.reduceAdd, Nat.reduceBEq, Int.reduceEq, H.cv_3_5, H.cv_5_3, t6, nat_add]
        exact ⟨c.l.length - (i + 1), by omega, i + 1, rfl, by omega, t1, t2, by rw [hm, Nat.max_eq_right (by omega)], rfl, hO⟩
      · simp (disch := first | omega | (simp only [List.length_cons, List.length_nil, List.length_append, u8s_len]; omega)) only [go_sem, ↓reduceIte, true_and, Nat.reduceLeDiff, Nat.reduceEqDiff, Nat.reduceAdd, Nat.reduceBEq, Int.reduceEq, H.cv_3_5, H.cv_5_3, t5, hgt]
        refine hN _ ?_; clear hN N
        simp (disch := first | omega | (simp only [List.length_cons, List.length_nil, List.length_append, u8s_len]; omega)) only [go_sem, ↓reduceIte, true_and, Nat.reduceLeDiff, Nat.reduceEqDiff, Nat.reduceAdd, Nat.reduceBEq, Int.reduceEq, H.cv_3_5, H.cv_5_3, t6, nat_add]
        exact ⟨c.l.length - (i + 1), by omega, i + 1, rfl, by omega, t1, t2, by rw [hm, Nat.max_eq_left (by omega)]; exact t5, rfl, hO⟩
    obtain rfl : i = c.l.length := by omega
    (refine W_seq_gen fun N hN => ?_); simp (disch := first | omega | (simp only [List.length_cons, List.length_nil, List.length_append, u8s_len]; omega)) only [go_sem, ↓reduceIte, true_and, Nat.reduceLeDiff, Nat.reduceEqDiff, Nat.reduceAdd, Nat.reduceBEq, Int.reduceEq, H.cv_3_5, H.cv_5_3, t2, t6, hv.same, hv.sl.len, hes, hO.get0, Nat.lt_irrefl]
    refine hM _ ?_; clear hN N hM M
    rw [List.take_length] at t5
    have := depthS_le (most + 1) c
    have hs : depthS (most + 1) c = (c.l.map (depthS most)).foldl max 0 + 1 := by cases c; rfl
    rw [hs] at this ⊢
    generalize (c.l.map (depthS most)).foldl max 0 = a at t5 this
    simp (disch := first | omega | (simp only [List.length_cons, List.length_nil, List.length_append, u8s_len]; omega)) only [go_sem, ↓reduceIte, true_and, Nat.reduceLeDiff, Nat.reduceEqDiff, Nat.reduceAdd, Nat.reduceBEq, Int.reduceEq, H.cv_3_5, H.cv_5_3, t5, nat_add]
    exact hO.keep
end Go.Proofs.Ytjebhcflpibkkaa
