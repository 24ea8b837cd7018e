/- What the functions come to: kinds, sizes, likeness. -/
import Derived.Test.YtjebhcflpibkkaaCellFn2
set_option linter.unusedVariables false
set_option linter.unusedSimpArgs false
namespace Go.Proofs.Ytjebhcflpibkkaa
open Go.Am
variable {P : Program} (H : Has P)
include H
theorem size_ok (c : Cel) : ∀ (cs : List AV) (m : Int), 0 ≤ m → m < 70000 → CE cs c → ∀ h, AWF P ann 0 10 [.ag cs, .sc (.int .i64 m)] h fun r h' => r = .sc (.int .i64 (sizeS c m)) ∧ h' = h := by
  induction c using Cel.ind with
  | h c ih =>
  intro cs m h0 h1 hc h
  obtain ⟨v, es, rfl, hv, hl, hf⟩ := hc.out
  have hfl := hf.l
  have hfs := hf.s
  have hes := hl.len
  have hS : sizeS c m = if c.s.size > 70000 then 70000 else sizeL c.l (m + 1 + c.s.size) := by cases c; rw [sizeS]; rfl
  refine AWF.fnPurec H.f0_10 rfl ?_
  have hO := OB.nil (h := h)
  (refine W_seq_gen fun N hN => ?_); simp (disch := first | omega | (simp only [List.length_cons, List.length_nil, List.length_append, u8s_len]; omega)) only [go_sem, ↓reduceIte, true_and, Nat.reduceLeDiff, Nat.reduceEqDiff, Nat.reduceAdd, Nat.reduceBEq, Int.reduceEq, H.cv_3_5, H.cv_5_3, hv.disc, hv.same]
  intro o2 h2
  refine hN _ ?_; clear hN N; refine W_ob (hO.new h2) fun hc hO => ?_
  refine W_forget (fun t => t 1 = .sc (.int .i64 m) ∧ t 2 = .op o2 0 ∧ True) (by simp [upd_at, *] <;> (first | rfl | exact ⟨rfl, rfl⟩ | exact ⟨rfl, rfl, rfl⟩)) ?_; rintro t ⟨t1, t2, -⟩
  (refine W_seq_gen fun N hN => ?_); simp (disch := first | omega | (simp only [List.length_cons, List.length_nil, List.length_append, u8s_len]; omega)) only [go_sem, ↓reduceIte, true_and, Nat.reduceLeDiff, Nat.reduceEqDiff, Nat.reduceAdd, Nat.reduceBEq, Int.reduceEq, H.cv_3_5, H.cv_5_3, t1]
  refine hN _ ?_; clear hN N
  refine W_forget (fun t => t 1 = .sc (.int .i64 (m + 1)) ∧ t 2 = .op o2 0 ∧ True) (by simp [upd_at, *] <;> (first | rfl | exact ⟨rfl, rfl⟩ | exact ⟨rfl, rfl, rfl⟩)) ?_; rintro t ⟨t1, t2, -⟩
  by_cases c1 : c.s.size > 70000
  · (refine W_seq_gen fun N hN => ?_); simp (disch := first | omega | (simp only [List.length_cons, List.length_nil, List.length_append, u8s_len]; omega)) only [go_sem, ↓reduceIte, true_and, Nat.reduceLeDiff, Nat.reduceEqDiff, Nat.reduceAdd, Nat.reduceBEq, Int.reduceEq, H.cv_3_5, H.cv_5_3, t2, hO.get0, c1]
    rw [hS, if_pos c1]
    exact ⟨rfl, hO.keep⟩
  rw [if_neg c1] at hS
  (refine W_seq_gen fun N hN => ?_); simp (disch := first | omega | (simp only [List.length_cons, List.length_nil, List.length_append, u8s_len]; omega)) only [go_sem, ↓reduceIte, true_and, Nat.reduceLeDiff, Nat.reduceEqDiff, Nat.reduceAdd, Nat.reduceBEq, Int.reduceEq, H.cv_3_5, H.cv_5_3, t2, hO.get0, c1]
  refine hN _ ?_; clear hN N
  (refine W_seq_gen fun N hN => ?_); simp (disch := first | omega | (simp only [List.length_cons, List.length_nil, List.length_append, u8s_len]; omega)) only [go_sem, ↓reduceIte, true_and, Nat.reduceLeDiff, Nat.reduceEqDiff, Nat.reduceAdd, Nat.reduceBEq, Int.reduceEq, H.cv_3_5, H.cv_5_3, t1, t2, hO.get0]
  refine hN _ ?_; clear hN N
  refine W_forget (fun t => t 1 = .sc (.int .i64 (m + 1 + c.s.size)) ∧ t 2 = .op o2 0 ∧ True) (by simp [upd_at, *] <;> (first | rfl | exact ⟨rfl, rfl⟩ | exact ⟨rfl, rfl, rfl⟩)) ?_; rintro t ⟨t1, t2, -⟩
  (refine W_seq_gen fun M hM => ?_)
  (refine W_seq_gen fun N hN => ?_); simp (disch := first | omega | (simp only [List.length_cons, List.length_nil, List.length_append, u8s_len]; omega)) only [go_sem, ↓reduceIte, true_and, Nat.reduceLeDiff, Nat.reduceEqDiff, Nat.reduceAdd, Nat.reduceBEq, Int.reduceEq, H.cv_3_5, H.cv_5_3]
  refine hN _ ?_; clear hN N
  simp (disch := first | omega | (simp only [List.length_cons, List.length_nil, List.length_append, u8s_len]; omega)) only [go_sem, ↓reduceIte, true_and, Nat.reduceLeDiff, Nat.reduceEqDiff, Nat.reduceAdd, Nat.reduceBEq, Int.reduceEq, H.cv_3_5, H.cv_5_3]
  refine AW_loopN (fun m' t h' => ∃ (i : Nat) (z : Int), m' = c.l.length - i ∧ i ≤ c.l.length ∧ 0 ≤ z ∧ z ≤ 140000 ∧ sizeL (c.l.drop i) z = sizeS c m ∧ t 1 = .sc (.int .i64 z) ∧ t 2 = .op o2 0 ∧ t 5 = .sc (.int .i64 (i : Nat)) ∧
      OB h [(o2, .arr [.sc (.int .i64 c.k), .sc (.int .i64 c.n), .sc (.string c.s), v])] h')
    (n := c.l.length) ⟨0, m + 1 + c.s.size, rfl, Nat.zero_le _, by omega, by omega, hS.symm, by simp [upd_at, t1], by simp [upd_at, t2], rfl, hO⟩ ?_
  clear hO t1 t2
  rintro m' t h' ⟨i, z, rfl, hi, z0, z1, hz, t1, t2, t5, hO⟩
  have fin : ∀ t : Nat → AV, t 1 = .sc (.int .i64 z) → sizeL (c.l.drop i) z = z → M ⟨t, h'⟩ := by
    clear t1 t2 t5 t
    intro t t1 hzz
    refine hM _ ?_; clear hM M
    simp (disch := first | omega | (simp only [List.length_cons, List.length_nil, List.length_append, u8s_len]; omega)) only [go_sem, ↓reduceIte, true_and, Nat.reduceLeDiff, Nat.reduceEqDiff, Nat.reduceAdd, Nat.reduceBEq, Int.reduceEq, H.cv_3_5, H.cv_5_3, t1]
    rw [← hz, hzz]
    exact ⟨rfl, hO.keep⟩
  rcases Nat.lt_or_ge i c.l.length with hlt2 | hge
  · by_cases c2 : z < ((70000 : Nat) : Int)
    · obtain ⟨e, he, hce⟩ := hl.lt hlt2
      rw [sizeL_drop hlt2, if_pos (show z < 70000 from c2)] at hz
      have ihx := ih c.l[i] (List.getElem_mem hlt2)
      have bd := sizeS_bd c.l[i] z z0 c2
      generalize c.l[i] = x at hce hz ihx bd
      obtain ⟨v', es', rfl, hv', hl', hf'⟩ := hce.out
      (refine W_seq_gen fun N hN => ?_); simp (disch := first | omega | (simp only [List.length_cons, List.length_nil, List.length_append, u8s_len]; omega)) only [go_sem, ↓reduceIte, true_and, Nat.reduceLeDiff, Nat.reduceEqDiff, Nat.reduceAdd, Nat.reduceBEq, Int.reduceEq, H.cv_3_5, H.cv_5_3, t1, t2, t5, hlt2, hO.get0, hv.same, hv.disc, hv.sl.len, hes, c2]
      refine hN _ ?_; clear hN N
      (refine W_seq_gen fun N hN => ?_)
      rw [W_block]
      simp (disch := first | omega | (simp only [List.length_cons, List.length_nil, List.length_append, u8s_len]; omega)) only [go_sem, ↓reduceIte, true_and, Nat.reduceLeDiff, Nat.reduceEqDiff, Nat.reduceAdd, Nat.reduceBEq, Int.reduceEq, H.cv_3_5, H.cv_5_3, t1, t2, t5, hO.get0, hv.same, hv.disc, hv.sl.ia, he, hv'.disc, hv'.same]
      refine (ihx _ z z0 c2 hce _).mono ?_
      rintro _ _ ⟨rfl, hh⟩; subst hh
      rw [contK_some]; simp (disch := first | omega | (simp only [List.length_cons, List.length_nil, List.length_append, u8s_len]; omega)) only [go_sem, ↓reduceIte, true_and, Nat.reduceLeDiff, Nat.reduceEqDiff, Nat.reduceAdd, Nat.reduceBEq, Int.reduceEq, H.cv_3_5, H.cv_5_3]
      refine hN _ ?_; clear hN N
      simp (disch := first | omega | (simp only [List.length_cons, List.length_nil, List.length_append, u8s_len]; omega)) only [go_sem, ↓reduceIte, true_and, Nat.reduceLeDiff, Nat.reduceEqDiff, Nat.reduceAdd, Nat.reduceBEq, Int.reduceEq, H.cv_3_5, H.cv_5_3, t5, nat_add]
      exact ⟨c.l.length - (i + 1), by omega, i + 1, _, rfl, by omega, bd.1, bd.2, hz, rfl, t2, rfl, hO⟩
    · (refine W_seq_gen fun N hN => ?_); simp (disch := first | omega | (simp only [List.length_cons, List.length_nil, List.length_append, u8s_len]; omega)) only [go_sem, ↓reduceIte, true_and, Nat.reduceLeDiff, Nat.reduceEqDiff, Nat.reduceAdd, Nat.reduceBEq, Int.reduceEq, H.cv_3_5, H.cv_5_3, t1, t2, t5, hlt2, hO.get0, hv.same, hv.disc, hv.sl.len, hes, c2]
      refine fin _ ?_ (sizeL_big c2)
      simpa [upd_at] using t1
  obtain rfl : i = c.l.length := by omega
  (refine W_seq_gen fun N hN => ?_); simp (disch := first | omega | (simp only [List.length_cons, List.length_nil, List.length_append, u8s_len]; omega)) only [go_sem, ↓reduceIte, true_and, Nat.reduceLeDiff, Nat.reduceEqDiff, Nat.reduceAdd, Nat.reduceBEq, Int.reduceEq, H.cv_3_5, H.cv_5_3, t2, t5, hO.get0, hv.same, hv.disc, hv.sl.len, hes, Nat.lt_irrefl]
  refine fin _ ?_ (by rw [List.drop_length, sizeL])
  simpa [upd_at] using t1
theorem same_ok (c : Cel) : ∀ (c' : Cel) (cs cs' : List AV), CE cs c → CE cs' c' → ∀ h, AWF P ann 0 12 [.ag cs, .ag cs'] h fun r h' => r = .sc (.bool (sameS c c')) ∧ h' = h := by
  induction c using Cel.ind with
  | h c ih =>
  intro c' cs cs' hc hc' h
  obtain ⟨v, es, rfl, hv, hl, hf⟩ := hc.out
  obtain ⟨v', es', rfl, hv', hl', hf'⟩ := hc'.out
  have hfl := hf.l
  have hfl' := hf'.l
  have hes := hl.len
  have hes' := hl'.len
  have hS := sameS_eq c c'
  refine AWF.fnPurec H.f0_12 rfl ?_
  have hO := OB.nil (h := h)
  (refine W_seq_gen fun N hN => ?_); simp (disch := first | omega | (simp only [List.length_cons, List.length_nil, List.length_append, u8s_len]; omega)) only [go_sem, ↓reduceIte, true_and, Nat.reduceLeDiff, Nat.reduceEqDiff, Nat.reduceAdd, Nat.reduceBEq, Int.reduceEq, H.cv_3_5, H.cv_5_3, hv.disc, hv.same, hv'.disc, hv'.same]
  intro o2 h2 o3 h3
  refine hN _ ?_; clear hN N; refine W_ob ((hO.new h2).new h3) fun hc hO => ?_
  refine W_forget (fun t => t 2 = .op o2 0 ∧ t 3 = .op o3 0 ∧ True) (by simp [upd_at, *] <;> (first | rfl | exact ⟨rfl, rfl⟩ | exact ⟨rfl, rfl, rfl⟩)) ?_; rintro t ⟨t2, t3, -⟩
  by_cases c1 : c.k = c'.k
  case neg =>
    have q1 : (c.k != c'.k) = true := by simpa using c1
    (refine W_seq_gen fun N hN => ?_); simp (disch := first | omega | (simp only [List.length_cons, List.length_nil, List.length_append, u8s_len]; omega)) only [go_sem, ↓reduceIte, true_and, Nat.reduceLeDiff, Nat.reduceEqDiff, Nat.reduceAdd, Nat.reduceBEq, Int.reduceEq, H.cv_3_5, H.cv_5_3, t2, t3, hO.get0, hO.get1, q1]
    rw [hS, decide_eq_false c1]
    exact ⟨rfl, hO.keep⟩
  have q1 : (c.k != c'.k) = false := by simpa using c1
  by_cases c2 : c.n = c'.n
  case neg =>
    have q2 : (c.n != c'.n) = true := by simpa using c2
    (refine W_seq_gen fun N hN => ?_); simp (disch := first | omega | (simp only [List.length_cons, List.length_nil, List.length_append, u8s_len]; omega)) only [go_sem, ↓reduceIte, true_and, Nat.reduceLeDiff, Nat.reduceEqDiff, Nat.reduceAdd, Nat.reduceBEq, Int.reduceEq, H.cv_3_5, H.cv_5_3, t2, t3, hO.get0, hO.get1, q1, q2]
    rw [hS, decide_eq_false c2, Bool.and_false]
    exact ⟨rfl, hO.keep⟩
  have q2 : (c.n != c'.n) = false := by simpa using c2
  by_cases c3 : c.s = c'.s
  case neg =>
    have q3 : (!decide (c.s = c'.s)) = true := by simp [c3]
    (refine W_seq_gen fun N hN => ?_); simp (disch := first | omega | (simp only [List.length_cons, List.length_nil, List.length_append, u8s_len]; omega)) only [go_sem, ↓reduceIte, true_and, Nat.reduceLeDiff, Nat.reduceEqDiff, Nat.reduceAdd, Nat.reduceBEq, Int.reduceEq, H.cv_3_5, H.cv_5_3, t2, t3, hO.get0, hO.get1, q1, q2, q3]
    rw [hS, decide_eq_false c3, Bool.and_false]
    exact ⟨rfl, hO.keep⟩
  have q3 : (!decide (c.s = c'.s)) = false := by simp [c3]
  by_cases c4 : c.l.length = c'.l.length
  case neg =>
    have q4 : (((c.l.length : Nat) : Int) != ((c'.l.length : Nat) : Int)) = true := by simp; omega
    (refine W_seq_gen fun N hN => ?_); simp (disch := first | omega | (simp only [List.length_cons, List.length_nil, List.length_append, u8s_len]; omega)) only [go_sem, ↓reduceIte, true_and, Nat.reduceLeDiff, Nat.reduceEqDiff, Nat.reduceAdd, Nat.reduceBEq, Int.reduceEq, H.cv_3_5, H.cv_5_3, t2, t3, hO.get0, hO.get1, q1, q2, q3, hv.same, hv.disc, hv.sl.len, hes, hv'.same, hv'.disc, hv'.sl.len, hes', q4]
    have : sameL c.l c'.l = false := by
      cases hh : sameL c.l c'.l
      · rfl
      · exact absurd (sameL_len hh) c4
    rw [hS, this, Bool.and_false]
    exact ⟨rfl, hO.keep⟩
  have q4 : (((c.l.length : Nat) : Int) != ((c'.l.length : Nat) : Int)) = false := by simp; omega
  (refine W_seq_gen fun N hN => ?_); simp (disch := first | omega | (simp only [List.length_cons, List.length_nil, List.length_append, u8s_len]; omega)) only [go_sem, ↓reduceIte, true_and, Nat.reduceLeDiff, Nat.reduceEqDiff, Nat.reduceAdd, Nat.reduceBEq, Int.reduceEq, H.cv_3_5, H.cv_5_3, t2, t3, hO.get0, hO.get1, q1, q2, q3, hv.same, hv.disc, hv.sl.len, hes, hv'.same, hv'.disc, hv'.sl.len, hes', q4]
  refine hN _ ?_; clear hN N
  clear q1 q2 q3 q4
  refine W_forget (fun t => t 2 = .op o2 0 ∧ t 3 = .op o3 0 ∧ True) (by simp [upd_at, *] <;> (first | rfl | exact ⟨rfl, rfl⟩ | exact ⟨rfl, rfl, rfl⟩)) ?_; rintro t ⟨t2, t3, -⟩
  rw [decide_eq_true c1, decide_eq_true c2, decide_eq_true c3, Bool.and_true, Bool.and_true, Bool.true_and] at hS
  (refine W_seq_gen fun M hM => ?_)
  (refine W_seq_gen fun N hN => ?_); simp (disch := first | omega | (simp only [List.length_cons, List.length_nil, List.length_append, u8s_len]; omega)) only [go_sem, ↓reduceIte, true_and, Nat.reduceLeDiff, Nat.reduceEqDiff, Nat.reduceAdd, Nat.reduceBEq, Int.reduceEq, H.cv_3_5, H.cv_5_3]
  refine hN _ ?_; clear hN N
  simp (disch := first | omega | (simp only [List.length_cons, List.length_nil, List.length_append, u8s_len]; omega)) only [go_sem, ↓reduceIte, true_and, Nat.reduceLeDiff, Nat.reduceEqDiff, Nat.reduceAdd, Nat.reduceBEq, Int.reduceEq, H.cv_3_5, H.cv_5_3]
  refine AW_loopN (fun m' t h' => ∃ (i : Nat), m' = c.l.length - i ∧ i ≤ c.l.length ∧ sameL (c.l.drop i) (c'.l.drop i) = sameS c c' ∧ t 2 = .op o2 0 ∧ t 3 = .op o3 0 ∧ t 5 = .sc (.int .i64 (i : Nat)) ∧
      OB h [(o3, .arr [.sc (.int .i64 c'.k), .sc (.int .i64 c'.n), .sc (.string c'.s), v']), (o2, .arr [.sc (.int .i64 c.k), .sc (.int .i64 c.n), .sc (.string c.s), v])] h')
    (n := c.l.length) ⟨0, rfl, Nat.zero_le _, hS.symm, by simp [upd_at, t2], by simp [upd_at, t3], rfl, hO⟩ ?_
  clear hO t2 t3
  rintro m' t h' ⟨i, rfl, hi, hz, t2, t3, t5, hO⟩
  rcases Nat.lt_or_ge i c.l.length with hlt2 | hge
  · obtain ⟨e, he, hce⟩ := hl.lt hlt2
    obtain ⟨e', he', hce'⟩ := hl'.lt (show i < c'.l.length by omega)
    rw [sameL_drop hlt2 (show i < c'.l.length by omega)] at hz
    have ihx := ih c.l[i] (List.getElem_mem hlt2) (c'.l[i]'(by omega)) _ _ hce hce'
    obtain ⟨w, ws, rfl, hw, _, _⟩ := hce.out
    obtain ⟨w', ws', rfl, hw', _, _⟩ := hce'.out
    generalize sameS c.l[i] (c'.l[i]'(by omega)) = q at ihx hz
    (refine W_seq_gen fun N hN => ?_); simp (disch := first | omega | (simp only [List.length_cons, List.length_nil, List.length_append, u8s_len]; omega)) only [go_sem, ↓reduceIte, true_and, Nat.reduceLeDiff, Nat.reduceEqDiff, Nat.reduceAdd, Nat.reduceBEq, Int.reduceEq, H.cv_3_5, H.cv_5_3, t2, t5, hlt2, hO.get1, hv.same, hv.disc, hv.sl.len, hes]
    refine hN _ ?_; clear hN N
    (refine W_seq_gen fun N hN => ?_)
    rw [W_block]
    simp (disch := first | omega | (simp only [List.length_cons, List.length_nil, List.length_append, u8s_len]; omega)) only [go_sem, ↓reduceIte, true_and, Nat.reduceLeDiff, Nat.reduceEqDiff, Nat.reduceAdd, Nat.reduceBEq, Int.reduceEq, H.cv_3_5, H.cv_5_3, t2, t3, t5, hO.get0, hO.get1, hv.same, hv.disc, hv.sl.ia, he, hw.disc, hw.same, hv'.same, hv'.disc, hv'.sl.ia, he', hw'.disc, hw'.same]
    refine ⟨_, ihx _, ?_⟩
    cases q with
    | false =>
      rw [contK_some]; simp (disch := first | omega | (simp only [List.length_cons, List.length_nil, List.length_append, u8s_len]; omega)) only [go_sem, ↓reduceIte, true_and, Nat.reduceLeDiff, Nat.reduceEqDiff, Nat.reduceAdd, Nat.reduceBEq, Int.reduceEq, H.cv_3_5, H.cv_5_3]
      rw [Bool.false_and] at hz
      rw [← hz]
      exact ⟨rfl, hO.keep⟩
    | true =>
      rw [Bool.true_and] at hz
      rw [contK_some]; simp (disch := first | omega | (simp only [List.length_cons, List.length_nil, List.length_append, u8s_len]; omega)) only [go_sem, ↓reduceIte, true_and, Nat.reduceLeDiff, Nat.reduceEqDiff, Nat.reduceAdd, Nat.reduceBEq, Int.reduceEq, H.cv_3_5, H.cv_5_3]
      refine hN _ ?_; clear hN N
      simp (disch := first | omega | (simp only [List.length_cons, List.length_nil, List.length_append, u8s_len]; omega)) only [go_sem, ↓reduceIte, true_and, Nat.reduceLeDiff, Nat.reduceEqDiff, Nat.reduceAdd, Nat.reduceBEq, Int.reduceEq, H.cv_3_5, H.cv_5_3, t5, nat_add]
      exact ⟨c.l.length - (i + 1), by omega, i + 1, rfl, by omega, hz, t2, t3, rfl, hO⟩
  obtain rfl : i = c.l.length := by omega
  (refine W_seq_gen fun N hN => ?_); simp (disch := first | omega | (simp only [List.length_cons, List.length_nil, List.length_append, u8s_len]; omega)) only [go_sem, ↓reduceIte, true_and, Nat.reduceLeDiff, Nat.reduceEqDiff, Nat.reduceAdd, Nat.reduceBEq, Int.reduceEq, H.cv_3_5, H.cv_5_3, t2, t5, hO.get1, hv.same, hv.disc, hv.sl.len, hes, Nat.lt_irrefl]
  refine hM _ ?_; clear hN N hM M
  rw [List.drop_length, c4, List.drop_length, sameL] at hz
  rw [← hz]
  simp (disch := first | omega | (simp only [List.length_cons, List.length_nil, List.length_append, u8s_len]; omega)) only [go_sem, ↓reduceIte, true_and, Nat.reduceLeDiff, Nat.reduceEqDiff, Nat.reduceAdd, Nat.reduceBEq, Int.reduceEq, H.cv_3_5, H.cv_5_3]
  exact hO.keep
end Go.Proofs.Ytjebhcflpibkkaa
