/- What the functions come to: likeness, by the package cell. -/
import Derived.Test.YtjebhcflpibkkaaCellFn8
set_option linter.unusedVariables false
set_option linter.unusedSimpArgs false
namespace Go.Proofs.Ytjebhcflpibkkaa
open Go.Am
variable {P : Program} (H : Has P)
include H
theorem eqf_ok {v v' : AV} {es es' : List (List AV)} {l l' : List Cel} (hv : SF 4 v es) (hv' : SF 4 v' es') (hl : RR CE es l) (hl' : RR CE es' l') (hlen : l.length < 2 ^ 42) (hlen' : l'.length < 2 ^ 42)
    (hp : ∀ x ∈ l, ∀ (y : Cel) (cs cs' : List AV), CE cs x → CE cs' y → ∀ h, AWF P ann 0 15 [.ag cs, .ag cs'] h fun r h' => r = .sc (.bool (sameS x y)) ∧ h' = h) (h : Heap) :
    AWF P ann 0 20 [v, v', .fn 15 [] []] h fun r h' => r = .sc (.bool (sameL l l')) ∧ h' = h := by
  have hes := hl.len
  have hes' := hl'.len
  refine AWF.fnPurec H.f0_20 rfl ?_
  have hO := OB.nil (h := h)
  (refine W_seq_gen fun N hN => ?_); simp (disch := first | omega | (simp only [List.length_cons, List.length_nil, List.length_append, u8s_len]; omega)) only [go_sem, ↓reduceIte, true_and, Nat.reduceLeDiff, Nat.reduceEqDiff, Nat.reduceAdd, Nat.reduceBEq, Int.reduceEq, H.cv_3_5, H.cv_5_3]
  refine hN _ ?_; clear hN N
  by_cases c4 : l.length = l'.length
  case neg =>
    have q4 : (((l.length : Nat) : Int) != ((l'.length : Nat) : Int)) = true := by simp; omega
    (refine W_seq_gen fun N hN => ?_); simp (disch := first | omega | (simp only [List.length_cons, List.length_nil, List.length_append, u8s_len]; omega)) only [go_sem, ↓reduceIte, true_and, Nat.reduceLeDiff, Nat.reduceEqDiff, Nat.reduceAdd, Nat.reduceBEq, Int.reduceEq, H.cv_3_5, H.cv_5_3, hv.same, hv.disc, hv.sl.len, hes, hv'.same, hv'.disc, hv'.sl.len, hes', q4]
    have : sameL l l' = false := by
      cases hh : sameL l l'
      · rfl
      · exact absurd (sameL_len hh) c4
    rw [this]
  have q4 : (((l.length : Nat) : Int) != ((l'.length : Nat) : Int)) = false := by simp; omega
  (refine W_seq_gen fun N hN => ?_); simp (disch := first | omega | (simp only [List.length_cons, List.length_nil, List.length_append, u8s_len]; omega)) only [go_sem, ↓reduceIte, true_and, Nat.reduceLeDiff, Nat.reduceEqDiff, Nat.reduceAdd, Nat.reduceBEq, Int.reduceEq, H.cv_3_5, H.cv_5_3, hv.same, hv.disc, hv.sl.len, hes, hv'.same, hv'.disc, hv'.sl.len, hes', q4]
  refine hN _ ?_; clear hN N
  (refine W_seq_gen fun M hM => ?_)
  simp (disch := first | omega | (simp only [List.length_cons, List.length_nil, List.length_append, u8s_len]; omega)) only [go_sem, ↓reduceIte, true_and, Nat.reduceLeDiff, Nat.reduceEqDiff, Nat.reduceAdd, Nat.reduceBEq, Int.reduceEq, H.cv_3_5, H.cv_5_3, hv.same, hv.disc, hv.sl.len, hes]
  refine AW_loopN (fun m t h' => ∃ i, m = l.length - i ∧ i ≤ l.length ∧ sameL (l.drop i) (l'.drop i) = sameL l l' ∧ t 1 = v' ∧ t 2 = .fn 15 [] [] ∧ t 15 = v ∧ t 16 = .sc (.int .i64 (l.length : Nat)) ∧ t 17 = .sc (.int .i64 (i : Nat)) ∧ OB h [] h')
    (n := l.length) ⟨0, rfl, Nat.zero_le _, rfl, by simp [upd_at] <;> rfl, by simp [upd_at] <;> rfl, by simp [upd_at], by simp [upd_at], rfl, hO⟩ ?_
  clear hO
  rintro m t h' ⟨i, rfl, hi, hz, t1, t2, t15, t16, t17, hO⟩
  rcases Nat.lt_or_ge i l.length with hlt2 | hge
  · obtain ⟨e, he, hce⟩ := hl.lt hlt2
    obtain ⟨e', he', hce'⟩ := hl'.lt (show i < l'.length by omega)
    rw [sameL_drop hlt2 (show i < l'.length by omega)] at hz
    have ihx := hp l[i] (List.getElem_mem hlt2) (l'[i]'(by omega)) _ _ hce hce'
    obtain ⟨w, ws, rfl, hw, _, _⟩ := hce.out
    obtain ⟨w', ws', rfl, hw', _, _⟩ := hce'.out
    generalize sameS l[i] (l'[i]'(by omega)) = q at ihx hz
    (refine W_seq_gen fun N hN => ?_); simp (disch := first | omega | (simp only [List.length_cons, List.length_nil, List.length_append, u8s_len]; omega)) only [go_sem, ↓reduceIte, true_and, Nat.reduceLeDiff, Nat.reduceEqDiff, Nat.reduceAdd, Nat.reduceBEq, Int.reduceEq, H.cv_3_5, H.cv_5_3, t16, t17, hlt2]
    refine hN _ ?_; clear hN N
    (refine W_seq_gen fun N hN => ?_); simp (disch := first | omega | (simp only [List.length_cons, List.length_nil, List.length_append, u8s_len]; omega)) only [go_sem, ↓reduceIte, true_and, Nat.reduceLeDiff, Nat.reduceEqDiff, Nat.reduceAdd, Nat.reduceBEq, Int.reduceEq, H.cv_3_5, H.cv_5_3]
    refine hN _ ?_; clear hN N
    (refine W_seq_gen fun N hN => ?_)
    rw [W_block]
    (refine W_seq_gen fun N hN => ?_); simp (disch := first | omega | (simp only [List.length_cons, List.length_nil, List.length_append, u8s_len]; omega)) only [go_sem, ↓reduceIte, true_and, Nat.reduceLeDiff, Nat.reduceEqDiff, Nat.reduceAdd, Nat.reduceBEq, Int.reduceEq, H.cv_3_5, H.cv_5_3, t1, t15, t17, hv.same, hv.disc, hv.sl.ia, he, hw.disc, hw.same]
    intro o8 h8
    refine hN _ ?_; clear hN N; refine W_ob (hO.new h8) fun hc hO => ?_
    (refine W_seq_gen fun N hN => ?_); simp (disch := first | omega | (simp only [List.length_cons, List.length_nil, List.length_append, u8s_len]; omega)) only [go_sem, ↓reduceIte, true_and, Nat.reduceLeDiff, Nat.reduceEqDiff, Nat.reduceAdd, Nat.reduceBEq, Int.reduceEq, H.cv_3_5, H.cv_5_3, t1, t17, hv'.same, hv'.disc, hv'.sl.ia, he', hw'.disc, hw'.same]
    intro o9 h9
    refine hN _ ?_; clear hN N; refine W_ob (hO.new h9) fun hc hO => ?_
    simp (disch := first | omega | (simp only [List.length_cons, List.length_nil, List.length_append, u8s_len]; omega)) only [go_sem, ↓reduceIte, true_and, Nat.reduceLeDiff, Nat.reduceEqDiff, Nat.reduceAdd, Nat.reduceBEq, Int.reduceEq, H.cv_3_5, H.cv_5_3, t2, hO.get0, hO.get1, hw.disc, hw.same, hw'.disc, hw'.same]
    refine (ihx _).mono ?_
    rintro _ _ ⟨rfl, hh⟩; subst hh
    cases q with
    | false =>
      rw [contK_some]; simp (disch := first | omega | (simp only [List.length_cons, List.length_nil, List.length_append, u8s_len]; omega)) only [go_sem, ↓reduceIte, true_and, Nat.reduceLeDiff, Nat.reduceEqDiff, Nat.reduceAdd, Nat.reduceBEq, Int.reduceEq, H.cv_3_5, H.cv_5_3]
      rw [Bool.false_and] at hz
      rw [← hz]
      exact ⟨rfl, hO.keep⟩
    | true =>
      rw [Bool.true_and] at hz
      rw [contK_some]; simp (disch := first | omega | (simp only [List.length_cons, List.length_nil, List.length_append, u8s_len]; omega)) only [go_sem, ↓reduceIte, true_and, Nat.reduceLeDiff, Nat.reduceEqDiff, Nat.reduceAdd, Nat.reduceBEq, Int.reduceEq, H.cv_3_5, H.cv_5_3]
      refine hN _ ?_; clear hN N
      simp (disch := first | omega | (simp only [List.length_cons, List.length_nil, List.length_append, u8s_len]; omega)) only [go_sem, ↓reduceIte, true_and, Nat.reduceLeDiff, Nat.reduceEqDiff, Nat.reduceAdd, Nat.reduceBEq, Int.reduceEq, H.cv_3_5, H.cv_5_3, t17, nat_add]
      exact ⟨l.length - (i + 1), by omega, i + 1, rfl, by omega, hz, t1, t2, t15, t16, rfl, hO.tail.tail⟩
  obtain rfl : i = l.length := by omega
  (refine W_seq_gen fun N hN => ?_); simp (disch := first | omega | (simp only [List.length_cons, List.length_nil, List.length_append, u8s_len]; omega)) only [go_sem, ↓reduceIte, true_and, Nat.reduceLeDiff, Nat.reduceEqDiff, Nat.reduceAdd, Nat.reduceBEq, Int.reduceEq, H.cv_3_5, H.cv_5_3, t16, t17, Nat.lt_irrefl]
  refine hN _ ?_; clear hN N
  (refine W_seq_gen fun N hN => ?_); simp (disch := first | omega | (simp only [List.length_cons, List.length_nil, List.length_append, u8s_len]; omega)) only [go_sem, ↓reduceIte, true_and, Nat.reduceLeDiff, Nat.reduceEqDiff, Nat.reduceAdd, Nat.reduceBEq, Int.reduceEq, H.cv_3_5, H.cv_5_3]
  refine hM _ ?_; clear hN N hM M
  rw [List.drop_length, c4, List.drop_length, sameL] at hz
  rw [← hz]
  simp (disch := first | omega | (simp only [List.length_cons, List.length_nil, List.length_append, u8s_len]; omega)) only [go_sem, ↓reduceIte, true_and, Nat.reduceLeDiff, Nat.reduceEqDiff, Nat.reduceAdd, Nat.reduceBEq, Int.reduceEq, H.cv_3_5, H.cv_5_3]
  exact hO.keep
theorem same2_ok (c : Cel) : ∀ (c' : Cel) (cs cs' : List AV), CE cs c → CE cs' c' → ∀ h, AWF P ann 0 15 [.ag cs, .ag cs'] h fun r h' => r = .sc (.bool (sameS c c')) ∧ h' = h := by
  induction c using Cel.ind with
  | h c ih =>
  intro c' cs cs' hc hc' h
  obtain ⟨v, es, rfl, hv, hl, hf⟩ := hc.out
  obtain ⟨v', es', rfl, hv', hl', hf'⟩ := hc'.out
  have hfl := hf.l
  have hfl' := hf'.l
  have hS := sameS_eq c c'
  refine AWF.fnPurec H.f0_15 rfl ?_
  have hO := OB.nil (h := h)
  (refine W_seq_gen fun N hN => ?_); simp (disch := first | omega | (simp only [List.length_cons, List.length_nil, List.length_append, u8s_len]; omega)) only [go_sem, ↓reduceIte, true_and, Nat.reduceLeDiff, Nat.reduceEqDiff, Nat.reduceAdd, Nat.reduceBEq, Int.reduceEq, H.cv_3_5, H.cv_5_3, hv.disc, hv.same, hv'.disc, hv'.same]
  intro o2 h2 o3 h3
  refine hN _ ?_; clear hN N; refine W_ob ((hO.new h2).new h3) fun hc hO => ?_
  refine W_forget (fun t => t 2 = .op o2 0 ∧ t 3 = .op o3 0 ∧ True) (by simp [upd_at, *] <;> (first | rfl | exact ⟨rfl, rfl⟩ | exact ⟨rfl, rfl, rfl⟩)) ?_; rintro t ⟨t2, t3, -⟩
  by_cases c1 : c.k = c'.k
  case neg =>
    have q1 : (c.k == c'.k) = false := by simpa using c1
    simp (disch := first | omega | (simp only [List.length_cons, List.length_nil, List.length_append, u8s_len]; omega)) only [go_sem, ↓reduceIte, true_and, Nat.reduceLeDiff, Nat.reduceEqDiff, Nat.reduceAdd, Nat.reduceBEq, Int.reduceEq, H.cv_3_5, H.cv_5_3, t2, t3, hO.get0, hO.get1, q1]
    rw [hS, decide_eq_false c1]
    exact ⟨rfl, hO.keep⟩
  have q1 : (c.k == c'.k) = true := by simpa using c1
  by_cases c2 : c.n = c'.n
  case neg =>
    have q2 : (c.n == c'.n) = false := by simpa using c2
    simp (disch := first | omega | (simp only [List.length_cons, List.length_nil, List.length_append, u8s_len]; omega)) only [go_sem, ↓reduceIte, true_and, Nat.reduceLeDiff, Nat.reduceEqDiff, Nat.reduceAdd, Nat.reduceBEq, Int.reduceEq, H.cv_3_5, H.cv_5_3, t2, t3, hO.get0, hO.get1, q1, q2]
    rw [hS, decide_eq_false c2, Bool.and_false]
    exact ⟨rfl, hO.keep⟩
  have q2 : (c.n == c'.n) = true := by simpa using c2
  by_cases c3 : c.s = c'.s
  case neg =>
    have q3 : decide (c.s = c'.s) = false := decide_eq_false c3
    simp (disch := first | omega | (simp only [List.length_cons, List.length_nil, List.length_append, u8s_len]; omega)) only [go_sem, ↓reduceIte, true_and, Nat.reduceLeDiff, Nat.reduceEqDiff, Nat.reduceAdd, Nat.reduceBEq, Int.reduceEq, H.cv_3_5, H.cv_5_3, t2, t3, hO.get0, hO.get1, q1, q2, q3]
    rw [hS, q3, Bool.and_false]
    exact ⟨rfl, hO.keep⟩
  have q3 : decide (c.s = c'.s) = true := decide_eq_true c3
  rw [decide_eq_true c1, decide_eq_true c2, q3, Bool.and_true, Bool.and_true, Bool.true_and] at hS
  rw [hS]
  simp (disch := first | omega | (simp only [List.length_cons, List.length_nil, List.length_append, u8s_len]; omega)) only [go_sem, ↓reduceIte, true_and, Nat.reduceLeDiff, Nat.reduceEqDiff, Nat.reduceAdd, Nat.reduceBEq, Int.reduceEq, H.cv_3_5, H.cv_5_3, t2, t3, hO.get0, hO.get1, q1, q2, q3, hv.same, hv.disc, hv'.same, hv'.disc, hv.own, hv'.own]
  refine (eqf_ok H hv hv' hl hl' hfl hfl' ih _).mono ?_
  rintro _ _ ⟨rfl, hh⟩; subst hh
  rw [contK_some]; simp (disch := first | omega | (simp only [List.length_cons, List.length_nil, List.length_append, u8s_len]; omega)) only [go_sem, ↓reduceIte, true_and, Nat.reduceLeDiff, Nat.reduceEqDiff, Nat.reduceAdd, Nat.reduceBEq, Int.reduceEq, H.cv_3_5, H.cv_5_3]
  exact hO.keep
end Go.Proofs.Ytjebhcflpibkkaa
