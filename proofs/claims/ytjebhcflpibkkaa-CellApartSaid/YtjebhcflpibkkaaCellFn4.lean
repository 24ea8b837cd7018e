/- What the functions come to: pure. -/
import Derived.Test.YtjebhcflpibkkaaCellFn3
set_option linter.unusedVariables false
set_option linter.unusedSimpArgs false
namespace Go.Proofs.Ytjebhcflpibkkaa
open Go.Am
theorem pureL_false {l : List Cel} : ∀ {i : Nat} (h : i < l.length), pureS l[i] = false → pureL l = false := by
  induction l with
  | nil => intro i h; simp at h
  | cons x l ih =>
    intro i h hp
    rw [pureL]
    cases i with
    | zero => rw [show pureS x = false from hp]; rfl
    | succ i => rw [ih (by simpa using h) hp, Bool.and_false]
variable {P : Program} (H : Has P)
include H
theorem clo_ok {cs : List AV} {b : Bool} (hq : ∀ h, AWF P ann 0 26 [.ag cs] h fun r h' => r = .sc (.bool b) ∧ h' = h) {c : Cel} (hce : CE cs c) (h : Heap) : AWF P ann 0 35 [.ag cs] h fun r h' => r = .sc (.bool !b) ∧ h' = h := by
  obtain ⟨v, es, rfl, hv, hl, hf⟩ := hce.out
  refine AWF.fnPurec H.f0_35 rfl ?_
  have hO := OB.nil (h := h)
  (refine W_seq_gen fun N hN => ?_); simp (disch := first | omega | (simp only [List.length_cons, List.length_nil, List.length_append, u8s_len]; omega)) only [go_sem, ↓reduceIte, true_and, Nat.reduceLeDiff, Nat.reduceEqDiff, Nat.reduceAdd, Nat.reduceBEq, Int.reduceEq, H.cv_3_5, H.cv_5_3, hv.disc, hv.same]
  intro o1 h1
  refine hN _ ?_; clear hN N; refine W_ob (hO.new h1) fun hc hO => ?_
  simp (disch := first | omega | (simp only [List.length_cons, List.length_nil, List.length_append, u8s_len]; omega)) only [go_sem, ↓reduceIte, true_and, Nat.reduceLeDiff, Nat.reduceEqDiff, Nat.reduceAdd, Nat.reduceBEq, Int.reduceEq, H.cv_3_5, H.cv_5_3, hO.get0, hv.disc, hv.same]
  refine (hq _).mono ?_
  rintro _ _ ⟨rfl, hh⟩; subst hh
  rw [contK_some]; simp (disch := first | omega | (simp only [List.length_cons, List.length_nil, List.length_append, u8s_len]; omega)) only [go_sem, ↓reduceIte, true_and, Nat.reduceLeDiff, Nat.reduceEqDiff, Nat.reduceAdd, Nat.reduceBEq, Int.reduceEq, H.cv_3_5, H.cv_5_3]
  exact hO.keep
theorem idx_ok {v : AV} {es : List (List AV)} {l : List Cel} (hv : SF 4 v es) (hl : RR CE es l) (hlen : l.length < 2 ^ 42) (hp : ∀ x ∈ l, ∀ cs, CE cs x → ∀ h, AWF P ann 0 26 [.ag cs] h fun r h' => r = .sc (.bool (pureS x)) ∧ h' = h) (h : Heap) :
    AWF P ann 0 36 [v, .fn 35 [] []] h fun r h' => (∃ z : Int, r = .sc (.int .i64 z) ∧ decide (z ≥ ((0 : Nat) : Int)) = !pureL l) ∧ h' = h := by
  have hes := hl.len
  refine AWF.fnc H.f0_36 rfl ?_
  (refine W_seq_gen fun N hN => ?_); simp (disch := first | omega | (simp only [List.length_cons, List.length_nil, List.length_append, u8s_len]; omega)) only [go_sem, ↓reduceIte, true_and, Nat.reduceLeDiff, Nat.reduceEqDiff, Nat.reduceAdd, Nat.reduceBEq, Int.reduceEq, H.cv_3_5, H.cv_5_3]
  refine hN _ ?_; clear hN N
  (refine W_seq_gen fun M hM => ?_)
  simp (disch := first | omega | (simp only [List.length_cons, List.length_nil, List.length_append, u8s_len]; omega)) only [go_sem, ↓reduceIte, true_and, Nat.reduceLeDiff, Nat.reduceEqDiff, Nat.reduceAdd, Nat.reduceBEq, Int.reduceEq, H.cv_3_5, H.cv_5_3, hv.same, hv.disc, hv.sl.len, hes]
  refine AW_loopN (fun m t h' => h' = h ∧ ∃ i, m = l.length - i ∧ i ≤ l.length ∧ pureL (l.drop i) = pureL l ∧ t 0 = v ∧ t 1 = .fn 35 [] [] ∧ t 7 = .sc (.int .i64 (l.length : Nat)) ∧ t 8 = .sc (.int .i64 (i : Nat)))
    (n := l.length) ⟨rfl, 0, rfl, Nat.zero_le _, rfl, by simp [upd_at] <;> rfl, by simp [upd_at] <;> rfl, by simp [upd_at], rfl⟩ ?_
  rintro m t h' ⟨rfl, i, rfl, hi, hz, t0, t1, t7, t8⟩
  rcases Nat.lt_or_ge i l.length with hlt2 | hge
  · obtain ⟨e, he, hce⟩ := hl.lt hlt2
    rw [pureL_drop hlt2] at hz
    have hq := hp l[i] (List.getElem_mem hlt2) e hce
    generalize l[i] = x at hz hq hce
    obtain ⟨w, ws, rfl, hw, _, _⟩ := id hce.out
    (refine W_seq_gen fun N hN => ?_); simp (disch := first | omega | (simp only [List.length_cons, List.length_nil, List.length_append, u8s_len]; omega)) only [go_sem, ↓reduceIte, true_and, Nat.reduceLeDiff, Nat.reduceEqDiff, Nat.reduceAdd, Nat.reduceBEq, Int.reduceEq, H.cv_3_5, H.cv_5_3, t7, t8, hlt2]
    refine hN _ ?_; clear hN N
    (refine W_seq_gen fun N hN => ?_); simp (disch := first | omega | (simp only [List.length_cons, List.length_nil, List.length_append, u8s_len]; omega)) only [go_sem, ↓reduceIte, true_and, Nat.reduceLeDiff, Nat.reduceEqDiff, Nat.reduceAdd, Nat.reduceBEq, Int.reduceEq, H.cv_3_5, H.cv_5_3]
    refine hN _ ?_; clear hN N
    (refine W_seq_gen fun N hN => ?_)
    rw [W_block]
    (refine W_seq_gen fun N hN => ?_); simp (disch := first | omega | (simp only [List.length_cons, List.length_nil, List.length_append, u8s_len]; omega)) only [go_sem, ↓reduceIte, true_and, Nat.reduceLeDiff, Nat.reduceEqDiff, Nat.reduceAdd, Nat.reduceBEq, Int.reduceEq, H.cv_3_5, H.cv_5_3, t8]
    refine hN _ ?_; clear hN N
    simp (disch := first | omega | (simp only [List.length_cons, List.length_nil, List.length_append, u8s_len]; omega)) only [go_sem, ↓reduceIte, true_and, Nat.reduceLeDiff, Nat.reduceEqDiff, Nat.reduceAdd, Nat.reduceBEq, Int.reduceEq, H.cv_3_5, H.cv_5_3, t0, t1, hv.same, hv.disc, hv.sl.ia, he, hw.disc, hw.same]
    refine (clo_ok H hq hce _).mono ?_
    rintro _ _ ⟨rfl, hh⟩; subst hh
    cases hb : pureS x with
    | false =>
      rw [contK_some]; simp (disch := first | omega | (simp only [List.length_cons, List.length_nil, List.length_append, u8s_len]; omega)) only [go_sem, ↓reduceIte, true_and, Nat.reduceLeDiff, Nat.reduceEqDiff, Nat.reduceAdd, Nat.reduceBEq, Int.reduceEq, H.cv_3_5, H.cv_5_3]
      rw [hb, Bool.false_and] at hz
      exact ⟨_, rfl, by rw [← hz]; simp⟩
    | true =>
      rw [contK_some]; simp (disch := first | omega | (simp only [List.length_cons, List.length_nil, List.length_append, u8s_len]; omega)) only [go_sem, ↓reduceIte, true_and, Nat.reduceLeDiff, Nat.reduceEqDiff, Nat.reduceAdd, Nat.reduceBEq, Int.reduceEq, H.cv_3_5, H.cv_5_3]
      refine hN _ ?_; clear hN N
      simp (disch := first | omega | (simp only [List.length_cons, List.length_nil, List.length_append, u8s_len]; omega)) only [go_sem, ↓reduceIte, true_and, Nat.reduceLeDiff, Nat.reduceEqDiff, Nat.reduceAdd, Nat.reduceBEq, Int.reduceEq, H.cv_3_5, H.cv_5_3, t8, nat_add]
      rw [hb, Bool.true_and] at hz
      exact ⟨l.length - (i + 1), by omega, i + 1, rfl, by omega, hz, t0, t1, t7, rfl⟩
  obtain rfl : i = l.length := by omega
  (refine W_seq_gen fun N hN => ?_); simp (disch := first | omega | (simp only [List.length_cons, List.length_nil, List.length_append, u8s_len]; omega)) only [go_sem, ↓reduceIte, true_and, Nat.reduceLeDiff, Nat.reduceEqDiff, Nat.reduceAdd, Nat.reduceBEq, Int.reduceEq, H.cv_3_5, H.cv_5_3, t7, t8, Nat.lt_irrefl]
  refine hN _ ?_; clear hN N
  (refine W_seq_gen fun N hN => ?_); simp (disch := first | omega | (simp only [List.length_cons, List.length_nil, List.length_append, u8s_len]; omega)) only [go_sem, ↓reduceIte, true_and, Nat.reduceLeDiff, Nat.reduceEqDiff, Nat.reduceAdd, Nat.reduceBEq, Int.reduceEq, H.cv_3_5, H.cv_5_3]
  refine hM _ ?_; clear hN N hM M
  simp (disch := first | omega | (simp only [List.length_cons, List.length_nil, List.length_append, u8s_len]; omega)) only [go_sem, ↓reduceIte, true_and, Nat.reduceLeDiff, Nat.reduceEqDiff, Nat.reduceAdd, Nat.reduceBEq, Int.reduceEq, H.cv_3_5, H.cv_5_3]
  rw [List.drop_length, pureL] at hz
  rw [← hz]
  exact ⟨_, rfl, by decide⟩
theorem any_ok {v : AV} {es : List (List AV)} {l : List Cel} (hv : SF 4 v es) (hl : RR CE es l) (hlen : l.length < 2 ^ 42) (hp : ∀ x ∈ l, ∀ cs, CE cs x → ∀ h, AWF P ann 0 26 [.ag cs] h fun r h' => r = .sc (.bool (pureS x)) ∧ h' = h) (h : Heap) :
    AWF P ann 0 34 [v, .fn 35 [] []] h fun r h' => r = .sc (.bool (!pureL l)) ∧ h' = h := by
  refine AWF.fnc H.f0_34 rfl ?_
  simp (disch := first | omega | (simp only [List.length_cons, List.length_nil, List.length_append, u8s_len]; omega)) only [go_sem, ↓reduceIte, true_and, Nat.reduceLeDiff, Nat.reduceEqDiff, Nat.reduceAdd, Nat.reduceBEq, Int.reduceEq, H.cv_3_5, H.cv_5_3, hv.same, hv.disc]
  refine (idx_ok H hv hl hlen hp _).mono ?_
  rintro _ _ ⟨⟨z, rfl, hz⟩, hh⟩; subst hh
  rw [contK_some]; simp (disch := first | omega | (simp only [List.length_cons, List.length_nil, List.length_append, u8s_len]; omega)) only [go_sem, ↓reduceIte, true_and, Nat.reduceLeDiff, Nat.reduceEqDiff, Nat.reduceAdd, Nat.reduceBEq, Int.reduceEq, H.cv_3_5, H.cv_5_3, hz]
theorem pure_ok (c : Cel) : ∀ (cs : List AV), CE cs c → ∀ h, AWF P ann 0 26 [.ag cs] h fun r h' => r = .sc (.bool (pureS c)) ∧ h' = h := by
  induction c using Cel.ind with
  | h c ih =>
  intro cs hc h
  obtain ⟨v, es, rfl, hv, hl, hf⟩ := hc.out
  have hfl := hf.l
  have hes := hl.len
  have hS : pureS c = if c.k = 1 then decide (c.n ≥ -9007199254740992) && decide (c.n ≤ 9007199254740992) && decide (c.s = ByteArray.empty) && decide (c.l.length = 0)
    else if c.k = 2 then decide (c.n = 0) && decide (c.l.length = 0)
    else if c.k = 3 then decide (c.n = 0) && decide (c.s = ByteArray.empty) && pureL c.l
    else false := by cases c; rw [pureS]; rfl
  have he : ByteArray.empty = ⟨#[]⟩ := rfl
  rw [he] at hS
  refine AWF.fnPurec H.f0_26 rfl ?_
  have hO := OB.nil (h := h)
  (refine W_seq_gen fun N hN => ?_); simp (disch := first | omega | (simp only [List.length_cons, List.length_nil, List.length_append, u8s_len]; omega)) only [go_sem, ↓reduceIte, true_and, Nat.reduceLeDiff, Nat.reduceEqDiff, Nat.reduceAdd, Nat.reduceBEq, Int.reduceEq, H.cv_3_5, H.cv_5_3, hv.disc, hv.same]
  intro o1 h1
  refine hN _ ?_; clear hN N; refine W_ob (hO.new h1) fun hc hO => ?_
  refine W_forget (fun t => t 1 = .op o1 0 ∧ t 2 = .sc (.bool false) ∧ True) (by simp [upd_at, *] <;> (first | rfl | exact ⟨rfl, rfl⟩ | exact ⟨rfl, rfl, rfl⟩)) ?_; rintro t ⟨t1, t2, -⟩
  (refine W_seq_gen fun M hM => ?_)
  (refine W_seq_gen fun N hN => ?_); simp (disch := first | omega | (simp only [List.length_cons, List.length_nil, List.length_append, u8s_len]; omega)) only [go_sem, ↓reduceIte, true_and, Nat.reduceLeDiff, Nat.reduceEqDiff, Nat.reduceAdd, Nat.reduceBEq, Int.reduceEq, H.cv_3_5, H.cv_5_3, t1, hO.get0]
  refine hN _ ?_; clear hN N
  refine W_forget (fun t => t 1 = .op o1 0 ∧ t 2 = .sc (.bool false) ∧ t 4 = .sc (.int .i64 c.k) ∧ True) (by simp [upd_at, *] <;> (first | rfl | exact ⟨rfl, rfl⟩ | exact ⟨rfl, rfl, rfl⟩)) ?_; rintro t ⟨t1, t2, t4, -⟩
  have L0 : ((c.l.length : Nat) : Int) = ((0 : Nat) : Int) ↔ c.l.length = 0 := by omega
  by_cases k1 : c.k = 1
  · have q1 : (c.k == ((1 : Nat) : Int)) = true := by simpa using k1
    rw [if_pos k1] at hS
    rw [W_block]
    (refine W_seq_gen fun N hN => ?_); simp (disch := first | omega | (simp only [List.length_cons, List.length_nil, List.length_append, u8s_len]; omega)) only [go_sem, ↓reduceIte, true_and, Nat.reduceLeDiff, Nat.reduceEqDiff, Nat.reduceAdd, Nat.reduceBEq, Int.reduceEq, H.cv_3_5, H.cv_5_3, t1, t4, q1]
    refine hN _ ?_; clear hN N
    by_cases a1 : c.n ≥ -9007199254740992
    case neg =>
      simp (disch := first | omega | (simp only [List.length_cons, List.length_nil, List.length_append, u8s_len]; omega)) only [go_sem, ↓reduceIte, true_and, Nat.reduceLeDiff, Nat.reduceEqDiff, Nat.reduceAdd, Nat.reduceBEq, Int.reduceEq, H.cv_3_5, H.cv_5_3, t1, hO.get0, a1]
      exact ⟨by rw [hS, decide_eq_false a1]; rfl, hO.keep⟩
    by_cases a2 : c.n ≤ ((9007199254740992 : Nat) : Int)
    case neg =>
      simp (disch := first | omega | (simp only [List.length_cons, List.length_nil, List.length_append, u8s_len]; omega)) only [go_sem, ↓reduceIte, true_and, Nat.reduceLeDiff, Nat.reduceEqDiff, Nat.reduceAdd, Nat.reduceBEq, Int.reduceEq, H.cv_3_5, H.cv_5_3, t1, hO.get0, a1, a2]
      exact ⟨by rw [hS, decide_eq_false (show ¬ c.n ≤ 9007199254740992 from a2), Bool.and_false]; rfl, hO.keep⟩
    have a2' : c.n ≤ 9007199254740992 := a2
    by_cases a3 : c.s = ⟨#[]⟩
    case neg =>
      have a3' := decide_eq_false a3
      simp (disch := first | omega | (simp only [List.length_cons, List.length_nil, List.length_append, u8s_len]; omega)) only [go_sem, ↓reduceIte, true_and, Nat.reduceLeDiff, Nat.reduceEqDiff, Nat.reduceAdd, Nat.reduceBEq, Int.reduceEq, H.cv_3_5, H.cv_5_3, t1, hO.get0, a1, a2, a3']
      exact ⟨by rw [hS, decide_eq_false a3, Bool.and_false]; rfl, hO.keep⟩
    have a3' := decide_eq_true a3
    by_cases a4 : c.l.length = 0
    case neg =>
      have a4' : (((c.l.length : Nat) : Int) == ((0 : Nat) : Int)) = false := by rw [beq_eq_false_iff_ne]; omega
      simp (disch := first | omega | (simp only [List.length_cons, List.length_nil, List.length_append, u8s_len]; omega)) only [go_sem, ↓reduceIte, true_and, Nat.reduceLeDiff, Nat.reduceEqDiff, Nat.reduceAdd, Nat.reduceBEq, Int.reduceEq, H.cv_3_5, H.cv_5_3, t1, hO.get0, a1, a2, a3', hv.disc, hv.same, hv.sl.len, hes, a4']
      exact ⟨by rw [hS, decide_eq_false a4, Bool.and_false], hO.keep⟩
    have a4' : (((c.l.length : Nat) : Int) == ((0 : Nat) : Int)) = true := by rw [beq_iff_eq]; omega
    simp (disch := first | omega | (simp only [List.length_cons, List.length_nil, List.length_append, u8s_len]; omega)) only [go_sem, ↓reduceIte, true_and, Nat.reduceLeDiff, Nat.reduceEqDiff, Nat.reduceAdd, Nat.reduceBEq, Int.reduceEq, H.cv_3_5, H.cv_5_3, t1, hO.get0, a1, a2, a3', hv.disc, hv.same, hv.sl.len, hes, a4']
    exact ⟨by rw [hS, decide_eq_true a1, decide_eq_true a2', decide_eq_true a3, decide_eq_true a4]; rfl, hO.keep⟩
  have q1 : (c.k == ((1 : Nat) : Int)) = false := by simpa using k1
  rw [if_neg k1] at hS
  by_cases k2 : c.k = 2
  · have q2 : (c.k == ((2 : Nat) : Int)) = true := by simpa using k2
    rw [if_pos k2] at hS
    rw [W_block]
    (refine W_seq_gen fun N hN => ?_); simp (disch := first | omega | (simp only [List.length_cons, List.length_nil, List.length_append, u8s_len]; omega)) only [go_sem, ↓reduceIte, true_and, Nat.reduceLeDiff, Nat.reduceEqDiff, Nat.reduceAdd, Nat.reduceBEq, Int.reduceEq, H.cv_3_5, H.cv_5_3, t1, t4, q1]
    refine hN _ ?_; clear hN N
    by_cases a1 : c.n = 0
    case neg =>
      have a1' : (c.n == ((0 : Nat) : Int)) = false := by simpa using a1
      simp (disch := first | omega | (simp only [List.length_cons, List.length_nil, List.length_append, u8s_len]; omega)) only [go_sem, ↓reduceIte, true_and, Nat.reduceLeDiff, Nat.reduceEqDiff, Nat.reduceAdd, Nat.reduceBEq, Int.reduceEq, H.cv_3_5, H.cv_5_3, t1, t4, q2, hO.get0, a1']
      exact ⟨by rw [hS, decide_eq_false a1]; rfl, hO.keep⟩
    have a1' : (c.n == ((0 : Nat) : Int)) = true := by simpa using a1
    by_cases a4 : c.l.length = 0
    case neg =>
      have a4' : (((c.l.length : Nat) : Int) == ((0 : Nat) : Int)) = false := by rw [beq_eq_false_iff_ne]; omega
      simp (disch := first | omega | (simp only [List.length_cons, List.length_nil, List.length_append, u8s_len]; omega)) only [go_sem, ↓reduceIte, true_and, Nat.reduceLeDiff, Nat.reduceEqDiff, Nat.reduceAdd, Nat.reduceBEq, Int.reduceEq, H.cv_3_5, H.cv_5_3, t1, t4, q2, hO.get0, a1', hv.disc, hv.same, hv.sl.len, hes, a4']
      exact ⟨by rw [hS, decide_eq_false a4, Bool.and_false], hO.keep⟩
    have a4' : (((c.l.length : Nat) : Int) == ((0 : Nat) : Int)) = true := by rw [beq_iff_eq]; omega
    simp (disch := first | omega | (simp only [List.length_cons, List.length_nil, List.length_append, u8s_len]; omega)) only [go_sem, ↓reduceIte, true_and, Nat.reduceLeDiff, Nat.reduceEqDiff, Nat.reduceAdd, Nat.reduceBEq, Int.reduceEq, H.cv_3_5, H.cv_5_3, t1, t4, q2, hO.get0, a1', hv.disc, hv.same, hv.sl.len, hes, a4']
    exact ⟨by rw [hS, decide_eq_true a1, decide_eq_true a4]; rfl, hO.keep⟩
  have q2 : (c.k == ((2 : Nat) : Int)) = false := by simpa using k2
  rw [if_neg k2] at hS
  by_cases k3 : c.k = 3
  · have q3 : (c.k == ((3 : Nat) : Int)) = true := by simpa using k3
    rw [if_pos k3] at hS
    rw [W_block]
    (refine W_seq_gen fun N hN => ?_); simp (disch := first | omega | (simp only [List.length_cons, List.length_nil, List.length_append, u8s_len]; omega)) only [go_sem, ↓reduceIte, true_and, Nat.reduceLeDiff, Nat.reduceEqDiff, Nat.reduceAdd, Nat.reduceBEq, Int.reduceEq, H.cv_3_5, H.cv_5_3, t1, t4, q1]
    refine hN _ ?_; clear hN N
    by_cases a1 : c.n = 0
    case neg =>
      have a1' : (c.n == ((0 : Nat) : Int)) = false := by simpa using a1
      simp (disch := first | omega | (simp only [List.length_cons, List.length_nil, List.length_append, u8s_len]; omega)) only [go_sem, ↓reduceIte, true_and, Nat.reduceLeDiff, Nat.reduceEqDiff, Nat.reduceAdd, Nat.reduceBEq, Int.reduceEq, H.cv_3_5, H.cv_5_3, t1, t4, q2, q3, hO.get0, a1']
      exact ⟨by rw [hS, decide_eq_false a1]; rfl, hO.keep⟩
    have a1' : (c.n == ((0 : Nat) : Int)) = true := by simpa using a1
    by_cases a3 : c.s = ⟨#[]⟩
    case neg =>
      have a3' := decide_eq_false a3
      simp (disch := first | omega | (simp only [List.length_cons, List.length_nil, List.length_append, u8s_len]; omega)) only [go_sem, ↓reduceIte, true_and, Nat.reduceLeDiff, Nat.reduceEqDiff, Nat.reduceAdd, Nat.reduceBEq, Int.reduceEq, H.cv_3_5, H.cv_5_3, t1, t4, q2, q3, hO.get0, a1', a3']
      exact ⟨by rw [hS, decide_eq_false a3, Bool.and_false]; rfl, hO.keep⟩
    have a3' := decide_eq_true a3
    simp (disch := first | omega | (simp only [List.length_cons, List.length_nil, List.length_append, u8s_len]; omega)) only [go_sem, ↓reduceIte, true_and, Nat.reduceLeDiff, Nat.reduceEqDiff, Nat.reduceAdd, Nat.reduceBEq, Int.reduceEq, H.cv_3_5, H.cv_5_3, t1, t4, q2, q3, hO.get0, a1', a3', hv.disc, hv.same]
    refine (any_ok H hv hl hfl ih _).mono ?_
    rintro _ _ ⟨rfl, hh⟩; subst hh
    rw [contK_some]; simp (disch := first | omega | (simp only [List.length_cons, List.length_nil, List.length_append, u8s_len]; omega)) only [go_sem, ↓reduceIte, true_and, Nat.reduceLeDiff, Nat.reduceEqDiff, Nat.reduceAdd, Nat.reduceBEq, Int.reduceEq, H.cv_3_5, H.cv_5_3]
    exact ⟨by rw [hS, decide_eq_true a1, decide_eq_true a3, Bool.not_not]; rfl, hO.keep⟩
  have q3 : (c.k == ((3 : Nat) : Int)) = false := by simpa using k3
  rw [if_neg k3] at hS
  rw [W_block]
  (refine W_seq_gen fun N hN => ?_); simp (disch := first | omega | (simp only [List.length_cons, List.length_nil, List.length_append, u8s_len]; omega)) only [go_sem, ↓reduceIte, true_and, Nat.reduceLeDiff, Nat.reduceEqDiff, Nat.reduceAdd, Nat.reduceBEq, Int.reduceEq, H.cv_3_5, H.cv_5_3, t1, t4, q1]
  refine hN _ ?_; clear hN N
  simp (disch := first | omega | (simp only [List.length_cons, List.length_nil, List.length_append, u8s_len]; omega)) only [go_sem, ↓reduceIte, true_and, Nat.reduceLeDiff, Nat.reduceEqDiff, Nat.reduceAdd, Nat.reduceBEq, Int.reduceEq, H.cv_3_5, H.cv_5_3, t4, q2, q3]
  refine hM _ ?_; clear hM M
  simp (disch := first | omega | (simp only [List.length_cons, List.length_nil, List.length_append, u8s_len]; omega)) only [go_sem, ↓reduceIte, true_and, Nat.reduceLeDiff, Nat.reduceEqDiff, Nat.reduceAdd, Nat.reduceBEq, Int.reduceEq, H.cv_3_5, H.cv_5_3]
  rw [hS]
  exact ⟨rfl, hO.keep⟩
end Go.Proofs.Ytjebhcflpibkkaa
