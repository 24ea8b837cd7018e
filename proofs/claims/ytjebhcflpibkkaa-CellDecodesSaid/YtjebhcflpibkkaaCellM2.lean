/- Cells: the reference's decoder. -/
import Derived.Test.YtjebhcflpibkkaaCellM1
section
set_option linter.unusedVariables false
set_option linter.unusedSimpArgs false
namespace Go.Proofs.Ytjebhcflpibkkaa
open Go.Am
mutual
/-- How many, from so many on. -/
def manyS : Cel → Int → Int
  | .mk k n s l, m => if s.size > 65536 then 5000 else manyL l (m + 1)
def manyL : List Cel → Int → Int
  | [], m => m
  | c :: l, m => if m ≤ 4096 then manyL l (manyS c m) else m
end
theorem manyL_big {l : List Cel} {m : Int} (h : ¬ m ≤ 4096) : manyL l m = m := by
  cases l with
  | nil => rfl
  | cons x l => rw [manyL, if_neg h]
theorem manyL_drop {l : List Cel} {i : Nat} (h : i < l.length) (m : Int) : manyL (l.drop i) m = if m ≤ 4096 then manyL (l.drop (i + 1)) (manyS l[i] m) else m := by
  rw [List.drop_eq_getElem_cons h, manyL]
theorem manyL_rel {l : List Cel} (h : ∀ x ∈ l, ∀ m : Int, 0 ≤ m → m ≤ 4096 → (0 ≤ manyS x m ∧ manyS x m ≤ 5000) ∧ (manyS x m ≤ 4096 → countS x (4096 - m) = 4096 - manyS x m) ∧ (4096 < manyS x m → countS x (4096 - m) < 0)) :
    ∀ m : Int, 0 ≤ m → m ≤ 5000 → (0 ≤ manyL l m ∧ manyL l m ≤ 5000) ∧ (manyL l m ≤ 4096 → countL l (4096 - m) = 4096 - manyL l m) ∧ (4096 < manyL l m → countL l (4096 - m) < 0) := by
  induction l with
  | nil => intro m h0 h1; rw [manyL, countL]; exact ⟨⟨h0, h1⟩, fun _ => rfl, fun _ => by omega⟩
  | cons x l ih =>
    intro m h0 h1
    rw [manyL, countL]
    by_cases c : m ≤ 4096
    · rw [if_pos c, if_neg (by omega)]
      obtain ⟨a1, a2, a3⟩ := h x (by simp) m h0 c
      have b := ih (fun y hy => h y (by simp [hy])) (manyS x m) a1.1 a1.2
      by_cases c2 : manyS x m ≤ 4096
      · rw [a2 c2]; exact b
      · have h3 := a3 (by omega)
        rw [manyL_big c2]
        exact ⟨a1, fun q => absurd q c2, fun _ => countL_neg h3⟩
    · rw [if_neg c]
      refine ⟨⟨h0, h1⟩, fun q => absurd q c, fun _ => ?_⟩
      rw [if_pos (by omega)]; decide
theorem manyS_rel (c : Cel) : ∀ m : Int, 0 ≤ m → m ≤ 4096 → (0 ≤ manyS c m ∧ manyS c m ≤ 5000) ∧ (manyS c m ≤ 4096 → countS c (4096 - m) = 4096 - manyS c m) ∧ (4096 < manyS c m → countS c (4096 - m) < 0) := by
  induction c using Cel.ind with
  | h c ih =>
    cases c with
    | mk k n s l =>
      intro m h0 h1
      rw [manyS, countS]
      split
      · exact ⟨⟨by omega, by omega⟩, fun h => by omega, fun _ => by omega⟩
      · have := manyL_rel (l := l) ih (m + 1) (by omega) (by omega)
        rw [show 4096 - m - 1 = 4096 - (m + 1) by omega]
        exact this
theorem check_ref (c : Cel) : checkS c = if 12 < depthS 13 c then 13 else if pureS c then (if 4096 < manyS c 0 then 3 else 0) else 1 := by
  have h1 : deepS 12 c = true ↔ 12 < depthS 13 c := by
    constructor
    · intro h; exact deep_yes 12 c h 13 (by omega)
    · intro h
      cases hd : deepS 12 c
      · have := deep_no 12 c hd 13; omega
      · rfl
  have h2 : countS c 4096 < 0 ↔ 4096 < manyS c 0 := by
    obtain ⟨_, a, b⟩ := manyS_rel c 0 (by omega) (by omega)
    constructor
    · intro h
      rcases Int.lt_or_le 4096 (manyS c 0) with h3 | h3
      · exact h3
      · have := a h3; simp at this; omega
    · intro h; simpa using b h
  unfold checkS
  by_cases c1 : deepS 12 c = true
  · rw [if_pos c1, if_pos (h1.1 c1)]
  · rw [if_neg c1, if_neg fun h => c1 (h1.2 h)]
    split
    · by_cases c2 : countS c 4096 < 0
      · rw [if_pos c2, if_pos (h2.1 c2)]
      · rw [if_neg c2, if_neg fun h => c2 (h2.2 h)]
    · rfl
variable {P : Program} (H : Has P)
include H
theorem many_ok (c : Cel) : ∀ (cs : List AV) (m : Int), 0 ≤ m → m ≤ 4096 → CE cs c → ∀ h, AWF P ann 0 32 [.ag cs, .sc (.int .i64 m)] h fun r h' => r = .sc (.int .i64 (manyS c m)) ∧ h' = h := by
  induction c using Cel.ind with
  | h c ih =>
  intro cs m h0 h1 hc h
  obtain ⟨v, es, rfl, hv, hl, hf⟩ := hc.out
  have hfl := hf.l
  have hfs := hf.s
  have hes := hl.len
  have hS : manyS c m = if c.s.size > 65536 then 5000 else manyL c.l (m + 1) := by cases c; rw [manyS]; rfl
  refine AWF.fnPurec H.f0_32 rfl ?_
  have hO := OB.nil (h := h)
  (refine W_seq_gen fun N hN => ?_); simp (disch := first | omega | (simp only [List.length_cons, List.length_nil, List.length_append, u8s_len]; omega)) only [go_sem, ↓reduceIte, true_and, Nat.reduceLeDiff, Nat.reduceEqDiff, Nat.reduceAdd, Nat.reduceBEq, Int.reduceEq, H.cv_3_5, H.cv_5_3, hv.disc, hv.same]
  intro o2 h2
  refine hN _ ?_; clear hN N; refine W_ob (hO.new h2) fun hc hO => ?_
  refine W_forget (fun t => t 1 = .sc (.int .i64 m) ∧ t 2 = .op o2 0 ∧ True) (by simp [upd_at, *] <;> (first | rfl | exact ⟨rfl, rfl⟩ | exact ⟨rfl, rfl, rfl⟩)) ?_; rintro t ⟨t1, t2, -⟩
  by_cases c1 : c.s.size > 65536
  · (refine W_seq_gen fun N hN => ?_); simp (disch := first | omega | (simp only [List.length_cons, List.length_nil, List.length_append, u8s_len]; omega)) only [go_sem, ↓reduceIte, true_and, Nat.reduceLeDiff, Nat.reduceEqDiff, Nat.reduceAdd, Nat.reduceBEq, Int.reduceEq, H.cv_3_5, H.cv_5_3, t2, hO.get0, c1]
    rw [hS, if_pos c1]
    exact ⟨rfl, hO.keep⟩
  rw [if_neg c1] at hS
  (refine W_seq_gen fun N hN => ?_); simp (disch := first | omega | (simp only [List.length_cons, List.length_nil, List.length_append, u8s_len]; omega)) only [go_sem, ↓reduceIte, true_and, Nat.reduceLeDiff, Nat.reduceEqDiff, Nat.reduceAdd, Nat.reduceBEq, Int.reduceEq, H.cv_3_5, H.cv_5_3, t2, hO.get0, c1]
  refine hN _ ?_; clear hN N
  (refine W_seq_gen fun N hN => ?_); simp (disch := first | omega | (simp only [List.length_cons, List.length_nil, List.length_append, u8s_len]; omega)) only [go_sem, ↓reduceIte, true_and, Nat.reduceLeDiff, Nat.reduceEqDiff, Nat.reduceAdd, Nat.reduceBEq, Int.reduceEq, H.cv_3_5, H.cv_5_3, t1]
  refine hN _ ?_; clear hN N
  refine W_forget (fun t => t 1 = .sc (.int .i64 (m + 1)) ∧ t 2 = .op o2 0 ∧ True) (by simp [upd_at, *] <;> (first | rfl | exact ⟨rfl, rfl⟩ | exact ⟨rfl, rfl, rfl⟩)) ?_; rintro t ⟨t1, t2, -⟩
  (refine W_seq_gen fun M hM => ?_)
  (refine W_seq_gen fun N hN => ?_); simp (disch := first | omega | (simp only [List.length_cons, List.length_nil, List.length_append, u8s_len]; omega)) only [go_sem, ↓reduceIte, true_and, Nat.reduceLeDiff, Nat.reduceEqDiff, Nat.reduceAdd, Nat.reduceBEq, Int.reduceEq, H.cv_3_5, H.cv_5_3]
  refine hN _ ?_; clear hN N
  simp (disch := first | omega | (simp only [List.length_cons, List.length_nil, List.length_append, u8s_len]; omega)) only [go_sem, ↓reduceIte, true_and, Nat.reduceLeDiff, Nat.reduceEqDiff, Nat.reduceAdd, Nat.reduceBEq, Int.reduceEq, H.cv_3_5, H.cv_5_3]
  refine AW_loopN (fun m' t h' => ∃ (i : Nat) (z : Int), m' = c.l.length - i ∧ i ≤ c.l.length ∧ 0 ≤ z ∧ z ≤ 5000 ∧ manyL (c.l.drop i) z = manyS c m ∧ t 1 = .sc (.int .i64 z) ∧ t 2 = .op o2 0 ∧ t 5 = .sc (.int .i64 (i : Nat)) ∧
      OB h [(o2, .arr [.sc (.int .i64 c.k), .sc (.int .i64 c.n), .sc (.string c.s), v])] h')
    (n := c.l.length) ⟨0, m + 1, rfl, Nat.zero_le _, by omega, by omega, hS.symm, by simp [upd_at, t1], by simp [upd_at, t2], rfl, hO⟩ ?_
  clear hO t1 t2
  rintro m' t h' ⟨i, z, rfl, hi, z0, z1, hz, t1, t2, t5, hO⟩
  have fin : ∀ t : Nat → AV, t 1 = .sc (.int .i64 z) → manyL (c.l.drop i) z = z → M ⟨t, h'⟩ := by
    clear t1 t2 t5 t
    intro t t1 hzz
    refine hM _ ?_; clear hM M
    simp (disch := first | omega | (simp only [List.length_cons, List.length_nil, List.length_append, u8s_len]; omega)) only [go_sem, ↓reduceIte, true_and, Nat.reduceLeDiff, Nat.reduceEqDiff, Nat.reduceAdd, Nat.reduceBEq, Int.reduceEq, H.cv_3_5, H.cv_5_3, t1]
    rw [← hz, hzz]
    exact ⟨rfl, hO.keep⟩
  rcases Nat.lt_or_ge i c.l.length with hlt2 | hge
  · by_cases c2 : z ≤ ((4096 : Nat) : Int)
    · obtain ⟨e, he, hce⟩ := hl.lt hlt2
      rw [manyL_drop hlt2, if_pos (show z ≤ 4096 from c2)] at hz
      have ihx := ih c.l[i] (List.getElem_mem hlt2)
      have bd := (manyS_rel c.l[i] z z0 c2).1
      generalize c.l[i] = x at hce hz ihx bd
      obtain ⟨v', es', rfl, hv', hl', hf'⟩ := hce.out
      (refine W_seq_gen fun N hN => ?_); simp (disch := first | omega | (simp only [List.length_cons, List.length_nil, List.length_append, u8s_len]; omega)) only [go_sem, ↓reduceIte, true_and, Nat.reduceLeDiff, Nat.reduceEqDiff, Nat.reduceAdd, Nat.reduceBEq, Int.reduceEq, H.cv_3_5, H.cv_5_3, t1, t2, t5, hlt2, hO.get0, hv.same, hv.disc, hv.sl.len, hes, c2]
      refine hN _ ?_; clear hN N
      (refine W_seq_gen fun N hN => ?_)
      rw [W_block]
      simp (disch := first | omega | (simp only [List.length_cons, List.length_nil, List.length_append, u8s_len]; omega)) only [go_sem, ↓reduceIte, true_and, Nat.reduceLeDiff, Nat.reduceEqDiff, Nat.reduceAdd, Nat.reduceBEq, Int.reduceEq, H.cv_3_5, H.cv_5_3, t1, t2, t5, hO.get0, hv.same, hv.disc, hv.sl.ia, he, hv'.disc, hv'.same]
      refine (ihx _ z z0 c2 hce _).mono ?_
      rintro _ _ ⟨rfl, hh⟩; subst hh
      rw [contK_some]; simp (disch := first | omega | (simp only [List.length_cons, List.length_nil, List.length_append, u8s_len]; omega)) only [go_sem, ↓reduceIte, true_and, Nat.reduceLeDiff, Nat.reduceEqDiff, Nat.reduceAdd, Nat.reduceBEq, Int.reduceEq, H.cv_3_5, H.cv_5_3]
      refine hN _ ?_; clear hN N
      simp (disch := first | omega | (simp only [List.length_cons, List.length_nil, List.length_append, u8s_len]; omega)) only [go_sem, ↓reduceIte, true_and, Nat.reduceLeDiff, Nat.reduceEqDiff, Nat.reduceAdd, Nat.reduceBEq, Int.reduceEq, H.cv_3_5, H.cv_5_3, t5, nat_add]
      exact ⟨c.l.length - (i + 1), by omega, i + 1, _, rfl, by omega, bd.1, bd.2, hz, rfl, t2, rfl, hO⟩
    · (refine W_seq_gen fun N hN => ?_); simp (disch := first | omega | (simp only [List.length_cons, List.length_nil, List.length_append, u8s_len]; omega)) only [go_sem, ↓reduceIte, true_and, Nat.reduceLeDiff, Nat.reduceEqDiff, Nat.reduceAdd, Nat.reduceBEq, Int.reduceEq, H.cv_3_5, H.cv_5_3, t1, t2, t5, hlt2, hO.get0, hv.same, hv.disc, hv.sl.len, hes, c2]
      refine fin _ ?_ (manyL_big c2)
      simpa [upd_at] using t1
  obtain rfl : i = c.l.length := by omega
  (refine W_seq_gen fun N hN => ?_); simp (disch := first | omega | (simp only [List.length_cons, List.length_nil, List.length_append, u8s_len]; omega)) only [go_sem, ↓reduceIte, true_and, Nat.reduceLeDiff, Nat.reduceEqDiff, Nat.reduceAdd, Nat.reduceBEq, Int.reduceEq, H.cv_3_5, H.cv_5_3, t2, t5, hO.get0, hv.same, hv.disc, hv.sl.len, hes, Nat.lt_irrefl]
  refine fin _ ?_ (by rw [List.drop_length, manyL])
  simpa [upd_at] using t1
end Go.Proofs.Ytjebhcflpibkkaa
end

section
set_option linter.unusedVariables false
set_option linter.unusedSimpArgs false
namespace Go.Proofs.Ytjebhcflpibkkaa
open Go.Am
theorem pureS_eq (c : Cel) : pureS c = if c.k = 1 then decide (c.n ≥ -9007199254740992) && decide (c.n ≤ 9007199254740992) && decide (c.s = noS) && decide (c.l.length = 0)
    else if c.k = 2 then decide (c.n = 0) && decide (c.l.length = 0)
    else if c.k = 3 then decide (c.n = 0) && decide (c.s = noS) && pureL c.l
    else false := by cases c; rw [pureS]; rfl
theorem pure_kids {c : Cel} (h : c.l.length ≠ 0) (hk : c.k ≠ 3) : pureS c = false := by
  rw [pureS_eq, decide_eq_false h, Bool.and_false, Bool.and_false, if_neg hk]
  split
  · rfl
  · split <;> rfl
variable {P : Program} (H : Has P)
include H
theorem kind_ok (c : Cel) : ∀ (cs : List AV), CE cs c → ∀ h, AWF P ann 0 31 [.ag cs] h fun r h' => r = .sc (.bool (pureS c)) ∧ h' = h := by
  induction c using Cel.ind with
  | h c ih =>
  intro cs hc h
  obtain ⟨v, es, rfl, hv, hl, hf⟩ := hc.out
  have hfl := hf.l
  have hes := hl.len
  have hS := pureS_eq c
  refine AWF.fnPurec H.f0_31 rfl ?_
  have hO := OB.nil (h := h)
  (refine W_seq_gen fun N hN => ?_); simp (disch := first | omega | (simp only [List.length_cons, List.length_nil, List.length_append, u8s_len]; omega)) only [go_sem, ↓reduceIte, true_and, Nat.reduceLeDiff, Nat.reduceEqDiff, Nat.reduceAdd, Nat.reduceBEq, Int.reduceEq, H.cv_3_5, H.cv_5_3, hv.disc, hv.same]
  intro o1 h1
  refine hN _ ?_; clear hN N; refine W_ob (hO.new h1) fun hc hO => ?_
  refine W_forget (fun t => t 1 = .op o1 0 ∧ True) (by simp [upd_at, *] <;> (first | rfl | exact ⟨rfl, rfl⟩ | exact ⟨rfl, rfl, rfl⟩)) ?_; rintro t ⟨t1, -⟩
  (refine W_seq_gen fun M hM => ?_)
  (refine W_seq_gen fun N hN => ?_); simp (disch := first | omega | (simp only [List.length_cons, List.length_nil, List.length_append, u8s_len]; omega)) only [go_sem, ↓reduceIte, true_and, Nat.reduceLeDiff, Nat.reduceEqDiff, Nat.reduceAdd, Nat.reduceBEq, Int.reduceEq, H.cv_3_5, H.cv_5_3]
  refine hN _ ?_; clear hN N
  simp (disch := first | omega | (simp only [List.length_cons, List.length_nil, List.length_append, u8s_len]; omega)) only [go_sem, ↓reduceIte, true_and, Nat.reduceLeDiff, Nat.reduceEqDiff, Nat.reduceAdd, Nat.reduceBEq, Int.reduceEq, H.cv_3_5, H.cv_5_3]
  refine AW_loopN (fun m t h' => ∃ (i : Nat), m = c.l.length - i ∧ i ≤ c.l.length ∧ pureL (c.l.drop i) = pureL c.l ∧ (c.k = 3 ∨ i = 0) ∧ t 1 = .op o1 0 ∧ t 3 = .sc (.int .i64 (i : Nat)) ∧
      OB h [(o1, .arr [.sc (.int .i64 c.k), .sc (.int .i64 c.n), .sc (.string c.s), v])] h')
    (n := c.l.length) ⟨0, rfl, Nat.zero_le _, rfl, .inr rfl, by simp [upd_at, t1], rfl, hO⟩ ?_
  clear hO t1
  rintro m t h' ⟨i, rfl, hi, hz, hk, t1, t3, hO⟩
  rcases Nat.lt_or_ge i c.l.length with hlt2 | hge
  · by_cases k3 : c.k = 3
    case neg =>
      have q : (c.k != ((3 : Nat) : Int)) = true := by simpa using k3
      (refine W_seq_gen fun N hN => ?_); simp (disch := first | omega | (simp only [List.length_cons, List.length_nil, List.length_append, u8s_len]; omega)) only [go_sem, ↓reduceIte, true_and, Nat.reduceLeDiff, Nat.reduceEqDiff, Nat.reduceAdd, Nat.reduceBEq, Int.reduceEq, H.cv_3_5, H.cv_5_3, t1, t3, hlt2, hO.get0, hv.same, hv.disc, hv.sl.len, hes]
      refine hN _ ?_; clear hN N
      (refine W_seq_gen fun N hN => ?_)
      rw [W_block]
      simp (disch := first | omega | (simp only [List.length_cons, List.length_nil, List.length_append, u8s_len]; omega)) only [go_sem, ↓reduceIte, true_and, Nat.reduceLeDiff, Nat.reduceEqDiff, Nat.reduceAdd, Nat.reduceBEq, Int.reduceEq, H.cv_3_5, H.cv_5_3, t1, t3, hO.get0, q]
      rw [pure_kids (by omega) k3]
      exact ⟨rfl, hO.keep⟩
    have q : (c.k != ((3 : Nat) : Int)) = false := by simpa using k3
    obtain ⟨e, he, hce⟩ := hl.lt hlt2
    rw [pureL_drop hlt2] at hz
    have ihx := ih c.l[i] (List.getElem_mem hlt2) e hce
    generalize c.l[i] = x at hce hz ihx
    obtain ⟨v', es', rfl, hv', hl', hf'⟩ := hce.out
    (refine W_seq_gen fun N hN => ?_); simp (disch := first | omega | (simp only [List.length_cons, List.length_nil, List.length_append, u8s_len]; omega)) only [go_sem, ↓reduceIte, true_and, Nat.reduceLeDiff, Nat.reduceEqDiff, Nat.reduceAdd, Nat.reduceBEq, Int.reduceEq, H.cv_3_5, H.cv_5_3, t1, t3, hlt2, hO.get0, hv.same, hv.disc, hv.sl.len, hes]
    refine hN _ ?_; clear hN N
    (refine W_seq_gen fun N hN => ?_)
    rw [W_block]
    simp (disch := first | omega | (simp only [List.length_cons, List.length_nil, List.length_append, u8s_len]; omega)) only [go_sem, ↓reduceIte, true_and, Nat.reduceLeDiff, Nat.reduceEqDiff, Nat.reduceAdd, Nat.reduceBEq, Int.reduceEq, H.cv_3_5, H.cv_5_3, t1, t3, hO.get0, q, hv.same, hv.disc, hv.sl.ia, he, hv'.disc, hv'.same]
    refine (ihx _).mono ?_
    rintro _ _ ⟨rfl, hh⟩; subst hh
    cases hp : pureS x with
    | false =>
      rw [contK_some]; simp (disch := first | omega | (simp only [List.length_cons, List.length_nil, List.length_append, u8s_len]; omega)) only [go_sem, ↓reduceIte, true_and, Nat.reduceLeDiff, Nat.reduceEqDiff, Nat.reduceAdd, Nat.reduceBEq, Int.reduceEq, H.cv_3_5, H.cv_5_3]
      rw [hp, Bool.false_and] at hz
      rw [hS, if_neg (by omega), if_neg (by omega), if_pos k3, ← hz, Bool.and_false]
      exact ⟨rfl, hO.keep⟩
    | true =>
      rw [hp, Bool.true_and] at hz
      rw [contK_some]; simp (disch := first | omega | (simp only [List.length_cons, List.length_nil, List.length_append, u8s_len]; omega)) only [go_sem, ↓reduceIte, true_and, Nat.reduceLeDiff, Nat.reduceEqDiff, Nat.reduceAdd, Nat.reduceBEq, Int.reduceEq, H.cv_3_5, H.cv_5_3]
      refine hN _ ?_; clear hN N
      simp (disch := first | omega | (simp only [List.length_cons, List.length_nil, List.length_append, u8s_len]; omega)) only [go_sem, ↓reduceIte, true_and, Nat.reduceLeDiff, Nat.reduceEqDiff, Nat.reduceAdd, Nat.reduceBEq, Int.reduceEq, H.cv_3_5, H.cv_5_3, t3, nat_add]
      exact ⟨c.l.length - (i + 1), by omega, i + 1, rfl, by omega, hz, .inl k3, t1, rfl, hO⟩
  obtain rfl : i = c.l.length := by omega
  (refine W_seq_gen fun N hN => ?_); simp (disch := first | omega | (simp only [List.length_cons, List.length_nil, List.length_append, u8s_len]; omega)) only [go_sem, ↓reduceIte, true_and, Nat.reduceLeDiff, Nat.reduceEqDiff, Nat.reduceAdd, Nat.reduceBEq, Int.reduceEq, H.cv_3_5, H.cv_5_3, t1, t3, hO.get0, hv.same, hv.disc, hv.sl.len, hes, Nat.lt_irrefl]
  refine hM _ ?_; clear hN N hM M
  refine W_forget (fun t => t 1 = .op o1 0 ∧ True) (by simp [upd_at, *] <;> (first | rfl | exact ⟨rfl, rfl⟩ | exact ⟨rfl, rfl, rfl⟩)) ?_; rintro t ⟨t1, -⟩
  have hz : pureL c.l = true := by rw [← hz, List.drop_length, pureL]
  have L0 : c.k ≠ 3 → c.l.length = 0 := fun h => by rcases hk with h1 | h1; exact absurd h1 h; exact h1
  clear hk
  (refine W_seq_gen fun M hM => ?_)
  (refine W_seq_gen fun N hN => ?_); simp (disch := first | omega | (simp only [List.length_cons, List.length_nil, List.length_append, u8s_len]; omega)) only [go_sem, ↓reduceIte, true_and, Nat.reduceLeDiff, Nat.reduceEqDiff, Nat.reduceAdd, Nat.reduceBEq, Int.reduceEq, H.cv_3_5, H.cv_5_3, t1, hO.get0]
  refine hN _ ?_; clear hN N
  refine W_forget (fun t => t 1 = .op o1 0 ∧ t 24 = .sc (.int .i64 c.k) ∧ True) (by simp [upd_at, *] <;> (first | rfl | exact ⟨rfl, rfl⟩ | exact ⟨rfl, rfl, rfl⟩)) ?_; rintro t ⟨t1, t24, -⟩
  by_cases k1 : c.k = 1
  · have q1 : (c.k == ((1 : Nat) : Int)) = true := by simpa using k1
    rw [if_pos k1, decide_eq_true (L0 (by omega))] at hS
    rw [W_block]
    (refine W_seq_gen fun N hN => ?_); simp (disch := first | omega | (simp only [List.length_cons, List.length_nil, List.length_append, u8s_len]; omega)) only [go_sem, ↓reduceIte, true_and, Nat.reduceLeDiff, Nat.reduceEqDiff, Nat.reduceAdd, Nat.reduceBEq, Int.reduceEq, H.cv_3_5, H.cv_5_3, t1, t24, q1]
    refine hN _ ?_; clear hN N
    by_cases a3 : c.s = noS
    case neg =>
      have a3' := decide_eq_false a3
      simp (disch := first | omega | (simp only [List.length_cons, List.length_nil, List.length_append, u8s_len]; omega)) only [go_sem, ↓reduceIte, true_and, Nat.reduceLeDiff, Nat.reduceEqDiff, Nat.reduceAdd, Nat.reduceBEq, Int.reduceEq, H.cv_3_5, H.cv_5_3, t1, hO.get0, a3']
      exact ⟨by rw [hS, a3', Bool.and_false]; rfl, hO.keep⟩
    have a3' := decide_eq_true a3
    by_cases a2 : c.n ≤ ((9007199254740992 : Nat) : Int)
    case neg =>
      simp (disch := first | omega | (simp only [List.length_cons, List.length_nil, List.length_append, u8s_len]; omega)) only [go_sem, ↓reduceIte, true_and, Nat.reduceLeDiff, Nat.reduceEqDiff, Nat.reduceAdd, Nat.reduceBEq, Int.reduceEq, H.cv_3_5, H.cv_5_3, t1, hO.get0, a2, a3']
      exact ⟨by rw [hS, decide_eq_false (show ¬ c.n ≤ 9007199254740992 from a2), Bool.and_false]; rfl, hO.keep⟩
    have a2' : c.n ≤ 9007199254740992 := a2
    by_cases a1 : c.n ≥ -9007199254740992
    case neg =>
      simp (disch := first | omega | (simp only [List.length_cons, List.length_nil, List.length_append, u8s_len]; omega)) only [go_sem, ↓reduceIte, true_and, Nat.reduceLeDiff, Nat.reduceEqDiff, Nat.reduceAdd, Nat.reduceBEq, Int.reduceEq, H.cv_3_5, H.cv_5_3, t1, hO.get0, a1, a2, a3']
      exact ⟨by rw [hS, decide_eq_false a1]; rfl, hO.keep⟩
    simp (disch := first | omega | (simp only [List.length_cons, List.length_nil, List.length_append, u8s_len]; omega)) only [go_sem, ↓reduceIte, true_and, Nat.reduceLeDiff, Nat.reduceEqDiff, Nat.reduceAdd, Nat.reduceBEq, Int.reduceEq, H.cv_3_5, H.cv_5_3, t1, hO.get0, a1, a2, a3']
    exact ⟨by rw [hS, decide_eq_true a1, decide_eq_true a2', a3']; rfl, hO.keep⟩
  have q1 : (c.k == ((1 : Nat) : Int)) = false := by simpa using k1
  rw [if_neg k1] at hS
  by_cases k2 : c.k = 2
  · have q2 : (c.k == ((2 : Nat) : Int)) = true := by simpa using k2
    rw [if_pos k2, decide_eq_true (L0 (by omega))] at hS
    rw [W_block]
    (refine W_seq_gen fun N hN => ?_); simp (disch := first | omega | (simp only [List.length_cons, List.length_nil, List.length_append, u8s_len]; omega)) only [go_sem, ↓reduceIte, true_and, Nat.reduceLeDiff, Nat.reduceEqDiff, Nat.reduceAdd, Nat.reduceBEq, Int.reduceEq, H.cv_3_5, H.cv_5_3, t1, t24, q1]
    refine hN _ ?_; clear hN N
    by_cases a1 : c.n = 0
    case neg =>
      have a1' : (c.n == ((0 : Nat) : Int)) = false := by simpa using a1
      simp (disch := first | omega | (simp only [List.length_cons, List.length_nil, List.length_append, u8s_len]; omega)) only [go_sem, ↓reduceIte, true_and, Nat.reduceLeDiff, Nat.reduceEqDiff, Nat.reduceAdd, Nat.reduceBEq, Int.reduceEq, H.cv_3_5, H.cv_5_3, t1, t24, q2, hO.get0, a1']
      exact ⟨by rw [hS, decide_eq_false a1]; rfl, hO.keep⟩
    have a1' : (c.n == ((0 : Nat) : Int)) = true := by simpa using a1
    simp (disch := first | omega | (simp only [List.length_cons, List.length_nil, List.length_append, u8s_len]; omega)) only [go_sem, ↓reduceIte, true_and, Nat.reduceLeDiff, Nat.reduceEqDiff, Nat.reduceAdd, Nat.reduceBEq, Int.reduceEq, H.cv_3_5, H.cv_5_3, t1, t24, q2, hO.get0, a1']
    exact ⟨by rw [hS, decide_eq_true a1]; rfl, hO.keep⟩
  have q2 : (c.k == ((2 : Nat) : Int)) = false := by simpa using k2
  rw [if_neg k2] at hS
  by_cases k3 : c.k = 3
  · have q3 : (c.k == ((3 : Nat) : Int)) = true := by simpa using k3
    rw [if_pos k3, hz, Bool.and_true] at hS
    rw [W_block]
    (refine W_seq_gen fun N hN => ?_); simp (disch := first | omega | (simp only [List.length_cons, List.length_nil, List.length_append, u8s_len]; omega)) only [go_sem, ↓reduceIte, true_and, Nat.reduceLeDiff, Nat.reduceEqDiff, Nat.reduceAdd, Nat.reduceBEq, Int.reduceEq, H.cv_3_5, H.cv_5_3, t1, t24, q1]
    refine hN _ ?_; clear hN N
    by_cases a1 : c.n = 0
    case neg =>
      have a1' : (c.n == ((0 : Nat) : Int)) = false := by simpa using a1
      simp (disch := first | omega | (simp only [List.length_cons, List.length_nil, List.length_append, u8s_len]; omega)) only [go_sem, ↓reduceIte, true_and, Nat.reduceLeDiff, Nat.reduceEqDiff, Nat.reduceAdd, Nat.reduceBEq, Int.reduceEq, H.cv_3_5, H.cv_5_3, t1, t24, q2, q3, hO.get0, a1']
      exact ⟨by rw [hS, decide_eq_false a1]; rfl, hO.keep⟩
    have a1' : (c.n == ((0 : Nat) : Int)) = true := by simpa using a1
    by_cases a3 : c.s = noS
    case neg =>
      have a3' := decide_eq_false a3
      simp (disch := first | omega | (simp only [List.length_cons, List.length_nil, List.length_append, u8s_len]; omega)) only [go_sem, ↓reduceIte, true_and, Nat.reduceLeDiff, Nat.reduceEqDiff, Nat.reduceAdd, Nat.reduceBEq, Int.reduceEq, H.cv_3_5, H.cv_5_3, t1, t24, q2, q3, hO.get0, a1', a3']
      exact ⟨by rw [hS, a3', Bool.and_false], hO.keep⟩
    have a3' := decide_eq_true a3
    simp (disch := first | omega | (simp only [List.length_cons, List.length_nil, List.length_append, u8s_len]; omega)) only [go_sem, ↓reduceIte, true_and, Nat.reduceLeDiff, Nat.reduceEqDiff, Nat.reduceAdd, Nat.reduceBEq, Int.reduceEq, H.cv_3_5, H.cv_5_3, t1, t24, q2, q3, hO.get0, a1', a3']
    exact ⟨by rw [hS, decide_eq_true a1, a3']; rfl, hO.keep⟩
  have q3 : (c.k == ((3 : Nat) : Int)) = false := by simpa using k3
  rw [if_neg k3] at hS
  rw [W_block]
  (refine W_seq_gen fun N hN => ?_); simp (disch := first | omega | (simp only [List.length_cons, List.length_nil, List.length_append, u8s_len]; omega)) only [go_sem, ↓reduceIte, true_and, Nat.reduceLeDiff, Nat.reduceEqDiff, Nat.reduceAdd, Nat.reduceBEq, Int.reduceEq, H.cv_3_5, H.cv_5_3, t1, t24, q1]
  refine hN _ ?_; clear hN N
  simp (disch := first | omega | (simp only [List.length_cons, List.length_nil, List.length_append, u8s_len]; omega)) only [go_sem, ↓reduceIte, true_and, Nat.reduceLeDiff, Nat.reduceEqDiff, Nat.reduceAdd, Nat.reduceBEq, Int.reduceEq, H.cv_3_5, H.cv_5_3, t24, q2, q3]
  refine hM _ ?_; clear hM M
  simp (disch := first | omega | (simp only [List.length_cons, List.length_nil, List.length_append, u8s_len]; omega)) only [go_sem, ↓reduceIte, true_and, Nat.reduceLeDiff, Nat.reduceEqDiff, Nat.reduceAdd, Nat.reduceBEq, Int.reduceEq, H.cv_3_5, H.cv_5_3]
  rw [hS]
  exact ⟨rfl, hO.keep⟩
theorem rcheck_ok {c : Cel} {cs : List AV} (hce : CE cs c) (h : Heap) : AWF P ann 0 23 [.ag cs] h fun r h' => r = errN (checkS c) ∧ h' = h := by
  obtain ⟨v, es, rfl, hv, hl, hf⟩ := id hce.out
  have hS := check_ref c
  refine AWF.fnPurec H.f0_23 rfl ?_
  have hO := OB.nil (h := h)
  (refine W_seq_gen fun N hN => ?_); simp (disch := first | omega | (simp only [List.length_cons, List.length_nil, List.length_append, u8s_len]; omega)) only [go_sem, ↓reduceIte, true_and, Nat.reduceLeDiff, Nat.reduceEqDiff, Nat.reduceAdd, Nat.reduceBEq, Int.reduceEq, H.cv_3_5, H.cv_5_3, hv.disc, hv.same]
  intro o1 h1
  refine hN _ ?_; clear hN N; refine W_ob (hO.new h1) fun hc hO => ?_
  refine W_forget (fun t => t 1 = .op o1 0 ∧ True) (by simp [upd_at, *] <;> (first | rfl | exact ⟨rfl, rfl⟩ | exact ⟨rfl, rfl, rfl⟩)) ?_; rintro t ⟨t1, -⟩
  (refine W_seq_gen fun N hN => ?_); simp (disch := first | omega | (simp only [List.length_cons, List.length_nil, List.length_append, u8s_len]; omega)) only [go_sem, ↓reduceIte, true_and, Nat.reduceLeDiff, Nat.reduceEqDiff, Nat.reduceAdd, Nat.reduceBEq, Int.reduceEq, H.cv_3_5, H.cv_5_3, t1, hO.get0, hv.disc, hv.same]
  refine (depth_ok H 13 c _ (by omega) hce _).mono ?_
  rintro _ _ ⟨rfl, hh⟩; subst hh
  by_cases c1 : depthS 13 c > 12
  · rw [contK_some]; simp (disch := first | omega | (simp only [List.length_cons, List.length_nil, List.length_append, u8s_len]; omega)) only [go_sem, ↓reduceIte, true_and, Nat.reduceLeDiff, Nat.reduceEqDiff, Nat.reduceAdd, Nat.reduceBEq, Int.reduceEq, H.cv_3_5, H.cv_5_3, c1]
    rw [hS, if_pos c1]
    exact ⟨rfl, hO.keep⟩
  rw [if_neg c1] at hS
  rw [contK_some]; simp (disch := first | omega | (simp only [List.length_cons, List.length_nil, List.length_append, u8s_len]; omega)) only [go_sem, ↓reduceIte, true_and, Nat.reduceLeDiff, Nat.reduceEqDiff, Nat.reduceAdd, Nat.reduceBEq, Int.reduceEq, H.cv_3_5, H.cv_5_3, c1]
  refine hN _ ?_; clear hN N
  (refine W_seq_gen fun N hN => ?_); simp (disch := first | omega | (simp only [List.length_cons, List.length_nil, List.length_append, u8s_len]; omega)) only [go_sem, ↓reduceIte, true_and, Nat.reduceLeDiff, Nat.reduceEqDiff, Nat.reduceAdd, Nat.reduceBEq, Int.reduceEq, H.cv_3_5, H.cv_5_3, t1, hO.get0, hv.disc, hv.same]
  refine (kind_ok H c _ hce _).mono ?_
  rintro _ _ ⟨rfl, hh⟩; subst hh
  cases hp : pureS c with
  | false =>
    rw [contK_some]; simp (disch := first | omega | (simp only [List.length_cons, List.length_nil, List.length_append, u8s_len]; omega)) only [go_sem, ↓reduceIte, true_and, Nat.reduceLeDiff, Nat.reduceEqDiff, Nat.reduceAdd, Nat.reduceBEq, Int.reduceEq, H.cv_3_5, H.cv_5_3]
    rw [hS, hp]
    exact ⟨rfl, hO.keep⟩
  | true =>
    rw [hp, if_pos rfl] at hS
    rw [contK_some]; simp (disch := first | omega | (simp only [List.length_cons, List.length_nil, List.length_append, u8s_len]; omega)) only [go_sem, ↓reduceIte, true_and, Nat.reduceLeDiff, Nat.reduceEqDiff, Nat.reduceAdd, Nat.reduceBEq, Int.reduceEq, H.cv_3_5, H.cv_5_3]
    refine hN _ ?_; clear hN N
    (refine W_seq_gen fun N hN => ?_); simp (disch := first | omega | (simp only [List.length_cons, List.length_nil, List.length_append, u8s_len]; omega)) only [go_sem, ↓reduceIte, true_and, Nat.reduceLeDiff, Nat.reduceEqDiff, Nat.reduceAdd, Nat.reduceBEq, Int.reduceEq, H.cv_3_5, H.cv_5_3, t1, hO.get0, hv.disc, hv.same]
    refine (many_ok H c _ ((0 : Nat) : Int) (by omega) (by omega) hce _).mono ?_
    rintro _ _ ⟨rfl, hh⟩; subst hh
    have h00 : ((0 : Nat) : Int) = 0 := rfl
    rw [h00]
    by_cases c2 : manyS c 0 > ((4096 : Nat) : Int)
    · rw [contK_some]; simp (disch := first | omega | (simp only [List.length_cons, List.length_nil, List.length_append, u8s_len]; omega)) only [go_sem, ↓reduceIte, true_and, Nat.reduceLeDiff, Nat.reduceEqDiff, Nat.reduceAdd, Nat.reduceBEq, Int.reduceEq, H.cv_3_5, H.cv_5_3, c2]
      rw [hS, if_pos (show 4096 < manyS c 0 from c2)]
      exact ⟨rfl, hO.keep⟩
    · rw [contK_some]; simp (disch := first | omega | (simp only [List.length_cons, List.length_nil, List.length_append, u8s_len]; omega)) only [go_sem, ↓reduceIte, true_and, Nat.reduceLeDiff, Nat.reduceEqDiff, Nat.reduceAdd, Nat.reduceBEq, Int.reduceEq, H.cv_3_5, H.cv_5_3, c2]
      refine hN _ ?_; clear hN N
      simp (disch := first | omega | (simp only [List.length_cons, List.length_nil, List.length_append, u8s_len]; omega)) only [go_sem, ↓reduceIte, true_and, Nat.reduceLeDiff, Nat.reduceEqDiff, Nat.reduceAdd, Nat.reduceBEq, Int.reduceEq, H.cv_3_5, H.cv_5_3]
      rw [hS, if_neg (show ¬ 4096 < manyS c 0 from c2)]
      exact ⟨rfl, hO.keep⟩
end Go.Proofs.Ytjebhcflpibkkaa
end

section
set_option linter.unusedVariables false
set_option linter.unusedSimpArgs false
namespace Go.Proofs.Ytjebhcflpibkkaa
open Go.Am
theorem sb_rem128 {P : Program} {ty : TypeId} {k : IntKind} {n : Nat} : scalarBin P .rem ty (.int k n) (.int k ((128 : Nat) : Int)) = some (.int k ((n % 128 : Nat) : Int)) := by
  rw [sb_rem (by decide)]
  rfl
theorem sb_quo128 {P : Program} {ty : TypeId} {n : Nat} (h : n < 2 ^ 63) : scalarBin P .quo ty (.int .i64 n) (.int .i64 ((128 : Nat) : Int)) = some (.int .i64 ((n / 128 : Nat) : Int)) := by
  rw [sb_quo (by decide)]
  have : ((n : Nat) : Int).tdiv ((128 : Nat) : Int) = ((n / 128 : Nat) : Int) := rfl
  rw [this, wrap_i64u (by omega) (by omega)]
def rnumV (n : Nat) : AV := if n < 128 then .bs true 1 (u8s [UInt8.ofNat n]) (some 1) else catV 1 (u8s (numB (n / 128))) (.bs true 1 (u8s [UInt8.ofNat (n % 128 + 128)]) (some 1))
theorem rnumV_ok (n : Nat) : SG 1 (rnumV n) (u8s (numB n)) := by
  by_cases c : n < 128
  · rw [rnumV, if_pos c, numB_small c]
    exact .inr ⟨_, rfl⟩
  · have hn : numB n = UInt8.ofNat (n % 128 + 128) :: numB (n / 128) := by rw [numB, if_neg c]
    have : SG 1 (.bs true 1 (u8s [UInt8.ofNat (n % 128 + 128)]) (some 1)) (u8s [UInt8.ofNat (n % 128 + 128)]) := .inr ⟨_, rfl⟩
    have := this.cat (u8s (numB (n / 128)))
    rw [u8s_app] at this
    rw [rnumV, if_neg c, hn]
    exact this
/-- Rows of bytes behind a row, one by one. -/
def snocL (v : AV) (ll : List (List UInt8)) : AV := ll.foldl (fun v b => catV 1 (u8s b) v) v
theorem snocL_ok {v : AV} {l : List UInt8} (hv : SG 1 v (u8s l)) : ∀ (ll : List (List UInt8)), SG 1 (snocL v ll) (u8s (l ++ ll.flatten)) := by
  intro ll
  induction ll generalizing v l with
  | nil => rw [List.flatten_nil, List.append_nil]; exact hv
  | cons b ll ih =>
    have := ih (v := catV 1 (u8s b) v) (l := l ++ b) (by rw [← u8s_app]; exact hv.cat _)
    rw [List.append_assoc] at this
    exact this
theorem snocL_snoc (v : AV) (ll : List (List UInt8)) (b : List UInt8) : snocL v (ll ++ [b]) = catV 1 (u8s b) (snocL v ll) := by
  unfold snocL
  rw [List.foldl_append]
  rfl
def headV (c : Cel) : AV := .bs true 1 [[.sc (.int .u8 (((c.k % 256).toNat : Nat) : Int))]] (some 1)
def partsL (c : Cel) : List (List UInt8) := if c.k = 1 then [numB (zig c.n)] else if c.k = 2 then [numB c.s.size, c.s.data.toList] else numB c.l.length :: c.l.map encB
theorem encL_map (l : List Cel) : encL l = (l.map encB).flatten := by
  induction l with
  | nil => rfl
  | cons x l ih => rw [encL, ih]; rfl
theorem encB_parts (c : Cel) : encB c = UInt8.ofNat (c.k % 256).toNat :: (partsL c).flatten := by
  rw [encB_eq, partsL]
  split
  · simp
  · split
    · simp
    · rw [List.flatten_cons, encL_map]
theorem headV_ok (c : Cel) : SG 1 (headV c) (u8s [UInt8.ofNat (c.k % 256).toNat]) := by
  have : u8s [UInt8.ofNat (c.k % 256).toNat] = [[.sc (.int .u8 (((c.k % 256).toNat : Nat) : Int))]] := by simp [u8s]; omega
  rw [this]
  exact .inr ⟨_, rfl⟩
def bytesV (c : Cel) : AV := snocL (headV c) (partsL c)
theorem bytesV_ok (c : Cel) : SG 1 (bytesV c) (u8s (encB c)) := by
  rw [encB_parts]
  exact snocL_ok (headV_ok c) (partsL c)
variable {P : Program} (H : Has P)
include H
theorem rnumber_ok : ∀ (n : Nat), n < 2 ^ 62 → ∀ h, AWF P ann 0 33 [.sc (.int .i64 (n : Nat))] h fun r h' => r = rnumV n ∧ h' = h := by
  intro n
  induction n using Nat.strongRecOn with
  | _ n ih =>
    intro hn h
    refine AWF.fnc H.f0_33 rfl ?_
    have hu : ∀ m : Nat, m < 256 → u8s [UInt8.ofNat m] = [[.sc (.int .u8 ((m : Nat) : Int))]] := fun m hm => by simp [u8s]; omega
    (refine W_seq_gen fun N hN => ?_); simp (disch := first | omega | (simp only [List.length_cons, List.length_nil, List.length_append, u8s_len]; omega)) only [go_sem, ↓reduceIte, true_and, Nat.reduceLeDiff, Nat.reduceEqDiff, Nat.reduceAdd, Nat.reduceBEq, Int.reduceEq, H.cv_3_5, H.cv_5_3]
    refine hN _ ?_; clear hN N
    by_cases c : n < 128
    · have e1 : n % 256 = n := by omega
      (refine W_seq_gen fun N hN => ?_); simp (disch := first | omega | (simp only [List.length_cons, List.length_nil, List.length_append, u8s_len]; omega)) only [go_sem, ↓reduceIte, true_and, Nat.reduceLeDiff, Nat.reduceEqDiff, Nat.reduceAdd, Nat.reduceBEq, Int.reduceEq, H.cv_3_5, H.cv_5_3, c, u8w, e1]
      rw [rnumV, if_pos c, hu n (by omega)]
    have hi := rnumV_ok (n / 128)
    have hlen := numB_len (n := n / 128) (by omega)
    have e1 : (n % 128 + 128) % 256 = n % 128 + 128 := by omega
    have hg : SG 1 (.bs true 1 [[.sc (.int .u8 ((n % 128 + 128 : Nat) : Int))]] (some 1)) (u8s [UInt8.ofNat (n % 128 + 128)]) := by rw [hu _ (by omega)]; exact .inr ⟨_, rfl⟩
    have happ := fun (t : Nat → AV) (h : Heap) => hg.app (t := t) (h := h) (ys := u8s (numB (n / 128))) (bytes := 1) (by simp only [u8s_len, List.length_cons, List.length_nil]; omega)
    (refine W_seq_gen fun N hN => ?_); simp (disch := first | omega | (simp only [List.length_cons, List.length_nil, List.length_append, u8s_len]; omega)) only [go_sem, ↓reduceIte, true_and, Nat.reduceLeDiff, Nat.reduceEqDiff, Nat.reduceAdd, Nat.reduceBEq, Int.reduceEq, H.cv_3_5, H.cv_5_3, c]
    refine hN _ ?_; clear hN N
    simp (disch := first | omega | (simp only [List.length_cons, List.length_nil, List.length_append, u8s_len]; omega)) only [go_sem, ↓reduceIte, true_and, Nat.reduceLeDiff, Nat.reduceEqDiff, Nat.reduceAdd, Nat.reduceBEq, Int.reduceEq, H.cv_3_5, H.cv_5_3, sb_rem128, sb_quo128, nat_add, u8w, e1]
    refine (ih (n / 128) (by omega) (by omega) _).mono ?_
    rintro _ _ ⟨rfl, hh⟩; subst hh
    rw [contK_some]; simp (disch := first | omega | (simp only [List.length_cons, List.length_nil, List.length_append, u8s_len]; omega)) only [go_sem, ↓reduceIte, true_and, Nat.reduceLeDiff, Nat.reduceEqDiff, Nat.reduceAdd, Nat.reduceBEq, Int.reduceEq, H.cv_3_5, H.cv_5_3, hi.sl.elems, hi.sl.dis.elems, happ]
    rw [rnumV, if_neg c, hu _ (by omega)]
theorem rbytes_ok (c : Cel) : ∀ (cs : List AV), CE cs c → okC c → (encB c).length ≤ 2 ^ 40 → ∀ h, AWF P ann 0 24 [.ag cs] h fun r h' => r = bytesV c ∧ h' = h := by
  induction c using Cel.ind with
  | h c ih =>
  intro cs hc hok hlen h
  obtain ⟨v, es, rfl, hv, hl, hf⟩ := hc.out
  have hfl := hf.l
  have hes := hl.len
  obtain ⟨⟨o1, o2⟩, o3, o4⟩ : (-9007199254740992 ≤ c.n ∧ c.n ≤ 9007199254740992) ∧ c.s.size ≤ 65536 ∧ okL c.l := by cases c; rw [okC] at hok; exact hok
  have hE := encB_eq c
  have hP : partsL c = if c.k = 1 then [numB (zig c.n)] else if c.k = 2 then [numB c.s.size, c.s.data.toList] else numB c.l.length :: c.l.map encB := rfl
  have hg := headV_ok c
  have hV : bytesV c = snocL (headV c) (partsL c) := rfl
  refine AWF.fnPurec H.f0_24 rfl ?_
  have hO := OB.nil (h := h)
  (refine W_seq_gen fun N hN => ?_); simp (disch := first | omega | (simp only [List.length_cons, List.length_nil, List.length_append, u8s_len]; omega)) only [go_sem, ↓reduceIte, true_and, Nat.reduceLeDiff, Nat.reduceEqDiff, Nat.reduceAdd, Nat.reduceBEq, Int.reduceEq, H.cv_3_5, H.cv_5_3, hv.disc, hv.same]
  intro o1' h1
  refine hN _ ?_; clear hN N; refine W_ob (hO.new h1) fun hc hO => ?_
  refine W_forget (fun t => t 1 = .op o1' 0 ∧ True) (by simp [upd_at, *] <;> (first | rfl | exact ⟨rfl, rfl⟩ | exact ⟨rfl, rfl, rfl⟩)) ?_; rintro t ⟨t1, -⟩
  (refine W_seq_gen fun N hN => ?_); simp (disch := first | omega | (simp only [List.length_cons, List.length_nil, List.length_append, u8s_len]; omega)) only [go_sem, ↓reduceIte, true_and, Nat.reduceLeDiff, Nat.reduceEqDiff, Nat.reduceAdd, Nat.reduceBEq, Int.reduceEq, H.cv_3_5, H.cv_5_3, t1, hO.get0, u8k]
  refine hN _ ?_; clear hN N
  have hh : AV.bs true 1 [[.sc (.int .u8 (((c.k % 256).toNat : Nat) : Int))]] (some 1) = headV c := rfl
  rw [hh]
  refine W_forget (fun t => t 1 = .op o1' 0 ∧ t 3 = headV c ∧ True) (by simp [upd_at, *] <;> (first | rfl | exact ⟨rfl, rfl⟩ | exact ⟨rfl, rfl, rfl⟩)) ?_; rintro t ⟨t1, t3, -⟩
  (refine W_seq_gen fun M hM => ?_)
  have fin : ∀ (t : Nat → AV) (h' : Heap), t 3 = bytesV c → (∀ o, ¬ h o = none → h' o = h o) → M ⟨t, h'⟩ := by
    clear t1 t3 t hO
    intro t h' t3 hk
    refine hM _ ?_; clear hM M
    simp (disch := first | omega | (simp only [List.length_cons, List.length_nil, List.length_append, u8s_len]; omega)) only [go_sem, ↓reduceIte, true_and, Nat.reduceLeDiff, Nat.reduceEqDiff, Nat.reduceAdd, Nat.reduceBEq, Int.reduceEq, H.cv_3_5, H.cv_5_3, t3]
    exact hk
  clear hM
  (refine W_seq_gen fun K hK => ?_)
  simp (disch := first | omega | (simp only [List.length_cons, List.length_nil, List.length_append, u8s_len]; omega)) only [go_sem, ↓reduceIte, true_and, Nat.reduceLeDiff, Nat.reduceEqDiff, Nat.reduceAdd, Nat.reduceBEq, Int.reduceEq, H.cv_3_5, H.cv_5_3, t1, hO.get0]
  refine hK _ ?_; clear hK K
  refine W_forget (fun t => t 1 = .op o1' 0 ∧ t 3 = headV c ∧ t 11 = .sc (.int .i64 c.k) ∧ True) (by simp [upd_at, *] <;> (first | rfl | exact ⟨rfl, rfl⟩ | exact ⟨rfl, rfl, rfl⟩)) ?_; rintro t ⟨t1, t3, t11, -⟩
  by_cases k1 : c.k = 1
  · have q1 : (c.k == ((1 : Nat) : Int)) = true := by simpa using k1
    rw [if_pos k1] at hE hP
    rw [hP] at hV
    have hz : zig c.n < 2 ^ 62 := by unfold zig; split <;> omega
    have nz := numB_len (n := zig c.n) (by omega)
    have happ := fun (t : Nat → AV) (h : Heap) => hg.app (t := t) (h := h) (ys := u8s (numB (zig c.n))) (bytes := 1) (by simp only [u8s_len, List.length_cons, List.length_nil]; omega)
    have hi := rnumV_ok (zig c.n)
    rw [W_block]
    by_cases c0 : c.n < ((0 : Nat) : Int)
    · have e1 : (0 - c.n) * ((2 : Nat) : Int) - ((1 : Nat) : Int) = ((zig c.n : Nat) : Int) := by unfold zig; rw [if_pos (show c.n < 0 from c0)]; omega
      (refine W_seq_gen fun N hN => ?_); simp (disch := first | omega | (simp only [List.length_cons, List.length_nil, List.length_append, u8s_len]; omega)) only [go_sem, ↓reduceIte, true_and, Nat.reduceLeDiff, Nat.reduceEqDiff, Nat.reduceAdd, Nat.reduceBEq, Int.reduceEq, H.cv_3_5, H.cv_5_3, t11, q1]
      refine hN _ ?_; clear hN N
      simp (disch := first | omega | (simp only [List.length_cons, List.length_nil, List.length_append, u8s_len]; omega)) only [go_sem, ↓reduceIte, true_and, Nat.reduceLeDiff, Nat.reduceEqDiff, Nat.reduceAdd, Nat.reduceBEq, Int.reduceEq, H.cv_3_5, H.cv_5_3, t1, t3, hO.get0, c0, un_neg, e1]
      refine (rnumber_ok H _ hz _).mono ?_
      rintro _ _ ⟨rfl, hh⟩; subst hh
      rw [contK_some]; simp (disch := first | omega | (simp only [List.length_cons, List.length_nil, List.length_append, u8s_len]; omega)) only [go_sem, ↓reduceIte, true_and, Nat.reduceLeDiff, Nat.reduceEqDiff, Nat.reduceAdd, Nat.reduceBEq, Int.reduceEq, H.cv_3_5, H.cv_5_3, hi.sl.elems, hi.sl.dis.elems, happ]
      exact fin _ _ (by rw [hV]; rfl) hO.keep
    · have e1 : c.n * ((2 : Nat) : Int) = ((zig c.n : Nat) : Int) := by unfold zig; rw [if_neg (show ¬ c.n < 0 from c0)]; omega
      (refine W_seq_gen fun N hN => ?_); simp (disch := first | omega | (simp only [List.length_cons, List.length_nil, List.length_append, u8s_len]; omega)) only [go_sem, ↓reduceIte, true_and, Nat.reduceLeDiff, Nat.reduceEqDiff, Nat.reduceAdd, Nat.reduceBEq, Int.reduceEq, H.cv_3_5, H.cv_5_3, t11, q1]
      refine hN _ ?_; clear hN N
      simp (disch := first | omega | (simp only [List.length_cons, List.length_nil, List.length_append, u8s_len]; omega)) only [go_sem, ↓reduceIte, true_and, Nat.reduceLeDiff, Nat.reduceEqDiff, Nat.reduceAdd, Nat.reduceBEq, Int.reduceEq, H.cv_3_5, H.cv_5_3, t1, t3, hO.get0, c0, e1]
      refine (rnumber_ok H _ hz _).mono ?_
      rintro _ _ ⟨rfl, hh⟩; subst hh
      rw [contK_some]; simp (disch := first | omega | (simp only [List.length_cons, List.length_nil, List.length_append, u8s_len]; omega)) only [go_sem, ↓reduceIte, true_and, Nat.reduceLeDiff, Nat.reduceEqDiff, Nat.reduceAdd, Nat.reduceBEq, Int.reduceEq, H.cv_3_5, H.cv_5_3, hi.sl.elems, hi.sl.dis.elems, happ]
      exact fin _ _ (by rw [hV]; rfl) hO.keep
  have q1 : (c.k == ((1 : Nat) : Int)) = false := by simpa using k1
  rw [if_neg k1] at hE hP
  by_cases k2 : c.k = 2
  · have q2 : (c.k == ((2 : Nat) : Int)) = true := by simpa using k2
    rw [if_pos k2] at hE hP
    rw [hP] at hV
    have hsb : c.s = str c.s.data.toList := str_of _
    generalize c.s.data.toList = sb at hsb hV
    have hss : c.s.size = sb.length := by rw [hsb, str_size]
    rw [hss] at hV o3
    rw [hsb] at hO
    have nz := numB_len (n := sb.length) (by omega)
    have happ := fun (t : Nat → AV) (h : Heap) => hg.app (t := t) (h := h) (ys := u8s (numB sb.length)) (bytes := 1) (by simp only [u8s_len, List.length_cons, List.length_nil]; omega)
    have hg2 := hg.cat (u8s (numB sb.length))
    rw [u8s_app] at hg2
    have happ2 := fun (t : Nat → AV) (h : Heap) => hg2.app (t := t) (h := h) (ys := u8s sb) (bytes := 1) (by simp only [u8s_len, List.length_append, List.length_cons, List.length_nil]; omega)
    have hi := rnumV_ok sb.length
    rw [W_block]
    (refine W_seq_gen fun N hN => ?_); simp (disch := first | omega | (simp only [List.length_cons, List.length_nil, List.length_append, u8s_len]; omega)) only [go_sem, ↓reduceIte, true_and, Nat.reduceLeDiff, Nat.reduceEqDiff, Nat.reduceAdd, Nat.reduceBEq, Int.reduceEq, H.cv_3_5, H.cv_5_3, t11, q1]
    refine hN _ ?_; clear hN N
    simp (disch := first | omega | (simp only [List.length_cons, List.length_nil, List.length_append, u8s_len]; omega)) only [go_sem, ↓reduceIte, true_and, Nat.reduceLeDiff, Nat.reduceEqDiff, Nat.reduceAdd, Nat.reduceBEq, Int.reduceEq, H.cv_3_5, H.cv_5_3, t1, t3, t11, q2, hO.get0]
    refine ⟨_, rnumber_ok H _ (by omega) _, ?_⟩
    rw [contK_some]; simp (disch := first | omega | (simp only [List.length_cons, List.length_nil, List.length_append, u8s_len]; omega)) only [go_sem, ↓reduceIte, true_and, Nat.reduceLeDiff, Nat.reduceEqDiff, Nat.reduceAdd, Nat.reduceBEq, Int.reduceEq, H.cv_3_5, H.cv_5_3, t1, hO.get0, hi.sl.elems, hi.sl.dis.elems, happ, happ2]
    exact fin _ _ (by rw [hV]; rfl) hO.keep
  have q2 : (c.k == ((2 : Nat) : Int)) = false := by simpa using k2
  rw [if_neg k2] at hE hP
  rw [hP] at hV
  have nz := numB_len (n := c.l.length) (by omega)
  have happ := fun (t : Nat → AV) (h : Heap) => hg.app (t := t) (h := h) (ys := u8s (numB c.l.length)) (bytes := 1) (by simp only [u8s_len, List.length_cons, List.length_nil]; omega)
  have hi := rnumV_ok c.l.length
  have hlE : (encB c).length = 1 + ((numB c.l.length).length + (encL c.l).length) := by rw [hE, List.length_cons, List.length_append]; omega
  rw [W_block]
  (refine W_seq_gen fun N hN => ?_); simp (disch := first | omega | (simp only [List.length_cons, List.length_nil, List.length_append, u8s_len]; omega)) only [go_sem, ↓reduceIte, true_and, Nat.reduceLeDiff, Nat.reduceEqDiff, Nat.reduceAdd, Nat.reduceBEq, Int.reduceEq, H.cv_3_5, H.cv_5_3, t11, q1]
  refine hN _ ?_; clear hN N
  simp (disch := first | omega | (simp only [List.length_cons, List.length_nil, List.length_append, u8s_len]; omega)) only [go_sem, ↓reduceIte, true_and, Nat.reduceLeDiff, Nat.reduceEqDiff, Nat.reduceAdd, Nat.reduceBEq, Int.reduceEq, H.cv_3_5, H.cv_5_3, t1, t3, t11, q2, hO.get0, hv.disc, hv.same, hv.sl.len, hes]
  refine (rnumber_ok H _ (by omega) _).mono ?_
  rintro _ _ ⟨rfl, hh⟩; subst hh
  rw [contK_some]; simp (disch := first | omega | (simp only [List.length_cons, List.length_nil, List.length_append, u8s_len]; omega)) only [go_sem, ↓reduceIte, true_and, Nat.reduceLeDiff, Nat.reduceEqDiff, Nat.reduceAdd, Nat.reduceBEq, Int.reduceEq, H.cv_3_5, H.cv_5_3, hi.sl.elems, hi.sl.dis.elems, happ]
  have snap : ∀ i, SG 1 (snocL (headV c) (numB c.l.length :: (c.l.take i).map encB)) (u8s ([UInt8.ofNat (c.k % 256).toNat] ++ (numB c.l.length ++ encL (c.l.take i)))) := fun i => by
    have := snocL_ok hg (numB c.l.length :: (c.l.take i).map encB)
    rw [List.flatten_cons, ← encL_map] at this
    exact this
  refine AW_loopN (fun m t h' => ∃ (i : Nat), m = c.l.length - i ∧ i ≤ c.l.length ∧ t 1 = .op o1' 0 ∧ t 3 = snocL (headV c) (numB c.l.length :: (c.l.take i).map encB) ∧ t 5 = .sc (.int .i64 (i : Nat)) ∧
      OB h [(o1', .arr [.sc (.int .i64 c.k), .sc (.int .i64 c.n), .sc (.string c.s), v])] h')
    (n := c.l.length) ⟨0, rfl, Nat.zero_le _, by simp [upd_at, t1], rfl, rfl, hO⟩ ?_
  clear hO t1 t3 t11
  rintro m t h' ⟨i, rfl, hi', t1, t3, t5, hO⟩
  rcases Nat.lt_or_ge i c.l.length with hlt2 | hge
  · obtain ⟨e, he, hce⟩ := hl.lt hlt2
    have hsp := encL_split (l := c.l) i
    have hml := encL_mem (List.getElem_mem hlt2)
    have ihx := ih c.l[i] (List.getElem_mem hlt2) e hce (okL_get hlt2 o4) (by omega)
    have hn : (c.l.take (i + 1)).map encB = (c.l.take i).map encB ++ [encB c.l[i]] := by
      have : c.l.take (i + 1) = c.l.take i ++ [c.l[i]] := by rw [List.take_add_one]; simp [hlt2]
      rw [this, List.map_append, List.map_singleton]
    generalize c.l[i] = x at hce ihx hn hml
    have hbx := bytesV_ok x
    have happ3 := fun (t : Nat → AV) (h : Heap) => (snap i).app (t := t) (h := h) (ys := u8s (encB x)) (bytes := 1) (by simp only [u8s_len, List.length_append, List.length_cons, List.length_nil]; omega)
    obtain ⟨v', es', rfl, hv', hl', hf'⟩ := hce.out
    (refine W_seq_gen fun N hN => ?_); simp (disch := first | omega | (simp only [List.length_cons, List.length_nil, List.length_append, u8s_len]; omega)) only [go_sem, ↓reduceIte, true_and, Nat.reduceLeDiff, Nat.reduceEqDiff, Nat.reduceAdd, Nat.reduceBEq, Int.reduceEq, H.cv_3_5, H.cv_5_3, t1, t5, hlt2, hO.get0, hv.disc, hv.same, hv.sl.len, hes]
    refine hN _ ?_; clear hN N
    (refine W_seq_gen fun N hN => ?_)
    rw [W_block]
    simp (disch := first | omega | (simp only [List.length_cons, List.length_nil, List.length_append, u8s_len]; omega)) only [go_sem, ↓reduceIte, true_and, Nat.reduceLeDiff, Nat.reduceEqDiff, Nat.reduceAdd, Nat.reduceBEq, Int.reduceEq, H.cv_3_5, H.cv_5_3, t1, t3, t5, hO.get0, hv.disc, hv.same, hv.sl.ia, he, hv'.disc, hv'.same]
    refine (ihx _).mono ?_
    rintro _ _ ⟨rfl, hh⟩; subst hh
    rw [contK_some]; simp (disch := first | omega | (simp only [List.length_cons, List.length_nil, List.length_append, u8s_len]; omega)) only [go_sem, ↓reduceIte, true_and, Nat.reduceLeDiff, Nat.reduceEqDiff, Nat.reduceAdd, Nat.reduceBEq, Int.reduceEq, H.cv_3_5, H.cv_5_3, hbx.sl.elems, hbx.sl.dis.elems, happ3]
    refine hN _ ?_; clear hN N
    simp (disch := first | omega | (simp only [List.length_cons, List.length_nil, List.length_append, u8s_len]; omega)) only [go_sem, ↓reduceIte, true_and, Nat.reduceLeDiff, Nat.reduceEqDiff, Nat.reduceAdd, Nat.reduceBEq, Int.reduceEq, H.cv_3_5, H.cv_5_3, t5, nat_add]
    refine ⟨c.l.length - (i + 1), by omega, i + 1, rfl, by omega, t1, ?_, rfl, hO⟩
    rw [hn, ← List.cons_append, snocL_snoc]
  obtain rfl : i = c.l.length := by omega
  rw [List.take_length] at t3
  (refine W_seq_gen fun N hN => ?_); simp (disch := first | omega | (simp only [List.length_cons, List.length_nil, List.length_append, u8s_len]; omega)) only [go_sem, ↓reduceIte, true_and, Nat.reduceLeDiff, Nat.reduceEqDiff, Nat.reduceAdd, Nat.reduceBEq, Int.reduceEq, H.cv_3_5, H.cv_5_3, t1, t5, hO.get0, hv.disc, hv.same, hv.sl.len, hes, Nat.lt_irrefl]
  exact fin _ _ (by rw [hV, ← t3]; simp [upd_at]) hO.keep
end Go.Proofs.Ytjebhcflpibkkaa
end

section
set_option linter.unusedVariables false
set_option linter.unusedSimpArgs false
namespace Go.Proofs.Ytjebhcflpibkkaa
open Go.Am
/-- A count, read loosely; how many bytes it has; 0: it is none. -/
def readG : Nat → Nat → List UInt8 → Nat × Nat
  | _, _, [] => (0, 0)
  | i, n, b :: r => if i < 9 then (if b.toNat < 128 then (n + 128 ^ i * (b.toNat % 128), i + 1) else readG (i + 1) (n + 128 ^ i * (b.toNat % 128)) r) else (0, 0)
def readR (l : List UInt8) : Nat × Nat := readG 0 0 l
theorem pow_bd {i : Nat} (h : i < 9) : 128 ^ i ≤ 2 ^ 56 ∧ 128 ^ (i + 1) = 128 * 128 ^ i ∧ 0 < 128 ^ i := by
  refine ⟨?_, by rw [Nat.pow_succ]; omega, Nat.pow_pos (by decide)⟩
  have : 128 ^ i ≤ 128 ^ 8 := Nat.pow_le_pow_right (by decide) (by omega)
  have e : (128 : Nat) ^ 8 = 2 ^ 56 := by decide
  omega
theorem readG_bd : ∀ (l : List UInt8) (i n : Nat), i ≤ 9 → n < 128 ^ i → (readG i n l).1 < 2 ^ 63 ∧ (readG i n l).2 ≤ 9 ∧ (readG i n l).2 ≤ i + l.length := by
  intro l
  induction l with
  | nil => intro i n _ _; simp [readG]
  | cons b r ih =>
    intro i n hi hn
    rw [readG]
    split
    · rename_i h9
      obtain ⟨p1, p2, p3⟩ := pow_bd h9
      have hb : b.toNat % 128 ≤ 127 := by omega
      have hm : 128 ^ i * (b.toNat % 128) ≤ 128 ^ i * 127 := Nat.mul_le_mul_left _ hb
      split
      · refine ⟨?_, by omega, by simp only [List.length_cons]; omega⟩
        simp only
        omega
      · have := ih (i + 1) (n + 128 ^ i * (b.toNat % 128)) (by omega) (by omega)
        simp only [List.length_cons]
        omega
    · simp
theorem sb_rem8 {P : Program} {ty : TypeId} {n : Nat} : scalarBin P .rem ty (.int .u8 n) (.int .u8 ((128 : Nat) : Int)) = some (.int .u8 ((n % 128 : Nat) : Int)) := by
  rw [sb_rem (by decide)]
  rfl
variable {P : Program} (H : Has P)
include H
theorem read_ok {v : AV} {l : List UInt8} (hv : SF 1 v (u8s l)) (hl : l.length < 2 ^ 60) (h : Heap) : AWF P ann 0 30 [v] h fun r h' => r = .tu [.sc (.int .i64 ((readR l).1 : Nat)), .sc (.int .i64 ((readR l).2 : Nat))] ∧ h' = h := by
  refine AWF.fnc H.f0_30 rfl ?_
  (refine W_seq_gen fun N hN => ?_); simp (disch := first | omega | (simp only [List.length_cons, List.length_nil, List.length_append, u8s_len]; omega)) only [go_sem, ↓reduceIte, true_and, Nat.reduceLeDiff, Nat.reduceEqDiff, Nat.reduceAdd, Nat.reduceBEq, Int.reduceEq, H.cv_3_5, H.cv_5_3]
  refine hN _ ?_; clear hN N
  (refine W_seq_gen fun N hN => ?_); simp (disch := first | omega | (simp only [List.length_cons, List.length_nil, List.length_append, u8s_len]; omega)) only [go_sem, ↓reduceIte, true_and, Nat.reduceLeDiff, Nat.reduceEqDiff, Nat.reduceAdd, Nat.reduceBEq, Int.reduceEq, H.cv_3_5, H.cv_5_3]
  refine hN _ ?_; clear hN N
  refine W_forget (fun t => t 0 = v ∧ t 4 = .sc (.int .i64 ((0 : Nat) : Int)) ∧ t 5 = .sc (.int .i64 ((1 : Nat) : Int)) ∧ True) (by simp [upd_at, *] <;> (first | rfl | exact ⟨rfl, rfl⟩ | exact ⟨rfl, rfl, rfl⟩)) ?_; rintro t ⟨t0, t4, t5, -⟩
  (refine W_seq_gen fun M hM => ?_)
  (refine W_seq_gen fun N hN => ?_); simp (disch := first | omega | (simp only [List.length_cons, List.length_nil, List.length_append, u8s_len]; omega)) only [go_sem, ↓reduceIte, true_and, Nat.reduceLeDiff, Nat.reduceEqDiff, Nat.reduceAdd, Nat.reduceBEq, Int.reduceEq, H.cv_3_5, H.cv_5_3]
  refine hN _ ?_; clear hN N
  simp (disch := first | omega | (simp only [List.length_cons, List.length_nil, List.length_append, u8s_len]; omega)) only [go_sem, ↓reduceIte, true_and, Nat.reduceLeDiff, Nat.reduceEqDiff, Nat.reduceAdd, Nat.reduceBEq, Int.reduceEq, H.cv_3_5, H.cv_5_3]
  refine AW_loopN (fun m t h' => h' = h ∧ ∃ (i n : Nat) (z : Int), m = l.length - i ∧ i ≤ l.length ∧ i ≤ 9 ∧ n < 128 ^ i ∧ (i < 9 → z = ((128 ^ i : Nat) : Int)) ∧ readG i n (l.drop i) = readR l ∧ t 0 = v ∧ t 4 = .sc (.int .i64 (n : Nat)) ∧ t 5 = .sc (.int .i64 z) ∧ t 6 = .sc (.int .i64 (i : Nat)))
    (n := l.length) ⟨rfl, 0, 0, _, rfl, Nat.zero_le _, by omega, by decide, fun _ => rfl, rfl, by simp [upd_at, t0], by simp [upd_at, t4], by simp [upd_at, t5] <;> rfl, rfl⟩ ?_
  clear t0 t4 t5
  rintro m t h' ⟨rfl, i, n, z, rfl, hi, hi9, hn, hz, hr, t0, t4, t5, t6⟩
  rcases Nat.lt_or_ge i l.length with hlt | hge
  · rw [List.drop_eq_getElem_cons hlt, readG] at hr
    by_cases c9 : i < 9
    · obtain ⟨p1, p2, p3⟩ := pow_bd c9
      have hzz := hz c9
      subst hzz
      rw [if_pos c9] at hr
      have g0 := u8s_get hlt
      generalize hb : l[i] = b at hr g0
      have hb256 : b.toNat < 256 := b.toNat_lt
      have hm : 128 ^ i * (b.toNat % 128) ≤ 128 ^ i * 127 := Nat.mul_le_mul_left _ (by omega)
      have hme : ((128 ^ i : Nat) : Int) * ((b.toNat % 128 : Nat) : Int) = ((128 ^ i * (b.toNat % 128) : Nat) : Int) := by push_cast; rfl
      have hue : ((128 ^ i : Nat) : Int) * ((128 : Nat) : Int) = ((128 ^ (i + 1) : Nat) : Int) := by rw [p2]; push_cast; omega
      generalize hX : 128 ^ i * (b.toNat % 128) = X at hm hme hr
      generalize hU : 128 ^ i = u at *
      (refine W_seq_gen fun N hN => ?_); simp (disch := first | omega | (simp only [List.length_cons, List.length_nil, List.length_append, u8s_len]; omega)) only [go_sem, ↓reduceIte, true_and, Nat.reduceLeDiff, Nat.reduceEqDiff, Nat.reduceAdd, Nat.reduceBEq, Int.reduceEq, H.cv_3_5, H.cv_5_3, t0, t6, hlt, c9, hv.same, hv.disc, hv.sl.len, u8s_len]
      refine hN _ ?_; clear hN N
      (refine W_seq_gen fun N hN => ?_)
      rw [W_block]
      (refine W_seq_gen fun N hN => ?_); simp (disch := first | omega | (simp only [List.length_cons, List.length_nil, List.length_append, u8s_len]; omega)) only [go_sem, ↓reduceIte, true_and, Nat.reduceLeDiff, Nat.reduceEqDiff, Nat.reduceAdd, Nat.reduceBEq, Int.reduceEq, H.cv_3_5, H.cv_5_3, t0, t4, t5, t6, hv.same, hv.disc, hv.sl.ia, g0, sb_rem8, hme, nat_add]
      refine hN _ ?_; clear hN N
      by_cases c1 : b.toNat < 128
      · rw [if_pos c1] at hr
        (refine W_seq_gen fun N hN => ?_); simp (disch := first | omega | (simp only [List.length_cons, List.length_nil, List.length_append, u8s_len]; omega)) only [go_sem, ↓reduceIte, true_and, Nat.reduceLeDiff, Nat.reduceEqDiff, Nat.reduceAdd, Nat.reduceBEq, Int.reduceEq, H.cv_3_5, H.cv_5_3, t0, t6, hv.same, hv.disc, hv.sl.ia, g0, c1, nat_add]
        rw [← hr]
      · rw [if_neg c1] at hr
        (refine W_seq_gen fun N hN => ?_); simp (disch := first | omega | (simp only [List.length_cons, List.length_nil, List.length_append, u8s_len]; omega)) only [go_sem, ↓reduceIte, true_and, Nat.reduceLeDiff, Nat.reduceEqDiff, Nat.reduceAdd, Nat.reduceBEq, Int.reduceEq, H.cv_3_5, H.cv_5_3, t0, t6, hv.same, hv.disc, hv.sl.ia, g0, c1]
        refine hN _ ?_; clear hN N
        simp (disch := first | omega | (simp only [List.length_cons, List.length_nil, List.length_append, u8s_len]; omega)) only [go_sem, ↓reduceIte, true_and, Nat.reduceLeDiff, Nat.reduceEqDiff, Nat.reduceAdd, Nat.reduceBEq, Int.reduceEq, H.cv_3_5, H.cv_5_3, t5, hue]
        refine hN _ ?_; clear hN N
        simp (disch := first | omega | (simp only [List.length_cons, List.length_nil, List.length_append, u8s_len]; omega)) only [go_sem, ↓reduceIte, true_and, Nat.reduceLeDiff, Nat.reduceEqDiff, Nat.reduceAdd, Nat.reduceBEq, Int.reduceEq, H.cv_3_5, H.cv_5_3, t6, nat_add]
        exact ⟨l.length - (i + 1), by omega, i + 1, n + X, _, rfl, by omega, by omega, by omega, fun h9 => by
          obtain ⟨q1, _, _⟩ := pow_bd h9
          exact wrap_i64u (by omega) (by omega), hr, t0, rfl, rfl, rfl⟩
    · rw [if_neg c9] at hr
      (refine W_seq_gen fun N hN => ?_); simp (disch := first | omega | (simp only [List.length_cons, List.length_nil, List.length_append, u8s_len]; omega)) only [go_sem, ↓reduceIte, true_and, Nat.reduceLeDiff, Nat.reduceEqDiff, Nat.reduceAdd, Nat.reduceBEq, Int.reduceEq, H.cv_3_5, H.cv_5_3, t0, t6, hlt, c9, hv.same, hv.disc, hv.sl.len, u8s_len]
      refine hM _ ?_; clear hN N hM M
      simp (disch := first | omega | (simp only [List.length_cons, List.length_nil, List.length_append, u8s_len]; omega)) only [go_sem, ↓reduceIte, true_and, Nat.reduceLeDiff, Nat.reduceEqDiff, Nat.reduceAdd, Nat.reduceBEq, Int.reduceEq, H.cv_3_5, H.cv_5_3]
      rw [← hr]
  rw [List.drop_eq_nil_of_le hge, readG] at hr
  obtain rfl : i = l.length := by omega
  (refine W_seq_gen fun N hN => ?_); simp (disch := first | omega | (simp only [List.length_cons, List.length_nil, List.length_append, u8s_len]; omega)) only [go_sem, ↓reduceIte, true_and, Nat.reduceLeDiff, Nat.reduceEqDiff, Nat.reduceAdd, Nat.reduceBEq, Int.reduceEq, H.cv_3_5, H.cv_5_3, t0, t6, hv.same, hv.disc, hv.sl.len, u8s_len, Nat.lt_irrefl]
  refine hM _ ?_; clear hN N hM M
  simp (disch := first | omega | (simp only [List.length_cons, List.length_nil, List.length_append, u8s_len]; omega)) only [go_sem, ↓reduceIte, true_and, Nat.reduceLeDiff, Nat.reduceEqDiff, Nat.reduceAdd, Nat.reduceBEq, Int.reduceEq, H.cv_3_5, H.cv_5_3]
  rw [← hr]
end Go.Proofs.Ytjebhcflpibkkaa
end

section
set_option linter.unusedVariables false
set_option linter.unusedSimpArgs false
namespace Go.Proofs.Ytjebhcflpibkkaa
open Go.Am
def rlistF (f : List UInt8 → Nat → Option (Cel × List UInt8 × Nat)) : Nat → List UInt8 → Nat → Option (List Cel × List UInt8 × Nat)
  | 0, b, left => some ([], b, left)
  | n + 1, b, left => match f b left with
    | none => none
    | some (x, b1, l1) => match rlistF f n b1 l1 with
      | none => none
      | some (xs, b2, l2) => some (x :: xs, b2, l2)
def numOf (n : Nat) : Int := if n % 2 = 1 then -((n / 2 : Nat) : Int) - 1 else ((n / 2 : Nat) : Int)
def rcellS : Nat → List UInt8 → Nat → Option (Cel × List UInt8 × Nat)
  | 0, _, _ => none
  | d + 1, b, left =>
    if b.length < 2 ∨ left < 1 then none
    else if (readR (b.drop 1)).2 = 0 then none
    else if (b.headD 0).toNat = 1 then some (.mk 1 (numOf (readR (b.drop 1)).1) noS [], b.drop (1 + (readR (b.drop 1)).2), left - 1)
    else if (b.headD 0).toNat = 2 then (if (b.drop (1 + (readR (b.drop 1)).2)).length < (readR (b.drop 1)).1 then none
      else some (.mk 2 0 (str ((b.drop (1 + (readR (b.drop 1)).2)).take (readR (b.drop 1)).1)) [], (b.drop (1 + (readR (b.drop 1)).2)).drop (readR (b.drop 1)).1, left - 1))
    else if (b.headD 0).toNat = 3 then match rlistF (rcellS d) (readR (b.drop 1)).1 (b.drop (1 + (readR (b.drop 1)).2)) (left - 1) with
      | none => none
      | some (xs, b2, l2) => some (.mk 3 0 noS xs, b2, l2)
    else none
theorem rlistF_bd {f : List UInt8 → Nat → Option (Cel × List UInt8 × Nat)} (hf : ∀ b l c b' l', f b l = some (c, b', l') → l' + 1 ≤ l ∧ b'.length ≤ b.length) :
    ∀ n b l xs b' l', rlistF f n b l = some (xs, b', l') → xs.length + l' ≤ l ∧ b'.length ≤ b.length ∧ xs.length = n := by
  intro n
  induction n with
  | zero => intro b l xs b' l' h; simp only [rlistF, Option.some.injEq, Prod.mk.injEq] at h; obtain ⟨rfl, rfl, rfl⟩ := h; simp
  | succ n ih =>
    intro b l xs b' l' h
    rw [rlistF] at h
    split at h
    · cases h
    · rename_i x b1 l1 h1
      split at h
      · cases h
      · rename_i ys b2 l2 h2
        simp only [Option.some.injEq, Prod.mk.injEq] at h
        obtain ⟨rfl, rfl, rfl⟩ := h
        have a := hf _ _ _ _ _ h1
        have c := ih _ _ _ _ _ h2
        simp only [List.length_cons]
        omega
theorem rcellS_bd : ∀ d b l c b' l', rcellS d b l = some (c, b', l') → l' + 1 ≤ l ∧ b'.length ≤ b.length := by
  intro d
  induction d with
  | zero => intro b l c b' l' h; cases h
  | succ d ih =>
    intro b l c b' l' h
    rw [rcellS] at h
    split at h
    · cases h
    rename_i h0
    split at h
    · cases h
    split at h
    · simp only [Option.some.injEq, Prod.mk.injEq] at h
      obtain ⟨_, rfl, rfl⟩ := h
      simp only [List.length_drop]; omega
    split at h
    · split at h
      · cases h
      · simp only [Option.some.injEq, Prod.mk.injEq] at h
        obtain ⟨_, rfl, rfl⟩ := h
        simp only [List.length_drop]; omega
    split at h
    · split at h
      · cases h
      · rename_i xs b2 l2 h2
        simp only [Option.some.injEq, Prod.mk.injEq] at h
        obtain ⟨_, rfl, rfl⟩ := h
        have := rlistF_bd ih _ _ _ _ _ _ h2
        simp only [List.length_drop] at this
        omega
    · cases h
/-- What reading comes to. -/
def RcR (o : Option (Cel × List UInt8 × Nat)) (r : AV) : Prop := match o with
  | none => r = .tu [.ag [.sc (.int .i64 ((0 : Nat) : Int)), .sc (.int .i64 ((0 : Nat) : Int)), .sc (.string noS), .sc (.slice none 0 0)], .sc (.slice none 0 0), .sc (.int .i64 (-1))]
  | some (c, b, l) => ∃ cs v, r = .tu [.ag cs, v, .sc (.int .i64 (l : Nat))] ∧ CE cs c ∧ SF 1 v (u8s b)
theorem sl_cellsD {sz v es} (h : SL sz v es) : v.cellsD = [v] := by rcases h with ⟨rfl, _⟩ | ⟨o, l, rfl⟩ <;> rfl
variable {P : Program} (H : Has P)
include H
theorem rcell_ok : ∀ (d : Nat), d < 2 ^ 60 → ∀ (v : AV) (b : List UInt8) (left : Nat), SF 1 v (u8s b) → b.length < 2 ^ 40 → left < 2 ^ 40 → ∀ h, AWF P ann 0 22 [v, .sc (.int .i64 (left : Nat)), .sc (.int .i64 (d : Nat))] h fun r h' => RcR (rcellS d b left) r ∧ h' = h := by
  intro d
  induction d with
  | zero =>
    intro _ v b left hv hb hleft h
    refine AWF.fnPurec H.f0_22 rfl ?_
    have hO := OB.nil (h := h)
    (refine W_seq_gen fun N hN => ?_); simp (disch := first | omega | (simp only [List.length_cons, List.length_nil, List.length_append, u8s_len]; omega)) only [go_sem, ↓reduceIte, true_and, Nat.reduceLeDiff, Nat.reduceEqDiff, Nat.reduceAdd, Nat.reduceBEq, Int.reduceEq, H.cv_3_5, H.cv_5_3]
    intro o6 h6
    refine hN _ ?_; clear hN N; refine W_ob (hO.new h6) fun hc hO => ?_
    refine W_forget (fun t => t 0 = v ∧ t 1 = .sc (.int .i64 (left : Nat)) ∧ t 2 = .sc (.int .i64 ((0 : Nat) : Int)) ∧ t 6 = .op o6 0 ∧ True) (by simp [upd_at, *] <;> (first | rfl | exact ⟨rfl, rfl⟩ | exact ⟨rfl, rfl, rfl⟩)) ?_; rintro t ⟨t0, t1, t2, t6, -⟩
    by_cases c1 : b.length < 2
    · (refine W_seq_gen fun N hN => ?_); simp (disch := first | omega | (simp only [List.length_cons, List.length_nil, List.length_append, u8s_len]; omega)) only [go_sem, ↓reduceIte, true_and, Nat.reduceLeDiff, Nat.reduceEqDiff, Nat.reduceAdd, Nat.reduceBEq, Int.reduceEq, H.cv_3_5, H.cv_5_3, t0, t1, t2, t6, hv.same, hv.disc, hv.sl.len, u8s_len, c1, hO.get0]
      exact ⟨rfl, hO.st0.keep⟩
    by_cases c2 : left < 1
    · (refine W_seq_gen fun N hN => ?_); simp (disch := first | omega | (simp only [List.length_cons, List.length_nil, List.length_append, u8s_len]; omega)) only [go_sem, ↓reduceIte, true_and, Nat.reduceLeDiff, Nat.reduceEqDiff, Nat.reduceAdd, Nat.reduceBEq, Int.reduceEq, H.cv_3_5, H.cv_5_3, t0, t1, t2, t6, hv.same, hv.disc, hv.sl.len, u8s_len, c1, c2, hO.get0]
      exact ⟨rfl, hO.st0.keep⟩
    have c3 : (0 : Nat) < 1 := by decide
    (refine W_seq_gen fun N hN => ?_); simp (disch := first | omega | (simp only [List.length_cons, List.length_nil, List.length_append, u8s_len]; omega)) only [go_sem, ↓reduceIte, true_and, Nat.reduceLeDiff, Nat.reduceEqDiff, Nat.reduceAdd, Nat.reduceBEq, Int.reduceEq, H.cv_3_5, H.cv_5_3, t0, t1, t2, t6, hv.same, hv.disc, hv.sl.len, u8s_len, c1, c2, c3, hO.get0]
    exact ⟨rfl, hO.st0.keep⟩
  | succ d ih =>
    intro hd v b left hv hb hleft h
    have hS : rcellS (d + 1) b left = if b.length < 2 ∨ left < 1 then none
      else if (readR (b.drop 1)).2 = 0 then none
      else if (b.headD 0).toNat = 1 then some (.mk 1 (numOf (readR (b.drop 1)).1) noS [], b.drop (1 + (readR (b.drop 1)).2), left - 1)
      else if (b.headD 0).toNat = 2 then (if (b.drop (1 + (readR (b.drop 1)).2)).length < (readR (b.drop 1)).1 then none
        else some (.mk 2 0 (str ((b.drop (1 + (readR (b.drop 1)).2)).take (readR (b.drop 1)).1)) [], (b.drop (1 + (readR (b.drop 1)).2)).drop (readR (b.drop 1)).1, left - 1))
      else if (b.headD 0).toNat = 3 then match rlistF (rcellS d) (readR (b.drop 1)).1 (b.drop (1 + (readR (b.drop 1)).2)) (left - 1) with
        | none => none
        | some (xs, b2, l2) => some (.mk 3 0 noS xs, b2, l2)
      else none := rfl
    have rb := readG_bd (b.drop 1) 0 0 (by omega) (by decide)
    change (readR (b.drop 1)).1 < _ ∧ (readR (b.drop 1)).2 ≤ 9 ∧ (readR (b.drop 1)).2 ≤ 0 + (b.drop 1).length at rb
    have hread := fun w (hw : SF 1 w (u8s (b.drop 1))) => read_ok H hw (by simp only [List.length_drop]; omega)
    generalize (readR (b.drop 1)).1 = n at hS rb hread
    generalize (readR (b.drop 1)).2 = k at hS rb hread
    generalize rcellS (d + 1) b left = R at hS
    simp only [List.length_drop] at rb
    refine AWF.fnPurec H.f0_22 rfl ?_
    have hO := OB.nil (h := h)
    (refine W_seq_gen fun N hN => ?_); simp (disch := first | omega | (simp only [List.length_cons, List.length_nil, List.length_append, u8s_len]; omega)) only [go_sem, ↓reduceIte, true_and, Nat.reduceLeDiff, Nat.reduceEqDiff, Nat.reduceAdd, Nat.reduceBEq, Int.reduceEq, H.cv_3_5, H.cv_5_3]
    intro o6 h6
    refine hN _ ?_; clear hN N; refine W_ob (hO.new h6) fun hc hO => ?_
    refine W_forget (fun t => t 0 = v ∧ t 1 = .sc (.int .i64 (left : Nat)) ∧ t 2 = .sc (.int .i64 ((d + 1 : Nat) : Int)) ∧ t 6 = .op o6 0 ∧ True) (by simp [upd_at, *] <;> (first | rfl | exact ⟨rfl, rfl⟩ | exact ⟨rfl, rfl, rfl⟩)) ?_; rintro t ⟨t0, t1, t2, t6, -⟩
    by_cases c1 : b.length < 2
    · (refine W_seq_gen fun N hN => ?_); simp (disch := first | omega | (simp only [List.length_cons, List.length_nil, List.length_append, u8s_len]; omega)) only [go_sem, ↓reduceIte, true_and, Nat.reduceLeDiff, Nat.reduceEqDiff, Nat.reduceAdd, Nat.reduceBEq, Int.reduceEq, H.cv_3_5, H.cv_5_3, t0, t1, t2, t6, hv.same, hv.disc, hv.sl.len, u8s_len, c1, hO.get0]
      rw [hS, if_pos (.inl c1)]
      exact ⟨rfl, hO.st0.keep⟩
    by_cases c2 : left < 1
    · (refine W_seq_gen fun N hN => ?_); simp (disch := first | omega | (simp only [List.length_cons, List.length_nil, List.length_append, u8s_len]; omega)) only [go_sem, ↓reduceIte, true_and, Nat.reduceLeDiff, Nat.reduceEqDiff, Nat.reduceAdd, Nat.reduceBEq, Int.reduceEq, H.cv_3_5, H.cv_5_3, t0, t1, t2, t6, hv.same, hv.disc, hv.sl.len, u8s_len, c1, c2, hO.get0]
      rw [hS, if_pos (.inr c2)]
      exact ⟨rfl, hO.st0.keep⟩
    have c3 : ¬ d + 1 < 1 := by omega
    rw [if_neg (by omega)] at hS
    (refine W_seq_gen fun N hN => ?_); simp (disch := first | omega | (simp only [List.length_cons, List.length_nil, List.length_append, u8s_len]; omega)) only [go_sem, ↓reduceIte, true_and, Nat.reduceLeDiff, Nat.reduceEqDiff, Nat.reduceAdd, Nat.reduceBEq, Int.reduceEq, H.cv_3_5, H.cv_5_3, t0, t1, t2, t6, hv.same, hv.disc, hv.sl.len, u8s_len, c1, c2, c3]
    refine hN _ ?_; clear hN N
    have hcut := hv.sl.drop 1
    rw [u8s_len, u8s_drop] at hcut
    have scut := fun (t : Nat → AV) (h : Heap) => hv.sl.slc_l (t := t) (h := h) (l := 1) (k := .i64) (by rw [u8s_len]; omega)
    rw [u8s_len] at scut
    generalize cutV 1 1 b.length v = w at hcut scut
    (refine W_seq_gen fun N hN => ?_); simp (disch := first | omega | (simp only [List.length_cons, List.length_nil, List.length_append, u8s_len]; omega)) only [go_sem, ↓reduceIte, true_and, Nat.reduceLeDiff, Nat.reduceEqDiff, Nat.reduceAdd, Nat.reduceBEq, Int.reduceEq, H.cv_3_5, H.cv_5_3, t0, hv.same, hv.disc, scut, hcut.same, hcut.disc]
    refine (hread w hcut _).mono ?_
    rintro _ _ ⟨rfl, hh⟩; subst hh
    rw [contK_some]; simp (disch := first | omega | (simp only [List.length_cons, List.length_nil, List.length_append, u8s_len]; omega)) only [go_sem, ↓reduceIte, true_and, Nat.reduceLeDiff, Nat.reduceEqDiff, Nat.reduceAdd, Nat.reduceBEq, Int.reduceEq, H.cv_3_5, H.cv_5_3]
    refine hN _ ?_; clear hN N
    refine W_forget (fun t => t 0 = v ∧ t 1 = .sc (.int .i64 (left : Nat)) ∧ t 2 = .sc (.int .i64 ((d + 1 : Nat) : Int)) ∧ t 6 = .op o6 0 ∧ t 9 = .sc (.int .i64 (n : Nat)) ∧ t 10 = .sc (.int .i64 (k : Nat)) ∧ True) (by simp [upd_at, *] <;> (first | rfl | exact ⟨rfl, rfl⟩ | exact ⟨rfl, rfl, rfl⟩)) ?_; rintro t ⟨t0, t1, t2, t6, t9, t10, -⟩
    by_cases k0 : k = 0
    · (refine W_seq_gen fun N hN => ?_); simp (disch := first | omega | (simp only [List.length_cons, List.length_nil, List.length_append, u8s_len]; omega)) only [go_sem, ↓reduceIte, true_and, Nat.reduceLeDiff, Nat.reduceEqDiff, Nat.reduceAdd, Nat.reduceBEq, Int.reduceEq, H.cv_3_5, H.cv_5_3, t6, t10, k0, hO.get0]
      rw [hS, if_pos k0]
      exact ⟨rfl, hO.st0.keep⟩
    rw [if_neg k0] at hS
    have dk0 : decide (k = 0) = false := decide_eq_false k0
    (refine W_seq_gen fun N hN => ?_); simp (disch := first | omega | (simp only [List.length_cons, List.length_nil, List.length_append, u8s_len]; omega)) only [go_sem, ↓reduceIte, true_and, Nat.reduceLeDiff, Nat.reduceEqDiff, Nat.reduceAdd, Nat.reduceBEq, Int.reduceEq, H.cv_3_5, H.cv_5_3, t10, dk0]
    refine hN _ ?_; clear hN N
    have g0 := u8s_get (l := b) (i := 0) (by omega)
    have hhd : b.headD 0 = b[0]'(by omega) := by cases b with
      | nil => simp at c1
      | cons x r => rfl
    rw [hhd] at hS
    generalize b[0]'(by omega) = b0 at g0 hS
    have hb0 : b0.toNat < 256 := b0.toNat_lt
    (refine W_seq_gen fun N hN => ?_); simp (disch := first | omega | (simp only [List.length_cons, List.length_nil, List.length_append, u8s_len]; omega)) only [go_sem, ↓reduceIte, true_and, Nat.reduceLeDiff, Nat.reduceEqDiff, Nat.reduceAdd, Nat.reduceBEq, Int.reduceEq, H.cv_3_5, H.cv_5_3, t0, hv.same, hv.disc, hv.sl.ia, g0]
    intro o11 h11
    refine hN _ ?_; clear hN N; refine W_ob (hO.new h11) fun hc hO => ?_
    refine W_forget (fun t => t 0 = v ∧ t 1 = .sc (.int .i64 (left : Nat)) ∧ t 2 = .sc (.int .i64 ((d + 1 : Nat) : Int)) ∧ t 6 = .op o6 0 ∧ t 9 = .sc (.int .i64 (n : Nat)) ∧ t 10 = .sc (.int .i64 (k : Nat)) ∧ t 11 = .op o11 0 ∧ True) (by simp [upd_at, *] <;> (first | rfl | exact ⟨rfl, rfl⟩ | exact ⟨rfl, rfl, rfl⟩)) ?_; rintro t ⟨t0, t1, t2, t6, t9, t10, t11, -⟩
    have hcut2 := hv.sl.drop (1 + k)
    rw [u8s_len, u8s_drop] at hcut2
    have scut2 := fun (t : Nat → AV) (h : Heap) => hv.sl.slc_l (t := t) (h := h) (l := 1 + k) (k := .i64) (by rw [u8s_len]; omega)
    rw [u8s_len] at scut2
    generalize cutV 1 (1 + k) b.length v = v1 at hcut2 scut2
    have hl1 : (b.drop (1 + k)).length ≤ b.length := by simp
    generalize b.drop (1 + k) = b1 at hcut2 hS hl1
    (refine W_seq_gen fun N hN => ?_); simp (disch := first | omega | (simp only [List.length_cons, List.length_nil, List.length_append, u8s_len]; omega)) only [go_sem, ↓reduceIte, true_and, Nat.reduceLeDiff, Nat.reduceEqDiff, Nat.reduceAdd, Nat.reduceBEq, Int.reduceEq, H.cv_3_5, H.cv_5_3, t0, t10, hv.same, hv.disc, nat_add, scut2]
    refine hN _ ?_; clear hN N
    refine W_forget (fun t => t 0 = v1 ∧ t 1 = .sc (.int .i64 (left : Nat)) ∧ t 2 = .sc (.int .i64 ((d + 1 : Nat) : Int)) ∧ t 6 = .op o6 0 ∧ t 9 = .sc (.int .i64 (n : Nat)) ∧ t 11 = .op o11 0 ∧ True) (by simp [upd_at, *] <;> (first | rfl | exact ⟨rfl, rfl⟩ | exact ⟨rfl, rfl, rfl⟩)) ?_; rintro t ⟨t0, t1, t2, t6, t9, t11, -⟩
    have sb : ((left : Nat) : Int) - ((1 : Nat) : Int) = ((left - 1 : Nat) : Int) := by omega
    (refine W_seq_gen fun N hN => ?_); simp (disch := first | omega | (simp only [List.length_cons, List.length_nil, List.length_append, u8s_len]; omega)) only [go_sem, ↓reduceIte, true_and, Nat.reduceLeDiff, Nat.reduceEqDiff, Nat.reduceAdd, Nat.reduceBEq, Int.reduceEq, H.cv_3_5, H.cv_5_3, t1, sb]
    refine hN _ ?_; clear hN N
    refine W_forget (fun t => t 0 = v1 ∧ t 1 = .sc (.int .i64 ((left - 1 : Nat) : Int)) ∧ t 2 = .sc (.int .i64 ((d + 1 : Nat) : Int)) ∧ t 6 = .op o6 0 ∧ t 9 = .sc (.int .i64 (n : Nat)) ∧ t 11 = .op o11 0 ∧ True) (by simp [upd_at, *] <;> (first | rfl | exact ⟨rfl, rfl⟩ | exact ⟨rfl, rfl, rfl⟩)) ?_; rintro t ⟨t0, t1, t2, t6, t9, t11, -⟩
    (refine W_seq_gen fun M hM => ?_)
    have fin : ∀ (t : Nat → AV) (h' : Heap) (v2 : AV) (b2 : List UInt8) (l2 : Nat) (kk nn : Int) (ss : ByteArray) (vv : AV) (c : Cel), t 0 = v2 → t 1 = .sc (.int .i64 (l2 : Nat)) → t 6 = .op o6 0 → t 11 = .op o11 0 →
        OB h [(o11, .arr [.sc (.int .i64 kk), .sc (.int .i64 nn), .sc (.string ss), vv]), (o6, .arr [.sc (.int .i64 ((0 : Nat) : Int)), .sc (.int .i64 ((0 : Nat) : Int)), .sc (.string noS), .sc (.slice none 0 0)])] h' →
        SF 1 v2 (u8s b2) → CE [.sc (.int .i64 kk), .sc (.int .i64 nn), .sc (.string ss), vv.dis] c → R = some (c, b2, l2) → vv.disc = vv.dis → vv.dis.disc = vv.dis → vv.dis.dis = vv.dis → M ⟨t, h'⟩ := by
      clear t0 t1 t2 t6 t9 t11 hO
      intro t h' v2 b2 l2 kk nn ss vv c t0 t1 t6 t11 hO hv2 hce hR e1 e2 e3
      refine hM _ ?_; clear hM M
      simp (disch := first | omega | (simp only [List.length_cons, List.length_nil, List.length_append, u8s_len]; omega)) only [go_sem, ↓reduceIte, true_and, Nat.reduceLeDiff, Nat.reduceEqDiff, Nat.reduceAdd, Nat.reduceBEq, Int.reduceEq, H.cv_3_5, H.cv_5_3, t0, t1, t6, t11, hO.get0, hO.get1, hv2.same, hv2.disc, e1, e2, e3]
      rw [hR]
      exact ⟨⟨_, _, rfl, hce, hv2⟩, hO.st1.keep⟩
    clear hM
    (refine W_seq_gen fun K hK => ?_)
    simp (disch := first | omega | (simp only [List.length_cons, List.length_nil, List.length_append, u8s_len]; omega)) only [go_sem, ↓reduceIte, true_and, Nat.reduceLeDiff, Nat.reduceEqDiff, Nat.reduceAdd, Nat.reduceBEq, Int.reduceEq, H.cv_3_5, H.cv_5_3, t11, hO.get0]
    refine hK _ ?_; clear hK K
    refine W_forget (fun t => t 0 = v1 ∧ t 1 = .sc (.int .i64 ((left - 1 : Nat) : Int)) ∧ t 2 = .sc (.int .i64 ((d + 1 : Nat) : Int)) ∧ t 6 = .op o6 0 ∧ t 9 = .sc (.int .i64 (n : Nat)) ∧ t 11 = .op o11 0 ∧ t 47 = .sc (.int .i64 (b0.toNat : Nat)) ∧ True) (by simp [upd_at, *] <;> (first | rfl | exact ⟨rfl, rfl⟩ | exact ⟨rfl, rfl, rfl⟩)) ?_; rintro t ⟨t0, t1, t2, t6, t9, t11, t47, -⟩
    by_cases k1 : b0.toNat = 1
    · rw [if_pos k1] at hS
      rw [k1] at t47 hO
      rw [W_block]
      have e0 : ((n : Nat) : Int).tdiv ((2 : Nat) : Int) = ((n / 2 : Nat) : Int) := rfl
      have er : ((n : Nat) : Int).tmod ((2 : Nat) : Int) = ((n % 2 : Nat) : Int) := rfl
      have e1 : (0 - ((n : Nat) : Int)).tdiv ((2 : Nat) : Int) = -((n / 2 : Nat) : Int) := by rw [Int.zero_sub, Int.neg_tdiv, e0]
      have hnb := rb.1
      have hce : CE [.sc (.int .i64 ((1 : Nat) : Int)), .sc (.int .i64 (numOf n)), .sc (.string noS), (AV.sc (.slice none 0 0)).dis] (.mk 1 (numOf n) noS []) :=
        CE.in (fits_small (by omega) (by unfold numOf; split <;> omega) (by decide) (by decide)) SF.nil RR.nil
      (refine W_seq_gen fun N hN => ?_); simp (disch := first | omega | (simp only [List.length_cons, List.length_nil, List.length_append, u8s_len]; omega)) only [go_sem, ↓reduceIte, true_and, Nat.reduceLeDiff, Nat.reduceEqDiff, Nat.reduceAdd, Nat.reduceBEq, Int.reduceEq, H.cv_3_5, H.cv_5_3, t47]
      refine hN _ ?_; clear hN N
      by_cases c4 : n % 2 = 1
      · have e2 : -((n / 2 : Nat) : Int) - ((1 : Nat) : Int) = numOf n := by rw [numOf, if_pos c4]; omega
        simp (disch := first | omega | (simp only [List.length_cons, List.length_nil, List.length_append, u8s_len]; omega)) only [go_sem, ↓reduceIte, true_and, Nat.reduceLeDiff, Nat.reduceEqDiff, Nat.reduceAdd, Nat.reduceBEq, Int.reduceEq, H.cv_3_5, H.cv_5_3, t9, t11, hO.get0, e0, er, c4, un_neg, e1, e2]
        exact fin _ _ v1 b1 (left - 1) _ _ _ _ _ (by simp [upd_at, t0]) (by simp [upd_at, t1]) (by simp [upd_at, t6]) (by simp [upd_at, t11]) hO.st0 hcut2 hce hS rfl rfl rfl
      · have e2 : ((n / 2 : Nat) : Int) = numOf n := by rw [numOf, if_neg c4]
        have c4' : n % 2 = 0 := by omega
        rw [← e2] at hce hS
        simp (disch := first | omega | (simp only [List.length_cons, List.length_nil, List.length_append, u8s_len]; omega)) only [go_sem, ↓reduceIte, true_and, Nat.reduceLeDiff, Nat.reduceEqDiff, Nat.reduceAdd, Nat.reduceBEq, Int.reduceEq, H.cv_3_5, H.cv_5_3, t9, t11, hO.get0, e0, er, c4']
        exact fin _ _ v1 b1 (left - 1) _ _ _ _ _ (by simp [upd_at, t0]) (by simp [upd_at, t1]) (by simp [upd_at, t6]) (by simp [upd_at, t11]) hO.st0 hcut2 hce hS rfl rfl rfl
    rw [if_neg k1] at hS
    have d1 : decide (b0.toNat = 1) = false := decide_eq_false k1
    by_cases k2 : b0.toNat = 2
    · rw [if_pos k2] at hS
      rw [k2] at t47 hO
      rw [W_block]
      by_cases c5 : b1.length < n
      · (refine W_seq_gen fun N hN => ?_); simp (disch := first | omega | (simp only [List.length_cons, List.length_nil, List.length_append, u8s_len]; omega)) only [go_sem, ↓reduceIte, true_and, Nat.reduceLeDiff, Nat.reduceEqDiff, Nat.reduceAdd, Nat.reduceBEq, Int.reduceEq, H.cv_3_5, H.cv_5_3, t47]
        refine hN _ ?_; clear hN N
        simp (disch := first | omega | (simp only [List.length_cons, List.length_nil, List.length_append, u8s_len]; omega)) only [go_sem, ↓reduceIte, true_and, Nat.reduceLeDiff, Nat.reduceEqDiff, Nat.reduceAdd, Nat.reduceBEq, Int.reduceEq, H.cv_3_5, H.cv_5_3, t0, t6, t9, t47, hcut2.same, hcut2.disc, hcut2.sl.len, u8s_len, c5, hO.get1]
        rw [hS, if_pos c5]
        exact ⟨rfl, hO.st1.keep⟩
      rw [if_neg c5] at hS
      have sx := fun (t : Nat → AV) (h : Heap) => hcut2.sl.slc_u (t := t) (h := h) (u := n) (k := .i64) (by rw [u8s_len]; omega)
      have sy := fun (t : Nat → AV) (h : Heap) => hcut2.sl.slc_l (t := t) (h := h) (l := n) (k := .i64) (by rw [u8s_len]; omega)
      have bx := hcut2.sl.take n
      have by' := hcut2.sl.drop n
      rw [u8s_take] at bx
      rw [u8s_len] at sy
      rw [u8s_len, u8s_drop] at by'
      generalize cutV 1 0 n v1 = x2 at sx bx
      generalize cutV 1 n b1.length v1 = y2 at sy by'
      have hce : CE [.sc (.int .i64 ((2 : Nat) : Int)), .sc (.int .i64 ((0 : Nat) : Int)), .sc (.string (str (b1.take n))), (AV.sc (.slice none 0 0)).dis] (.mk 2 0 (str (b1.take n)) []) :=
        CE.in (fits_small (by omega) (by omega) (by rw [str_size, List.length_take]; omega) (by decide)) SF.nil RR.nil
      (refine W_seq_gen fun N hN => ?_); simp (disch := first | omega | (simp only [List.length_cons, List.length_nil, List.length_append, u8s_len]; omega)) only [go_sem, ↓reduceIte, true_and, Nat.reduceLeDiff, Nat.reduceEqDiff, Nat.reduceAdd, Nat.reduceBEq, Int.reduceEq, H.cv_3_5, H.cv_5_3, t47]
      refine hN _ ?_; clear hN N
      simp (disch := first | omega | (simp only [List.length_cons, List.length_nil, List.length_append, u8s_len]; omega)) only [go_sem, ↓reduceIte, true_and, Nat.reduceLeDiff, Nat.reduceEqDiff, Nat.reduceAdd, Nat.reduceBEq, Int.reduceEq, H.cv_3_5, H.cv_5_3, t0, t9, t11, t47, hcut2.same, hcut2.disc, hcut2.sl.len, u8s_len, c5, hO.get0, sx, sy, bx.same, bx.sl.b2s, by'.same, by'.disc]
      exact fin _ _ y2 (b1.drop n) (left - 1) _ _ _ _ _ (by simp [upd_at]) (by simp [upd_at, t1]) (by simp [upd_at, t6]) (by simp [upd_at, t11]) hO.st0 by' hce hS rfl rfl rfl
    rw [if_neg k2] at hS
    have d2 : decide (b0.toNat = 2) = false := decide_eq_false k2
    by_cases k3 : b0.toNat = 3
    case neg =>
      rw [if_neg k3] at hS
      have d3 : decide (b0.toNat = 3) = false := decide_eq_false k3
      rw [W_block]
      (refine W_seq_gen fun N hN => ?_); simp (disch := first | omega | (simp only [List.length_cons, List.length_nil, List.length_append, u8s_len]; omega)) only [go_sem, ↓reduceIte, true_and, Nat.reduceLeDiff, Nat.reduceEqDiff, Nat.reduceAdd, Nat.reduceBEq, Int.reduceEq, H.cv_3_5, H.cv_5_3, t47, d1]
      refine hN _ ?_; clear hN N
      simp (disch := first | omega | (simp only [List.length_cons, List.length_nil, List.length_append, u8s_len]; omega)) only [go_sem, ↓reduceIte, true_and, Nat.reduceLeDiff, Nat.reduceEqDiff, Nat.reduceAdd, Nat.reduceBEq, Int.reduceEq, H.cv_3_5, H.cv_5_3, t6, t47, d2, d3, hO.get1]
      rw [hS]
      exact ⟨rfl, hO.st1.keep⟩
    rw [if_pos k3] at hS
    rw [k3] at t47 hO
    rw [W_block]
    (refine W_seq_gen fun N hN => ?_); simp (disch := first | omega | (simp only [List.length_cons, List.length_nil, List.length_append, u8s_len]; omega)) only [go_sem, ↓reduceIte, true_and, Nat.reduceLeDiff, Nat.reduceEqDiff, Nat.reduceAdd, Nat.reduceBEq, Int.reduceEq, H.cv_3_5, H.cv_5_3, t47]
    refine hN _ ?_; clear hN N
    simp (disch := first | omega | (simp only [List.length_cons, List.length_nil, List.length_append, u8s_len]; omega)) only [go_sem, ↓reduceIte, true_and, Nat.reduceLeDiff, Nat.reduceEqDiff, Nat.reduceAdd, Nat.reduceBEq, Int.reduceEq, H.cv_3_5, H.cv_5_3, t47]
    refine AW_loopN (fun m t h' => ∃ (i : Nat) (xs : List Cel) (es : List (List AV)) (w v' : AV) (b' : List UInt8) (l' : Nat), m = n - i ∧ i ≤ n ∧ xs.length = i ∧ i + l' ≤ left - 1 ∧ b'.length ≤ b1.length ∧ SG 4 w es ∧ RR CE es xs ∧ SF 1 v' (u8s b') ∧
        (rlistF (rcellS d) n b1 (left - 1) = match rlistF (rcellS d) (n - i) b' l' with | none => none | some (ys, b2, l2) => some (xs ++ ys, b2, l2)) ∧
        t 0 = v' ∧ t 1 = .sc (.int .i64 (l' : Nat)) ∧ t 2 = .sc (.int .i64 ((d + 1 : Nat) : Int)) ∧ t 6 = .op o6 0 ∧ t 9 = .sc (.int .i64 (n : Nat)) ∧ t 11 = .op o11 0 ∧ t 12 = .sc (.int .i64 (i : Nat)) ∧
        OB h [(o11, .arr [.sc (.int .i64 ((3 : Nat) : Int)), .sc (.int .i64 ((0 : Nat) : Int)), .sc (.string noS), w]), (o6, .arr [.sc (.int .i64 ((0 : Nat) : Int)), .sc (.int .i64 ((0 : Nat) : Int)), .sc (.string noS), .sc (.slice none 0 0)])] h')
      (n := n) ⟨0, [], [], _, v1, b1, left - 1, rfl, Nat.zero_le _, rfl, by omega, Nat.le_refl _, SG.nil, RR.nil, hcut2, by rw [Nat.sub_zero]; split <;> simp_all, by simp [upd_at, t0], by simp [upd_at, t1], by simp [upd_at, t2], by simp [upd_at, t6], by simp [upd_at, t9], by simp [upd_at, t11], rfl, hO⟩ ?_
    clear hO t0 t1 t2 t6 t9 t11 t47
    rintro m t h' ⟨i, xs, es, w, v', b', l', rfl, hi, hxs, hil, hbl, hw, hr, hv', hrest, t0, t1, t2, t6, t9, t11, t12, hO⟩
    have hnb := rb.1
    rcases Nat.lt_or_ge i n with hlt | hge
    · have hstep : rlistF (rcellS d) (n - i) b' l' = match rcellS d b' l' with
        | none => none
        | some (x, b1, l1) => match rlistF (rcellS d) (n - (i + 1)) b1 l1 with
          | none => none
          | some (xs, b2, l2) => some (x :: xs, b2, l2) := by
        rw [show n - i = (n - (i + 1)) + 1 by omega]; rfl
      have hbd := rcellS_bd d b' l'
      have ihx := ih (by omega) v' b' l' hv' (by omega) (by omega)
      generalize rcellS d b' l' = q at hstep ihx hbd
      (refine W_seq_gen fun N hN => ?_); simp (disch := first | omega | (simp only [List.length_cons, List.length_nil, List.length_append, u8s_len]; omega)) only [go_sem, ↓reduceIte, true_and, Nat.reduceLeDiff, Nat.reduceEqDiff, Nat.reduceAdd, Nat.reduceBEq, Int.reduceEq, H.cv_3_5, H.cv_5_3, t9, t12, hlt]
      refine hN _ ?_; clear hN N
      (refine W_seq_gen fun N hN => ?_)
      rw [W_block]
      (refine W_seq_gen fun N hN => ?_); simp (disch := first | omega | (simp only [List.length_cons, List.length_nil, List.length_append, u8s_len]; omega)) only [go_sem, ↓reduceIte, true_and, Nat.reduceLeDiff, Nat.reduceEqDiff, Nat.reduceAdd, Nat.reduceBEq, Int.reduceEq, H.cv_3_5, H.cv_5_3]
      intro o13 h13
      refine hN _ ?_; clear hN N; refine W_ob (hO.new h13) fun hc hO => ?_
      have sb2 : ((d + 1 : Nat) : Int) - ((1 : Nat) : Int) = (d : Nat) := by omega
      (refine W_seq_gen fun N hN => ?_); simp (disch := first | omega | (simp only [List.length_cons, List.length_nil, List.length_append, u8s_len]; omega)) only [go_sem, ↓reduceIte, true_and, Nat.reduceLeDiff, Nat.reduceEqDiff, Nat.reduceAdd, Nat.reduceBEq, Int.reduceEq, H.cv_3_5, H.cv_5_3, t0, t1, t2, hv'.same, hv'.disc, sb2]
      refine (ihx _).mono ?_
      rintro r _ ⟨hq, hh⟩; subst hh
      match q with
      | none =>
        simp only [RcR] at hq
        subst hq
        rw [hstep] at hrest
        simp only at hrest
        rw [hrest] at hS
        rw [contK_some]; simp (disch := first | omega | (simp only [List.length_cons, List.length_nil, List.length_append, u8s_len]; omega)) only [go_sem, ↓reduceIte, true_and, Nat.reduceLeDiff, Nat.reduceEqDiff, Nat.reduceAdd, Nat.reduceBEq, Int.reduceEq, H.cv_3_5, H.cv_5_3, hO.get0]
        refine hN _ ?_; clear hN N; refine W_ob (hO.st0) fun hc hO => ?_
        refine W_forget (fun t => t 6 = .op o6 0 ∧ t 1 = .sc (.int .i64 (-1)) ∧ True) (by simp [upd_at, *] <;> (first | rfl | exact ⟨rfl, rfl⟩ | exact ⟨rfl, rfl, rfl⟩)) ?_; rintro t ⟨t6, t1, -⟩
        have dl : decide ((-1 : Int) < ((0 : Nat) : Int)) = true := by decide
        simp (disch := first | omega | (simp only [List.length_cons, List.length_nil, List.length_append, u8s_len]; omega)) only [go_sem, ↓reduceIte, true_and, Nat.reduceLeDiff, Nat.reduceEqDiff, Nat.reduceAdd, Nat.reduceBEq, Int.reduceEq, H.cv_3_5, H.cv_5_3, t1, t6, hO.get2, dl]
        rw [hS]
        exact ⟨rfl, hO.st2.keep⟩
      | some (x, b2, l2) =>
        obtain ⟨cs, v2, rfl, hce, hv2⟩ := hq
        obtain ⟨vv, ees, rfl, hvv, _, _⟩ := id hce.out
        have hb2 := hbd x b2 l2 rfl
        rw [contK_some]; simp (disch := first | omega | (simp only [List.length_cons, List.length_nil, List.length_append, u8s_len]; omega)) only [go_sem, ↓reduceIte, true_and, Nat.reduceLeDiff, Nat.reduceEqDiff, Nat.reduceAdd, Nat.reduceBEq, Int.reduceEq, H.cv_3_5, H.cv_5_3, hO.get0, hvv.disc, hvv.same, hv2.same, hv2.disc]
        refine hN _ ?_; clear hN N; refine W_ob (hO.st0) fun hc hO => ?_
        refine W_forget (fun t => t 0 = v2 ∧ t 1 = .sc (.int .i64 (l2 : Nat)) ∧ t 2 = .sc (.int .i64 ((d + 1 : Nat) : Int)) ∧ t 6 = .op o6 0 ∧ t 9 = .sc (.int .i64 (n : Nat)) ∧ t 11 = .op o11 0 ∧ t 12 = .sc (.int .i64 (i : Nat)) ∧ t 13 = .op o13 0 ∧ True) (by simp [upd_at, *] <;> (first | rfl | exact ⟨rfl, rfl⟩ | exact ⟨rfl, rfl, rfl⟩)) ?_; rintro t ⟨t0, t1, t2, t6, t9, t11, t12, t13, -⟩
        have dn : decide (l2 < 0) = false := by simp
        (refine W_seq_gen fun N hN => ?_); simp (disch := first | omega | (simp only [List.length_cons, List.length_nil, List.length_append, u8s_len]; omega)) only [go_sem, ↓reduceIte, true_and, Nat.reduceLeDiff, Nat.reduceEqDiff, Nat.reduceAdd, Nat.reduceBEq, Int.reduceEq, H.cv_3_5, H.cv_5_3, t1, dn]
        refine hN _ ?_; clear hN N
        have hel : es.length = i := by rw [hr.len, hxs]
        have happ := fun (t : Nat → AV) (h : Heap) => hw.app (t := t) (h := h) (ys := [[.sc (.int .i64 x.k), .sc (.int .i64 x.n), .sc (.string x.s), vv]]) (bytes := 56) (by simp only [List.length_cons, List.length_nil]; omega)
        have n1 : ¬ o13 = o11 := hO.ne01
        have n2 : ¬ o11 = o13 := fun e => n1 e.symm
        have hw2 := hw.cat [[.sc (.int .i64 x.k), .sc (.int .i64 x.n), .sc (.string x.s), vv]]
        generalize catV 4 [[.sc (.int .i64 x.k), .sc (.int .i64 x.n), .sc (.string x.s), vv]] w = w2 at happ hw2
        simp (disch := first | omega | (simp only [List.length_cons, List.length_nil, List.length_append, u8s_len]; omega)) only [go_sem, ↓reduceIte, true_and, Nat.reduceLeDiff, Nat.reduceEqDiff, Nat.reduceAdd, Nat.reduceBEq, Int.reduceEq, H.cv_3_5, H.cv_5_3, t11, t13, hO.get0, hO.get1, hvv.disc, hvv.same, n1, n2, happ, sl_cellsD hw2.sl, sl_tu hw2.sl]
        refine hN _ ?_; clear hN N
        refine W_ob hO.st1 fun hc hO => ?_
        simp (disch := first | omega | (simp only [List.length_cons, List.length_nil, List.length_append, u8s_len]; omega)) only [go_sem, ↓reduceIte, true_and, Nat.reduceLeDiff, Nat.reduceEqDiff, Nat.reduceAdd, Nat.reduceBEq, Int.reduceEq, H.cv_3_5, H.cv_5_3, t12, nat_add]
        refine ⟨n - (i + 1), by omega, i + 1, xs ++ [x], _, w2, v2, b2, l2, rfl, by omega, by simp [hxs], by omega, by omega, hw2, RR.append hr (RR.one hce), hv2, ?_, t0, t1, t2, t6, t9, t11, rfl, hO.tail⟩
        rw [hrest, hstep]
        simp only
        cases rlistF (rcellS d) (n - (i + 1)) b2 l2 with
        | none => rfl
        | some y => simp
    obtain rfl : i = n := by omega
    rw [Nat.sub_self] at hrest
    simp only [rlistF, List.append_nil] at hrest
    rw [hrest] at hS
    (refine W_seq_gen fun N hN => ?_); simp (disch := first | omega | (simp only [List.length_cons, List.length_nil, List.length_append, u8s_len]; omega)) only [go_sem, ↓reduceIte, true_and, Nat.reduceLeDiff, Nat.reduceEqDiff, Nat.reduceAdd, Nat.reduceBEq, Int.reduceEq, H.cv_3_5, H.cv_5_3, t9, t12, Nat.lt_irrefl]
    have hce : CE [.sc (.int .i64 ((3 : Nat) : Int)), .sc (.int .i64 ((0 : Nat) : Int)), .sc (.string noS), w.dis] (.mk 3 0 noS xs) :=
      CE.in (fits_small (by omega) (by omega) (by decide) (by omega)) hw.sl.df hr
    exact fin _ _ v' b' l' _ _ _ w _ (by simp [upd_at, t0]) (by simp [upd_at, t1]) (by simp [upd_at, t6]) (by simp [upd_at, t11]) hO hv' hce hS hw.sl.disc hw.sl.ddisc hw.sl.dd
end Go.Proofs.Ytjebhcflpibkkaa
end

section
set_option linter.unusedVariables false
set_option linter.unusedSimpArgs false
namespace Go.Proofs.Ytjebhcflpibkkaa
open Go.Am
theorem readG_numB : ∀ (m i n : Nat) (r : List UInt8), i + (numB m).length ≤ 9 → readG i n (numB m ++ r) = (n + 128 ^ i * m, i + (numB m).length) := by
  intro m
  induction m using Nat.strongRecOn with
  | _ m ih =>
    intro i n r h
    by_cases c : m < 128
    · rw [numB_small c] at h ⊢
      simp only [List.length_cons, List.length_nil] at h
      have e : (UInt8.ofNat m).toNat = m := by simp; omega
      simp only [List.cons_append, List.nil_append, List.length_cons, List.length_nil]
      rw [readG, if_pos (by omega), if_pos (by omega), e, Nat.mod_eq_of_lt c]
    · have hn : numB m = UInt8.ofNat (m % 128 + 128) :: numB (m / 128) := by rw [numB, if_neg c]
      rw [hn] at h ⊢
      simp only [List.length_cons] at h ⊢
      have e : (UInt8.ofNat (m % 128 + 128)).toNat = m % 128 + 128 := by simp; omega
      rw [List.cons_append, readG, if_pos (by omega), if_neg (by omega), e, ih (m / 128) (by omega) (i + 1) _ r (by omega)]
      have e2 : (m % 128 + 128) % 128 = m % 128 := by omega
      rw [e2, Nat.pow_succ]
      have : m = m % 128 + 128 * (m / 128) := by omega
      refine Prod.ext ?_ (by simp only; omega)
      simp only
      conv => rhs; rw [this]
      rw [Nat.mul_add, Nat.mul_assoc, Nat.add_assoc]
theorem readR_numB {m : Nat} (h : m < 2 ^ 63) (r : List UInt8) : readR (numB m ++ r) = (m, (numB m).length) := by
  have := readG_numB m 0 0 r (by have := numB_len h; omega)
  rw [readR, this]
  simp
theorem numOf_zig (n : Int) : numOf (zig n) = n := by
  unfold numOf zig
  split
  · split <;> omega
  · split <;> omega
theorem numB_pos (m : Nat) : 0 < (numB m).length := by
  rw [numB]; split <;> simp
theorem rlist_enc {d : Nat} {l : List Cel} (h : ∀ x ∈ l, ∀ (rest : List UInt8) (left : Nat), left < 2 ^ 60 → pureS x = true → okC x → deepS d x = false → 0 ≤ countS x left → rcellS d (encB x ++ rest) left = some (x, rest, (countS x left).toNat)) :
    ∀ (rest : List UInt8) (left : Nat), left < 2 ^ 60 → pureL l = true → okL l → l.any (deepS d) = false → 0 ≤ countL l left → rlistF (rcellS d) l.length (encL l ++ rest) left = some (l, rest, (countL l left).toNat) := by
  induction l with
  | nil => intro rest left _ _ _ _ _; rw [encL, countL]; simp [rlistF]
  | cons x l ih =>
    intro rest left hlt hp ho hd hc
    rw [pureL, Bool.and_eq_true] at hp
    rw [okL] at ho
    rw [List.any_cons, Bool.or_eq_false_iff] at hd
    rw [countL, if_neg (by omega)] at hc ⊢
    have h1 : 0 ≤ countS x left := by
      rcases Int.lt_or_le (countS x left) 0 with h | h
      · have := countL_neg (l := l) h
        omega
      · exact h
    have e : (((countS x left).toNat : Nat) : Int) = countS x left := by omega
    have a := h x (by simp) (encL l ++ rest) left hlt hp.1 ho.1 hd.1 h1
    have b := ih (fun y hy => h y (by simp [hy])) rest (countS x left).toNat (by have := countS_bd x left (by omega); omega) hp.2 ho.2 hd.2 (by rw [e]; exact hc)
    rw [e] at b
    rw [encL, List.append_assoc, List.length_cons, rlistF, a]
    simp only
    rw [b]
theorem rcell_unfold {d m left : Nat} {k0 : UInt8} {r : List UInt8} (hm : m < 2 ^ 63) (hl : 1 ≤ left) : rcellS (d + 1) (k0 :: (numB m ++ r)) left =
    if k0.toNat = 1 then some (.mk 1 (numOf m) noS [], r, left - 1)
    else if k0.toNat = 2 then (if r.length < m then none else some (.mk 2 0 (str (r.take m)) [], r.drop m, left - 1))
    else if k0.toNat = 3 then match rlistF (rcellS d) m r (left - 1) with
      | none => none
      | some (xs, b2, l2) => some (.mk 3 0 noS xs, b2, l2)
    else none := by
  have h1 := readR_numB hm r
  have h2 := numB_pos m
  have hd : (k0 :: (numB m ++ r)).drop 1 = numB m ++ r := rfl
  have hd2 : (k0 :: (numB m ++ r)).drop (1 + (numB m).length) = r := by rw [Nat.add_comm, List.drop_succ_cons, List.drop_left]
  rw [rcellS, hd, h1, hd2, if_neg (by simp only [List.length_cons, List.length_append]; omega), if_neg (show ¬ (numB m).length = 0 by omega)]
  rfl
theorem rcell_enc : ∀ (d : Nat) (c : Cel) (rest : List UInt8) (left : Nat), left < 2 ^ 60 → pureS c = true → okC c → deepS d c = false → 0 ≤ countS c left → rcellS d (encB c ++ rest) left = some (c, rest, (countS c left).toNat) := by
  intro d
  induction d with
  | zero => intro c rest left _ _ _ hd _; simp [deepS] at hd
  | succ d ih =>
    intro c rest left hlt hp ho hd hc
    cases c with
    | mk k n s l =>
      rw [okC] at ho
      obtain ⟨⟨o1, o2⟩, o3, o4⟩ := ho
      rw [countS, if_neg (by omega)] at hc ⊢
      rw [deepS_succ] at hd
      have hle : (l.length : Int) ≤ (left : Int) - 1 := by
        have := (encL_bd (l := l) (fun x _ => encB_bd x) ((left : Int) - 1) o4 (by omega) hc).2
        omega
      have h1 : 1 ≤ left := by omega
      have hz : zig n < 2 ^ 63 := by unfold zig; split <;> omega
      have cz : (left : Int) - 1 = ((left - 1 : Nat) : Int) := by omega
      rcases pureS_cases hp with ⟨rfl, rfl, rfl⟩ | ⟨rfl, rfl, rfl⟩ | ⟨rfl, rfl, rfl, hp'⟩
      · rw [encB, if_pos rfl, List.cons_append, rcell_unfold hz h1, if_pos (by decide), numOf_zig, countL, cz]
        rfl
      · have hlen : s.data.toList.length = s.size := by rw [Array.length_toList]; rfl
        rw [encB, if_neg (by decide), if_pos rfl, List.cons_append, List.append_assoc, rcell_unfold (by omega) h1, if_neg (by decide), if_pos (by decide), if_neg (by rw [List.length_append, hlen]; omega), countL, cz]
        rw [← hlen, List.take_left, List.drop_left, ← str_of]
        rfl
      · have a := rlist_enc (d := d) (l := l) (fun x _ => ih x) rest (left - 1) (by omega) hp' o4 hd (by rw [← cz]; exact hc)
        rw [encB, if_neg (by decide), if_neg (by decide), List.cons_append, List.append_assoc, rcell_unfold (by omega) h1, if_neg (by decide), if_neg (by decide), if_pos (by decide), a, cz]
        rfl
end Go.Proofs.Ytjebhcflpibkkaa
end

section
set_option linter.unusedVariables false
set_option linter.unusedSimpArgs false
namespace Go.Proofs.Ytjebhcflpibkkaa
open Go.Am
def zeroA : AV := .ag [.sc (.int .i64 ((0 : Nat) : Int)), .sc (.int .i64 ((0 : Nat) : Int)), .sc (.string noS), .sc (.slice none 0 0)]
/-- What the reference's decoder answers. -/
def RdR (b : List UInt8) (r : AV) : Prop :=
  (∃ c cs, checkS c = 0 ∧ encB c = b ∧ r = .tu [.ag cs, .sc (.bool true)] ∧ CE cs c) ∨ ((∀ c, ¬ (checkS c = 0 ∧ encB c = b)) ∧ r = .tu [zeroA, .sc (.bool false)])
theorem dec_some {b : List UInt8} {c : Cel} (h1 : checkS c = 0) (h2 : encB c = b) : ∃ l, rcellS 12 b 4096 = some (c, [], l) := by
  obtain ⟨a1, a2, a3⟩ := checkS_ok h1
  have ho := okC_of c 4096 a2 a3
  have := rcell_enc 12 c [] 4096 (by omega) a2 ho a1 a3
  rw [List.append_nil, h2] at this
  exact ⟨_, this⟩
variable {P : Program} (H : Has P)
include H
theorem rdecode_ok {v : AV} {b : List UInt8} (hv : SF 1 v (u8s b)) (hb : b.length < 2 ^ 40) (h : Heap) : AWF P ann 0 17 [v] h fun r h' => RdR b r ∧ h' = h := by
  refine AWF.fnPurec H.f0_17 rfl ?_
  have hO := OB.nil (h := h)
  (refine W_seq_gen fun N hN => ?_); simp (disch := first | omega | (simp only [List.length_cons, List.length_nil, List.length_append, u8s_len]; omega)) only [go_sem, ↓reduceIte, true_and, Nat.reduceLeDiff, Nat.reduceEqDiff, Nat.reduceAdd, Nat.reduceBEq, Int.reduceEq, H.cv_3_5, H.cv_5_3]
  intro o2 h2
  refine hN _ ?_; clear hN N; refine W_ob (hO.new h2) fun hc hO => ?_
  refine W_forget (fun t => t 0 = v ∧ t 2 = .op o2 0 ∧ True) (by simp [upd_at, *] <;> (first | rfl | exact ⟨rfl, rfl⟩ | exact ⟨rfl, rfl, rfl⟩)) ?_; rintro t ⟨t0, t2, -⟩
  (refine W_seq_gen fun N hN => ?_); simp (disch := first | omega | (simp only [List.length_cons, List.length_nil, List.length_append, u8s_len]; omega)) only [go_sem, ↓reduceIte, true_and, Nat.reduceLeDiff, Nat.reduceEqDiff, Nat.reduceAdd, Nat.reduceBEq, Int.reduceEq, H.cv_3_5, H.cv_5_3, t0, hv.same, hv.disc]
  refine (rcell_ok H 12 (by omega) v b 4096 hv hb (by omega) _).mono ?_
  rintro r _ ⟨hq, hh⟩; subst hh
  have key := fun c h1 h2 => dec_some (b := b) (c := c) h1 h2
  generalize rcellS 12 b 4096 = q at hq key
  match q with
  | none =>
    simp only [RcR] at hq
    subst hq
    rw [contK_some]; simp (disch := first | omega | (simp only [List.length_cons, List.length_nil, List.length_append, u8s_len]; omega)) only [go_sem, ↓reduceIte, true_and, Nat.reduceLeDiff, Nat.reduceEqDiff, Nat.reduceAdd, Nat.reduceBEq, Int.reduceEq, H.cv_3_5, H.cv_5_3]
    intro o4 h4
    refine hN _ ?_; clear hN N; refine W_ob (hO.new h4) fun hc hO => ?_
    refine W_forget (fun t => t 0 = v ∧ t 2 = .op o2 0 ∧ t 4 = .op o4 0 ∧ t 5 = .sc (.slice none 0 0) ∧ t 6 = .sc (.int .i64 (-1)) ∧ True) (by simp [upd_at, *] <;> (first | rfl | exact ⟨rfl, rfl⟩ | exact ⟨rfl, rfl, rfl⟩)) ?_; rintro t ⟨t0, t2, t4, t5, t6, -⟩
    have dl : decide ((-1 : Int) < ((0 : Nat) : Int)) = true := by decide
    (refine W_seq_gen fun N hN => ?_); simp (disch := first | omega | (simp only [List.length_cons, List.length_nil, List.length_append, u8s_len]; omega)) only [go_sem, ↓reduceIte, true_and, Nat.reduceLeDiff, Nat.reduceEqDiff, Nat.reduceAdd, Nat.reduceBEq, Int.reduceEq, H.cv_3_5, H.cv_5_3, t2, t6, hO.get1, dl]
    refine ⟨.inr ⟨fun c ⟨q1, q2⟩ => ?_, rfl⟩, hO.st1.keep⟩
    obtain ⟨l, hl⟩ := key c q1 q2
    cases hl
  | some (c, rest, l) =>
    obtain ⟨cs, v2, rfl, hce, hv2⟩ := hq
    obtain ⟨vv, ees, rfl, hvv, _, _⟩ := id hce.out
    rw [contK_some]; simp (disch := first | omega | (simp only [List.length_cons, List.length_nil, List.length_append, u8s_len]; omega)) only [go_sem, ↓reduceIte, true_and, Nat.reduceLeDiff, Nat.reduceEqDiff, Nat.reduceAdd, Nat.reduceBEq, Int.reduceEq, H.cv_3_5, H.cv_5_3, hvv.disc, hvv.same, hv2.same, hv2.disc]
    intro o4 h4
    refine hN _ ?_; clear hN N; refine W_ob (hO.new h4) fun hc hO => ?_
    refine W_forget (fun t => t 0 = v ∧ t 2 = .op o2 0 ∧ t 4 = .op o4 0 ∧ t 5 = v2 ∧ t 6 = .sc (.int .i64 (l : Nat)) ∧ True) (by simp [upd_at, *] <;> (first | rfl | exact ⟨rfl, rfl⟩ | exact ⟨rfl, rfl, rfl⟩)) ?_; rintro t ⟨t0, t2, t4, t5, t6, -⟩
    have dn : decide (l < 0) = false := by simp
    have bad : (rest = [] → checkS c = 0 → encB c = b → False) → ∀ c', ¬ (checkS c' = 0 ∧ encB c' = b) := fun hbad c' ⟨q1, q2⟩ => by
      obtain ⟨l', hl⟩ := key c' q1 q2
      simp only [Option.some.injEq, Prod.mk.injEq] at hl
      obtain ⟨rfl, rfl, rfl⟩ := hl
      exact hbad rfl q1 q2
    by_cases c1 : 0 < rest.length
    · (refine W_seq_gen fun N hN => ?_); simp (disch := first | omega | (simp only [List.length_cons, List.length_nil, List.length_append, u8s_len]; omega)) only [go_sem, ↓reduceIte, true_and, Nat.reduceLeDiff, Nat.reduceEqDiff, Nat.reduceAdd, Nat.reduceBEq, Int.reduceEq, H.cv_3_5, H.cv_5_3, t2, t5, t6, dn, hv2.same, hv2.disc, hv2.sl.len, u8s_len, c1, hO.get1]
      exact ⟨.inr ⟨bad fun q _ _ => by subst q; simp at c1, rfl⟩, hO.st1.keep⟩
    obtain rfl : rest = [] := List.eq_nil_of_length_eq_zero (by omega)
    have dz : decide ((0 : Nat) < 0) = false := by decide
    (refine W_seq_gen fun N hN => ?_); simp (disch := first | omega | (simp only [List.length_cons, List.length_nil, List.length_append, u8s_len]; omega)) only [go_sem, ↓reduceIte, true_and, Nat.reduceLeDiff, Nat.reduceEqDiff, Nat.reduceAdd, Nat.reduceBEq, Int.reduceEq, H.cv_3_5, H.cv_5_3, t4, t5, t6, dn, hv2.same, hv2.disc, hv2.sl.len, u8s_len, List.length_nil, dz, hO.get0, hvv.disc, hvv.same]
    refine ⟨_, rcheck_ok H hce _, ?_⟩
    have hneq : ∀ n : Nat, (((n : Nat) : Int) != ((0 : Nat) : Int)) = !decide (n = 0) := fun n => by by_cases h : n = 0 <;> simp [h]
    by_cases k0 : checkS c = 0
    case neg =>
      have q : (!decide (checkS c = 0)) = true := by simp [k0]
      rw [contK_some]; simp (disch := first | omega | (simp only [List.length_cons, List.length_nil, List.length_append, u8s_len]; omega)) only [go_sem, ↓reduceIte, true_and, Nat.reduceLeDiff, Nat.reduceEqDiff, Nat.reduceAdd, Nat.reduceBEq, Int.reduceEq, H.cv_3_5, H.cv_5_3, errN, q, t2, hO.get1]
      exact ⟨.inr ⟨bad fun _ q _ => k0 q, rfl⟩, hO.st1.keep⟩
    have hbd := enc_bd k0
    have hbV := bytesV_ok c
    rw [k0]
    rw [contK_some]; simp (disch := first | omega | (simp only [List.length_cons, List.length_nil, List.length_append, u8s_len]; omega)) only [go_sem, ↓reduceIte, true_and, Nat.reduceLeDiff, Nat.reduceEqDiff, Nat.reduceAdd, Nat.reduceBEq, Int.reduceEq, H.cv_3_5, H.cv_5_3, errN, t4, hO.get0, hvv.disc, hvv.same]
    refine ⟨_, rbytes_ok H c _ hce hbd.1 hbd.2 _, ?_⟩
    by_cases k1 : encB c = b
    · have q : (!decide (str (encB c) = str b)) = false := by rw [k1]; simp
      rw [contK_some]; simp (disch := first | omega | (simp only [List.length_cons, List.length_nil, List.length_append, u8s_len]; omega)) only [go_sem, ↓reduceIte, true_and, Nat.reduceLeDiff, Nat.reduceEqDiff, Nat.reduceAdd, Nat.reduceBEq, Int.reduceEq, H.cv_3_5, H.cv_5_3, t0, hv.same, hv.disc, hbV.sl.b2s, hbV.sl.dis.b2s, hv.sl.b2s, q]
      refine hN _ ?_; clear hN N
      simp (disch := first | omega | (simp only [List.length_cons, List.length_nil, List.length_append, u8s_len]; omega)) only [go_sem, ↓reduceIte, true_and, Nat.reduceLeDiff, Nat.reduceEqDiff, Nat.reduceAdd, Nat.reduceBEq, Int.reduceEq, H.cv_3_5, H.cv_5_3, t2, t4, hO.get0, hO.get1, hvv.disc, hvv.same]
      exact ⟨.inl ⟨c, _, k0, k1, rfl, hce⟩, hO.st1.keep⟩
    · have q : (!decide (str (encB c) = str b)) = true := by
        rw [decide_eq_false (fun h => k1 (str_inj.1 h))]; rfl
      rw [contK_some]; simp (disch := first | omega | (simp only [List.length_cons, List.length_nil, List.length_append, u8s_len]; omega)) only [go_sem, ↓reduceIte, true_and, Nat.reduceLeDiff, Nat.reduceEqDiff, Nat.reduceAdd, Nat.reduceBEq, Int.reduceEq, H.cv_3_5, H.cv_5_3, t0, hv.same, hv.disc, hbV.sl.b2s, hbV.sl.dis.b2s, hv.sl.b2s, q, t2, hO.get1]
      exact ⟨.inr ⟨bad fun _ _ q => k1 q, rfl⟩, hO.st1.keep⟩
end Go.Proofs.Ytjebhcflpibkkaa
end

section
set_option linter.unusedVariables false
set_option linter.unusedSimpArgs false
namespace Go.Proofs.Ytjebhcflpibkkaa
open Go.Am
theorem sb_or64 {P : Program} {ty : TypeId} {a b : Nat} (ha : a < 2 ^ 63) (hb : b < 2 ^ 63) : scalarBin P .or ty (.int .i64 a) (.int .i64 b) = some (.int .i64 ((a ||| b : Nat) : Int)) := by
  have hab : a ||| b < 2 ^ 63 := Nat.or_lt_two_pow ha hb
  have ha' : a < 2 ^ IntKind.i64.bits := Nat.lt_of_lt_of_le ha (by decide)
  have hb' : b < 2 ^ IntKind.i64.bits := Nat.lt_of_lt_of_le hb (by decide)
  simp only [scalarBin, eqGuard, binOp, Op.intBits, pureRun, bv_nat, BitVec.toNat_or, BitVec.toNat_ofNat, Nat.mod_eq_of_lt ha', Nat.mod_eq_of_lt hb']
  simp [pureRun, pr_pure]
  exact wrap_i64u (by omega) (by omega)
theorem and127 : ∀ m, m < 256 → m &&& 127 = m % 128 := by decide +kernel
theorem sb_and127 {P : Program} {ty : TypeId} {a : Nat} (ha : a < 256) : scalarBin P .and ty (.int .u8 a) (.int .u8 ((127 : Nat) : Int)) = some (.int .u8 ((a % 128 : Nat) : Int)) := by
  rw [sb_and rfl (by exact ha) (by decide), and127 a ha]
/-- Bits above bits are a sum. -/
theorem or_above {n m i : Nat} (h : n < 128 ^ i) : n ||| (m * 128 ^ i) = n + 128 ^ i * m := by
  have e : 128 ^ i = 2 ^ (7 * i) := by rw [show (128 : Nat) = 2 ^ 7 by decide, ← Nat.pow_mul]
  rw [e] at h ⊢
  rw [Nat.or_comm, Nat.mul_comm m, ← Nat.two_pow_add_eq_or_of_lt h, Nat.add_comm]
end Go.Proofs.Ytjebhcflpibkkaa
end

section
set_option linter.unusedVariables false
set_option linter.unusedSimpArgs false
namespace Go.Proofs.Ytjebhcflpibkkaa
open Go.Am
/-- A count, as it is written, and how many bytes it has. -/
def readH : Nat → Nat → List UInt8 → Option (Nat × Nat)
  | _, _, [] => none
  | i, n, b :: r => if i = 9 ∨ (b.toNat = 0 ∧ 0 < i) then none else if b.toNat < 128 then some (n + 128 ^ i * (b.toNat % 128), i + 1) else readH (i + 1) (n + 128 ^ i * (b.toNat % 128)) r
theorem readH_numB : ∀ (m i n : Nat) (r : List UInt8), i + (numB m).length ≤ 9 → (0 < i → 0 < m) → readH i n (numB m ++ r) = some (n + 128 ^ i * m, i + (numB m).length) := by
  intro m
  induction m using Nat.strongRecOn with
  | _ m ih =>
    intro i n r h hz
    by_cases c : m < 128
    · rw [numB_small c] at h ⊢
      simp only [List.length_cons, List.length_nil] at h
      have e : (UInt8.ofNat m).toNat = m := by simp; omega
      simp only [List.cons_append, List.nil_append, List.length_cons, List.length_nil]
      rw [readH, if_neg (by omega), if_pos (by omega), e, Nat.mod_eq_of_lt c]
    · have hn : numB m = UInt8.ofNat (m % 128 + 128) :: numB (m / 128) := by rw [numB, if_neg c]
      rw [hn] at h ⊢
      simp only [List.length_cons] at h ⊢
      have e : (UInt8.ofNat (m % 128 + 128)).toNat = m % 128 + 128 := by simp; omega
      rw [List.cons_append, readH, if_neg (by omega), if_neg (by omega), e, ih (m / 128) (by omega) (i + 1) _ r (by omega) (by omega)]
      have e2 : (m % 128 + 128) % 128 = m % 128 := by omega
      rw [e2, Nat.pow_succ]
      have : m = m % 128 + 128 * (m / 128) := by omega
      refine congrArg some (Prod.ext ?_ (by simp only; omega))
      simp only
      conv => rhs; rw [this]
      rw [Nat.mul_add, Nat.mul_assoc, Nat.add_assoc]
theorem u8_of (b : UInt8) : UInt8.ofNat b.toNat = b := by simp
/-- What is read strictly was written so. -/
theorem readH_back : ∀ (l : List UInt8) (i n N k : Nat), readH i n l = some (N, k) → ∃ m r, l = numB m ++ r ∧ N = n + 128 ^ i * m ∧ k = i + (numB m).length ∧ (0 < i → 0 < m) := by
  intro l
  induction l with
  | nil => intro i n N k h; cases h
  | cons b l ih =>
    intro i n N k h
    have hb := b.toNat_lt
    rw [readH] at h
    split at h
    · cases h
    rename_i h0
    split at h
    · rename_i h1
      simp only [Option.some.injEq, Prod.mk.injEq] at h
      refine ⟨b.toNat, l, ?_, ?_, ?_, by omega⟩
      · rw [numB_small h1, u8_of]; rfl
      · rw [← h.1, Nat.mod_eq_of_lt h1]
      · rw [numB_small h1, ← h.2]; rfl
    · rename_i h1
      obtain ⟨m, r, rfl, rfl, rfl, hm⟩ := ih _ _ _ _ h
      have hm := hm (by omega)
      have hbn : b.toNat % 128 + 128 = b.toNat := by omega
      refine ⟨b.toNat % 128 + 128 * m, r, ?_, ?_, ?_, by omega⟩
      · have e1 : (b.toNat % 128 + 128 * m) % 128 = b.toNat % 128 := by omega
        have e2 : (b.toNat % 128 + 128 * m) / 128 = m := by omega
        rw [numB.eq_def (b.toNat % 128 + 128 * m), if_neg (by omega), e1, e2, hbn, u8_of]
        rfl
      · rw [Nat.pow_succ, Nat.mul_add, Nat.mul_assoc, Nat.add_assoc]
      · have e1 : (b.toNat % 128 + 128 * m) % 128 = b.toNat % 128 := by omega
        have e2 : (b.toNat % 128 + 128 * m) / 128 = m := by omega
        rw [numB.eq_def (b.toNat % 128 + 128 * m), if_neg (by omega), e2, List.length_cons]
        omega
end Go.Proofs.Ytjebhcflpibkkaa
end
