/- Keys are ordered as the lists are: plain lists, and the functions that compare. -/
import Derived.Test.YtmellpjoinldnaaRankLess
import Derived.Test.YtmellpjoinldnaaRankBeg
set_option linter.unusedVariables false
set_option linter.unusedSimpArgs false
namespace Go.Proofs.Ytmellpjoinldnaa
open Go.Am
/-- Is a value ahead of another one? -/
def lessV (a b : Vl) : Bool :=
  if a.kind = b.kind then (if a.kind = 1 then decide (a.num < b.num) else if a.kind = 2 then Op.bytesLess a.text b.text else (decide (a.re < b.re) || (decide (a.re = b.re) && decide (a.im < b.im)))) else decide (a.kind < b.kind)
theorem bl_key {v w : Vl} {x y : List UInt8} (hv : Good v) (hw : Good w) : Op.bytesLess (keyB v ++ x) (keyB w ++ y) = (lessV v w || (decide (v = w) && Op.bytesLess x y)) := by
  have h11 : ¬ (1 : UInt8) < 1 := by decide
  have h22 : ¬ (2 : UInt8) < 2 := by decide
  have h33 : ¬ (3 : UInt8) < 3 := by decide
  have k12 : (1 : UInt8) < 2 := by decide
  have k13 : (1 : UInt8) < 3 := by decide
  have k23 : (2 : UInt8) < 3 := by decide
  have k21 : ¬ (2 : UInt8) < 1 := by decide
  have k31 : ¬ (3 : UInt8) < 1 := by decide
  have k32 : ¬ (3 : UInt8) < 2 := by decide
  cases hv with
  | num n h =>
    cases hw with
    | num m h' =>
      rw [keyB_num, keyB_num, List.cons_append, List.cons_append, Op.bytesLess, bl_num h h']
      simp [h11, lessV, numV]
      rfl
    | text t => rw [keyB_num, keyB_text, List.cons_append, List.cons_append, Op.bytesLess]; simp [k12, lessV, numV, textV]
    | point a b ha hb => rw [keyB_num, keyB_point, List.cons_append, List.cons_append, Op.bytesLess]; simp [k13, lessV, numV, pointV]
  | text s =>
    cases hw with
    | num m h' => rw [keyB_num, keyB_text, List.cons_append, List.cons_append, Op.bytesLess]; simp [k21, lessV, numV, textV]
    | text t =>
      rw [keyB_text, keyB_text, List.cons_append, List.cons_append, Op.bytesLess, bl_text s.length s t x y (Nat.le_refl _)]
      simp [h22, lessV, textV]
    | point a b ha hb => rw [keyB_text, keyB_point, List.cons_append, List.cons_append, Op.bytesLess]; simp [k23, lessV, textV, pointV]
  | point a b ha hb =>
    cases hw with
    | num m h' => rw [keyB_num, keyB_point, List.cons_append, List.cons_append, Op.bytesLess]; simp [k31, lessV, numV, pointV]
    | text t => rw [keyB_text, keyB_point, List.cons_append, List.cons_append, Op.bytesLess]; simp [k32, lessV, textV, pointV]
    | point c d hc hd =>
      rw [keyB_point, keyB_point, List.cons_append, List.cons_append, List.append_assoc, List.append_assoc, Op.bytesLess, bl_num ha hc, bl_num hb hd]
      simp [h33, lessV, pointV]
      by_cases e1 : a < c <;> by_cases e2 : a = c <;> by_cases e3 : b < d <;> by_cases e4 : b = d <;> simp [e1, e2, e3, e4]
theorem cmp_less {v w : Vl} (hv : Good v) (hw : Good w) : decide (cmpV v w < 0) = lessV v w := by
  have c0 : ∀ s : ByteArray, cb s s = 0 := fun s => cb_zero.2 rfl
  have i0 : ∀ n : Int, cmpI n n = 0 := fun n => cmpI_zero.2 rfl
  have il : ∀ n m : Int, decide (cmpI n m < 0) = decide (n < m) := fun n m => by
    unfold cmpI
    by_cases h1 : n < m
    · simp [h1]
    · by_cases h2 : m < n
      · simp [h1, h2]
      · simp [h1, h2]
  cases hv with
  | num n h =>
    cases hw with
    | num m h' =>
      by_cases e : n = m
      · subst e; simp [cmpV, orI, numV, lessV, i0, c0]
      · have : ¬ cmpI n m = 0 := fun q => e (cmpI_zero.1 q)
        simp [cmpV, orI, numV, lessV, i0, this, il]
        rfl
    | text t => simp [cmpV, orI, numV, textV, lessV, cmpI]
    | point a b ha hb => simp [cmpV, orI, numV, pointV, lessV, cmpI]
  | text s =>
    cases hw with
    | num m h' => simp [cmpV, orI, numV, textV, lessV, cmpI]
    | text t =>
      have hc : decide (cb (str s) (str t) < 0) = Op.bytesLess s t := by
        unfold cb
        rw [sl_str]
        cases h : Op.bytesLess s t with
        | true => rfl
        | false => by_cases e : str s = str t <;> simp [e]
      by_cases e : cb (str s) (str t) = 0
      · simp [cmpV, orI, textV, lessV, i0, e]
        rw [← hc, e]
        rfl
      · simp [cmpV, orI, textV, lessV, i0, e, ← hc]
    | point a b ha hb => simp [cmpV, orI, textV, pointV, lessV, cmpI]
  | point a b ha hb =>
    cases hw with
    | num m h' => simp [cmpV, orI, numV, pointV, lessV, cmpI]
    | text t => simp [cmpV, orI, textV, pointV, lessV, cmpI]
    | point c d hc hd =>
      by_cases e : a = c
      · subst e
        by_cases e2 : b = d
        · subst e2; simp [cmpV, orI, pointV, lessV, i0, c0]
        · have : ¬ cmpI b d = 0 := fun q => e2 (cmpI_zero.1 q)
          simp [cmpV, orI, pointV, lessV, i0, c0, this, il]
          rfl
      · have : ¬ cmpI a c = 0 := fun q => e (cmpI_zero.1 q)
        simp [cmpV, orI, pointV, lessV, i0, c0, this, il, e]
        rfl
def cmpAll : List Vl → List Vl → Int
  | [], [] => 0
  | [], _ :: _ => -1
  | _ :: _, [] => 1
  | v :: l, w :: m => if cmpV v w = 0 then cmpAll l m else cmpV v w
def lessAll : List Vl → List Vl → Bool
  | v :: l, w :: m => if v = w then lessAll l m else lessV v w
  | l, m => decide (l.length < m.length)
theorem cmpAll_range : ∀ l m : List Vl, -1 ≤ cmpAll l m ∧ cmpAll l m ≤ 1
  | [], [] => by simp [cmpAll]
  | [], _ :: _ => by simp [cmpAll]
  | _ :: _, [] => by simp [cmpAll]
  | v :: l, w :: m => by
    rw [cmpAll]
    split
    · exact cmpAll_range l m
    · exact cmpV_range v w
theorem cmpAll_zero : ∀ l m : List Vl, cmpAll l m = 0 ↔ l = m
  | [], [] => by simp [cmpAll]
  | [], _ :: _ => by simp [cmpAll]
  | _ :: _, [] => by simp [cmpAll]
  | v :: l, w :: m => by
    rw [cmpAll]
    split
    · rename_i h
      rw [cmpAll_zero l m, cmpV_zero.1 h]
      simp
    · rename_i h
      have : ¬ v = w := fun e => h (cmpV_zero.2 e)
      simp [h, this]
theorem all_less : ∀ l m : List Vl, keyE l = 0 → keyE m = 0 → decide (cmpAll l m < 0) = lessAll l m ∧ Op.bytesLess (keyBs l) (keyBs m) = lessAll l m
  | [], [], _, _ => by simp [cmpAll, lessAll, keyBs, Op.bytesLess]
  | [], w :: m, _, _ => by
    refine ⟨by simp [cmpAll, lessAll], ?_⟩
    rw [keyBs_cons]
    simp [keyBs, keyB, Op.bytesLess, lessAll]
  | v :: l, [], _, _ => by
    refine ⟨by simp [cmpAll, lessAll], ?_⟩
    rw [keyBs_cons]
    simp [keyBs, keyB, Op.bytesLess, lessAll]
  | v :: l, w :: m, h1, h2 => by
    obtain ⟨g1, q1⟩ := keyE_cons h1
    obtain ⟨g2, q2⟩ := keyE_cons h2
    obtain ⟨i1, i2⟩ := all_less l m q1 q2
    rw [keyBs_cons, keyBs_cons, bl_key g1 g2, cmpAll, lessAll, i2]
    by_cases e : v = w
    · subst e
      have h0 : cmpV v v = 0 := cmpV_zero.2 rfl
      have h3 : lessV v v = false := by rw [← cmp_less g1 g1, h0]; rfl
      simp [h0, h3, i1]
    · have h0 : ¬ cmpV v w = 0 := fun q => e (cmpV_zero.1 q)
      simp [h0, e, cmp_less g1 g2]
theorem keyE_get : ∀ {l : List Vl} {i : Nat}, keyE l = 0 → (hi : i < l.length) → Good l[i]
  | v :: l, 0, h, _ => (keyE_cons h).1
  | v :: l, i + 1, h, hi => keyE_get (keyE_cons h).2 (by simpa using hi)
theorem keys_same {l m : List Vl} (h1 : keyE l = 0) (h2 : keyE m = 0) : keyBs l = keyBs m ↔ l = m := by
  constructor
  · intro h
    obtain ⟨c, hc⟩ := keys_begin l m [] h1 h2 (by rw [h, List.append_nil])
    cases c with
    | nil => rw [hc, List.append_nil]
    | cons v c =>
      have := congrArg List.length h
      rw [hc] at this
      simp [keyBs, keyB] at this
  · intro h; rw [h]
theorem lessAll_end {l m : List Vl} {i : Nat} (h : i = l.length ∨ i = m.length) (h1 : i ≤ l.length) (h2 : i ≤ m.length) : lessAll (l.drop i) (m.drop i) = decide (l.length < m.length) := by
  have e : ∀ l m : List Vl, (l = [] ∨ m = []) → lessAll l m = decide (l.length < m.length) := by
    intro l m h
    cases l with
    | nil => rfl
    | cons a l => cases m with
      | nil => rfl
      | cons b m => simp at h
  rw [e _ _ (by rcases h with h | h <;> simp [h])]
  simp only [List.length_drop]
  congr 1
  simp only [eq_iff_iff]
  omega
theorem cmpAll_end {l m : List Vl} {i : Nat} (h : i = l.length) (h2 : i ≤ m.length) : cmpAll (l.drop i) (m.drop i) = if l.length < m.length then -1 else 0 := by
  subst h
  rw [List.drop_length]
  cases hm : m.drop l.length with
  | nil =>
    have : m.length ≤ l.length := by simpa using hm
    rw [if_neg (by omega)]; rfl
  | cons a r =>
    have := congrArg List.length hm
    simp at this
    rw [if_pos (by omega)]; rfl

variable {P : Program} (H : Has P) (HC : HasC P) (L : Lb P) (HD : HasD P)
include H
theorem less_ok (a b : Vl) (h : Heap) : AWF P ann 0 17 [a.av, b.av] h fun r h' => r = .sc (.bool (lessV a b)) ∧ h' = h := by
  refine AWF.fnPurec H.f0_17 rfl ?_
  (refine W_seq_gen fun N hN => ?_); simp (disch := first | omega | (simp only [List.length_cons, List.length_nil, List.length_append, u8s_len]; omega)) only [go_sem, ↓reduceIte, true_and, Nat.reduceLeDiff, Nat.reduceEqDiff, Nat.reduceAdd, Nat.reduceBEq, Int.reduceEq, H.cv_3_5, H.cv_3_49, H.cv_49_5, Vl.av, Vl.cells]
  intro o ho p hp
  obtain ⟨h2, hh, f1, f2, f3⟩ := box2 ho hp (Y := some (.arr b.cells))
  refine hN _ ?_; clear hN N
  rw [Vl.cells] at hh f2
  rw [hh]
  clear hh hp ho
  by_cases k0 : a.kind = b.kind
  · have q0 : (a.kind != b.kind) = false := by simp [k0]
    (refine W_seq_gen fun N hN => ?_); simp (disch := first | omega | (simp only [List.length_cons, List.length_nil, List.length_append, u8s_len]; omega)) only [go_sem, ↓reduceIte, true_and, Nat.reduceLeDiff, Nat.reduceEqDiff, Nat.reduceAdd, Nat.reduceBEq, Int.reduceEq, H.cv_3_5, H.cv_3_49, H.cv_49_5, f1, f2, q0]
    refine hN _ ?_; clear hN N
    (refine W_seq_gen fun M hM => ?_)
    (refine W_seq_gen fun N hN => ?_); simp (disch := first | omega | (simp only [List.length_cons, List.length_nil, List.length_append, u8s_len]; omega)) only [go_sem, ↓reduceIte, true_and, Nat.reduceLeDiff, Nat.reduceEqDiff, Nat.reduceAdd, Nat.reduceBEq, Int.reduceEq, H.cv_3_5, H.cv_3_49, H.cv_49_5, f1, f2]
    refine hN _ ?_; clear hN N
    rw [W_block]
    by_cases k1 : a.kind = 1
    · have q1 : (a.kind == ((1 : Nat) : Int)) = true := by rw [k1]; rfl
      simp (disch := first | omega | (simp only [List.length_cons, List.length_nil, List.length_append, u8s_len]; omega)) only [go_sem, ↓reduceIte, true_and, Nat.reduceLeDiff, Nat.reduceEqDiff, Nat.reduceAdd, Nat.reduceBEq, Int.reduceEq, H.cv_3_5, H.cv_3_49, H.cv_49_5, q1, f1, f2]
      rw [lessV, if_pos k0, if_pos k1]
      exact ⟨rfl, f3⟩
    · have q1 : (a.kind == ((1 : Nat) : Int)) = false := by simpa using k1
      by_cases k2 : a.kind = 2
      · have q2 : (a.kind == ((2 : Nat) : Int)) = true := by rw [k2]; rfl
        simp (disch := first | omega | (simp only [List.length_cons, List.length_nil, List.length_append, u8s_len]; omega)) only [go_sem, ↓reduceIte, true_and, Nat.reduceLeDiff, Nat.reduceEqDiff, Nat.reduceAdd, Nat.reduceBEq, Int.reduceEq, H.cv_3_5, H.cv_3_49, H.cv_49_5, q1, q2, f1, f2, sl_str]
        rw [lessV, if_pos k0, if_neg k1, if_pos k2]
        exact ⟨rfl, f3⟩
      · have q2 : (a.kind == ((2 : Nat) : Int)) = false := by simpa using k2
        simp (disch := first | omega | (simp only [List.length_cons, List.length_nil, List.length_append, u8s_len]; omega)) only [go_sem, ↓reduceIte, true_and, Nat.reduceLeDiff, Nat.reduceEqDiff, Nat.reduceAdd, Nat.reduceBEq, Int.reduceEq, H.cv_3_5, H.cv_3_49, H.cv_49_5, q1, q2, f1, f2]
        refine hM _ ?_; clear hM M
        have hl : lessV a b = (decide (a.re < b.re) || (decide (a.re = b.re) && decide (a.im < b.im))) := by rw [lessV, if_pos k0, if_neg k1, if_neg k2]
        by_cases e1 : a.re < b.re
        · simp (disch := first | omega | (simp only [List.length_cons, List.length_nil, List.length_append, u8s_len]; omega)) only [go_sem, ↓reduceIte, true_and, Nat.reduceLeDiff, Nat.reduceEqDiff, Nat.reduceAdd, Nat.reduceBEq, Int.reduceEq, H.cv_3_5, H.cv_3_49, H.cv_49_5, f1, f2, e1]
          rw [hl]
          exact ⟨by simp [e1], f3⟩
        · by_cases e2 : a.re = b.re
          · have q3 : (a.re == b.re) = true := by simpa using e2
            simp (disch := first | omega | (simp only [List.length_cons, List.length_nil, List.length_append, u8s_len]; omega)) only [go_sem, ↓reduceIte, true_and, Nat.reduceLeDiff, Nat.reduceEqDiff, Nat.reduceAdd, Nat.reduceBEq, Int.reduceEq, H.cv_3_5, H.cv_3_49, H.cv_49_5, f1, f2, e1, q3]
            rw [hl]
            exact ⟨by simp [e1, e2], f3⟩
          · have q3 : (a.re == b.re) = false := by simpa using e2
            simp (disch := first | omega | (simp only [List.length_cons, List.length_nil, List.length_append, u8s_len]; omega)) only [go_sem, ↓reduceIte, true_and, Nat.reduceLeDiff, Nat.reduceEqDiff, Nat.reduceAdd, Nat.reduceBEq, Int.reduceEq, H.cv_3_5, H.cv_3_49, H.cv_49_5, f1, f2, e1, q3]
            rw [hl]
            exact ⟨by simp [e1, e2], f3⟩
  · have q0 : (a.kind != b.kind) = true := by simpa using k0
    (refine W_seq_gen fun N hN => ?_); simp (disch := first | omega | (simp only [List.length_cons, List.length_nil, List.length_append, u8s_len]; omega)) only [go_sem, ↓reduceIte, true_and, Nat.reduceLeDiff, Nat.reduceEqDiff, Nat.reduceAdd, Nat.reduceBEq, Int.reduceEq, H.cv_3_5, H.cv_3_49, H.cv_49_5, f1, f2, q0]
    rw [lessV, if_neg k0]
    exact ⟨rfl, f3⟩
include HD
theorem lessAll_ok {v w : AV} {l m : List Vl} (hv : SL 5 v (vls l)) (hw : SL 5 w (vls m)) (hl : l.length < 2 ^ 60) (hm : m.length < 2 ^ 60) (h : Heap) : AWF P ann 0 15 [v, w] h fun r h' => r = .sc (.bool (lessAll l m)) ∧ h' = h := by
  refine AWF.fnc H.f0_15 rfl ?_
  have e1 := @vls_len l
  have e2 := @vls_len m
  (refine W_seq_gen fun N hN => ?_); simp (disch := first | omega | (simp only [List.length_cons, List.length_nil, List.length_append, u8s_len]; omega)) only [go_sem, ↓reduceIte, true_and, Nat.reduceLeDiff, Nat.reduceEqDiff, Nat.reduceAdd, Nat.reduceBEq, Int.reduceEq, H.cv_3_5, H.cv_3_49, H.cv_49_5]
  refine hN _ ?_; clear hN N
  (refine W_seq_gen fun M hM => ?_)
  (refine W_seq_gen fun N hN => ?_); simp (disch := first | omega | (simp only [List.length_cons, List.length_nil, List.length_append, u8s_len]; omega)) only [go_sem, ↓reduceIte, true_and, Nat.reduceLeDiff, Nat.reduceEqDiff, Nat.reduceAdd, Nat.reduceBEq, Int.reduceEq, H.cv_3_5, H.cv_3_49, H.cv_49_5]
  refine hN _ ?_; clear hN N
  simp (disch := first | omega | (simp only [List.length_cons, List.length_nil, List.length_append, u8s_len]; omega)) only [go_sem, ↓reduceIte, true_and, Nat.reduceLeDiff, Nat.reduceEqDiff, Nat.reduceAdd, Nat.reduceBEq, Int.reduceEq, H.cv_3_5, H.cv_3_49, H.cv_49_5]
  refine AW_loopN (fun n t h' => h' = h ∧ ∃ i, n = l.length - i ∧ i ≤ l.length ∧ i ≤ m.length ∧ t 0 = v ∧ t 1 = w ∧ t 5 = .sc (.int .i64 (i : Nat)) ∧ lessAll l m = lessAll (l.drop i) (m.drop i))
    (n := l.length) ⟨rfl, 0, rfl, Nat.zero_le _, Nat.zero_le _, rfl, rfl, rfl, rfl⟩ ?_
  rintro n t h' ⟨rfl, i, rfl, hi, hi2, t0, t1, t5, he⟩
  have fin : (i = l.length ∨ i = m.length) → ∀ t : Nat → AV, t 0 = v → t 1 = w → M ⟨t, h'⟩ := by
    intro hq t t0 t1
    refine hM _ ?_; clear hM M
    simp (disch := first | omega | (simp only [List.length_cons, List.length_nil, List.length_append, u8s_len]; omega)) only [go_sem, ↓reduceIte, true_and, Nat.reduceLeDiff, Nat.reduceEqDiff, Nat.reduceAdd, Nat.reduceBEq, Int.reduceEq, H.cv_3_5, H.cv_3_49, H.cv_49_5, t0, t1, hv.dis.len, hw.dis.len, e1, e2]
    rw [he, lessAll_end hq hi hi2]
  by_cases h1 : i < l.length
  · by_cases h2 : i < m.length
    · have g0 := vls_get h1
      have g1 := vls_get h2
      have d1 : l.drop i = l[i] :: l.drop (i + 1) := List.drop_eq_getElem_cons h1
      have d2 : m.drop i = m[i] :: m.drop (i + 1) := List.drop_eq_getElem_cons h2
      rw [d1, d2, lessAll] at he
      (refine W_seq_gen fun N hN => ?_); simp (disch := first | omega | (simp only [List.length_cons, List.length_nil, List.length_append, u8s_len]; omega)) only [go_sem, ↓reduceIte, true_and, Nat.reduceLeDiff, Nat.reduceEqDiff, Nat.reduceAdd, Nat.reduceBEq, Int.reduceEq, H.cv_3_5, H.cv_3_49, H.cv_49_5, t0, t1, t5, hv.dis.len, hw.dis.len, e1, e2, h1, h2]
      refine hN _ ?_; clear hN N
      (refine W_seq_gen fun N hN => ?_)
      rw [W_block]
      have q := HD.ne l[i] m[i]
      by_cases hq : l[i] = m[i]
      · rw [decide_eq_true hq] at q
        rw [if_pos hq] at he
        (refine W_seq_gen fun N hN => ?_); simp (disch := first | omega | (simp only [List.length_cons, List.length_nil, List.length_append, u8s_len]; omega)) only [go_sem, ↓reduceIte, true_and, Nat.reduceLeDiff, Nat.reduceEqDiff, Nat.reduceAdd, Nat.reduceBEq, Int.reduceEq, H.cv_3_5, H.cv_3_49, H.cv_49_5, t0, t1, t5, hv.dis.ia, hw.dis.ia, g0, g1, Vl.cells, q]
        refine hN _ ?_; clear hN N
        simp (disch := first | omega | (simp only [List.length_cons, List.length_nil, List.length_append, u8s_len]; omega)) only [go_sem, ↓reduceIte, true_and, Nat.reduceLeDiff, Nat.reduceEqDiff, Nat.reduceAdd, Nat.reduceBEq, Int.reduceEq, H.cv_3_5, H.cv_3_49, H.cv_49_5]
        refine hN _ ?_; clear hN N
        simp (disch := first | omega | (simp only [List.length_cons, List.length_nil, List.length_append, u8s_len]; omega)) only [go_sem, ↓reduceIte, true_and, Nat.reduceLeDiff, Nat.reduceEqDiff, Nat.reduceAdd, Nat.reduceBEq, Int.reduceEq, H.cv_3_5, H.cv_3_49, H.cv_49_5, t5, nat_add]
        exact ⟨l.length - (i + 1), by omega, i + 1, rfl, by omega, by omega, t0, t1, rfl, he⟩
      · rw [decide_eq_false hq] at q
        rw [if_neg hq] at he
        have av1 : AV.ag [.sc (.int .i64 l[i].kind), .sc (.int .i64 l[i].num), .sc (.string (str l[i].text)), .sc (.int .i64 l[i].re), .sc (.int .i64 l[i].im)] = l[i].av := rfl
        have av2 : AV.ag [.sc (.int .i64 m[i].kind), .sc (.int .i64 m[i].num), .sc (.string (str m[i].text)), .sc (.int .i64 m[i].re), .sc (.int .i64 m[i].im)] = m[i].av := rfl
        (refine W_seq_gen fun N hN => ?_); simp (disch := first | omega | (simp only [List.length_cons, List.length_nil, List.length_append, u8s_len]; omega)) only [go_sem, ↓reduceIte, true_and, Nat.reduceLeDiff, Nat.reduceEqDiff, Nat.reduceAdd, Nat.reduceBEq, Int.reduceEq, H.cv_3_5, H.cv_3_49, H.cv_49_5, t0, t1, t5, hv.dis.ia, hw.dis.ia, g0, g1, Vl.cells, q]
        refine hN _ ?_; clear hN N
        refine ⟨true, rfl, fun _ => ?_, fun h => Bool.noConfusion h⟩
        (refine W_seq_gen fun N hN => ?_); simp (disch := first | omega | (simp only [List.length_cons, List.length_nil, List.length_append, u8s_len]; omega)) only [go_sem, ↓reduceIte, true_and, Nat.reduceLeDiff, Nat.reduceEqDiff, Nat.reduceAdd, Nat.reduceBEq, Int.reduceEq, H.cv_3_5, H.cv_3_49, H.cv_49_5, t0, t1, t5, hv.dis.ia, hw.dis.ia, g0, g1, Vl.cells]
        rw [av1, av2]
        refine ⟨_, less_ok H _ _ _, ?_⟩
        rw [contK_some]; simp (disch := first | omega | (simp only [List.length_cons, List.length_nil, List.length_append, u8s_len]; omega)) only [go_sem, ↓reduceIte, true_and, Nat.reduceLeDiff, Nat.reduceEqDiff, Nat.reduceAdd, Nat.reduceBEq, Int.reduceEq, H.cv_3_5, H.cv_3_49, H.cv_49_5]
        refine hN _ ?_; clear hN N
        simp (disch := first | omega | (simp only [List.length_cons, List.length_nil, List.length_append, u8s_len]; omega)) only [go_sem, ↓reduceIte, true_and, Nat.reduceLeDiff, Nat.reduceEqDiff, Nat.reduceAdd, Nat.reduceBEq, Int.reduceEq, H.cv_3_5, H.cv_3_49, H.cv_49_5]
        exact he.symm
    · (refine W_seq_gen fun N hN => ?_); simp (disch := first | omega | (simp only [List.length_cons, List.length_nil, List.length_append, u8s_len]; omega)) only [go_sem, ↓reduceIte, true_and, Nat.reduceLeDiff, Nat.reduceEqDiff, Nat.reduceAdd, Nat.reduceBEq, Int.reduceEq, H.cv_3_5, H.cv_3_49, H.cv_49_5, t0, t1, t5, hv.dis.len, hw.dis.len, e1, e2, h1, h2]
      refine fin (by omega) _ ?_ ?_
      · simpa [upd_at] using t0
      · simpa [upd_at] using t1
  · (refine W_seq_gen fun N hN => ?_); simp (disch := first | omega | (simp only [List.length_cons, List.length_nil, List.length_append, u8s_len]; omega)) only [go_sem, ↓reduceIte, true_and, Nat.reduceLeDiff, Nat.reduceEqDiff, Nat.reduceAdd, Nat.reduceBEq, Int.reduceEq, H.cv_3_5, H.cv_3_49, H.cv_49_5, t0, t1, t5, hv.dis.len, hw.dis.len, e1, e2, h1]
    refine fin (by omega) _ ?_ ?_
    · simpa [upd_at] using t0
    · simpa [upd_at] using t1
omit HD
include L
theorem cmpFunc_ok {v w : AV} {l m : List Vl} (hv : SL 5 v (vls l)) (hw : SL 5 w (vls m)) (hl : l.length < 2 ^ 60) (hm : m.length < 2 ^ 60) (h : Heap) :
    AWF P ann 0 24 [v, w, .fn 14 [] []] h fun r h' => r = .sc (.int .i64 (cmpAll l m)) ∧ h' = h := by
  refine AWF.fnPurec H.f0_24 rfl ?_
  have e1 := @vls_len l
  have e2 := @vls_len m
  (refine W_seq_gen fun N hN => ?_); simp (disch := first | omega | (simp only [List.length_cons, List.length_nil, List.length_append, u8s_len]; omega)) only [go_sem, ↓reduceIte, true_and, Nat.reduceLeDiff, Nat.reduceEqDiff, Nat.reduceAdd, Nat.reduceBEq, Int.reduceEq, H.cv_3_5, H.cv_3_49, H.cv_49_5]
  refine hN _ ?_; clear hN N
  (refine W_seq_gen fun M hM => ?_)
  (refine W_seq_gen fun N hN => ?_); simp (disch := first | omega | (simp only [List.length_cons, List.length_nil, List.length_append, u8s_len]; omega)) only [go_sem, ↓reduceIte, true_and, Nat.reduceLeDiff, Nat.reduceEqDiff, Nat.reduceAdd, Nat.reduceBEq, Int.reduceEq, H.cv_3_5, H.cv_3_49, H.cv_49_5, hv.dis.len, e1]
  refine hN _ ?_; clear hN N
  simp (disch := first | omega | (simp only [List.length_cons, List.length_nil, List.length_append, u8s_len]; omega)) only [go_sem, ↓reduceIte, true_and, Nat.reduceLeDiff, Nat.reduceEqDiff, Nat.reduceAdd, Nat.reduceBEq, Int.reduceEq, H.cv_3_5, H.cv_3_49, H.cv_49_5]
  refine AW_loopN (fun n t h' => (∀ o, ¬ h o = none → h' o = h o) ∧ ∃ i, n = l.length - i ∧ i ≤ l.length ∧ i ≤ m.length ∧ t 0 = v ∧ t 1 = w ∧ t 2 = .fn 14 [] [] ∧ t 11 = v.dis ∧ t 12 = .sc (.int .i64 (l.length : Nat)) ∧ t 13 = .sc (.int .i64 (i : Nat)) ∧ cmpAll l m = cmpAll (l.drop i) (m.drop i))
    (n := l.length) ⟨fun _ _ => rfl, 0, rfl, Nat.zero_le _, Nat.zero_le _, rfl, rfl, rfl, by simp [upd_at], rfl, rfl, rfl⟩ ?_
  rintro n t h' ⟨hh, i, rfl, hi, hi2, t0, t1, t2, t11, t12, t13, he⟩
  rcases Nat.lt_or_ge i l.length with hlt | hge
  · have g0 := vls_get hlt
    have d1 : l.drop i = l[i] :: l.drop (i + 1) := List.drop_eq_getElem_cons hlt
    (refine W_seq_gen fun N hN => ?_); simp (disch := first | omega | (simp only [List.length_cons, List.length_nil, List.length_append, u8s_len]; omega)) only [go_sem, ↓reduceIte, true_and, Nat.reduceLeDiff, Nat.reduceEqDiff, Nat.reduceAdd, Nat.reduceBEq, Int.reduceEq, H.cv_3_5, H.cv_3_49, H.cv_49_5, t12, t13, hlt]
    refine hN _ ?_; clear hN N
    (refine W_seq_gen fun N hN => ?_); simp (disch := first | omega | (simp only [List.length_cons, List.length_nil, List.length_append, u8s_len]; omega)) only [go_sem, ↓reduceIte, true_and, Nat.reduceLeDiff, Nat.reduceEqDiff, Nat.reduceAdd, Nat.reduceBEq, Int.reduceEq, H.cv_3_5, H.cv_3_49, H.cv_49_5]
    refine hN _ ?_; clear hN N
    (refine W_seq_gen fun N hN => ?_)
    rw [W_block]
    (refine W_seq_gen fun N hN => ?_); simp (disch := first | omega | (simp only [List.length_cons, List.length_nil, List.length_append, u8s_len]; omega)) only [go_sem, ↓reduceIte, true_and, Nat.reduceLeDiff, Nat.reduceEqDiff, Nat.reduceAdd, Nat.reduceBEq, Int.reduceEq, H.cv_3_5, H.cv_3_49, H.cv_49_5, t11, t13, hv.dd, hv.dis.ia, g0, Vl.cells]
    intro b hb
    have hh2 : ∀ o, ¬ h o = none → upd h' b (some (.arr l[i].cells)) o = h o := fun o ho => by
      have := hh o ho
      rw [upd_keep hb o (by rw [this]; exact ho), this]
    have f1 : upd h' b (some (.arr l[i].cells)) b = some (.arr l[i].cells) := upd_same _ _ _
    rw [Vl.cells] at hh2 f1
    refine hN _ ?_; clear hN N
    generalize upd h' b (some (.arr [.sc (.int .i64 l[i].kind), .sc (.int .i64 l[i].num), .sc (.string (str l[i].text)), .sc (.int .i64 l[i].re), .sc (.int .i64 l[i].im)])) = h2 at hh2 f1
    clear hb hh
    by_cases hm2 : i < m.length
    · have hm3 : ¬ i ≥ m.length := by omega
      have g1 := vls_get hm2
      have d2 : m.drop i = m[i] :: m.drop (i + 1) := List.drop_eq_getElem_cons hm2
      rw [d1, d2, cmpAll] at he
      (refine W_seq_gen fun N hN => ?_)
      (refine W_seq_gen fun N hN => ?_); simp (disch := first | omega | (simp only [List.length_cons, List.length_nil, List.length_append, u8s_len]; omega)) only [go_sem, ↓reduceIte, true_and, Nat.reduceLeDiff, Nat.reduceEqDiff, Nat.reduceAdd, Nat.reduceBEq, Int.reduceEq, H.cv_3_5, H.cv_3_49, H.cv_49_5, t1, hw.dis.len, e2, hm3]
      refine hN _ ?_; clear hN N
      simp (disch := first | omega | (simp only [List.length_cons, List.length_nil, List.length_append, u8s_len]; omega)) only [go_sem, ↓reduceIte, true_and, Nat.reduceLeDiff, Nat.reduceEqDiff, Nat.reduceAdd, Nat.reduceBEq, Int.reduceEq, H.cv_3_5, H.cv_3_49, H.cv_49_5]
      refine hN _ ?_; clear hN N
      (refine W_seq_gen fun N hN => ?_)
      simp (disch := first | omega | (simp only [List.length_cons, List.length_nil, List.length_append, u8s_len]; omega)) only [go_sem, ↓reduceIte, true_and, Nat.reduceLeDiff, Nat.reduceEqDiff, Nat.reduceAdd, Nat.reduceBEq, Int.reduceEq, H.cv_3_5, H.cv_3_49, H.cv_49_5, t1, hw.dis.ia, g1, Vl.cells]
      intro b2 hb2
      have hh3 : ∀ o, ¬ h o = none → upd h2 b2 (some (.arr m[i].cells)) o = h o := fun o ho => by
        have := hh2 o ho
        rw [upd_keep hb2 o (by rw [this]; exact ho), this]
      have f2 : upd h2 b2 (some (.arr m[i].cells)) b2 = some (.arr m[i].cells) := upd_same _ _ _
      have f3 : upd h2 b2 (some (.arr m[i].cells)) b = some (.arr l[i].cells) := by rw [upd_keep hb2 b (by rw [f1]; simp), f1]; rfl
      rw [Vl.cells] at hh3 f2 f3
      refine hN _ ?_; clear hN N
      generalize upd h2 b2 (some (.arr [.sc (.int .i64 m[i].kind), .sc (.int .i64 m[i].num), .sc (.string (str m[i].text)), .sc (.int .i64 m[i].re), .sc (.int .i64 m[i].im)])) = h3 at hh3 f2 f3
      clear hb2 hh2 f1
      rw [Vl.cells] at f3
      have av1 : AV.ag [.sc (.int .i64 l[i].kind), .sc (.int .i64 l[i].num), .sc (.string (str l[i].text)), .sc (.int .i64 l[i].re), .sc (.int .i64 l[i].im)] = l[i].av := rfl
      have av2 : AV.ag [.sc (.int .i64 m[i].kind), .sc (.int .i64 m[i].num), .sc (.string (str m[i].text)), .sc (.int .i64 m[i].re), .sc (.int .i64 m[i].im)] = m[i].av := rfl
      (refine W_seq_gen fun N hN => ?_); simp (disch := first | omega | (simp only [List.length_cons, List.length_nil, List.length_append, u8s_len]; omega)) only [go_sem, ↓reduceIte, true_and, Nat.reduceLeDiff, Nat.reduceEqDiff, Nat.reduceAdd, Nat.reduceBEq, Int.reduceEq, H.cv_3_5, H.cv_3_49, H.cv_49_5, t2, f2, f3]
      rw [av1, av2]
      refine (compare_ok H L _ _ _).mono ?_
      rintro _ _ ⟨rfl, hh⟩; subst hh
      by_cases hz : cmpV l[i] m[i] = 0
      · have q : (cmpV l[i] m[i] != ((0 : Nat) : Int)) = false := by simpa using hz
        rw [if_pos hz] at he
        rw [contK_some]; simp (disch := first | omega | (simp only [List.length_cons, List.length_nil, List.length_append, u8s_len]; omega)) only [go_sem, ↓reduceIte, true_and, Nat.reduceLeDiff, Nat.reduceEqDiff, Nat.reduceAdd, Nat.reduceBEq, Int.reduceEq, H.cv_3_5, H.cv_3_49, H.cv_49_5]
        refine hN _ ?_; clear hN N
        simp (disch := first | omega | (simp only [List.length_cons, List.length_nil, List.length_append, u8s_len]; omega)) only [go_sem, ↓reduceIte, true_and, Nat.reduceLeDiff, Nat.reduceEqDiff, Nat.reduceAdd, Nat.reduceBEq, Int.reduceEq, H.cv_3_5, H.cv_3_49, H.cv_49_5, q]
        refine hN _ ?_; clear hN N
        simp (disch := first | omega | (simp only [List.length_cons, List.length_nil, List.length_append, u8s_len]; omega)) only [go_sem, ↓reduceIte, true_and, Nat.reduceLeDiff, Nat.reduceEqDiff, Nat.reduceAdd, Nat.reduceBEq, Int.reduceEq, H.cv_3_5, H.cv_3_49, H.cv_49_5, t13, nat_add]
        exact ⟨l.length - (i + 1), by omega, hh3, i + 1, rfl, by omega, by omega, t0, t1, t2, t11, t12, rfl, he⟩
      · have q : (cmpV l[i] m[i] != ((0 : Nat) : Int)) = true := by simpa using hz
        rw [if_neg hz] at he
        rw [contK_some]; simp (disch := first | omega | (simp only [List.length_cons, List.length_nil, List.length_append, u8s_len]; omega)) only [go_sem, ↓reduceIte, true_and, Nat.reduceLeDiff, Nat.reduceEqDiff, Nat.reduceAdd, Nat.reduceBEq, Int.reduceEq, H.cv_3_5, H.cv_3_49, H.cv_49_5]
        refine hN _ ?_; clear hN N
        simp (disch := first | omega | (simp only [List.length_cons, List.length_nil, List.length_append, u8s_len]; omega)) only [go_sem, ↓reduceIte, true_and, Nat.reduceLeDiff, Nat.reduceEqDiff, Nat.reduceAdd, Nat.reduceBEq, Int.reduceEq, H.cv_3_5, H.cv_3_49, H.cv_49_5, q]
        rw [he]
        exact ⟨rfl, hh3⟩
    · have hm3 : i ≥ m.length := by omega
      have d2 : m.drop i = [] := List.drop_eq_nil_of_le hm3
      rw [d1, d2, cmpAll] at he
      (refine W_seq_gen fun N hN => ?_)
      simp (disch := first | omega | (simp only [List.length_cons, List.length_nil, List.length_append, u8s_len]; omega)) only [go_sem, ↓reduceIte, true_and, Nat.reduceLeDiff, Nat.reduceEqDiff, Nat.reduceAdd, Nat.reduceBEq, Int.reduceEq, H.cv_3_5, H.cv_3_49, H.cv_49_5, t1, hw.dis.len, e2, hm3]
      rw [he]
      exact ⟨rfl, hh2⟩
  obtain rfl : i = l.length := by omega
  rw [cmpAll_end rfl hi2] at he
  (refine W_seq_gen fun N hN => ?_); simp (disch := first | omega | (simp only [List.length_cons, List.length_nil, List.length_append, u8s_len]; omega)) only [go_sem, ↓reduceIte, true_and, Nat.reduceLeDiff, Nat.reduceEqDiff, Nat.reduceAdd, Nat.reduceBEq, Int.reduceEq, H.cv_3_5, H.cv_3_49, H.cv_49_5, t12, t13, Nat.lt_irrefl]
  refine hN _ ?_; clear hN N
  (refine W_seq_gen fun N hN => ?_); simp (disch := first | omega | (simp only [List.length_cons, List.length_nil, List.length_append, u8s_len]; omega)) only [go_sem, ↓reduceIte, true_and, Nat.reduceLeDiff, Nat.reduceEqDiff, Nat.reduceAdd, Nat.reduceBEq, Int.reduceEq, H.cv_3_5, H.cv_3_49, H.cv_49_5]
  refine hM _ ?_; clear hN N hM M
  by_cases hlm : l.length < m.length
  · simp (disch := first | omega | (simp only [List.length_cons, List.length_nil, List.length_append, u8s_len]; omega)) only [go_sem, ↓reduceIte, true_and, Nat.reduceLeDiff, Nat.reduceEqDiff, Nat.reduceAdd, Nat.reduceBEq, Int.reduceEq, H.cv_3_5, H.cv_3_49, H.cv_49_5, t0, t1, hv.dis.len, hw.dis.len, e1, e2, hlm]
    rw [he, if_pos hlm]
    exact ⟨rfl, hh⟩
  · simp (disch := first | omega | (simp only [List.length_cons, List.length_nil, List.length_append, u8s_len]; omega)) only [go_sem, ↓reduceIte, true_and, Nat.reduceLeDiff, Nat.reduceEqDiff, Nat.reduceAdd, Nat.reduceBEq, Int.reduceEq, H.cv_3_5, H.cv_3_49, H.cv_49_5, t0, t1, hv.dis.len, hw.dis.len, e1, e2, hlm]
    rw [he, if_neg hlm]
    exact ⟨rfl, hh⟩
theorem cmpAll_ok {v w : AV} {l m : List Vl} (hv : SF 5 v (vls l)) (hw : SF 5 w (vls m)) (hl : l.length < 2 ^ 60) (hm : m.length < 2 ^ 60) (h : Heap) : AWF P ann 0 16 [v, w] h fun r h' => r = .sc (.int .i64 (cmpAll l m)) ∧ h' = h := by
  refine AWF.fnc H.f0_16 rfl ?_
  (refine W_seq_gen fun N hN => ?_); simp (disch := first | omega | (simp only [List.length_cons, List.length_nil, List.length_append, u8s_len]; omega)) only [go_sem, ↓reduceIte, true_and, Nat.reduceLeDiff, Nat.reduceEqDiff, Nat.reduceAdd, Nat.reduceBEq, Int.reduceEq, H.cv_3_5, H.cv_3_49, H.cv_49_5]
  refine hN _ ?_; clear hN N
  (refine W_seq_gen fun N hN => ?_); simp (disch := first | omega | (simp only [List.length_cons, List.length_nil, List.length_append, u8s_len]; omega)) only [go_sem, ↓reduceIte, true_and, Nat.reduceLeDiff, Nat.reduceEqDiff, Nat.reduceAdd, Nat.reduceBEq, Int.reduceEq, H.cv_3_5, H.cv_3_49, H.cv_49_5, hv.same, hw.same, hv.own, hw.own, Bool.not_false, Bool.true_or]
  refine (cmpFunc_ok H L hv.sl hw.sl hl hm _).mono ?_
  rintro _ _ ⟨rfl, hh⟩; subst hh
  rw [contK_some]; simp (disch := first | omega | (simp only [List.length_cons, List.length_nil, List.length_append, u8s_len]; omega)) only [go_sem, ↓reduceIte, true_and, Nat.reduceLeDiff, Nat.reduceEqDiff, Nat.reduceAdd, Nat.reduceBEq, Int.reduceEq, H.cv_3_5, H.cv_3_49, H.cv_49_5]
  refine hN _ ?_; clear hN N
  simp (disch := first | omega | (simp only [List.length_cons, List.length_nil, List.length_append, u8s_len]; omega)) only [go_sem, ↓reduceIte, true_and, Nat.reduceLeDiff, Nat.reduceEqDiff, Nat.reduceAdd, Nat.reduceBEq, Int.reduceEq, H.cv_3_5, H.cv_3_49, H.cv_49_5]

include HC HD
theorem orders_law {v w : AV} {l m : List Vl} (hv : SF 5 v (vls l)) (hw : SF 5 w (vls m)) (hl : l.length < 2 ^ 60) (hm : m.length < 2 ^ 60) (h : Heap) :
    AWF P ann 0 6 [v, w] h fun r h' => r = .sc (.bool true) := by
  refine AWF.fnc H.f0_6 rfl ?_
  have e1 := @vls_len l
  have e2 := @vls_len m
  (refine W_seq_gen fun N hN => ?_); simp (disch := first | omega | (simp only [List.length_cons, List.length_nil, List.length_append, u8s_len]; omega)) only [go_sem, ↓reduceIte, true_and, Nat.reduceLeDiff, Nat.reduceEqDiff, Nat.reduceAdd, Nat.reduceBEq, Int.reduceEq, H.cv_3_5, H.cv_3_49, H.cv_49_5]
  refine hN _ ?_; clear hN N
  by_cases hb1 : 16 < l.length
  · (refine W_seq_gen fun N hN => ?_); simp (disch := first | omega | (simp only [List.length_cons, List.length_nil, List.length_append, u8s_len]; omega)) only [go_sem, ↓reduceIte, true_and, Nat.reduceLeDiff, Nat.reduceEqDiff, Nat.reduceAdd, Nat.reduceBEq, Int.reduceEq, H.cv_3_5, H.cv_3_49, H.cv_49_5, hv.same, hv.sl.len, e1, hb1]
    refine (awake_ok H HC L _).mono ?_
    rintro _ _ ⟨rfl, hh⟩; subst hh
    rw [contK_some]; simp (disch := first | omega | (simp only [List.length_cons, List.length_nil, List.length_append, u8s_len]; omega)) only [go_sem, ↓reduceIte, true_and, Nat.reduceLeDiff, Nat.reduceEqDiff, Nat.reduceAdd, Nat.reduceBEq, Int.reduceEq, H.cv_3_5, H.cv_3_49, H.cv_49_5]
  by_cases hb2 : 16 < m.length
  · (refine W_seq_gen fun N hN => ?_); simp (disch := first | omega | (simp only [List.length_cons, List.length_nil, List.length_append, u8s_len]; omega)) only [go_sem, ↓reduceIte, true_and, Nat.reduceLeDiff, Nat.reduceEqDiff, Nat.reduceAdd, Nat.reduceBEq, Int.reduceEq, H.cv_3_5, H.cv_3_49, H.cv_49_5, hv.same, hw.same, hv.sl.len, hw.sl.len, e1, e2, hb1, hb2]
    refine (awake_ok H HC L _).mono ?_
    rintro _ _ ⟨rfl, hh⟩; subst hh
    rw [contK_some]; simp (disch := first | omega | (simp only [List.length_cons, List.length_nil, List.length_append, u8s_len]; omega)) only [go_sem, ↓reduceIte, true_and, Nat.reduceLeDiff, Nat.reduceEqDiff, Nat.reduceAdd, Nat.reduceBEq, Int.reduceEq, H.cv_3_5, H.cv_3_49, H.cv_49_5]
  (refine W_seq_gen fun N hN => ?_); simp (disch := first | omega | (simp only [List.length_cons, List.length_nil, List.length_append, u8s_len]; omega)) only [go_sem, ↓reduceIte, true_and, Nat.reduceLeDiff, Nat.reduceEqDiff, Nat.reduceAdd, Nat.reduceBEq, Int.reduceEq, H.cv_3_5, H.cv_3_49, H.cv_49_5, hv.same, hw.same, hv.sl.len, hw.sl.len, e1, e2, hb1, hb2]
  refine hN _ ?_; clear hN N
  (refine W_seq_gen fun N hN => ?_); simp (disch := first | omega | (simp only [List.length_cons, List.length_nil, List.length_append, u8s_len]; omega)) only [go_sem, ↓reduceIte, true_and, Nat.reduceLeDiff, Nat.reduceEqDiff, Nat.reduceAdd, Nat.reduceBEq, Int.reduceEq, H.cv_3_5, H.cv_3_49, H.cv_49_5, hv.same]
  refine (key_ok H HC hv.sl hl _).mono ?_
  rw [if_neg hb1, if_neg hb1]
  rintro _ _ ⟨rfl, hh⟩; subst hh
  rw [contK_some]; simp (disch := first | omega | (simp only [List.length_cons, List.length_nil, List.length_append, u8s_len]; omega)) only [go_sem, ↓reduceIte, true_and, Nat.reduceLeDiff, Nat.reduceEqDiff, Nat.reduceAdd, Nat.reduceBEq, Int.reduceEq, H.cv_3_5, H.cv_3_49, H.cv_49_5]
  refine hN _ ?_; clear hN N
  (refine W_seq_gen fun N hN => ?_); simp (disch := first | omega | (simp only [List.length_cons, List.length_nil, List.length_append, u8s_len]; omega)) only [go_sem, ↓reduceIte, true_and, Nat.reduceLeDiff, Nat.reduceEqDiff, Nat.reduceAdd, Nat.reduceBEq, Int.reduceEq, H.cv_3_5, H.cv_3_49, H.cv_49_5, hw.same]
  refine (key_ok H HC hw.sl hm _).mono ?_
  rw [if_neg hb2, if_neg hb2]
  rintro _ _ ⟨rfl, hh⟩; subst hh
  rw [contK_some]; simp (disch := first | omega | (simp only [List.length_cons, List.length_nil, List.length_append, u8s_len]; omega)) only [go_sem, ↓reduceIte, true_and, Nat.reduceLeDiff, Nat.reduceEqDiff, Nat.reduceAdd, Nat.reduceBEq, Int.reduceEq, H.cv_3_5, H.cv_3_49, H.cv_49_5]
  refine hN _ ?_; clear hN N
  by_cases hx : keyE l = 0
  case neg =>
    have q : (((keyE l : Nat) : Int) != ((0 : Nat) : Int)) = true := by simpa using hx
    (refine W_seq_gen fun N hN => ?_); simp (disch := first | omega | (simp only [List.length_cons, List.length_nil, List.length_append, u8s_len]; omega)) only [go_sem, ↓reduceIte, true_and, Nat.reduceLeDiff, Nat.reduceEqDiff, Nat.reduceAdd, Nat.reduceBEq, Int.reduceEq, H.cv_3_5, H.cv_3_49, H.cv_49_5, q]
    refine (awake_ok H HC L _).mono ?_
    rintro _ _ ⟨rfl, hh⟩; subst hh
    rw [contK_some]; simp (disch := first | omega | (simp only [List.length_cons, List.length_nil, List.length_append, u8s_len]; omega)) only [go_sem, ↓reduceIte, true_and, Nat.reduceLeDiff, Nat.reduceEqDiff, Nat.reduceAdd, Nat.reduceBEq, Int.reduceEq, H.cv_3_5, H.cv_3_49, H.cv_49_5]
  by_cases hy : keyE m = 0
  case neg =>
    have q : (((keyE m : Nat) : Int) != ((0 : Nat) : Int)) = true := by simpa using hy
    (refine W_seq_gen fun N hN => ?_); simp (disch := first | omega | (simp only [List.length_cons, List.length_nil, List.length_append, u8s_len]; omega)) only [go_sem, ↓reduceIte, true_and, Nat.reduceLeDiff, Nat.reduceEqDiff, Nat.reduceAdd, Nat.reduceBEq, Int.reduceEq, H.cv_3_5, H.cv_3_49, H.cv_49_5, hx, q]
    refine (awake_ok H HC L _).mono ?_
    rintro _ _ ⟨rfl, hh⟩; subst hh
    rw [contK_some]; simp (disch := first | omega | (simp only [List.length_cons, List.length_nil, List.length_append, u8s_len]; omega)) only [go_sem, ↓reduceIte, true_and, Nat.reduceLeDiff, Nat.reduceEqDiff, Nat.reduceAdd, Nat.reduceBEq, Int.reduceEq, H.cv_3_5, H.cv_3_49, H.cv_49_5]
  rw [if_pos hx, if_pos hy]
  (refine W_seq_gen fun N hN => ?_); simp (disch := first | omega | (simp only [List.length_cons, List.length_nil, List.length_append, u8s_len]; omega)) only [go_sem, ↓reduceIte, true_and, Nat.reduceLeDiff, Nat.reduceEqDiff, Nat.reduceAdd, Nat.reduceBEq, Int.reduceEq, H.cv_3_5, H.cv_3_49, H.cv_49_5, hx, hy]
  refine hN _ ?_; clear hN N
  obtain ⟨a1, a2⟩ := all_less l m hx hy
  have a1 : decide (cmpAll l m < ((0 : Nat) : Int)) = lessAll l m := a1
  have a3 := cmpAll_range l m
  have a4 := cmpAll_zero l m
  (refine W_seq_gen fun N hN => ?_); simp (disch := first | omega | (simp only [List.length_cons, List.length_nil, List.length_append, u8s_len]; omega)) only [go_sem, ↓reduceIte, true_and, Nat.reduceLeDiff, Nat.reduceEqDiff, Nat.reduceAdd, Nat.reduceBEq, Int.reduceEq, H.cv_3_5, H.cv_3_49, H.cv_49_5, hv.same, hw.same, hv.own, hw.own, Bool.not_false, Bool.true_or]
  refine (lessAll_ok H HD hv.sl hw.sl hl hm _).mono ?_
  rintro _ _ ⟨rfl, hh⟩; subst hh
  rw [contK_some]; simp (disch := first | omega | (simp only [List.length_cons, List.length_nil, List.length_append, u8s_len]; omega)) only [go_sem, ↓reduceIte, true_and, Nat.reduceLeDiff, Nat.reduceEqDiff, Nat.reduceAdd, Nat.reduceBEq, Int.reduceEq, H.cv_3_5, H.cv_3_49, H.cv_49_5, hv.same, hw.same, hv.own, hw.own, Bool.not_false, Bool.true_or]
  refine (same_ok H HD hv.sl hw.sl hl hm _).mono ?_
  rintro _ _ ⟨rfl, hh⟩; subst hh
  rw [contK_some]; simp (disch := first | omega | (simp only [List.length_cons, List.length_nil, List.length_append, u8s_len]; omega)) only [go_sem, ↓reduceIte, true_and, Nat.reduceLeDiff, Nat.reduceEqDiff, Nat.reduceAdd, Nat.reduceBEq, Int.reduceEq, H.cv_3_5, H.cv_3_49, H.cv_49_5]
  refine hN _ ?_; clear hN N
  (refine W_seq_gen fun N hN => ?_); simp (disch := first | omega | (simp only [List.length_cons, List.length_nil, List.length_append, u8s_len]; omega)) only [go_sem, ↓reduceIte, true_and, Nat.reduceLeDiff, Nat.reduceEqDiff, Nat.reduceAdd, Nat.reduceBEq, Int.reduceEq, H.cv_3_5, H.cv_3_49, H.cv_49_5, hv.same, hw.same, hv.own, hw.own, Bool.not_false, Bool.true_or]
  refine (cmpAll_ok H L hv hw hl hm _).mono ?_
  rintro _ _ ⟨rfl, hh⟩; subst hh
  rw [contK_some]; simp (disch := first | omega | (simp only [List.length_cons, List.length_nil, List.length_append, u8s_len]; omega)) only [go_sem, ↓reduceIte, true_and, Nat.reduceLeDiff, Nat.reduceEqDiff, Nat.reduceAdd, Nat.reduceBEq, Int.reduceEq, H.cv_3_5, H.cv_3_49, H.cv_49_5]
  refine hN _ ?_; clear hN N
  have a5 : decide (l = m) = (cmpAll l m == ((0 : Nat) : Int)) := by
    by_cases e : l = m
    · rw [decide_eq_true e, a4.2 e]; rfl
    · have : ¬ cmpAll l m = 0 := fun q => e (a4.1 q)
      rw [decide_eq_false e]
      simpa using this
  have bxx : ∀ b : Bool, (b != b) = false := fun b => by cases b <;> rfl
  have bee : ∀ b : Bool, (b == b) = true := fun b => by cases b <;> rfl
  have q1 : ¬ cmpAll l m < -1 := by omega
  have q2 : ¬ cmpAll l m > ((1 : Nat) : Int) := by omega
  have w1 : sl (str (keyBs l)) (str (keyBs m)) = decide (cmpAll l m < ((0 : Nat) : Int)) := by rw [sl_str, a2, a1]
  have w2 : decide (str (keyBs l) = str (keyBs m)) = (cmpAll l m == ((0 : Nat) : Int)) := by
    rw [← a5, decide_eq_decide, str_inj, keys_same hx hy]
  rw [← a1, a5]
  (refine W_seq_gen fun N hN => ?_); simp (disch := first | omega | (simp only [List.length_cons, List.length_nil, List.length_append, u8s_len]; omega)) only [go_sem, ↓reduceIte, true_and, Nat.reduceLeDiff, Nat.reduceEqDiff, Nat.reduceAdd, Nat.reduceBEq, Int.reduceEq, H.cv_3_5, H.cv_3_49, H.cv_49_5, HC.bne, bxx, q1, q2]
  refine hN _ ?_; clear hN N
  (refine W_seq_gen fun M hM => ?_)
  (refine W_seq_gen fun N hN => ?_); simp (disch := first | omega | (simp only [List.length_cons, List.length_nil, List.length_append, u8s_len]; omega)) only [go_sem, ↓reduceIte, true_and, Nat.reduceLeDiff, Nat.reduceEqDiff, Nat.reduceAdd, Nat.reduceBEq, Int.reduceEq, H.cv_3_5, H.cv_3_49, H.cv_49_5]
  refine hN _ ?_; clear hN N
  simp (disch := first | omega | (simp only [List.length_cons, List.length_nil, List.length_append, u8s_len]; omega)) only [go_sem, ↓reduceIte, true_and, Nat.reduceLeDiff, Nat.reduceEqDiff, Nat.reduceAdd, Nat.reduceBEq, Int.reduceEq, H.cv_3_5, H.cv_3_49, H.cv_49_5]
  refine AW_loopN (fun n t h' => ∃ i, n = l.length - i ∧ i ≤ l.length ∧ i ≤ m.length ∧ t 0 = v ∧ t 1 = w ∧ t 5 = .sc (.string (str (keyBs l))) ∧ t 7 = .sc (.string (str (keyBs m))) ∧ t 9 = .sc (.bool (decide (cmpAll l m < ((0 : Nat) : Int)))) ∧ t 10 = .sc (.bool (cmpAll l m == ((0 : Nat) : Int))) ∧ t 12 = .sc (.int .i64 (i : Nat)))
    (n := l.length) ⟨0, rfl, Nat.zero_le _, Nat.zero_le _, rfl, rfl, rfl, rfl, rfl, rfl, rfl⟩ ?_
  rintro n t h' ⟨i, rfl, hi, hi2, t0, t1, t5, t7, t9, t10, t12⟩
  have fin : ∀ t : Nat → AV, t 5 = .sc (.string (str (keyBs l))) → t 7 = .sc (.string (str (keyBs m))) → t 9 = .sc (.bool (decide (cmpAll l m < ((0 : Nat) : Int)))) → t 10 = .sc (.bool (cmpAll l m == ((0 : Nat) : Int))) → M ⟨t, h'⟩ := by
    intro t t5 t7 t9 t10
    refine hM _ ?_; clear hM M
    simp (disch := first | omega | (simp only [List.length_cons, List.length_nil, List.length_append, u8s_len]; omega)) only [go_sem, ↓reduceIte, true_and, Nat.reduceLeDiff, Nat.reduceEqDiff, Nat.reduceAdd, Nat.reduceBEq, Int.reduceEq, H.cv_3_5, H.cv_3_49, H.cv_49_5, t5, t7, t9, t10, w1, w2, HD.beq, bee]
    refine (awake_ok H HC L _).mono ?_
    rintro _ _ ⟨rfl, hh⟩; subst hh
    rw [contK_some]; simp (disch := first | omega | (simp only [List.length_cons, List.length_nil, List.length_append, u8s_len]; omega)) only [go_sem, ↓reduceIte, true_and, Nat.reduceLeDiff, Nat.reduceEqDiff, Nat.reduceAdd, Nat.reduceBEq, Int.reduceEq, H.cv_3_5, H.cv_3_49, H.cv_49_5]
  clear hM
  by_cases h1 : i < l.length
  · by_cases h2 : i < m.length
    · have g0 := vls_get h1
      have g1 := vls_get h2
      have av1 : AV.ag [.sc (.int .i64 l[i].kind), .sc (.int .i64 l[i].num), .sc (.string (str l[i].text)), .sc (.int .i64 l[i].re), .sc (.int .i64 l[i].im)] = l[i].av := rfl
      have av2 : AV.ag [.sc (.int .i64 m[i].kind), .sc (.int .i64 m[i].num), .sc (.string (str m[i].text)), .sc (.int .i64 m[i].re), .sc (.int .i64 m[i].im)] = m[i].av := rfl
      have cl : decide (cmpV l[i] m[i] < ((0 : Nat) : Int)) = lessV l[i] m[i] := cmp_less (keyE_get hx h1) (keyE_get hy h2)
      have ce : decide (l[i] = m[i]) = (cmpV l[i] m[i] == ((0 : Nat) : Int)) := by
        by_cases e : l[i] = m[i]
        · rw [decide_eq_true e, cmpV_zero.2 e]; rfl
        · have : ¬ cmpV l[i] m[i] = 0 := fun q => e (cmpV_zero.1 q)
          rw [decide_eq_false e]
          simpa using this
      have he := HC.eq l[i] m[i]
      rw [ce] at he
      (refine W_seq_gen fun N hN => ?_); simp (disch := first | omega | (simp only [List.length_cons, List.length_nil, List.length_append, u8s_len]; omega)) only [go_sem, ↓reduceIte, true_and, Nat.reduceLeDiff, Nat.reduceEqDiff, Nat.reduceAdd, Nat.reduceBEq, Int.reduceEq, H.cv_3_5, H.cv_3_49, H.cv_49_5, t0, t1, t12, hv.sl.dis.len, hw.sl.dis.len, hv.same, hw.same, hv.sl.len, hw.sl.len, e1, e2, h1, h2]
      refine hN _ ?_; clear hN N
      (refine W_seq_gen fun N hN => ?_)
      rw [W_block]
      (refine W_seq_gen fun N hN => ?_); simp (disch := first | omega | (simp only [List.length_cons, List.length_nil, List.length_append, u8s_len]; omega)) only [go_sem, ↓reduceIte, true_and, Nat.reduceLeDiff, Nat.reduceEqDiff, Nat.reduceAdd, Nat.reduceBEq, Int.reduceEq, H.cv_3_5, H.cv_3_49, H.cv_49_5, t0, t1, t12, hv.same, hw.same, hv.sl.ia, hw.sl.ia, g0, g1, Vl.cells]
      rw [av1, av2]
      refine ⟨_, compare_ok H L _ _ _, ?_⟩
      rw [contK_some]; simp (disch := first | omega | (simp only [List.length_cons, List.length_nil, List.length_append, u8s_len]; omega)) only [go_sem, ↓reduceIte, true_and, Nat.reduceLeDiff, Nat.reduceEqDiff, Nat.reduceAdd, Nat.reduceBEq, Int.reduceEq, H.cv_3_5, H.cv_3_49, H.cv_49_5]
      refine hN _ ?_; clear hN N
      (refine W_seq_gen fun N hN => ?_); simp (disch := first | omega | (simp only [List.length_cons, List.length_nil, List.length_append, u8s_len]; omega)) only [go_sem, ↓reduceIte, true_and, Nat.reduceLeDiff, Nat.reduceEqDiff, Nat.reduceAdd, Nat.reduceBEq, Int.reduceEq, H.cv_3_5, H.cv_3_49, H.cv_49_5, t0, t1, t12, hv.same, hw.same, hv.sl.ia, hw.sl.ia, g0, g1, Vl.cells]
      rw [av1, av2]
      refine ⟨_, less_ok H _ _ _, ?_⟩
      rw [← cl]
      rw [contK_some]; simp (disch := first | omega | (simp only [List.length_cons, List.length_nil, List.length_append, u8s_len]; omega)) only [go_sem, ↓reduceIte, true_and, Nat.reduceLeDiff, Nat.reduceEqDiff, Nat.reduceAdd, Nat.reduceBEq, Int.reduceEq, H.cv_3_5, H.cv_3_49, H.cv_49_5, t0, t1, t12, hv.same, hw.same, hv.sl.ia, hw.sl.ia, g0, g1, Vl.cells, HC.bne, bxx, he]
      refine hN _ ?_; clear hN N
      simp (disch := first | omega | (simp only [List.length_cons, List.length_nil, List.length_append, u8s_len]; omega)) only [go_sem, ↓reduceIte, true_and, Nat.reduceLeDiff, Nat.reduceEqDiff, Nat.reduceAdd, Nat.reduceBEq, Int.reduceEq, H.cv_3_5, H.cv_3_49, H.cv_49_5]
      refine hN _ ?_; clear hN N
      simp (disch := first | omega | (simp only [List.length_cons, List.length_nil, List.length_append, u8s_len]; omega)) only [go_sem, ↓reduceIte, true_and, Nat.reduceLeDiff, Nat.reduceEqDiff, Nat.reduceAdd, Nat.reduceBEq, Int.reduceEq, H.cv_3_5, H.cv_3_49, H.cv_49_5, t12, nat_add]
      exact ⟨l.length - (i + 1), by omega, i + 1, rfl, by omega, by omega, t0, t1, t5, t7, t9, t10, rfl⟩
    · (refine W_seq_gen fun N hN => ?_); simp (disch := first | omega | (simp only [List.length_cons, List.length_nil, List.length_append, u8s_len]; omega)) only [go_sem, ↓reduceIte, true_and, Nat.reduceLeDiff, Nat.reduceEqDiff, Nat.reduceAdd, Nat.reduceBEq, Int.reduceEq, H.cv_3_5, H.cv_3_49, H.cv_49_5, t0, t1, t12, hv.same, hw.same, hv.sl.len, hw.sl.len, e1, e2, h1, h2]
      refine fin _ ?_ ?_ ?_ ?_
      · simpa [upd_at] using t5
      · simpa [upd_at] using t7
      · simpa [upd_at] using t9
      · simpa [upd_at] using t10
  · (refine W_seq_gen fun N hN => ?_); simp (disch := first | omega | (simp only [List.length_cons, List.length_nil, List.length_append, u8s_len]; omega)) only [go_sem, ↓reduceIte, true_and, Nat.reduceLeDiff, Nat.reduceEqDiff, Nat.reduceAdd, Nat.reduceBEq, Int.reduceEq, H.cv_3_5, H.cv_3_49, H.cv_49_5, t0, t1, t12, hv.same, hw.same, hv.sl.len, hw.sl.len, e1, e2, h1]
    refine fin _ ?_ ?_ ?_ ?_
    · simpa [upd_at] using t5
    · simpa [upd_at] using t7
    · simpa [upd_at] using t9
    · simpa [upd_at] using t10
end Go.Proofs.Ytmellpjoinldnaa
