/- Values, keys, what is read from keys. -/
import Derived.Test.YtcdfdnmnnepnoaaDoorRankCode
import Derived.Test.YtcdfdnmnnepnoaaDoorAmEq
import Derived.Test.YtcdfdnmnnepnoaaDoorAmFg
section
set_option linter.unusedVariables false
set_option linter.unusedSimpArgs false
namespace Go.Proofs.YtcdfdnmnnepnoaaDoor
open Go.Am

/-- A value. -/
structure Vl where
  kind : Int
  num : Int
  text : List UInt8
  re : Int
  im : Int
  deriving DecidableEq
def Vl.cells (v : Vl) : List AV := [.sc (.int .i64 v.kind), .sc (.int .i64 v.num), .sc (.string (str v.text)), .sc (.int .i64 v.re), .sc (.int .i64 v.im)]
def Vl.av (v : Vl) : AV := .ag v.cells
def i64r (n : Int) : Prop := -9223372036854775808 ≤ n ∧ n < 9223372036854775808

/-- Which of two numbers is ahead. -/
def cmpI (a b : Int) : Int := if a < b then -1 else if a > b then 1 else 0
/-- Strings compared. -/
def cb (a b : ByteArray) : Int := if sl a b then -1 else if a = b then 0 else 1
def orI : List Int → Int
  | [] => 0
  | a :: l => if a = 0 then orI l else a
def cmpV (a b : Vl) : Int := orI [cmpI a.kind b.kind, cmpI a.num b.num, cb (str a.text) (str b.text), cmpI a.re b.re, cmpI a.im b.im]
/-- Functions of the library. -/
structure Lb (P : Program) : Prop where
  cmp : ∀ (a b : ByteArray) (h : Heap), AWF P ann 0 26 [.sc (.string a), .sc (.string b)] h fun v h' => v = .sc (.int .i64 (cb a b)) ∧ h' = h
/-- What the program needs to know of values that are compared. -/
structure HasC (P : Program) : Prop where
  eq : ∀ a b : Vl, scalarBin P .eql 31 (.agg #[.int .i64 a.kind, .int .i64 a.num, .string (str a.text), .int .i64 a.re, .int .i64 a.im]) (.agg #[.int .i64 b.kind, .int .i64 b.num, .string (str b.text), .int .i64 b.re, .int .i64 b.im]) = some (.bool (decide (a = b)))
  bne : ∀ p q : Bool, scalarBin P .neq 4 (.bool p) (.bool q) = some (.bool (p != q))

def numV (n : Int) : Vl := ⟨1, n, [], 0, 0⟩
def textV (s : List UInt8) : Vl := ⟨2, 0, s, 0, 0⟩
def pointV (a b : Int) : Vl := ⟨3, 0, [], a, b⟩

theorem numV_av (n : Int) : (numV n).av = .ag [.sc (.int .i64 1), .sc (.int .i64 n), .sc (.string (str [])), .sc (.int .i64 0), .sc (.int .i64 0)] := rfl
theorem textV_av (s : List UInt8) : (textV s).av = .ag [.sc (.int .i64 2), .sc (.int .i64 0), .sc (.string (str s)), .sc (.int .i64 0), .sc (.int .i64 0)] := rfl
theorem pointV_av (a b : Int) : (pointV a b).av = .ag [.sc (.int .i64 3), .sc (.int .i64 0), .sc (.string (str [])), .sc (.int .i64 a), .sc (.int .i64 b)] := rfl
variable {P : Program} (H : Has P)
include H

theorem num_ok (n : Int) (h : Heap) : AWF P ann 0 15 [.sc (.int .i64 n)] h fun r h' => r = (numV n).av ∧ h' = h := by
  refine AWF.fnPure H.f0_15 rfl ?_
  simp (disch := first | omega | (simp only [List.length_cons, List.length_nil, List.length_append, u8s_len]; omega)) only [go_sem, ↓reduceIte, true_and, Nat.reduceLeDiff, Nat.reduceEqDiff, Nat.reduceAdd, Nat.reduceBEq, Int.reduceEq, H.cv_3_5, H.cv_3_56, H.cv_5_3, H.cv_5_56, H.cv_56_3, H.cv_56_5, code0_15]
  intro b hb
  exact ⟨rfl, upd_keep hb⟩
theorem text_ok (s : List UInt8) (h : Heap) : AWF P ann 0 13 [.sc (.string (str s))] h fun r h' => r = (textV s).av ∧ h' = h := by
  refine AWF.fnPure H.f0_13 rfl ?_
  simp (disch := first | omega | (simp only [List.length_cons, List.length_nil, List.length_append, u8s_len]; omega)) only [go_sem, ↓reduceIte, true_and, Nat.reduceLeDiff, Nat.reduceEqDiff, Nat.reduceAdd, Nat.reduceBEq, Int.reduceEq, H.cv_3_5, H.cv_3_56, H.cv_5_3, H.cv_5_56, H.cv_56_3, H.cv_56_5, code0_13]
  intro b hb
  exact ⟨rfl, upd_keep hb⟩
theorem point_ok (x y : Int) (h : Heap) : AWF P ann 0 19 [.sc (.int .i64 x), .sc (.int .i64 y)] h fun r h' => r = (pointV x y).av ∧ h' = h := by
  refine AWF.fnPure H.f0_19 rfl ?_
  simp (disch := first | omega | (simp only [List.length_cons, List.length_nil, List.length_append, u8s_len]; omega)) only [go_sem, ↓reduceIte, true_and, Nat.reduceLeDiff, Nat.reduceEqDiff, Nat.reduceAdd, Nat.reduceBEq, Int.reduceEq, H.cv_3_5, H.cv_3_56, H.cv_5_3, H.cv_5_56, H.cv_56_3, H.cv_56_5, code0_19]
  intro b hb
  exact ⟨rfl, upd_keep hb⟩
theorem isnan_ok (n : Int) (h : Heap) : AWF P ann 0 32 [.sc (.int .i64 n)] h fun r h' => r = .sc (.bool false) ∧ h' = h := by
  refine AWF.fnc H.f0_32 rfl ?_
  simp (disch := first | omega | (simp only [List.length_cons, List.length_nil, List.length_append, u8s_len]; omega)) only [go_sem, ↓reduceIte, true_and, Nat.reduceLeDiff, Nat.reduceEqDiff, Nat.reduceAdd, Nat.reduceBEq, Int.reduceEq, H.cv_3_5, H.cv_3_56, H.cv_5_3, H.cv_5_56, H.cv_56_3, H.cv_56_5]
  simp
theorem cmpi_ok (x y : Int) (h : Heap) : AWF P ann 0 25 [.sc (.int .i64 x), .sc (.int .i64 y)] h fun r h' => r = .sc (.int .i64 (cmpI x y)) ∧ h' = h := by
  refine AWF.fnc H.f0_25 rfl ?_
  (refine W_seq_gen fun N hN => ?_); simp (disch := first | omega | (simp only [List.length_cons, List.length_nil, List.length_append, u8s_len]; omega)) only [go_sem, ↓reduceIte, true_and, Nat.reduceLeDiff, Nat.reduceEqDiff, Nat.reduceAdd, Nat.reduceBEq, Int.reduceEq, H.cv_3_5, H.cv_3_56, H.cv_5_3, H.cv_5_56, H.cv_56_3, H.cv_56_5]
  refine hN _ ?_; clear hN N
  (refine W_seq_gen fun N hN => ?_); simp (disch := first | omega | (simp only [List.length_cons, List.length_nil, List.length_append, u8s_len]; omega)) only [go_sem, ↓reduceIte, true_and, Nat.reduceLeDiff, Nat.reduceEqDiff, Nat.reduceAdd, Nat.reduceBEq, Int.reduceEq, H.cv_3_5, H.cv_3_56, H.cv_5_3, H.cv_5_56, H.cv_56_3, H.cv_56_5]
  refine (isnan_ok H _ _).mono ?_
  rintro _ _ ⟨rfl, hh⟩; subst hh
  rw [contK_some]; simp (disch := first | omega | (simp only [List.length_cons, List.length_nil, List.length_append, u8s_len]; omega)) only [go_sem, ↓reduceIte, true_and, Nat.reduceLeDiff, Nat.reduceEqDiff, Nat.reduceAdd, Nat.reduceBEq, Int.reduceEq, H.cv_3_5, H.cv_3_56, H.cv_5_3, H.cv_5_56, H.cv_56_3, H.cv_56_5]
  refine hN _ ?_; clear hN N
  (refine W_seq_gen fun N hN => ?_); simp (disch := first | omega | (simp only [List.length_cons, List.length_nil, List.length_append, u8s_len]; omega)) only [go_sem, ↓reduceIte, true_and, Nat.reduceLeDiff, Nat.reduceEqDiff, Nat.reduceAdd, Nat.reduceBEq, Int.reduceEq, H.cv_3_5, H.cv_3_56, H.cv_5_3, H.cv_5_56, H.cv_56_3, H.cv_56_5]
  refine (isnan_ok H _ _).mono ?_
  rintro _ _ ⟨rfl, hh⟩; subst hh
  rw [contK_some]; simp (disch := first | omega | (simp only [List.length_cons, List.length_nil, List.length_append, u8s_len]; omega)) only [go_sem, ↓reduceIte, true_and, Nat.reduceLeDiff, Nat.reduceEqDiff, Nat.reduceAdd, Nat.reduceBEq, Int.reduceEq, H.cv_3_5, H.cv_3_56, H.cv_5_3, H.cv_5_56, H.cv_56_3, H.cv_56_5]
  refine hN _ ?_; clear hN N
  (refine W_seq_gen fun N hN => ?_); simp (disch := first | omega | (simp only [List.length_cons, List.length_nil, List.length_append, u8s_len]; omega)) only [go_sem, ↓reduceIte, true_and, Nat.reduceLeDiff, Nat.reduceEqDiff, Nat.reduceAdd, Nat.reduceBEq, Int.reduceEq, H.cv_3_5, H.cv_3_56, H.cv_5_3, H.cv_5_56, H.cv_56_3, H.cv_56_5]
  refine hN _ ?_; clear hN N
  (refine W_seq_gen fun N hN => ?_); simp (disch := first | omega | (simp only [List.length_cons, List.length_nil, List.length_append, u8s_len]; omega)) only [go_sem, ↓reduceIte, true_and, Nat.reduceLeDiff, Nat.reduceEqDiff, Nat.reduceAdd, Nat.reduceBEq, Int.reduceEq, H.cv_3_5, H.cv_3_56, H.cv_5_3, H.cv_5_56, H.cv_56_3, H.cv_56_5]
  refine hN _ ?_; clear hN N
  by_cases h1 : x < y
  · simp (disch := first | omega | (simp only [List.length_cons, List.length_nil, List.length_append, u8s_len]; omega)) only [go_sem, ↓reduceIte, true_and, Nat.reduceLeDiff, Nat.reduceEqDiff, Nat.reduceAdd, Nat.reduceBEq, Int.reduceEq, H.cv_3_5, H.cv_3_56, H.cv_5_3, H.cv_5_56, H.cv_56_3, H.cv_56_5, h1]
    simp [cmpI, h1]
  · (refine W_seq_gen fun N hN => ?_); simp (disch := first | omega | (simp only [List.length_cons, List.length_nil, List.length_append, u8s_len]; omega)) only [go_sem, ↓reduceIte, true_and, Nat.reduceLeDiff, Nat.reduceEqDiff, Nat.reduceAdd, Nat.reduceBEq, Int.reduceEq, H.cv_3_5, H.cv_3_56, H.cv_5_3, H.cv_5_56, H.cv_56_3, H.cv_56_5, h1]
    refine hN _ ?_; clear hN N
    by_cases h2 : x > y
    · simp (disch := first | omega | (simp only [List.length_cons, List.length_nil, List.length_append, u8s_len]; omega)) only [go_sem, ↓reduceIte, true_and, Nat.reduceLeDiff, Nat.reduceEqDiff, Nat.reduceAdd, Nat.reduceBEq, Int.reduceEq, H.cv_3_5, H.cv_3_56, H.cv_5_3, H.cv_5_56, H.cv_56_3, H.cv_56_5, h2]
      simp [cmpI, h1, h2]
    · simp (disch := first | omega | (simp only [List.length_cons, List.length_nil, List.length_append, u8s_len]; omega)) only [go_sem, ↓reduceIte, true_and, Nat.reduceLeDiff, Nat.reduceEqDiff, Nat.reduceAdd, Nat.reduceBEq, Int.reduceEq, H.cv_3_5, H.cv_3_56, H.cv_5_3, H.cv_5_56, H.cv_56_3, H.cv_56_5, h2]
      simp [cmpI, h1, h2]
theorem part_ok (n : Int) (h : Heap) : AWF P ann 0 20 [.sc (.int .i64 n)] h fun r h' => r = .sc (.bool (decide (-1048576 ≤ n ∧ n ≤ 1048576))) ∧ h' = h := by
  refine AWF.fnc H.f0_20 rfl ?_
  by_cases h1 : n ≥ -1048576
  · by_cases h2 : n ≤ ((1048576 : Nat) : Int)
    · simp (disch := first | omega | (simp only [List.length_cons, List.length_nil, List.length_append, u8s_len]; omega)) only [go_sem, ↓reduceIte, true_and, Nat.reduceLeDiff, Nat.reduceEqDiff, Nat.reduceAdd, Nat.reduceBEq, Int.reduceEq, H.cv_3_5, H.cv_3_56, H.cv_5_3, H.cv_5_56, H.cv_56_3, H.cv_56_5, h1, h2]
      have : n ≤ 1048576 := h2
      simp [h1, this]
    · simp (disch := first | omega | (simp only [List.length_cons, List.length_nil, List.length_append, u8s_len]; omega)) only [go_sem, ↓reduceIte, true_and, Nat.reduceLeDiff, Nat.reduceEqDiff, Nat.reduceAdd, Nat.reduceBEq, Int.reduceEq, H.cv_3_5, H.cv_3_56, H.cv_5_3, H.cv_5_56, H.cv_56_3, H.cv_56_5, h1, h2]
      have : ¬ n ≤ 1048576 := h2
      simp [this]
  · simp (disch := first | omega | (simp only [List.length_cons, List.length_nil, List.length_append, u8s_len]; omega)) only [go_sem, ↓reduceIte, true_and, Nat.reduceLeDiff, Nat.reduceEqDiff, Nat.reduceAdd, Nat.reduceBEq, Int.reduceEq, H.cv_3_5, H.cv_3_56, H.cv_5_3, H.cv_5_56, H.cv_56_3, H.cv_56_5, h1]
    have : ¬ -1048576 ≤ n := h1
    simp [this]

theorem or_ok {v : AV} {l : List Int} (hv : SL 1 v (l.map fun n => [.sc (.int .i64 n)])) (hl : l.length < 2 ^ 40) (h : Heap) : AWF P ann 0 24 [v] h fun r h' => r = .sc (.int .i64 (orI l)) ∧ h' = h := by
  refine AWF.fnc H.f0_24 rfl ?_
  (refine W_seq_gen fun N hN => ?_); simp (disch := first | omega | (simp only [List.length_cons, List.length_nil, List.length_append, u8s_len]; omega)) only [go_sem, ↓reduceIte, true_and, Nat.reduceLeDiff, Nat.reduceEqDiff, Nat.reduceAdd, Nat.reduceBEq, Int.reduceEq, H.cv_3_5, H.cv_3_56, H.cv_5_3, H.cv_5_56, H.cv_56_3, H.cv_56_5]
  refine hN _ ?_; clear hN N
  (refine W_seq_gen fun N hN => ?_); simp (disch := first | omega | (simp only [List.length_cons, List.length_nil, List.length_append, u8s_len]; omega)) only [go_sem, ↓reduceIte, true_and, Nat.reduceLeDiff, Nat.reduceEqDiff, Nat.reduceAdd, Nat.reduceBEq, Int.reduceEq, H.cv_3_5, H.cv_3_56, H.cv_5_3, H.cv_5_56, H.cv_56_3, H.cv_56_5]
  refine hN _ ?_; clear hN N
  (refine W_seq_gen fun M hM => ?_)
  (refine W_seq_gen fun N hN => ?_); simp (disch := first | omega | (simp only [List.length_cons, List.length_nil, List.length_append, u8s_len]; omega)) only [go_sem, ↓reduceIte, true_and, Nat.reduceLeDiff, Nat.reduceEqDiff, Nat.reduceAdd, Nat.reduceBEq, Int.reduceEq, H.cv_3_5, H.cv_3_56, H.cv_5_3, H.cv_5_56, H.cv_56_3, H.cv_56_5, hv.dis.len]
  refine hN _ ?_; clear hN N
  simp (disch := first | omega | (simp only [List.length_cons, List.length_nil, List.length_append, u8s_len]; omega)) only [go_sem, ↓reduceIte, true_and, Nat.reduceLeDiff, Nat.reduceEqDiff, Nat.reduceAdd, Nat.reduceBEq, Int.reduceEq, H.cv_3_5, H.cv_3_56, H.cv_5_3, H.cv_5_56, H.cv_56_3, H.cv_56_5]
  refine AW_loopN (fun n t h' => h' = h ∧ ∃ i, n = l.length - i ∧ i ≤ l.length ∧ t 6 = v.dis ∧ t 3 = .sc (.int .i64 (0 : Nat)) ∧ t 8 = .sc (.int .i64 (i : Nat)) ∧ t 7 = .sc (.int .i64 (l.length : Nat)) ∧ orI l = orI (l.drop i))
    (n := l.length) ⟨rfl, 0, rfl, Nat.zero_le _, rfl, rfl, rfl, by simp [upd_at], rfl⟩ ?_
  rintro n t h' ⟨rfl, i, rfl, hi, t6, t3, t8, t7, ho⟩
  rcases Nat.lt_or_ge i l.length with hlt | hge
  · have g0 : (l.map fun n => [AV.sc (.int .i64 n)])[i]? = some [.sc (.int .i64 l[i])] := by simp [hlt]
    (refine W_seq_gen fun N hN => ?_); simp (disch := first | omega | (simp only [List.length_cons, List.length_nil, List.length_append, u8s_len]; omega)) only [go_sem, ↓reduceIte, true_and, Nat.reduceLeDiff, Nat.reduceEqDiff, Nat.reduceAdd, Nat.reduceBEq, Int.reduceEq, H.cv_3_5, H.cv_3_56, H.cv_5_3, H.cv_5_56, H.cv_56_3, H.cv_56_5, t7, t8, hlt]
    refine hN _ ?_; clear hN N
    (refine W_seq_gen fun N hN => ?_); simp (disch := first | omega | (simp only [List.length_cons, List.length_nil, List.length_append, u8s_len]; omega)) only [go_sem, ↓reduceIte, true_and, Nat.reduceLeDiff, Nat.reduceEqDiff, Nat.reduceAdd, Nat.reduceBEq, Int.reduceEq, H.cv_3_5, H.cv_3_56, H.cv_5_3, H.cv_5_56, H.cv_56_3, H.cv_56_5]
    refine hN _ ?_; clear hN N
    (refine W_seq_gen fun N hN => ?_)
    rw [W_block]
    have hd : l.drop i = l[i] :: l.drop (i + 1) := List.drop_eq_getElem_cons hlt
    (refine W_seq_gen fun N hN => ?_); simp (disch := first | omega | (simp only [List.length_cons, List.length_nil, List.length_append, u8s_len]; omega)) only [go_sem, ↓reduceIte, true_and, Nat.reduceLeDiff, Nat.reduceEqDiff, Nat.reduceAdd, Nat.reduceBEq, Int.reduceEq, H.cv_3_5, H.cv_3_56, H.cv_5_3, H.cv_5_56, H.cv_56_3, H.cv_56_5, t6, t8, hv.dd, hv.dis.ia, g0]
    refine hN _ ?_; clear hN N
    by_cases h0 : l[i] = 0
    · have h1 : (l[i] != ((0 : Nat) : Int)) = false := by simp [h0]
      simp (disch := first | omega | (simp only [List.length_cons, List.length_nil, List.length_append, u8s_len]; omega)) only [go_sem, ↓reduceIte, true_and, Nat.reduceLeDiff, Nat.reduceEqDiff, Nat.reduceAdd, Nat.reduceBEq, Int.reduceEq, H.cv_3_5, H.cv_3_56, H.cv_5_3, H.cv_5_56, H.cv_56_3, H.cv_56_5, t3, h1]
      refine hN _ ?_; clear hN N
      simp (disch := first | omega | (simp only [List.length_cons, List.length_nil, List.length_append, u8s_len]; omega)) only [go_sem, ↓reduceIte, true_and, Nat.reduceLeDiff, Nat.reduceEqDiff, Nat.reduceAdd, Nat.reduceBEq, Int.reduceEq, H.cv_3_5, H.cv_3_56, H.cv_5_3, H.cv_5_56, H.cv_56_3, H.cv_56_5, t8, nat_add]
      exact ⟨l.length - (i + 1), by omega, i + 1, rfl, by omega, t6, t3, rfl, t7, by rw [ho, hd, orI, if_pos h0]⟩
    · have h1 : (l[i] != ((0 : Nat) : Int)) = true := by simpa using h0
      simp (disch := first | omega | (simp only [List.length_cons, List.length_nil, List.length_append, u8s_len]; omega)) only [go_sem, ↓reduceIte, true_and, Nat.reduceLeDiff, Nat.reduceEqDiff, Nat.reduceAdd, Nat.reduceBEq, Int.reduceEq, H.cv_3_5, H.cv_3_56, H.cv_5_3, H.cv_5_56, H.cv_56_3, H.cv_56_5, t3, h1]
      rw [ho, hd, orI, if_neg h0]
  obtain rfl : i = l.length := by omega
  (refine W_seq_gen fun N hN => ?_); simp (disch := first | omega | (simp only [List.length_cons, List.length_nil, List.length_append, u8s_len]; omega)) only [go_sem, ↓reduceIte, true_and, Nat.reduceLeDiff, Nat.reduceEqDiff, Nat.reduceAdd, Nat.reduceBEq, Int.reduceEq, H.cv_3_5, H.cv_3_56, H.cv_5_3, H.cv_5_56, H.cv_56_3, H.cv_56_5, t7, t8, Nat.lt_irrefl]
  refine hN _ ?_; clear hN N
  (refine W_seq_gen fun N hN => ?_); simp (disch := first | omega | (simp only [List.length_cons, List.length_nil, List.length_append, u8s_len]; omega)) only [go_sem, ↓reduceIte, true_and, Nat.reduceLeDiff, Nat.reduceEqDiff, Nat.reduceAdd, Nat.reduceBEq, Int.reduceEq, H.cv_3_5, H.cv_3_56, H.cv_5_3, H.cv_5_56, H.cv_56_3, H.cv_56_5]
  refine hM _ ?_; clear hN N hM M
  rw [ho, List.drop_length]
  simp (disch := first | omega | (simp only [List.length_cons, List.length_nil, List.length_append, u8s_len]; omega)) only [go_sem, ↓reduceIte, true_and, Nat.reduceLeDiff, Nat.reduceEqDiff, Nat.reduceAdd, Nat.reduceBEq, Int.reduceEq, H.cv_3_5, H.cv_3_56, H.cv_5_3, H.cv_5_56, H.cv_56_3, H.cv_56_5, t3]
  rfl

theorem compare_ok (L : Lb P) (a b : Vl) (h : Heap) : AWF P ann 0 14 [a.av, b.av] h fun r h' => r = .sc (.int .i64 (cmpV a b)) ∧ h' = h := by
  refine AWF.fnPurec H.f0_14 rfl ?_
  (refine W_seq_gen fun N hN => ?_); simp (disch := first | omega | (simp only [List.length_cons, List.length_nil, List.length_append, u8s_len]; omega)) only [go_sem, ↓reduceIte, true_and, Nat.reduceLeDiff, Nat.reduceEqDiff, Nat.reduceAdd, Nat.reduceBEq, Int.reduceEq, H.cv_3_5, H.cv_3_56, H.cv_5_3, H.cv_5_56, H.cv_56_3, H.cv_56_5, Vl.av, Vl.cells]
  intro o ho p hp
  obtain ⟨h2, hh, f1, f2, f3⟩ := box2 ho hp (Y := some (.arr b.cells))
  refine hN _ ?_; clear hN N
  rw [Vl.cells] at hh f2
  rw [hh]
  clear hh hp ho
  simp (disch := first | omega | (simp only [List.length_cons, List.length_nil, List.length_append, u8s_len]; omega)) only [go_sem, ↓reduceIte, true_and, Nat.reduceLeDiff, Nat.reduceEqDiff, Nat.reduceAdd, Nat.reduceBEq, Int.reduceEq, H.cv_3_5, H.cv_3_56, H.cv_5_3, H.cv_5_56, H.cv_56_3, H.cv_56_5, f1, f2]
  refine ⟨_, cmpi_ok H _ _ _, ?_⟩
  rw [contK_some]; simp (disch := first | omega | (simp only [List.length_cons, List.length_nil, List.length_append, u8s_len]; omega)) only [go_sem, ↓reduceIte, true_and, Nat.reduceLeDiff, Nat.reduceEqDiff, Nat.reduceAdd, Nat.reduceBEq, Int.reduceEq, H.cv_3_5, H.cv_3_56, H.cv_5_3, H.cv_5_56, H.cv_56_3, H.cv_56_5, f1, f2]
  refine ⟨_, cmpi_ok H _ _ _, ?_⟩
  rw [contK_some]; simp (disch := first | omega | (simp only [List.length_cons, List.length_nil, List.length_append, u8s_len]; omega)) only [go_sem, ↓reduceIte, true_and, Nat.reduceLeDiff, Nat.reduceEqDiff, Nat.reduceAdd, Nat.reduceBEq, Int.reduceEq, H.cv_3_5, H.cv_3_56, H.cv_5_3, H.cv_5_56, H.cv_56_3, H.cv_56_5, f1, f2]
  refine ⟨_, L.cmp _ _ _, ?_⟩
  rw [contK_some]; simp (disch := first | omega | (simp only [List.length_cons, List.length_nil, List.length_append, u8s_len]; omega)) only [go_sem, ↓reduceIte, true_and, Nat.reduceLeDiff, Nat.reduceEqDiff, Nat.reduceAdd, Nat.reduceBEq, Int.reduceEq, H.cv_3_5, H.cv_3_56, H.cv_5_3, H.cv_5_56, H.cv_56_3, H.cv_56_5, f1, f2]
  refine ⟨_, cmpi_ok H _ _ _, ?_⟩
  rw [contK_some]; simp (disch := first | omega | (simp only [List.length_cons, List.length_nil, List.length_append, u8s_len]; omega)) only [go_sem, ↓reduceIte, true_and, Nat.reduceLeDiff, Nat.reduceEqDiff, Nat.reduceAdd, Nat.reduceBEq, Int.reduceEq, H.cv_3_5, H.cv_3_56, H.cv_5_3, H.cv_5_56, H.cv_56_3, H.cv_56_5, f1, f2]
  refine ⟨_, cmpi_ok H _ _ _, ?_⟩
  rw [contK_some]; simp (disch := first | omega | (simp only [List.length_cons, List.length_nil, List.length_append, u8s_len]; omega)) only [go_sem, ↓reduceIte, true_and, Nat.reduceLeDiff, Nat.reduceEqDiff, Nat.reduceAdd, Nat.reduceBEq, Int.reduceEq, H.cv_3_5, H.cv_3_56, H.cv_5_3, H.cv_5_56, H.cv_56_3, H.cv_56_5, f1, f2]
  refine ⟨_, or_ok H (l := [cmpI a.kind b.kind, cmpI a.num b.num, cb (str a.text) (str b.text), cmpI a.re b.re, cmpI a.im b.im]) SL.bs (by simp) _, ?_⟩
  rw [contK_some]; simp (disch := first | omega | (simp only [List.length_cons, List.length_nil, List.length_append, u8s_len]; omega)) only [go_sem, ↓reduceIte, true_and, Nat.reduceLeDiff, Nat.reduceEqDiff, Nat.reduceAdd, Nat.reduceBEq, Int.reduceEq, H.cv_3_5, H.cv_3_56, H.cv_5_3, H.cv_5_56, H.cv_56_3, H.cv_56_5]
  exact ⟨rfl, f3⟩

def okNum (n : Int) : Bool := decide (n ≥ -9007199254740992) && decide (n ≤ ((9007199254740992 : Nat) : Int))
def okPart (n : Int) : Bool := decide (-1048576 ≤ n ∧ n ≤ 1048576)
def checkS (v : Vl) : Nat :=
  if v.kind = 1 then (if (decide (v = numV v.num) && okNum v.num) = true then 0 else 1)
  else if v.kind = 3 then (if (decide (v = pointV v.re v.im) && (okPart v.re && okPart v.im)) = true then 0 else 1)
  else if v.kind = 2 then (if v.text.length > 256 then 3 else if v = textV v.text then 0 else 1)
  else 1

theorem check_ok (HC : HasC P) (v : Vl) (h : Heap) : AWF P ann 0 8 [v.av] h fun r h' => r = .sc (.int .i64 (checkS v : Nat)) ∧ h' = h := by
  refine AWF.fnPurec H.f0_8 rfl ?_
  (refine W_seq_gen fun N hN => ?_); simp (disch := first | omega | (simp only [List.length_cons, List.length_nil, List.length_append, u8s_len]; omega)) only [go_sem, ↓reduceIte, true_and, Nat.reduceLeDiff, Nat.reduceEqDiff, Nat.reduceAdd, Nat.reduceBEq, Int.reduceEq, H.cv_3_5, H.cv_3_56, H.cv_5_3, H.cv_5_56, H.cv_56_3, H.cv_56_5, Vl.av, Vl.cells]
  intro o ho
  have f3 := upd_keep (x := some (.arr v.cells)) ho
  have f1 : upd h o (some (.arr v.cells)) o = some (.arr [.sc (.int .i64 v.kind), .sc (.int .i64 v.num), .sc (.string (str v.text)), .sc (.int .i64 v.re), .sc (.int .i64 v.im)]) := upd_same _ _ _
  refine hN _ ?_; clear hN N
  rw [Vl.cells] at f3 f1
  generalize upd h o (some (.arr [.sc (.int .i64 v.kind), .sc (.int .i64 v.num), .sc (.string (str v.text)), .sc (.int .i64 v.re), .sc (.int .i64 v.im)])) = h2 at f1 f3
  clear ho
  (refine W_seq_gen fun N hN => ?_); simp (disch := first | omega | (simp only [List.length_cons, List.length_nil, List.length_append, u8s_len]; omega)) only [go_sem, ↓reduceIte, true_and, Nat.reduceLeDiff, Nat.reduceEqDiff, Nat.reduceAdd, Nat.reduceBEq, Int.reduceEq, H.cv_3_5, H.cv_3_56, H.cv_5_3, H.cv_5_56, H.cv_56_3, H.cv_56_5]
  refine hN _ ?_; clear hN N
  (refine W_seq_gen fun M hM => ?_)
  have fin : ∀ (t : Nat → AV) (q : Bool), t 3 = .sc (.bool q) → checkS v = (if q then 0 else 1) → M ⟨t, h2⟩ := by
    intro t q t3 hc
    refine hM _ ?_; clear hM M
    cases q with
    | true =>
      (refine W_seq_gen fun N hN => ?_); simp (disch := first | omega | (simp only [List.length_cons, List.length_nil, List.length_append, u8s_len]; omega)) only [go_sem, ↓reduceIte, true_and, Nat.reduceLeDiff, Nat.reduceEqDiff, Nat.reduceAdd, Nat.reduceBEq, Int.reduceEq, H.cv_3_5, H.cv_3_56, H.cv_5_3, H.cv_5_56, H.cv_56_3, H.cv_56_5, t3]
      refine hN _ ?_; clear hN N
      simp (disch := first | omega | (simp only [List.length_cons, List.length_nil, List.length_append, u8s_len]; omega)) only [go_sem, ↓reduceIte, true_and, Nat.reduceLeDiff, Nat.reduceEqDiff, Nat.reduceAdd, Nat.reduceBEq, Int.reduceEq, H.cv_3_5, H.cv_3_56, H.cv_5_3, H.cv_5_56, H.cv_56_3, H.cv_56_5]
      rw [hc]
      exact ⟨rfl, f3⟩
    | false =>
      (refine W_seq_gen fun N hN => ?_); simp (disch := first | omega | (simp only [List.length_cons, List.length_nil, List.length_append, u8s_len]; omega)) only [go_sem, ↓reduceIte, true_and, Nat.reduceLeDiff, Nat.reduceEqDiff, Nat.reduceAdd, Nat.reduceBEq, Int.reduceEq, H.cv_3_5, H.cv_3_56, H.cv_5_3, H.cv_5_56, H.cv_56_3, H.cv_56_5, t3]
      rw [hc]
      exact ⟨rfl, f3⟩
  clear hM
  by_cases k1 : v.kind = 1
  · have q1 : (v.kind == ((1 : Nat) : Int)) = true := by rw [k1]; rfl
    have he : scalarBin P .eql 31 (.agg #[.int .i64 v.kind, .int .i64 v.num, .string (str v.text), .int .i64 v.re, .int .i64 v.im]) (.agg #[.int .i64 1, .int .i64 v.num, .string (str []), .int .i64 0, .int .i64 0]) = some (.bool (decide (v = numV v.num))) := HC.eq v (numV v.num)
    have hcs : checkS v = if (decide (v = numV v.num) && okNum v.num) = true then 0 else 1 := by rw [checkS, if_pos k1]
    simp (disch := first | omega | (simp only [List.length_cons, List.length_nil, List.length_append, u8s_len]; omega)) only [go_sem, ↓reduceIte, true_and, Nat.reduceLeDiff, Nat.reduceEqDiff, Nat.reduceAdd, Nat.reduceBEq, Int.reduceEq, H.cv_3_5, H.cv_3_56, H.cv_5_3, H.cv_5_56, H.cv_56_3, H.cv_56_5, q1, f1]
    refine ⟨_, num_ok H _ _, ?_⟩
    by_cases e1 : v = numV v.num
    · rw [decide_eq_true e1] at he
      by_cases b1 : v.num ≥ -9007199254740992
      · by_cases b2 : v.num ≤ ((9007199254740992 : Nat) : Int)
        · rw [contK_some]; simp (disch := first | omega | (simp only [List.length_cons, List.length_nil, List.length_append, u8s_len]; omega)) only [go_sem, ↓reduceIte, true_and, Nat.reduceLeDiff, Nat.reduceEqDiff, Nat.reduceAdd, Nat.reduceBEq, Int.reduceEq, H.cv_3_5, H.cv_3_56, H.cv_5_3, H.cv_5_56, H.cv_56_3, H.cv_56_5, numV_av, he, f1, b1, b2]
          exact fin _ true rfl (by rw [hcs, okNum, decide_eq_true e1, decide_eq_true b1, decide_eq_true b2]; rfl)
        · rw [contK_some]; simp (disch := first | omega | (simp only [List.length_cons, List.length_nil, List.length_append, u8s_len]; omega)) only [go_sem, ↓reduceIte, true_and, Nat.reduceLeDiff, Nat.reduceEqDiff, Nat.reduceAdd, Nat.reduceBEq, Int.reduceEq, H.cv_3_5, H.cv_3_56, H.cv_5_3, H.cv_5_56, H.cv_56_3, H.cv_56_5, numV_av, he, f1, b1, b2]
          exact fin _ false rfl (by rw [hcs, okNum, decide_eq_false b2]; simp)
      · rw [contK_some]; simp (disch := first | omega | (simp only [List.length_cons, List.length_nil, List.length_append, u8s_len]; omega)) only [go_sem, ↓reduceIte, true_and, Nat.reduceLeDiff, Nat.reduceEqDiff, Nat.reduceAdd, Nat.reduceBEq, Int.reduceEq, H.cv_3_5, H.cv_3_56, H.cv_5_3, H.cv_5_56, H.cv_56_3, H.cv_56_5, numV_av, he, f1, b1]
        exact fin _ false rfl (by rw [hcs, okNum, decide_eq_false b1]; simp)
    · rw [decide_eq_false e1] at he
      rw [contK_some]; simp (disch := first | omega | (simp only [List.length_cons, List.length_nil, List.length_append, u8s_len]; omega)) only [go_sem, ↓reduceIte, true_and, Nat.reduceLeDiff, Nat.reduceEqDiff, Nat.reduceAdd, Nat.reduceBEq, Int.reduceEq, H.cv_3_5, H.cv_3_56, H.cv_5_3, H.cv_5_56, H.cv_56_3, H.cv_56_5, numV_av, he, f1]
      exact fin _ false rfl (by rw [hcs, decide_eq_false e1]; rfl)
  have q1 : (v.kind == ((1 : Nat) : Int)) = false := by simpa using k1
  by_cases k3 : v.kind = 3
  · have q3 : (v.kind == ((3 : Nat) : Int)) = true := by rw [k3]; rfl
    have he : scalarBin P .eql 31 (.agg #[.int .i64 v.kind, .int .i64 v.num, .string (str v.text), .int .i64 v.re, .int .i64 v.im]) (.agg #[.int .i64 3, .int .i64 0, .string (str []), .int .i64 v.re, .int .i64 v.im]) = some (.bool (decide (v = pointV v.re v.im))) := HC.eq v (pointV v.re v.im)
    have hcs : checkS v = if (decide (v = pointV v.re v.im) && (okPart v.re && okPart v.im)) = true then 0 else 1 := by rw [checkS, if_neg k1, if_pos k3]
    simp (disch := first | omega | (simp only [List.length_cons, List.length_nil, List.length_append, u8s_len]; omega)) only [go_sem, ↓reduceIte, true_and, Nat.reduceLeDiff, Nat.reduceEqDiff, Nat.reduceAdd, Nat.reduceBEq, Int.reduceEq, H.cv_3_5, H.cv_3_56, H.cv_5_3, H.cv_5_56, H.cv_56_3, H.cv_56_5, q1, q3, f1]
    refine ⟨_, point_ok H _ _ _, ?_⟩
    by_cases e1 : v = pointV v.re v.im
    · rw [decide_eq_true e1] at he hcs
      rw [contK_some]; simp (disch := first | omega | (simp only [List.length_cons, List.length_nil, List.length_append, u8s_len]; omega)) only [go_sem, ↓reduceIte, true_and, Nat.reduceLeDiff, Nat.reduceEqDiff, Nat.reduceAdd, Nat.reduceBEq, Int.reduceEq, H.cv_3_5, H.cv_3_56, H.cv_5_3, H.cv_5_56, H.cv_56_3, H.cv_56_5, pointV_av, he, f1]
      refine ⟨_, part_ok H _ _, ?_⟩
      change contK _ _ _ (.sc (.bool (okPart v.re))) _
      cases b1 : okPart v.re with
      | false =>
        rw [contK_some]; simp (disch := first | omega | (simp only [List.length_cons, List.length_nil, List.length_append, u8s_len]; omega)) only [go_sem, ↓reduceIte, true_and, Nat.reduceLeDiff, Nat.reduceEqDiff, Nat.reduceAdd, Nat.reduceBEq, Int.reduceEq, H.cv_3_5, H.cv_3_56, H.cv_5_3, H.cv_5_56, H.cv_56_3, H.cv_56_5, f1]
        exact fin _ false rfl (by rw [hcs, b1]; rfl)
      | true =>
        rw [contK_some]; simp (disch := first | omega | (simp only [List.length_cons, List.length_nil, List.length_append, u8s_len]; omega)) only [go_sem, ↓reduceIte, true_and, Nat.reduceLeDiff, Nat.reduceEqDiff, Nat.reduceAdd, Nat.reduceBEq, Int.reduceEq, H.cv_3_5, H.cv_3_56, H.cv_5_3, H.cv_5_56, H.cv_56_3, H.cv_56_5, f1]
        refine ⟨_, part_ok H _ _, ?_⟩
        change contK _ _ _ (.sc (.bool (okPart v.im))) _
        rw [contK_some]; simp (disch := first | omega | (simp only [List.length_cons, List.length_nil, List.length_append, u8s_len]; omega)) only [go_sem, ↓reduceIte, true_and, Nat.reduceLeDiff, Nat.reduceEqDiff, Nat.reduceAdd, Nat.reduceBEq, Int.reduceEq, H.cv_3_5, H.cv_3_56, H.cv_5_3, H.cv_5_56, H.cv_56_3, H.cv_56_5, f1]
        exact fin _ (okPart v.im) rfl (by rw [hcs, b1]; simp)
    · rw [decide_eq_false e1] at he hcs
      rw [contK_some]; simp (disch := first | omega | (simp only [List.length_cons, List.length_nil, List.length_append, u8s_len]; omega)) only [go_sem, ↓reduceIte, true_and, Nat.reduceLeDiff, Nat.reduceEqDiff, Nat.reduceAdd, Nat.reduceBEq, Int.reduceEq, H.cv_3_5, H.cv_3_56, H.cv_5_3, H.cv_5_56, H.cv_56_3, H.cv_56_5, pointV_av, he, f1]
      exact fin _ false rfl (by rw [hcs]; rfl)
  have q3 : (v.kind == ((3 : Nat) : Int)) = false := by simpa using k3
  by_cases k2 : v.kind = 2
  · have q2 : (v.kind == ((2 : Nat) : Int)) = true := by rw [k2]; rfl
    have he : scalarBin P .eql 31 (.agg #[.int .i64 v.kind, .int .i64 v.num, .string (str v.text), .int .i64 v.re, .int .i64 v.im]) (.agg #[.int .i64 2, .int .i64 0, .string (str v.text), .int .i64 0, .int .i64 0]) = some (.bool (decide (v = textV v.text))) := HC.eq v (textV v.text)
    have hcs : checkS v = if v.text.length > 256 then 3 else if v = textV v.text then 0 else 1 := by rw [checkS, if_neg k1, if_neg k3, if_pos k2]
    simp (disch := first | omega | (simp only [List.length_cons, List.length_nil, List.length_append, u8s_len]; omega)) only [go_sem, ↓reduceIte, true_and, Nat.reduceLeDiff, Nat.reduceEqDiff, Nat.reduceAdd, Nat.reduceBEq, Int.reduceEq, H.cv_3_5, H.cv_3_56, H.cv_5_3, H.cv_5_56, H.cv_56_3, H.cv_56_5, q1, q2, q3, f1]
    refine ⟨_, text_ok H _ _, ?_⟩
    by_cases b1 : 256 < v.text.length
    · rw [contK_some]; simp (disch := first | omega | (simp only [List.length_cons, List.length_nil, List.length_append, u8s_len]; omega)) only [go_sem, ↓reduceIte, true_and, Nat.reduceLeDiff, Nat.reduceEqDiff, Nat.reduceAdd, Nat.reduceBEq, Int.reduceEq, H.cv_3_5, H.cv_3_56, H.cv_5_3, H.cv_5_56, H.cv_56_3, H.cv_56_5, textV_av, he, f1, b1]
      exact ⟨by rw [hcs, if_pos b1], f3⟩
    · rw [contK_some]; simp (disch := first | omega | (simp only [List.length_cons, List.length_nil, List.length_append, u8s_len]; omega)) only [go_sem, ↓reduceIte, true_and, Nat.reduceLeDiff, Nat.reduceEqDiff, Nat.reduceAdd, Nat.reduceBEq, Int.reduceEq, H.cv_3_5, H.cv_3_56, H.cv_5_3, H.cv_5_56, H.cv_56_3, H.cv_56_5, textV_av, he, f1, b1]
      exact fin _ (decide (v = textV v.text)) rfl (by rw [hcs, if_neg b1]; simp)
  have q2 : (v.kind == ((2 : Nat) : Int)) = false := by simpa using k2
  have hcs : checkS v = 1 := by rw [checkS, if_neg k1, if_neg k3, if_neg k2]
  simp (disch := first | omega | (simp only [List.length_cons, List.length_nil, List.length_append, u8s_len]; omega)) only [go_sem, ↓reduceIte, true_and, Nat.reduceLeDiff, Nat.reduceEqDiff, Nat.reduceAdd, Nat.reduceBEq, Int.reduceEq, H.cv_3_5, H.cv_3_56, H.cv_5_3, H.cv_5_56, H.cv_56_3, H.cv_56_5, q1, q2, q3, f1]
  exact fin _ false rfl (by rw [hcs]; rfl)
end Go.Proofs.YtcdfdnmnnepnoaaDoor
end

section
set_option linter.unusedVariables false
set_option linter.unusedSimpArgs false
namespace Go.Proofs.YtcdfdnmnnepnoaaDoor
open Go.Am

/-- A number, lifted. -/
def liftN (n : Int) : Nat := ((n + 4611686018427387904) % 18446744073709551616).toNat
def numB (n : Int) : List UInt8 := (List.range 8).map fun j => UInt8.ofNat (liftN n / 2 ^ (56 - 8 * j))
def zeros (n : Nat) : List UInt8 := List.replicate n 0
def textB (s : List UInt8) : List UInt8 :=
  if h : 7 ≤ s.length then s.take 7 ++ 8 :: textB (s.drop 7) else s ++ zeros (7 - s.length) ++ [UInt8.ofNat s.length]
termination_by s.length
decreasing_by simp; omega
def keyB (v : Vl) : List UInt8 := UInt8.ofNat (v.kind % 256).toNat :: (if v.kind = 1 then numB v.num else if v.kind = 2 then textB v.text else numB v.re ++ numB v.im)
theorem textB_len (s : List UInt8) : (textB s).length ≤ 8 * s.length + 8 := by
  rw [textB]
  split
  · have := textB_len (s.drop 7)
    simp at this ⊢
    omega
  · simp [zeros]; omega
termination_by s.length
decreasing_by simp; omega
theorem numB_len (n : Int) : (numB n).length = 8 := by simp [numB]
theorem numB_get (n : Int) (j : Nat) (hj : j < 8) : (numB n).take (j + 1) = (numB n).take j ++ [UInt8.ofNat (liftN n / 2 ^ (56 - 8 * j))] := by
  rw [List.take_add_one]
  have : (numB n)[j]? = some (UInt8.ofNat (liftN n / 2 ^ (56 - 8 * j))) := by simp [numB, hj]
  rw [this]
  rfl

theorem u8_one {m : Nat} : [[AV.sc (.int .u8 ((m : Int) % 256))]] = u8s [UInt8.ofNat m] := by
  simp [u8s, UInt8.toNat_ofNat']

def growB (v : AV) (l : List UInt8) : AV := l.foldl (fun v b => catV 1 (u8s [b]) v) v
theorem growB_snoc (v : AV) (l : List UInt8) (b : UInt8) : growB v (l ++ [b]) = catV 1 (u8s [b]) (growB v l) := by simp [growB]
theorem growB_ok : ∀ (l m : List UInt8) (v : AV), SG 1 v (u8s m) → SG 1 (growB v l) (u8s (m ++ l))
  | [], m, v, h => by rw [List.append_nil]; exact h
  | b :: l, m, v, h => by
    have h2 := h.cat (u8s [b])
    rw [u8s_app] at h2
    have := growB_ok l _ _ h2
    rw [List.append_assoc] at this
    exact this
variable {P : Program} (H : Has P)
include H

theorem number_ok {v : AV} {l : List UInt8} (hv : SG 1 v (u8s l)) (hl : l.length < 2 ^ 40) (n : Int) (h : Heap) : AWF P ann 0 16 [v, .sc (.int .i64 n)] h fun r h' => r = growB v (numB n) ∧ h' = h := by
  refine AWF.fnc H.f0_16 rfl ?_
  have hU : IntKind.u64.wrap (IntKind.u64.wrap n + ((4611686018427387904 : Nat) : Int)) = ((liftN n : Nat) : Int) := by
    rw [wrap_u64m, wrap_u64m, liftN]
    omega
  (refine W_seq_gen fun N hN => ?_); simp (disch := first | omega | (simp only [List.length_cons, List.length_nil, List.length_append, u8s_len]; omega)) only [go_sem, ↓reduceIte, true_and, Nat.reduceLeDiff, Nat.reduceEqDiff, Nat.reduceAdd, Nat.reduceBEq, Int.reduceEq, H.cv_3_5, H.cv_3_56, H.cv_5_3, H.cv_5_56, H.cv_56_3, H.cv_56_5]
  refine hN _ ?_; clear hN N
  (refine W_seq_gen fun N hN => ?_); simp (disch := first | omega | (simp only [List.length_cons, List.length_nil, List.length_append, u8s_len]; omega)) only [go_sem, ↓reduceIte, true_and, Nat.reduceLeDiff, Nat.reduceEqDiff, Nat.reduceAdd, Nat.reduceBEq, Int.reduceEq, H.cv_3_5, H.cv_3_56, H.cv_5_3, H.cv_5_56, H.cv_56_3, H.cv_56_5, hU]
  refine hN _ ?_; clear hN N
  (refine W_seq_gen fun M hM => ?_)
  (refine W_seq_gen fun N hN => ?_); simp (disch := first | omega | (simp only [List.length_cons, List.length_nil, List.length_append, u8s_len]; omega)) only [go_sem, ↓reduceIte, true_and, Nat.reduceLeDiff, Nat.reduceEqDiff, Nat.reduceAdd, Nat.reduceBEq, Int.reduceEq, H.cv_3_5, H.cv_3_56, H.cv_5_3, H.cv_5_56, H.cv_56_3, H.cv_56_5]
  refine hN _ ?_; clear hN N
  simp (disch := first | omega | (simp only [List.length_cons, List.length_nil, List.length_append, u8s_len]; omega)) only [go_sem, ↓reduceIte, true_and, Nat.reduceLeDiff, Nat.reduceEqDiff, Nat.reduceAdd, Nat.reduceBEq, Int.reduceEq, H.cv_3_5, H.cv_3_56, H.cv_5_3, H.cv_5_56, H.cv_56_3, H.cv_56_5]
  have hUl : liftN n < 18446744073709551616 := by unfold liftN; omega
  refine AW_loopN (fun k t h' => h' = h ∧ ∃ j z, k = 8 - j ∧ j ≤ 8 ∧ t 0 = z ∧ t 5 = .sc (.int .u64 (liftN n : Nat)) ∧ t 6 = .sc (.int .i64 (56 - 8 * (j : Int))) ∧ z = growB v ((numB n).take j))
    (n := 8) ⟨rfl, 0, v, rfl, Nat.zero_le _, rfl, rfl, rfl, by simp [growB]⟩ ?_
  rintro k t h' ⟨rfl, j, z, rfl, hj, t0, t5, t6, hzq⟩
  have hz : SG 1 z (u8s (l ++ (numB n).take j)) := by rw [hzq]; exact growB_ok _ _ _ hv
  rcases Nat.lt_or_ge j 8 with hlt | hge
  · have q1 : (56 - 8 * (j : Int)) ≥ ((0 : Nat) : Int) := by omega
    have q2 : scalarBin P .shr 56 (.int .u64 (liftN n : Nat)) (.int .i64 (56 - 8 * (j : Int))) = some (.int .u64 ((liftN n / 2 ^ (56 - 8 * j) : Nat) : Int)) := by
      rw [sb_shr (by omega)]
      have e : (56 - 8 * (j : Int)).toNat = 56 - 8 * j := by omega
      have e2 : min (56 - 8 * j) IntKind.u64.bits = 56 - 8 * j := by show min _ 64 = _; omega
      have e3 : ((2 : Int) ^ (56 - 8 * j)) = ((2 ^ (56 - 8 * j) : Nat) : Int) := by push_cast; rfl
      rw [e, e2, e3, Int.fdiv_eq_ediv_of_nonneg _ (Int.natCast_nonneg _), ← Int.natCast_ediv]
    have hz2 : catV 1 (u8s [UInt8.ofNat (liftN n / 2 ^ (56 - 8 * j))]) z = growB v ((numB n).take (j + 1)) := by rw [numB_get n j hlt, growB_snoc, hzq]
    have hzl : (u8s (l ++ (numB n).take j)).length ≤ l.length + 8 := by rw [u8s_len]; simp; omega
    (refine W_seq_gen fun N hN => ?_); simp (disch := first | omega | (simp only [List.length_cons, List.length_nil, List.length_append, u8s_len]; omega)) only [go_sem, ↓reduceIte, true_and, Nat.reduceLeDiff, Nat.reduceEqDiff, Nat.reduceAdd, Nat.reduceBEq, Int.reduceEq, H.cv_3_5, H.cv_3_56, H.cv_5_3, H.cv_5_56, H.cv_56_3, H.cv_56_5, t6, q1]
    refine hN _ ?_; clear hN N
    (refine W_seq_gen fun N hN => ?_)
    rw [W_block]
    simp (disch := first | omega | (simp only [List.length_cons, List.length_nil, List.length_append, u8s_len]; omega)) only [go_sem, ↓reduceIte, true_and, Nat.reduceLeDiff, Nat.reduceEqDiff, Nat.reduceAdd, Nat.reduceBEq, Int.reduceEq, H.cv_3_5, H.cv_3_56, H.cv_5_3, H.cv_5_56, H.cv_56_3, H.cv_56_5, t0, t5, t6, q2, wrap_u8m, u8_one, hz.app (ys := u8s [UInt8.ofNat (liftN n / 2 ^ (56 - 8 * j))]) (bytes := 1) (by simp [u8s_len] at hzl ⊢; omega)]
    refine hN _ ?_; clear hN N
    have e8 : (56 - 8 * (j : Int)) - ((8 : Nat) : Int) = 56 - 8 * ((j + 1 : Nat) : Int) := by omega
    simp (disch := first | omega | (simp only [List.length_cons, List.length_nil, List.length_append, u8s_len]; omega)) only [go_sem, ↓reduceIte, true_and, Nat.reduceLeDiff, Nat.reduceEqDiff, Nat.reduceAdd, Nat.reduceBEq, Int.reduceEq, H.cv_3_5, H.cv_3_56, H.cv_5_3, H.cv_5_56, H.cv_56_3, H.cv_56_5, t6, e8]
    exact ⟨8 - (j + 1), by omega, j + 1, _, rfl, by omega, rfl, t5, rfl, hz2⟩
  obtain rfl : j = 8 := by omega
  have q1 : ¬ (56 - 8 * ((8 : Nat) : Int)) ≥ ((0 : Nat) : Int) := by omega
  have e9 : (numB n).take 8 = numB n := List.take_of_length_le (by rw [numB_len]; omega)
  rw [e9] at hzq
  (refine W_seq_gen fun N hN => ?_); simp (disch := first | omega | (simp only [List.length_cons, List.length_nil, List.length_append, u8s_len]; omega)) only [go_sem, ↓reduceIte, true_and, Nat.reduceLeDiff, Nat.reduceEqDiff, Nat.reduceAdd, Nat.reduceBEq, Int.reduceEq, H.cv_3_5, H.cv_3_56, H.cv_5_3, H.cv_5_56, H.cv_56_3, H.cv_56_5, t6, q1]
  refine hM _ ?_; clear hN N hM M
  simp (disch := first | omega | (simp only [List.length_cons, List.length_nil, List.length_append, u8s_len]; omega)) only [go_sem, ↓reduceIte, true_and, Nat.reduceLeDiff, Nat.reduceEqDiff, Nat.reduceAdd, Nat.reduceBEq, Int.reduceEq, H.cv_3_5, H.cv_3_56, H.cv_5_3, H.cv_5_56, H.cv_56_3, H.cv_56_5, t0]
  exact hzq

theorem text_key {v : AV} {l s : List UInt8} (hv : SG 1 v (u8s l)) (hl : l.length + 16 * s.length < 2 ^ 40) (h : Heap) : AWF P ann 0 17 [v, .sc (.string (str s))] h fun r h' => SG 1 r (u8s (l ++ textB s)) ∧ h' = h := by
  refine AWF.fnc H.f0_17 rfl ?_
  (refine W_seq_gen fun N hN => ?_); simp (disch := first | omega | (simp only [List.length_cons, List.length_nil, List.length_append, u8s_len]; omega)) only [go_sem, ↓reduceIte, true_and, Nat.reduceLeDiff, Nat.reduceEqDiff, Nat.reduceAdd, Nat.reduceBEq, Int.reduceEq, H.cv_3_5, H.cv_3_56, H.cv_5_3, H.cv_5_56, H.cv_56_3, H.cv_56_5]
  refine hN _ ?_; clear hN N
  (refine W_seq_gen fun M hM => ?_)
  simp (disch := first | omega | (simp only [List.length_cons, List.length_nil, List.length_append, u8s_len]; omega)) only [go_sem, ↓reduceIte, true_and, Nat.reduceLeDiff, Nat.reduceEqDiff, Nat.reduceAdd, Nat.reduceBEq, Int.reduceEq, H.cv_3_5, H.cv_3_56, H.cv_5_3, H.cv_5_56, H.cv_56_3, H.cv_56_5]
  refine AW_loopN (fun k t h' => h' = h ∧ ∃ m s' z, k = s'.length ∧ t 0 = z ∧ t 1 = .sc (.string (str s')) ∧ SG 1 z (u8s m) ∧ l ++ textB s = m ++ textB s' ∧ m.length + 16 * s'.length < 2 ^ 40)
    (n := s.length) ⟨rfl, l, s, v, rfl, rfl, rfl, hv, rfl, hl⟩ ?_
  rintro k t h' ⟨rfl, m, s', z, rfl, t0, t1, hz, he, hml⟩
  by_cases h7 : 7 ≤ s'.length
  · have q1 : s'.length ≥ 7 := h7
    have ht : textB s' = s'.take 7 ++ 8 :: textB (s'.drop 7) := by rw [textB, dif_pos h7]
    have ht7 : (s'.take 7).length = 7 := by simp; omega
    have a1 := fun (t : Nat → AV) (h : Heap) => hz.app (t := t) (h := h) (ys := u8s (s'.take 7)) (bytes := 1) (by rw [u8s_len, u8s_len]; omega)
    have hz1 := hz.cat (u8s (s'.take 7))
    rw [u8s_app] at hz1
    have a2 := fun (t : Nat → AV) (h : Heap) => hz1.app (t := t) (h := h) (ys := u8s [8]) (bytes := 1) (by rw [u8s_len, u8s_len]; simp; omega)
    have hz2 := hz1.cat (u8s [8])
    rw [u8s_app] at hz2
    have e8 : [[AV.sc (.int .u8 ((8 : Nat) : Int))]] = u8s [8] := rfl
    (refine W_seq_gen fun N hN => ?_); simp (disch := first | omega | (simp only [List.length_cons, List.length_nil, List.length_append, u8s_len]; omega)) only [go_sem, ↓reduceIte, true_and, Nat.reduceLeDiff, Nat.reduceEqDiff, Nat.reduceAdd, Nat.reduceBEq, Int.reduceEq, H.cv_3_5, H.cv_3_56, H.cv_5_3, H.cv_5_56, H.cv_56_3, H.cv_56_5, t1, q1]
    refine hN _ ?_; clear hN N
    simp (disch := first | omega | (simp only [List.length_cons, List.length_nil, List.length_append, u8s_len]; omega)) only [go_sem, ↓reduceIte, true_and, Nat.reduceLeDiff, Nat.reduceEqDiff, Nat.reduceAdd, Nat.reduceBEq, Int.reduceEq, H.cv_3_5, H.cv_3_56, H.cv_5_3, H.cv_5_56, H.cv_56_3, H.cv_56_5, t0, t1, sls_u (l := s') (u := 7) h7, sls_l (l := s') (u := 7) h7, a1, e8, a2]
    refine ⟨(s'.drop 7).length, by simp; omega, _, _, _, rfl, rfl, rfl, hz2, ?_, ?_⟩
    · rw [he, ht]; simp
    · simp; omega
  · have q1 : ¬ s'.length ≥ 7 := h7
    have ht : textB s' = s' ++ zeros (7 - s'.length) ++ [UInt8.ofNat s'.length] := by rw [textB, dif_neg h7]
    have a1 := fun (t : Nat → AV) (h : Heap) => hz.app (t := t) (h := h) (ys := u8s s') (bytes := 1) (by rw [u8s_len, u8s_len]; omega)
    have hz1 := hz.cat (u8s s')
    rw [u8s_app] at hz1
    have e0 : List.replicate (7 - s'.length) [AV.sc (.int .u8 ((0 : Nat) : Int))] = u8s (zeros (7 - s'.length)) := by simp [u8s, zeros]
    have a2 := fun (t : Nat → AV) (h : Heap) => hz1.app (t := t) (h := h) (ys := u8s (zeros (7 - s'.length))) (bytes := 1) (by rw [u8s_len, u8s_len]; simp [zeros]; omega)
    have hz2 := hz1.cat (u8s (zeros (7 - s'.length)))
    rw [u8s_app] at hz2
    have a3 := fun (t : Nat → AV) (h : Heap) => hz2.app (t := t) (h := h) (ys := u8s [UInt8.ofNat s'.length]) (bytes := 1) (by rw [u8s_len, u8s_len]; simp [zeros]; omega)
    have hz3 := hz2.cat (u8s [UInt8.ofNat s'.length])
    rw [u8s_app] at hz3
    have e7 : ((7 : Nat) : Int) - ((s'.length : Nat) : Int) = ((7 - s'.length : Nat) : Int) := by omega
    (refine W_seq_gen fun N hN => ?_); simp (disch := first | omega | (simp only [List.length_cons, List.length_nil, List.length_append, u8s_len]; omega)) only [go_sem, ↓reduceIte, true_and, Nat.reduceLeDiff, Nat.reduceEqDiff, Nat.reduceAdd, Nat.reduceBEq, Int.reduceEq, H.cv_3_5, H.cv_3_56, H.cv_5_3, H.cv_5_56, H.cv_56_3, H.cv_56_5, t1, q1]
    refine hM _ ?_; clear hN N hM M
    (refine W_seq_gen fun N hN => ?_); simp (disch := first | omega | (simp only [List.length_cons, List.length_nil, List.length_append, u8s_len]; omega)) only [go_sem, ↓reduceIte, true_and, Nat.reduceLeDiff, Nat.reduceEqDiff, Nat.reduceAdd, Nat.reduceBEq, Int.reduceEq, H.cv_3_5, H.cv_3_56, H.cv_5_3, H.cv_5_56, H.cv_56_3, H.cv_56_5, t0, t1, a1, e7, e0, a2]
    refine hN _ ?_; clear hN N
    (refine W_seq_gen fun N hN => ?_); simp (disch := first | omega | (simp only [List.length_cons, List.length_nil, List.length_append, u8s_len]; omega)) only [go_sem, ↓reduceIte, true_and, Nat.reduceLeDiff, Nat.reduceEqDiff, Nat.reduceAdd, Nat.reduceBEq, Int.reduceEq, H.cv_3_5, H.cv_3_56, H.cv_5_3, H.cv_5_56, H.cv_56_3, H.cv_56_5, wrap_u8m, u8_one, t1, a3]
    refine hN _ ?_; clear hN N
    simp (disch := first | omega | (simp only [List.length_cons, List.length_nil, List.length_append, u8s_len]; omega)) only [go_sem, ↓reduceIte, true_and, Nat.reduceLeDiff, Nat.reduceEqDiff, Nat.reduceAdd, Nat.reduceBEq, Int.reduceEq, H.cv_3_5, H.cv_3_56, H.cv_5_3, H.cv_5_56, H.cv_56_3, H.cv_56_5]
    rw [he, ht]
    simpa using hz3

omit H in
def vls (l : List Vl) : List (List AV) := l.map Vl.cells
omit H in
theorem vls_len {l : List Vl} : (vls l).length = l.length := by simp [vls]
omit H in
theorem vls_get {l : List Vl} {i : Nat} (h : i < l.length) : (vls l)[i]? = some l[i].cells := by simp [vls, h]
omit H in
def keyE : List Vl → Nat
  | [] => 0
  | v :: r => if checkS v = 0 then keyE r else checkS v
omit H in
def keyBs (l : List Vl) : List UInt8 := (l.map keyB).flatten
omit H in
theorem keyBs_snoc (l : List Vl) (v : Vl) : keyBs (l ++ [v]) = keyBs l ++ keyB v := by simp [keyBs]
omit H in
theorem check_kind {v : Vl} (h : checkS v = 0) : v.kind = 1 ∨ v.kind = 3 ∨ (v.kind = 2 ∧ v.text.length ≤ 256) := by
  unfold checkS at h
  split at h
  · exact .inl ‹_›
  · split at h
    · exact .inr (.inl ‹_›)
    · split at h
      · rename_i k2
        split at h
        · cases h
        · exact .inr (.inr ⟨k2, by omega⟩)
      · cases h
omit H in
theorem keyB_len {v : Vl} (h : checkS v = 0) : (keyB v).length ≤ 2100 := by
  have := textB_len v.text
  rcases check_kind h with k | k | ⟨k, hl⟩
  · simp [keyB, k, numB_len]
  · simp [keyB, k, numB_len]
  · simp [keyB, k]; omega

theorem key_ok (HC : HasC P) {v : AV} {l : List Vl} (hv : SL 5 v (vls l)) (hl : l.length < 2 ^ 60) (h : Heap) :
    AWF P ann 0 6 [v] h fun r h' => r = .tu [.sc (.string (str (if l.length > 16 then [] else if keyE l = 0 then keyBs l else []))), .sc (.int .i64 ((if l.length > 16 then 3 else keyE l : Nat) : Nat))] ∧ h' = h := by
  refine AWF.fnPurec H.f0_6 rfl ?_
  have e1 := @vls_len l
  (refine W_seq_gen fun N hN => ?_); simp (disch := first | omega | (simp only [List.length_cons, List.length_nil, List.length_append, u8s_len]; omega)) only [go_sem, ↓reduceIte, true_and, Nat.reduceLeDiff, Nat.reduceEqDiff, Nat.reduceAdd, Nat.reduceBEq, Int.reduceEq, H.cv_3_5, H.cv_3_56, H.cv_5_3, H.cv_5_56, H.cv_56_3, H.cv_56_5]
  refine hN _ ?_; clear hN N
  by_cases h16 : 16 < l.length
  · have h16' : l.length > 16 := h16
    rw [if_pos h16', if_pos h16']
    (refine W_seq_gen fun N hN => ?_); simp (disch := first | omega | (simp only [List.length_cons, List.length_nil, List.length_append, u8s_len]; omega)) only [go_sem, ↓reduceIte, true_and, Nat.reduceLeDiff, Nat.reduceEqDiff, Nat.reduceAdd, Nat.reduceBEq, Int.reduceEq, H.cv_3_5, H.cv_3_56, H.cv_5_3, H.cv_5_56, H.cv_56_3, H.cv_56_5, hv.dis.len, e1, h16]
    rfl
  have h16' : ¬ l.length > 16 := h16
  rw [if_neg h16', if_neg h16']
  (refine W_seq_gen fun N hN => ?_); simp (disch := first | omega | (simp only [List.length_cons, List.length_nil, List.length_append, u8s_len]; omega)) only [go_sem, ↓reduceIte, true_and, Nat.reduceLeDiff, Nat.reduceEqDiff, Nat.reduceAdd, Nat.reduceBEq, Int.reduceEq, H.cv_3_5, H.cv_3_56, H.cv_5_3, H.cv_5_56, H.cv_56_3, H.cv_56_5, hv.dis.len, e1, h16]
  refine hN _ ?_; clear hN N
  (refine W_seq_gen fun N hN => ?_); simp (disch := first | omega | (simp only [List.length_cons, List.length_nil, List.length_append, u8s_len]; omega)) only [go_sem, ↓reduceIte, true_and, Nat.reduceLeDiff, Nat.reduceEqDiff, Nat.reduceAdd, Nat.reduceBEq, Int.reduceEq, H.cv_3_5, H.cv_3_56, H.cv_5_3, H.cv_5_56, H.cv_56_3, H.cv_56_5]
  refine hN _ ?_; clear hN N
  (refine W_seq_gen fun M hM => ?_)
  (refine W_seq_gen fun N hN => ?_); simp (disch := first | omega | (simp only [List.length_cons, List.length_nil, List.length_append, u8s_len]; omega)) only [go_sem, ↓reduceIte, true_and, Nat.reduceLeDiff, Nat.reduceEqDiff, Nat.reduceAdd, Nat.reduceBEq, Int.reduceEq, H.cv_3_5, H.cv_3_56, H.cv_5_3, H.cv_5_56, H.cv_56_3, H.cv_56_5, hv.dis.len, e1]
  refine hN _ ?_; clear hN N
  simp (disch := first | omega | (simp only [List.length_cons, List.length_nil, List.length_append, u8s_len]; omega)) only [go_sem, ↓reduceIte, true_and, Nat.reduceLeDiff, Nat.reduceEqDiff, Nat.reduceAdd, Nat.reduceBEq, Int.reduceEq, H.cv_3_5, H.cv_3_56, H.cv_5_3, H.cv_5_56, H.cv_56_3, H.cv_56_5]
  refine AW_loopN (fun n t h' => (∀ o, ¬ h o = none → h' o = h o) ∧ ∃ i z, n = l.length - i ∧ i ≤ l.length ∧ t 11 = v.dis ∧ t 12 = .sc (.int .i64 (l.length : Nat)) ∧ t 13 = .sc (.int .i64 (i : Nat)) ∧ t 4 = z ∧ SG 1 z (u8s (keyBs (l.take i))) ∧ (keyBs (l.take i)).length ≤ 2100 * i ∧ keyE l = keyE (l.drop i))
    (n := l.length) ⟨fun _ _ => rfl, 0, _, rfl, Nat.zero_le _, by simp [upd_at], rfl, rfl, rfl, SG.nil, by simp [keyBs], rfl⟩ ?_
  rintro n t h' ⟨hh, i, z, rfl, hi, t11, t12, t13, t4, hz, hzl, he⟩
  rcases Nat.lt_or_ge i l.length with hlt | hge
  · have g0 := vls_get hlt
    have hd : l.drop i = l[i] :: l.drop (i + 1) := List.drop_eq_getElem_cons hlt
    have hn : l.take (i + 1) = l.take i ++ [l[i]] := by rw [List.take_add_one]; simp [hlt]
    (refine W_seq_gen fun N hN => ?_); simp (disch := first | omega | (simp only [List.length_cons, List.length_nil, List.length_append, u8s_len]; omega)) only [go_sem, ↓reduceIte, true_and, Nat.reduceLeDiff, Nat.reduceEqDiff, Nat.reduceAdd, Nat.reduceBEq, Int.reduceEq, H.cv_3_5, H.cv_3_56, H.cv_5_3, H.cv_5_56, H.cv_56_3, H.cv_56_5, t12, t13, hlt]
    refine hN _ ?_; clear hN N
    (refine W_seq_gen fun N hN => ?_); simp (disch := first | omega | (simp only [List.length_cons, List.length_nil, List.length_append, u8s_len]; omega)) only [go_sem, ↓reduceIte, true_and, Nat.reduceLeDiff, Nat.reduceEqDiff, Nat.reduceAdd, Nat.reduceBEq, Int.reduceEq, H.cv_3_5, H.cv_3_56, H.cv_5_3, H.cv_5_56, H.cv_56_3, H.cv_56_5]
    refine hN _ ?_; clear hN N
    (refine W_seq_gen fun N hN => ?_)
    rw [W_block]
    (refine W_seq_gen fun N hN => ?_); simp (disch := first | omega | (simp only [List.length_cons, List.length_nil, List.length_append, u8s_len]; omega)) only [go_sem, ↓reduceIte, true_and, Nat.reduceLeDiff, Nat.reduceEqDiff, Nat.reduceAdd, Nat.reduceBEq, Int.reduceEq, H.cv_3_5, H.cv_3_56, H.cv_5_3, H.cv_5_56, H.cv_56_3, H.cv_56_5, t11, t13, hv.dd, hv.dis.ia, g0, Vl.cells]
    intro b hb
    have hh2 : ∀ o, ¬ h o = none → upd h' b (some (.arr l[i].cells)) o = h o := fun o ho => by
      have := hh o ho
      rw [upd_keep hb o (by rw [this]; exact ho), this]
    have f1 : upd h' b (some (.arr l[i].cells)) b = some (.arr l[i].cells) := upd_same _ _ _
    rw [Vl.cells] at hh2 f1
    refine hN _ ?_; clear hN N
    generalize upd h' b (some (.arr [.sc (.int .i64 l[i].kind), .sc (.int .i64 l[i].num), .sc (.string (str l[i].text)), .sc (.int .i64 l[i].re), .sc (.int .i64 l[i].im)])) = h2 at hh2 f1
    clear hb hh
    (refine W_seq_gen fun N hN => ?_)
    (refine W_seq_gen fun N hN => ?_); simp (disch := first | omega | (simp only [List.length_cons, List.length_nil, List.length_append, u8s_len]; omega)) only [go_sem, ↓reduceIte, true_and, Nat.reduceLeDiff, Nat.reduceEqDiff, Nat.reduceAdd, Nat.reduceBEq, Int.reduceEq, H.cv_3_5, H.cv_3_56, H.cv_5_3, H.cv_5_56, H.cv_56_3, H.cv_56_5, f1]
    refine (check_ok H HC l[i] _).mono ?_
    rintro _ _ ⟨rfl, hh'⟩; subst hh'
    by_cases hc : checkS l[i] = 0
    · have hkl := keyB_len hc
      rw [contK_some]; simp (disch := first | omega | (simp only [List.length_cons, List.length_nil, List.length_append, u8s_len]; omega)) only [go_sem, ↓reduceIte, true_and, Nat.reduceLeDiff, Nat.reduceEqDiff, Nat.reduceAdd, Nat.reduceBEq, Int.reduceEq, H.cv_3_5, H.cv_3_56, H.cv_5_3, H.cv_5_56, H.cv_56_3, H.cv_56_5, hc]
      refine hN _ ?_; clear hN N
      simp (disch := first | omega | (simp only [List.length_cons, List.length_nil, List.length_append, u8s_len]; omega)) only [go_sem, ↓reduceIte, true_and, Nat.reduceLeDiff, Nat.reduceEqDiff, Nat.reduceAdd, Nat.reduceBEq, Int.reduceEq, H.cv_3_5, H.cv_3_56, H.cv_5_3, H.cv_5_56, H.cv_56_3, H.cv_56_5]
      refine hN _ ?_; clear hN N
      rcases check_kind hc with k | k | ⟨k, hlen⟩
      · have hk : IntKind.u8.wrap l[i].kind = ((1 : Nat) : Int) := by rw [k]; rfl
        have hu : [[AV.sc (.int .u8 ((1 : Nat) : Int))]] = u8s [1] := rfl
        have q1 : (l[i].kind == ((1 : Nat) : Int)) = true := by rw [k]; rfl
        have a1 := fun (t : Nat → AV) (h : Heap) => hz.app (t := t) (h := h) (ys := u8s [1]) (bytes := 1) (by rw [u8s_len, u8s_len]; simp; omega)
        have hz1 := hz.cat (u8s [1])
        rw [u8s_app] at hz1
        (refine W_seq_gen fun N hN => ?_); simp (disch := first | omega | (simp only [List.length_cons, List.length_nil, List.length_append, u8s_len]; omega)) only [go_sem, ↓reduceIte, true_and, Nat.reduceLeDiff, Nat.reduceEqDiff, Nat.reduceAdd, Nat.reduceBEq, Int.reduceEq, H.cv_3_5, H.cv_3_56, H.cv_5_3, H.cv_5_56, H.cv_56_3, H.cv_56_5, t4, f1, hk, hu, a1]
        refine hN _ ?_; clear hN N
        (refine W_seq_gen fun N hN => ?_); simp (disch := first | omega | (simp only [List.length_cons, List.length_nil, List.length_append, u8s_len]; omega)) only [go_sem, ↓reduceIte, true_and, Nat.reduceLeDiff, Nat.reduceEqDiff, Nat.reduceAdd, Nat.reduceBEq, Int.reduceEq, H.cv_3_5, H.cv_3_56, H.cv_5_3, H.cv_5_56, H.cv_56_3, H.cv_56_5, f1]
        refine hN _ ?_; clear hN N
        simp (disch := first | omega | (simp only [List.length_cons, List.length_nil, List.length_append, u8s_len]; omega)) only [go_sem, ↓reduceIte, true_and, Nat.reduceLeDiff, Nat.reduceEqDiff, Nat.reduceAdd, Nat.reduceBEq, Int.reduceEq, H.cv_3_5, H.cv_3_56, H.cv_5_3, H.cv_5_56, H.cv_56_3, H.cv_56_5, q1, f1]
        refine (number_ok H hz1 (by simp; omega) _ _).mono ?_
        rintro r _ ⟨hr0, hh'⟩; subst hh'
        have hr : SG 1 r (u8s (keyBs (l.take i) ++ [1] ++ numB l[i].num)) := by rw [hr0]; exact growB_ok _ _ _ hz1
        have hkb : keyB l[i] = 1 :: numB l[i].num := by rw [keyB, if_pos k, k]; rfl
        rw [contK_some]; simp (disch := first | omega | (simp only [List.length_cons, List.length_nil, List.length_append, u8s_len]; omega)) only [go_sem, ↓reduceIte, true_and, Nat.reduceLeDiff, Nat.reduceEqDiff, Nat.reduceAdd, Nat.reduceBEq, Int.reduceEq, H.cv_3_5, H.cv_3_56, H.cv_5_3, H.cv_5_56, H.cv_56_3, H.cv_56_5]
        refine hN _ ?_; clear hN N
        simp (disch := first | omega | (simp only [List.length_cons, List.length_nil, List.length_append, u8s_len]; omega)) only [go_sem, ↓reduceIte, true_and, Nat.reduceLeDiff, Nat.reduceEqDiff, Nat.reduceAdd, Nat.reduceBEq, Int.reduceEq, H.cv_3_5, H.cv_3_56, H.cv_5_3, H.cv_5_56, H.cv_56_3, H.cv_56_5, t13, nat_add]
        exact ⟨l.length - (i + 1), by omega, hh2, i + 1, _, rfl, by omega, t11, t12, rfl, rfl, by rw [hn, keyBs_snoc, hkb]; simpa using hr, by rw [hn, keyBs_snoc, List.length_append]; omega, by rw [he, hd, keyE, if_pos hc]⟩
      · have hk : IntKind.u8.wrap l[i].kind = ((3 : Nat) : Int) := by rw [k]; rfl
        have hu : [[AV.sc (.int .u8 ((3 : Nat) : Int))]] = u8s [3] := rfl
        have q1 : (l[i].kind == ((1 : Nat) : Int)) = false := by rw [k]; rfl
        have q2 : (l[i].kind == ((2 : Nat) : Int)) = false := by rw [k]; rfl
        have a1 := fun (t : Nat → AV) (h : Heap) => hz.app (t := t) (h := h) (ys := u8s [3]) (bytes := 1) (by rw [u8s_len, u8s_len]; simp; omega)
        have hz1 := hz.cat (u8s [3])
        rw [u8s_app] at hz1
        (refine W_seq_gen fun N hN => ?_); simp (disch := first | omega | (simp only [List.length_cons, List.length_nil, List.length_append, u8s_len]; omega)) only [go_sem, ↓reduceIte, true_and, Nat.reduceLeDiff, Nat.reduceEqDiff, Nat.reduceAdd, Nat.reduceBEq, Int.reduceEq, H.cv_3_5, H.cv_3_56, H.cv_5_3, H.cv_5_56, H.cv_56_3, H.cv_56_5, t4, f1, hk, hu, a1]
        refine hN _ ?_; clear hN N
        (refine W_seq_gen fun N hN => ?_); simp (disch := first | omega | (simp only [List.length_cons, List.length_nil, List.length_append, u8s_len]; omega)) only [go_sem, ↓reduceIte, true_and, Nat.reduceLeDiff, Nat.reduceEqDiff, Nat.reduceAdd, Nat.reduceBEq, Int.reduceEq, H.cv_3_5, H.cv_3_56, H.cv_5_3, H.cv_5_56, H.cv_56_3, H.cv_56_5, f1]
        refine hN _ ?_; clear hN N
        simp (disch := first | omega | (simp only [List.length_cons, List.length_nil, List.length_append, u8s_len]; omega)) only [go_sem, ↓reduceIte, true_and, Nat.reduceLeDiff, Nat.reduceEqDiff, Nat.reduceAdd, Nat.reduceBEq, Int.reduceEq, H.cv_3_5, H.cv_3_56, H.cv_5_3, H.cv_5_56, H.cv_56_3, H.cv_56_5, q1, q2, f1]
        refine ⟨_, number_ok H hz1 (by simp; omega) _ _, ?_⟩
        have hz3 := growB_ok (numB l[i].re) _ _ hz1
        rw [contK_some]; simp (disch := first | omega | (simp only [List.length_cons, List.length_nil, List.length_append, u8s_len]; omega)) only [go_sem, ↓reduceIte, true_and, Nat.reduceLeDiff, Nat.reduceEqDiff, Nat.reduceAdd, Nat.reduceBEq, Int.reduceEq, H.cv_3_5, H.cv_3_56, H.cv_5_3, H.cv_5_56, H.cv_56_3, H.cv_56_5, f1]
        refine ⟨_, number_ok H hz3 (by simp [numB_len]; omega) _ _, ?_⟩
        have hr := growB_ok (numB l[i].im) _ _ hz3
        have hkb : keyB l[i] = 3 :: (numB l[i].re ++ numB l[i].im) := by rw [keyB, k]; rfl
        rw [contK_some]; simp (disch := first | omega | (simp only [List.length_cons, List.length_nil, List.length_append, u8s_len]; omega)) only [go_sem, ↓reduceIte, true_and, Nat.reduceLeDiff, Nat.reduceEqDiff, Nat.reduceAdd, Nat.reduceBEq, Int.reduceEq, H.cv_3_5, H.cv_3_56, H.cv_5_3, H.cv_5_56, H.cv_56_3, H.cv_56_5]
        refine hN _ ?_; clear hN N
        simp (disch := first | omega | (simp only [List.length_cons, List.length_nil, List.length_append, u8s_len]; omega)) only [go_sem, ↓reduceIte, true_and, Nat.reduceLeDiff, Nat.reduceEqDiff, Nat.reduceAdd, Nat.reduceBEq, Int.reduceEq, H.cv_3_5, H.cv_3_56, H.cv_5_3, H.cv_5_56, H.cv_56_3, H.cv_56_5, t13, nat_add]
        exact ⟨l.length - (i + 1), by omega, hh2, i + 1, _, rfl, by omega, t11, t12, rfl, rfl, by rw [hn, keyBs_snoc, hkb]; simpa using hr, by rw [hn, keyBs_snoc, List.length_append]; omega, by rw [he, hd, keyE, if_pos hc]⟩
      · have hk : IntKind.u8.wrap l[i].kind = ((2 : Nat) : Int) := by rw [k]; rfl
        have hu : [[AV.sc (.int .u8 ((2 : Nat) : Int))]] = u8s [2] := rfl
        have q1 : (l[i].kind == ((1 : Nat) : Int)) = false := by rw [k]; rfl
        have q2 : (l[i].kind == ((2 : Nat) : Int)) = true := by rw [k]; rfl
        have a1 := fun (t : Nat → AV) (h : Heap) => hz.app (t := t) (h := h) (ys := u8s [2]) (bytes := 1) (by rw [u8s_len, u8s_len]; simp; omega)
        have hz1 := hz.cat (u8s [2])
        rw [u8s_app] at hz1
        (refine W_seq_gen fun N hN => ?_); simp (disch := first | omega | (simp only [List.length_cons, List.length_nil, List.length_append, u8s_len]; omega)) only [go_sem, ↓reduceIte, true_and, Nat.reduceLeDiff, Nat.reduceEqDiff, Nat.reduceAdd, Nat.reduceBEq, Int.reduceEq, H.cv_3_5, H.cv_3_56, H.cv_5_3, H.cv_5_56, H.cv_56_3, H.cv_56_5, t4, f1, hk, hu, a1]
        refine hN _ ?_; clear hN N
        (refine W_seq_gen fun N hN => ?_); simp (disch := first | omega | (simp only [List.length_cons, List.length_nil, List.length_append, u8s_len]; omega)) only [go_sem, ↓reduceIte, true_and, Nat.reduceLeDiff, Nat.reduceEqDiff, Nat.reduceAdd, Nat.reduceBEq, Int.reduceEq, H.cv_3_5, H.cv_3_56, H.cv_5_3, H.cv_5_56, H.cv_56_3, H.cv_56_5, f1]
        refine hN _ ?_; clear hN N
        simp (disch := first | omega | (simp only [List.length_cons, List.length_nil, List.length_append, u8s_len]; omega)) only [go_sem, ↓reduceIte, true_and, Nat.reduceLeDiff, Nat.reduceEqDiff, Nat.reduceAdd, Nat.reduceBEq, Int.reduceEq, H.cv_3_5, H.cv_3_56, H.cv_5_3, H.cv_5_56, H.cv_56_3, H.cv_56_5, q1, q2, f1]
        refine (text_key H hz1 (by simp; omega) _).mono ?_
        rintro r _ ⟨hr, hh'⟩; subst hh'
        have hkb : keyB l[i] = 2 :: textB l[i].text := by rw [keyB, k]; rfl
        rw [contK_some]; simp (disch := first | omega | (simp only [List.length_cons, List.length_nil, List.length_append, u8s_len]; omega)) only [go_sem, ↓reduceIte, true_and, Nat.reduceLeDiff, Nat.reduceEqDiff, Nat.reduceAdd, Nat.reduceBEq, Int.reduceEq, H.cv_3_5, H.cv_3_56, H.cv_5_3, H.cv_5_56, H.cv_56_3, H.cv_56_5]
        refine hN _ ?_; clear hN N
        simp (disch := first | omega | (simp only [List.length_cons, List.length_nil, List.length_append, u8s_len]; omega)) only [go_sem, ↓reduceIte, true_and, Nat.reduceLeDiff, Nat.reduceEqDiff, Nat.reduceAdd, Nat.reduceBEq, Int.reduceEq, H.cv_3_5, H.cv_3_56, H.cv_5_3, H.cv_5_56, H.cv_56_3, H.cv_56_5, t13, nat_add]
        exact ⟨l.length - (i + 1), by omega, hh2, i + 1, _, rfl, by omega, t11, t12, rfl, rfl, by rw [hn, keyBs_snoc, hkb]; simpa using hr, by rw [hn, keyBs_snoc, List.length_append]; omega, by rw [he, hd, keyE, if_pos hc]⟩
    · have hc2 : ((checkS l[i] : Nat) : Int) ≠ ((0 : Nat) : Int) := by omega
      have hc3 : (((checkS l[i] : Nat) : Int) != ((0 : Nat) : Int)) = true := by simpa using hc
      have hE : keyE l = checkS l[i] := by rw [he, hd, keyE, if_neg hc]
      rw [contK_some]; simp (disch := first | omega | (simp only [List.length_cons, List.length_nil, List.length_append, u8s_len]; omega)) only [go_sem, ↓reduceIte, true_and, Nat.reduceLeDiff, Nat.reduceEqDiff, Nat.reduceAdd, Nat.reduceBEq, Int.reduceEq, H.cv_3_5, H.cv_3_56, H.cv_5_3, H.cv_5_56, H.cv_56_3, H.cv_56_5, hc3]
      refine hN _ ?_; clear hN N
      simp (disch := first | omega | (simp only [List.length_cons, List.length_nil, List.length_append, u8s_len]; omega)) only [go_sem, ↓reduceIte, true_and, Nat.reduceLeDiff, Nat.reduceEqDiff, Nat.reduceAdd, Nat.reduceBEq, Int.reduceEq, H.cv_3_5, H.cv_3_56, H.cv_5_3, H.cv_5_56, H.cv_56_3, H.cv_56_5, hc3]
      rw [hE, if_neg hc]
      exact ⟨rfl, hh2⟩
  obtain rfl : i = l.length := by omega
  rw [List.drop_length] at he
  rw [List.take_length] at hz hzl
  (refine W_seq_gen fun N hN => ?_); simp (disch := first | omega | (simp only [List.length_cons, List.length_nil, List.length_append, u8s_len]; omega)) only [go_sem, ↓reduceIte, true_and, Nat.reduceLeDiff, Nat.reduceEqDiff, Nat.reduceAdd, Nat.reduceBEq, Int.reduceEq, H.cv_3_5, H.cv_3_56, H.cv_5_3, H.cv_5_56, H.cv_56_3, H.cv_56_5, t12, t13, Nat.lt_irrefl]
  refine hN _ ?_; clear hN N
  (refine W_seq_gen fun N hN => ?_); simp (disch := first | omega | (simp only [List.length_cons, List.length_nil, List.length_append, u8s_len]; omega)) only [go_sem, ↓reduceIte, true_and, Nat.reduceLeDiff, Nat.reduceEqDiff, Nat.reduceAdd, Nat.reduceBEq, Int.reduceEq, H.cv_3_5, H.cv_3_56, H.cv_5_3, H.cv_5_56, H.cv_56_3, H.cv_56_5]
  refine hM _ ?_; clear hN N hM M
  have he0 : keyE l = 0 := he
  rw [he0, if_pos rfl]
  simp (disch := first | omega | (simp only [List.length_cons, List.length_nil, List.length_append, u8s_len]; omega)) only [go_sem, ↓reduceIte, true_and, Nat.reduceLeDiff, Nat.reduceEqDiff, Nat.reduceAdd, Nat.reduceBEq, Int.reduceEq, H.cv_3_5, H.cv_3_56, H.cv_5_3, H.cv_5_56, H.cv_56_3, H.cv_56_5, t4, hz.sl.dis.b2s]
  exact hh

theorem awake_ok (HC : HasC P) (L : Lb P) (h : Heap) : AWF P ann 0 5 [] h fun r h' => r = .sc (.bool true) ∧ h' = h := by
  refine AWF.fnc H.f0_5 rfl ?_
  (refine W_seq_gen fun N hN => ?_); simp (disch := first | omega | (simp only [List.length_cons, List.length_nil, List.length_append, u8s_len]; omega)) only [go_sem, ↓reduceIte, true_and, Nat.reduceLeDiff, Nat.reduceEqDiff, Nat.reduceAdd, Nat.reduceBEq, Int.reduceEq, H.cv_3_5, H.cv_3_56, H.cv_5_3, H.cv_5_56, H.cv_56_3, H.cv_56_5]
  refine hN _ ?_; clear hN N
  (refine W_seq_gen fun N hN => ?_); simp (disch := first | omega | (simp only [List.length_cons, List.length_nil, List.length_append, u8s_len]; omega)) only [go_sem, ↓reduceIte, true_and, Nat.reduceLeDiff, Nat.reduceEqDiff, Nat.reduceAdd, Nat.reduceBEq, Int.reduceEq, H.cv_3_5, H.cv_3_56, H.cv_5_3, H.cv_5_56, H.cv_56_3, H.cv_56_5]
  refine (text_ok H [97, 98] _).mono ?_
  rintro _ _ ⟨rfl, hh⟩; subst hh
  rw [contK_some]; simp (disch := first | omega | (simp only [List.length_cons, List.length_nil, List.length_append, u8s_len]; omega)) only [go_sem, ↓reduceIte, true_and, Nat.reduceLeDiff, Nat.reduceEqDiff, Nat.reduceAdd, Nat.reduceBEq, Int.reduceEq, H.cv_3_5, H.cv_3_56, H.cv_5_3, H.cv_5_56, H.cv_56_3, H.cv_56_5, textV_av]
  refine (key_ok H HC (v := .bs true 5 (vls [textV [97, 98]]) (some 1)) (l := [textV [97, 98]]) SL.bs (by simp) _).mono ?_
  have e1 : keyE [textV [97, 98]] = 0 := by decide +kernel
  have e2 : keyBs [textV [97, 98]] = [2, 97, 98, 0, 0, 0, 0, 0, 2] := by decide +kernel
  rw [e1, e2]
  intro r h1 hr
  have hr2 : r = .tu [.sc (.string ⟨#[2, 97, 98, 0, 0, 0, 0, 0, 2]⟩), .sc (.int .i64 ((0 : Nat) : Int))] ∧ h1 = _ := hr
  obtain ⟨rfl, hh⟩ := hr2
  subst hh
  rw [contK_some]; simp (disch := first | omega | (simp only [List.length_cons, List.length_nil, List.length_append, u8s_len]; omega)) only [go_sem, ↓reduceIte, true_and, Nat.reduceLeDiff, Nat.reduceEqDiff, Nat.reduceAdd, Nat.reduceBEq, Int.reduceEq, H.cv_3_5, H.cv_3_56, H.cv_5_3, H.cv_5_56, H.cv_56_3, H.cv_56_5]
  refine hN _ ?_; clear hN N
  simp (disch := first | omega | (simp only [List.length_cons, List.length_nil, List.length_append, u8s_len]; omega)) only [go_sem, ↓reduceIte, true_and, Nat.reduceLeDiff, Nat.reduceEqDiff, Nat.reduceAdd, Nat.reduceBEq, Int.reduceEq, H.cv_3_5, H.cv_3_56, H.cv_5_3, H.cv_5_56, H.cv_56_3, H.cv_56_5]
  refine (num_ok H _ _).mono ?_
  rintro _ _ ⟨rfl, hh⟩; subst hh
  rw [contK_some]; simp (disch := first | omega | (simp only [List.length_cons, List.length_nil, List.length_append, u8s_len]; omega)) only [go_sem, ↓reduceIte, true_and, Nat.reduceLeDiff, Nat.reduceEqDiff, Nat.reduceAdd, Nat.reduceBEq, Int.reduceEq, H.cv_3_5, H.cv_3_56, H.cv_5_3, H.cv_5_56, H.cv_56_3, H.cv_56_5]
  refine (num_ok H _ _).mono ?_
  rintro _ _ ⟨rfl, hh⟩; subst hh
  rw [contK_some]; simp (disch := first | omega | (simp only [List.length_cons, List.length_nil, List.length_append, u8s_len]; omega)) only [go_sem, ↓reduceIte, true_and, Nat.reduceLeDiff, Nat.reduceEqDiff, Nat.reduceAdd, Nat.reduceBEq, Int.reduceEq, H.cv_3_5, H.cv_3_56, H.cv_5_3, H.cv_5_56, H.cv_56_3, H.cv_56_5, numV_av]
  refine (compare_ok H L (numV 1) (numV 2) _).mono ?_
  have e3 : cmpV (numV 1) (numV 2) = -1 := by decide +kernel
  rw [e3]
  rintro _ _ ⟨rfl, hh⟩; subst hh
  rw [contK_some]; simp (disch := first | omega | (simp only [List.length_cons, List.length_nil, List.length_append, u8s_len]; omega)) only [go_sem, ↓reduceIte, true_and, Nat.reduceLeDiff, Nat.reduceEqDiff, Nat.reduceAdd, Nat.reduceBEq, Int.reduceEq, H.cv_3_5, H.cv_3_56, H.cv_5_3, H.cv_5_56, H.cv_56_3, H.cv_56_5]
end Go.Proofs.YtcdfdnmnnepnoaaDoor
end

section
set_option linter.unusedVariables false
set_option linter.unusedSimpArgs false
namespace Go.Proofs.YtcdfdnmnnepnoaaDoor
open Go.Am
/-- Bytes that make a number. -/
def be (l : List UInt8) : Nat := l.foldl (fun a b => a * 256 + b.toNat) 0
theorem be_numB (n : Int) : be (numB n) = liftN n := by
  have hl : liftN n < 18446744073709551616 := by unfold liftN; omega
  simp only [numB, be, List.range, List.range.loop, List.map_cons, List.map_nil, List.foldl_cons, List.foldl_nil, UInt8.toNat_ofNat']
  generalize liftN n = u at hl
  omega
theorem numB_inj {a b : Int} (ha : -9007199254740992 ≤ a ∧ a ≤ 9007199254740992) (hb : -9007199254740992 ≤ b ∧ b ≤ 9007199254740992) (h : numB a = numB b) : a = b := by
  have h1 := be_numB a
  rw [h, be_numB b] at h1
  unfold liftN at h1
  omega
theorem app_split {α : Type} {a b x y : List α} (hl : a.length = b.length) (h : a ++ x = b ++ y) : a = b ∧ x = y := List.append_inj h hl
theorem textB_small {s : List UInt8} (h : ¬ 7 ≤ s.length) : textB s = s ++ zeros (7 - s.length) ++ [UInt8.ofNat s.length] := by rw [textB, dif_neg h]
theorem textB_big {s : List UInt8} (h : 7 ≤ s.length) : textB s = s.take 7 ++ 8 :: textB (s.drop 7) := by rw [textB, dif_pos h]
theorem textB_free : ∀ (n : Nat) (s t x y : List UInt8), s.length ≤ n → textB s ++ x = textB t ++ y → s = t
  | n, s, t, x, y, hn, h => by
    by_cases hs : 7 ≤ s.length
    · by_cases ht : 7 ≤ t.length
      · rw [textB_big hs, textB_big ht] at h
        simp only [List.append_assoc, List.cons_append] at h
        obtain ⟨h1, h2⟩ := List.append_inj h (by simp; omega)
        rw [List.cons.injEq] at h2
        match n with
        | 0 => omega
        | n + 1 =>
          have h3 := textB_free n (s.drop 7) (t.drop 7) x y (by simp; omega) h2.2
          rw [← List.take_append_drop 7 s, ← List.take_append_drop 7 t, h1, h3]
      · rw [textB_big hs, textB_small ht] at h
        simp only [List.append_assoc, List.cons_append] at h
        rw [← List.append_assoc t] at h
        obtain ⟨h1, h2⟩ := List.append_inj h (by simp [zeros]; omega)
        have : (8 : UInt8) = UInt8.ofNat t.length := by simpa using (List.cons.inj h2).1
        have := congrArg UInt8.toNat this
        simp at this
        omega
    · by_cases ht : 7 ≤ t.length
      · rw [textB_small hs, textB_big ht] at h
        simp only [List.append_assoc, List.cons_append] at h
        rw [← List.append_assoc s] at h
        obtain ⟨h1, h2⟩ := List.append_inj h (by simp [zeros]; omega)
        have : UInt8.ofNat s.length = (8 : UInt8) := by simpa using (List.cons.inj h2).1
        have := congrArg UInt8.toNat this
        simp at this
        omega
      · rw [textB_small hs, textB_small ht] at h
        simp only [List.append_assoc, List.cons_append] at h
        rw [← List.append_assoc s, ← List.append_assoc t] at h
        obtain ⟨h1, h2⟩ := List.append_inj h (by simp [zeros]; omega)
        have : UInt8.ofNat s.length = UInt8.ofNat t.length := by simpa using (List.cons.inj h2).1
        have := congrArg UInt8.toNat this
        simp at this
        have hst : s.length = t.length := by omega
        exact (List.append_inj h1 hst).1
termination_by n => n

/-- The values that may be. -/
inductive Good : Vl → Prop
  | num (n : Int) (h : -9007199254740992 ≤ n ∧ n ≤ 9007199254740992) : Good (numV n)
  | text (s : List UInt8) : Good (textV s)
  | point (a b : Int) (ha : -9007199254740992 ≤ a ∧ a ≤ 9007199254740992) (hb : -9007199254740992 ≤ b ∧ b ≤ 9007199254740992) : Good (pointV a b)
theorem good_of {v : Vl} (h : checkS v = 0) : Good v := by
  unfold checkS at h
  split at h
  · split at h
    · rename_i h1
      simp only [Bool.and_eq_true, decide_eq_true_eq, okNum] at h1
      rw [h1.1]
      exact .num _ ⟨h1.2.1, h1.2.2⟩
    · cases h
  · split at h
    · split at h
      · rename_i h1
        simp only [Bool.and_eq_true, decide_eq_true_eq, okPart] at h1
        rw [h1.1]
        exact .point _ _ (by omega) (by omega)
      · cases h
    · split at h
      · split at h
        · cases h
        · split at h
          · rename_i h1
            rw [h1]
            exact .text _
          · cases h
      · cases h
theorem keyB_num (n : Int) : keyB (numV n) = 1 :: numB n := rfl
theorem keyB_text (s : List UInt8) : keyB (textV s) = 2 :: textB s := rfl
theorem keyB_point (a b : Int) : keyB (pointV a b) = 3 :: (numB a ++ numB b) := rfl
theorem keyB_free {v w : Vl} {x y : List UInt8} (hv : Good v) (hw : Good w) (h : keyB v ++ x = keyB w ++ y) : v = w ∧ x = y := by
  have fin : v = w → v = w ∧ x = y := fun e => ⟨e, by rw [e] at h; exact List.append_cancel_left h⟩
  apply fin
  cases hv with
  | num n hn =>
    cases hw with
    | num m hm =>
      rw [keyB_num, keyB_num, List.cons_append, List.cons_append, List.cons.injEq] at h
      rw [numB_inj hn hm (List.append_inj h.2 (by rw [numB_len, numB_len])).1]
    | text s => rw [keyB_num, keyB_text, List.cons_append, List.cons_append, List.cons.injEq] at h; exact absurd h.1 (by decide)
    | point c d _ _ => rw [keyB_num, keyB_point, List.cons_append, List.cons_append, List.cons.injEq] at h; exact absurd h.1 (by decide)
  | text s =>
    cases hw with
    | num m hm => rw [keyB_text, keyB_num, List.cons_append, List.cons_append, List.cons.injEq] at h; exact absurd h.1 (by decide)
    | text t =>
      rw [keyB_text, keyB_text, List.cons_append, List.cons_append, List.cons.injEq] at h
      rw [textB_free _ s t x y (Nat.le_refl _) h.2]
    | point c d _ _ => rw [keyB_text, keyB_point, List.cons_append, List.cons_append, List.cons.injEq] at h; exact absurd h.1 (by decide)
  | point a b ha hb =>
    cases hw with
    | num m hm => rw [keyB_point, keyB_num, List.cons_append, List.cons_append, List.cons.injEq] at h; exact absurd h.1 (by decide)
    | text s => rw [keyB_point, keyB_text, List.cons_append, List.cons_append, List.cons.injEq] at h; exact absurd h.1 (by decide)
    | point c d hc hd =>
      rw [keyB_point, keyB_point, List.cons_append, List.cons_append, List.cons.injEq, List.append_assoc, List.append_assoc] at h
      obtain ⟨h1, h2⟩ := List.append_inj h.2 (by rw [numB_len, numB_len])
      obtain ⟨h3, _⟩ := List.append_inj h2 (by rw [numB_len, numB_len])
      rw [numB_inj ha hc h1, numB_inj hb hd h3]
theorem keyE_cons {v : Vl} {l : List Vl} (h : keyE (v :: l) = 0) : Good v ∧ keyE l = 0 := by
  rw [keyE] at h
  split at h
  · exact ⟨good_of ‹_›, h⟩
  · contradiction
theorem keyBs_cons (v : Vl) (l : List Vl) : keyBs (v :: l) = keyB v ++ keyBs l := by simp [keyBs]
theorem keys_begin : ∀ (a b : List Vl) (x : List UInt8), keyE a = 0 → keyE b = 0 → keyBs b = keyBs a ++ x → ∃ c, b = a ++ c
  | [], b, x, _, _, _ => ⟨b, rfl⟩
  | v :: a, [], x, ha, _, h => by
    rw [keyBs_cons] at h
    simp [keyBs, keyB] at h
  | v :: a, w :: b, x, ha, hb, h => by
    rw [keyBs_cons, keyBs_cons, List.append_assoc] at h
    obtain ⟨g1, g2⟩ := keyE_cons ha
    obtain ⟨g3, g4⟩ := keyE_cons hb
    obtain ⟨e1, e2⟩ := keyB_free g3 g1 h
    obtain ⟨c, hc⟩ := keys_begin a b x g2 g4 e2
    exact ⟨c, by rw [e1, hc]; rfl⟩
theorem keys_begin_iff {a b : List Vl} (ha : keyE a = 0) (hb : keyE b = 0) : (keyBs b).take (keyBs a).length = keyBs a ∧ (keyBs a).length ≤ (keyBs b).length ↔ b.take a.length = a ∧ a.length ≤ b.length := by
  constructor
  · rintro ⟨h1, _⟩
    obtain ⟨c, hc⟩ := keys_begin a b ((keyBs b).drop (keyBs a).length) ha hb (by conv => lhs; rw [← List.take_append_drop (keyBs a).length (keyBs b)]
                                                                                 rw [h1])
    rw [hc]
    simp
  · rintro ⟨h1, _⟩
    have : b = a ++ b.drop a.length := by conv => lhs; rw [← List.take_append_drop a.length b, h1]
    rw [this]
    simp [keyBs]
end Go.Proofs.YtcdfdnmnnepnoaaDoor
end

section
set_option linter.unusedVariables false
set_option linter.unusedSimpArgs false
namespace Go.Proofs.YtcdfdnmnnepnoaaDoor
open Go.Am
/-- A text is read strictly. -/
def tkR (s : List UInt8) : Option (List UInt8 × List UInt8) :=
  if h : s.length ≤ 7 then none
  else if s[7]!.toNat = 8 then (tkR (s.drop 8)).map fun p => (s.take 7 ++ p.1, p.2)
  else if s[7]!.toNat < 7 ∧ ((s.take 7).drop s[7]!.toNat).all (· == 0) = true then some (s.take s[7]!.toNat, s.drop 8)
  else none
termination_by s.length
decreasing_by simp; omega
theorem eight_of {s : List UInt8} (h : 8 ≤ s.length) : s = s.take 7 ++ s[7]! :: s.drop 8 := by
  have h7 : 7 < s.length := by omega
  have : s[7]! = s[7] := by simp [h7]
  rw [this]
  conv => lhs; rw [← List.take_append_drop 7 s]
  rw [List.drop_eq_getElem_cons (by omega)]
theorem all_zero {l : List UInt8} (h : l.all (· == 0) = true) : l = zeros l.length := by
  refine List.eq_replicate_of_mem fun b hb => ?_
  simpa using List.all_eq_true.1 h b hb
theorem tkR_sound (s : List UInt8) (a r : List UInt8) (h : tkR s = some (a, r)) : s = textB a ++ r := by
  rw [tkR] at h
  split at h
  · cases h
  · rename_i h7
    have h8 := eight_of (s := s) (by omega)
    generalize hb : s[7]! = b at h h8
    split at h
    · rename_i hb8
      obtain ⟨⟨a', r'⟩, h1, h2⟩ := Option.map_eq_some_iff.1 h
      have h3 := tkR_sound (s.drop 8) a' r' h1
      simp only [Prod.mk.injEq] at h2
      obtain ⟨rfl, rfl⟩ := h2
      have hl : (s.take 7).length = 7 := by simp; omega
      have hbb : b = 8 := UInt8.toNat_inj.1 hb8
      rw [textB_big (by simp; omega), List.take_left' hl, List.drop_left' hl]
      conv => lhs; rw [h8, h3, hbb]
      simp
    · split at h
      · rename_i hb7
        simp only [Option.some.injEq, Prod.mk.injEq] at h
        obtain ⟨rfl, rfl⟩ := h
        have hl : (s.take b.toNat).length = b.toNat := by simp; omega
        rw [textB_small (by omega), hl]
        have hz := all_zero hb7.2
        have hzl : ((s.take 7).drop b.toNat).length = 7 - b.toNat := by simp; omega
        rw [hzl] at hz
        have ht : s.take 7 = s.take b.toNat ++ zeros (7 - b.toNat) := by
          conv => lhs; rw [← List.take_append_drop b.toNat (s.take 7), hz, List.take_take, Nat.min_eq_left (by omega)]
        have hbo : UInt8.ofNat b.toNat = b := by simp
        rw [hbo]
        conv => lhs; rw [h8, ht]
        simp
      · cases h
termination_by s.length
decreasing_by simp; omega
theorem tkR_back (a r : List UInt8) : tkR (textB a ++ r) = some (a, r) := by
  by_cases h7 : 7 ≤ a.length
  · have hl : (a.take 7).length = 7 := by simp; omega
    have ih := tkR_back (a.drop 7) r
    rw [textB_big h7, List.append_assoc, List.cons_append]
    generalize textB (a.drop 7) ++ r = x at ih
    have e1 : (a.take 7 ++ 8 :: x)[7]! = 8 := by simp [hl]
    have e2 : (a.take 7 ++ 8 :: x).drop 8 = x := by rw [List.drop_append, hl]; simp [hl]
    have e3 : (a.take 7 ++ 8 :: x).take 7 = a.take 7 := List.take_left' hl
    rw [tkR, dif_neg (by simp [hl]), if_pos (by rw [e1]; rfl), e2, e3, ih]
    simp
  · rw [textB_small h7]
    have hl : (a ++ zeros (7 - a.length)).length = 7 := by simp [zeros]; omega
    rw [List.append_assoc]
    generalize hq : a ++ zeros (7 - a.length) = q at hl
    have e1 : (q ++ ([UInt8.ofNat a.length] ++ r))[7]! = UInt8.ofNat a.length := by simp [hl]
    have e2 : (q ++ ([UInt8.ofNat a.length] ++ r)).drop 8 = r := by rw [List.drop_append, hl, List.drop_eq_nil_of_le (by omega)]; rfl
    have e3 : (q ++ ([UInt8.ofNat a.length] ++ r)).take 7 = q := List.take_left' hl
    have e4 : (UInt8.ofNat a.length).toNat = a.length := by simp; omega
    have e5 : (q ++ ([UInt8.ofNat a.length] ++ r)).take a.length = a := by rw [List.take_append_of_le_length (by omega), ← hq, List.take_left]
    rw [tkR, dif_neg (by simp [hl]), if_neg (by rw [e1, e4]; omega), if_pos, e1, e4, e2, e5]
    rw [e1, e4, e3, ← hq, List.drop_left]
    exact ⟨by omega, by simp [zeros]⟩
termination_by a.length
decreasing_by simp; omega

/-- The number of eight bytes. -/
def numOf (l : List UInt8) : Int := (be l - 4611686018427387904 + 9223372036854775808 : Int) % 18446744073709551616 - 9223372036854775808
theorem be_lt {l : List UInt8} (h : l.length = 8) : be l < 18446744073709551616 := by
  match l, h with
  | [a, b, c, d, e, f, g, i], _ =>
    have ha := a.toNat_lt; have hb := b.toNat_lt; have hc := c.toNat_lt; have hd := d.toNat_lt
    have he := e.toNat_lt; have hf := f.toNat_lt; have hg := g.toNat_lt; have hi := i.toNat_lt
    simp only [be, List.foldl_cons, List.foldl_nil]
    omega
theorem liftN_numOf {l : List UInt8} (h : l.length = 8) : liftN (numOf l) = be l := by
  have := be_lt h
  unfold liftN numOf
  omega
theorem numB_numOf {l : List UInt8} (h : l.length = 8) : numB (numOf l) = l := by
  unfold numB
  rw [liftN_numOf h]
  match l, h with
  | [a, b, c, d, e, f, g, i], _ =>
    have ha := a.toNat_lt; have hb := b.toNat_lt; have hc := c.toNat_lt; have hd := d.toNat_lt
    have he := e.toNat_lt; have hf := f.toNat_lt; have hg := g.toNat_lt; have hi := i.toNat_lt
    simp only [List.range, List.range.loop, List.map_cons, List.map_nil, be, List.foldl_cons, List.foldl_nil, List.cons.injEq, and_true]
    refine ⟨?_, ?_, ?_, ?_, ?_, ?_, ?_, ?_⟩ <;> (apply UInt8.toNat_inj.1; rw [UInt8.toNat_ofNat']; simp only [Nat.reducePow, Nat.reduceMul, Nat.reduceSub]; omega)
theorem numOf_numB {n : Int} (h : -4611686018427387904 ≤ n ∧ n ≤ 4611686018427387904) : numOf (numB n) = n := by
  unfold numOf
  rw [be_numB]
  unfold liftN
  omega

/-- A value is read. -/
def rdV : List UInt8 → Option (Vl × List UInt8)
  | [] => none
  | k :: s => if k = 1 then (if 8 ≤ s.length then some (numV (numOf (s.take 8)), s.drop 8) else none)
    else if k = 2 then (tkR s).map fun p => (textV p.1, p.2)
    else if k = 3 then (if 16 ≤ s.length then some (pointV (numOf (s.take 8)) (numOf ((s.drop 8).take 8)), s.drop 16) else none)
    else none
theorem rdV_sound {s r : List UInt8} {v : Vl} (h : rdV s = some (v, r)) : s = keyB v ++ r := by
  cases s with
  | nil => cases h
  | cons k s =>
    rw [rdV] at h
    split at h
    · rename_i hk
      split at h
      · simp only [Option.some.injEq, Prod.mk.injEq] at h
        obtain ⟨rfl, rfl⟩ := h
        rw [keyB_num, numB_numOf (by simp; omega), hk, List.cons_append, List.take_append_drop]
      · cases h
    · split at h
      · rename_i hk
        obtain ⟨⟨a, r'⟩, h1, h2⟩ := Option.map_eq_some_iff.1 h
        simp only [Prod.mk.injEq] at h2
        obtain ⟨rfl, rfl⟩ := h2
        rw [keyB_text, hk, List.cons_append, ← tkR_sound _ _ _ h1]
      · split at h
        · rename_i hk
          split at h
          · simp only [Option.some.injEq, Prod.mk.injEq] at h
            obtain ⟨rfl, rfl⟩ := h
            rw [keyB_point, numB_numOf (by simp; omega), numB_numOf (by simp; omega), hk, List.cons_append, List.append_assoc]
            have : s.drop 16 = (s.drop 8).drop 8 := by simp
            rw [this, List.take_append_drop, List.take_append_drop]
          · cases h
        · cases h
theorem rdV_back {v : Vl} (hv : Good v) (r : List UInt8) : rdV (keyB v ++ r) = some (v, r) := by
  cases hv with
  | num n hn =>
    rw [keyB_num, List.cons_append, rdV, if_pos rfl, if_pos (by simp [numB_len]), List.take_left' (numB_len n), List.drop_left' (numB_len n), numOf_numB (by omega)]
  | text s =>
    rw [keyB_text, List.cons_append, rdV, if_neg (by decide), if_pos rfl, tkR_back]
    rfl
  | point a b ha hb =>
    rw [keyB_point, List.cons_append, rdV, if_neg (by decide), if_neg (by decide), if_pos rfl, if_pos (by simp [numB_len]; omega), List.append_assoc, List.take_left' (numB_len a), List.drop_left' (numB_len a), List.take_left' (numB_len b), numOf_numB (by omega), numOf_numB (by omega)]
    have : (numB a ++ (numB b ++ r)).drop 16 = ((numB a ++ (numB b ++ r)).drop 8).drop 8 := by simp
    rw [this, List.drop_left' (numB_len a), List.drop_left' (numB_len b)]
theorem rdV_len {s r : List UInt8} {v : Vl} (h : rdV s = some (v, r)) : r.length < s.length := by
  rw [rdV_sound h]
  simp [keyB]
  omega
/-- A list is read: c values are there. -/
def prs : Nat → Nat → List UInt8 → Option (List Vl)
  | _, _, [] => some []
  | 0, _, _ => none
  | f + 1, c, s => match rdV s with
    | none => none
    | some (v, r) => if checkS v = 0 ∧ c ≠ 16 then (prs f (c + 1) r).map (v :: ·) else none
theorem prs_cons {f c : Nat} {k : UInt8} {s : List UInt8} : prs (f + 1) c (k :: s) = match rdV (k :: s) with
    | none => none
    | some (v, r) => if checkS v = 0 ∧ c ≠ 16 then (prs f (c + 1) r).map (v :: ·) else none := rfl
theorem prs_sound : ∀ (f c : Nat) (s : List UInt8) (l : List Vl), c ≤ 16 → prs f c s = some l → keyE l = 0 ∧ c + l.length ≤ 16 ∧ keyBs l = s
  | f, c, [], l, hc, h => by
    rw [prs] at h
    cases h
    exact ⟨rfl, by simpa using hc, rfl⟩
  | 0, c, k :: s, l, hc, h => by cases h
  | f + 1, c, k :: s, l, hc, h => by
    rw [prs_cons] at h
    cases hr : rdV (k :: s) with
    | none => rw [hr] at h; cases h
    | some p =>
      obtain ⟨v, r⟩ := p
      rw [hr] at h
      simp only at h
      split at h
      · rename_i hq
        obtain ⟨l', h1, rfl⟩ := Option.map_eq_some_iff.1 h
        obtain ⟨i1, i2, i3⟩ := prs_sound f (c + 1) r l' (by omega) h1
        refine ⟨by rw [keyE, if_pos hq.1, i1], by simp; omega, ?_⟩
        rw [keyBs_cons, i3, ← rdV_sound hr]
      · cases h
theorem prs_back : ∀ (l : List Vl) (f c : Nat), (keyBs l).length < f → c + l.length ≤ 16 → keyE l = 0 → prs f c (keyBs l) = some l
  | [], f, c, hf, hc, he => by
    show prs f c [] = _
    rw [prs]
  | v :: l, f, c, hf, hc, he => by
    obtain ⟨g, he'⟩ := keyE_cons he
    have hv : checkS v = 0 := by
      rw [keyE] at he
      split at he
      · assumption
      · contradiction
    rw [keyBs_cons] at hf ⊢
    have hk : ∃ b t, keyB v ++ keyBs l = b :: t := ⟨_, _, rfl⟩
    obtain ⟨b, t, hbt⟩ := hk
    have hb := rdV_back g (keyBs l)
    have hlt := rdV_len hb
    rw [hbt] at hb hf hlt ⊢
    obtain ⟨f, rfl⟩ : ∃ k, f = k + 1 := ⟨f - 1, by omega⟩
    simp only [List.length_cons] at hc
    rw [prs_cons, hb]
    simp only
    rw [if_pos ⟨hv, by omega⟩, prs_back l f (c + 1) (by omega) (by omega) he']
    rfl
end Go.Proofs.YtcdfdnmnnepnoaaDoor
end

section
set_option linter.unusedVariables false
set_option linter.unusedSimpArgs false
namespace Go.Proofs.YtcdfdnmnnepnoaaDoor
open Go.Am
/-- The number of eight bytes, read loosely. -/
def eigI (l : List UInt8) : Int := if be l < 2305843009213693952 ∨ be l > 6917529027641081856 then 1152921504606846976 else (be l : Int) - 4611686018427387904
theorem eigI_numB {n : Int} (h : -9007199254740992 ≤ n ∧ n ≤ 9007199254740992) : eigI (numB n) = n := by
  unfold eigI
  rw [be_numB]
  unfold liftN
  rw [if_neg (by omega)]
  omega
/-- A text, read loosely. -/
def ltx (s : List UInt8) : Option (List UInt8 × List UInt8) :=
  if h : s.length < 8 then none
  else if s[7]! = 8 then (ltx (s.drop 8)).map fun p => (s.take 7 ++ p.1, p.2)
  else some (s.take (min 7 s[7]!.toNat), s.drop 8)
termination_by s.length
decreasing_by simp; omega
theorem ltx_len : ∀ (n : Nat) (s a r : List UInt8), s.length ≤ n → ltx s = some (a, r) → r.length < s.length ∧ a.length ≤ s.length
  | n, s, a, r, hn, h => by
    rw [ltx] at h
    split at h
    · cases h
    · split at h
      · obtain ⟨⟨a', r'⟩, h1, h2⟩ := Option.map_eq_some_iff.1 h
        simp only [Prod.mk.injEq] at h2
        obtain ⟨rfl, rfl⟩ := h2
        match n with
        | 0 => omega
        | n + 1 =>
          have := ltx_len n (s.drop 8) a' r' (by simp; omega) h1
          simp at this ⊢
          omega
      · simp only [Option.some.injEq, Prod.mk.injEq] at h
        obtain ⟨rfl, rfl⟩ := h
        simp
        omega
/-- What is read strictly is read loosely alike. -/
theorem ltx_of : ∀ (n : Nat) (s a r : List UInt8), s.length ≤ n → tkR s = some (a, r) → ltx s = some (a, r)
  | n, s, a, r, hn, h => by
    rw [tkR] at h
    rw [ltx]
    split at h
    · cases h
    · rename_i h7
      rw [dif_neg (by omega)]
      split at h
      · rename_i hb
        have hb8 : s[7]! = 8 := UInt8.toNat_inj.1 hb
        rw [if_pos hb8]
        obtain ⟨⟨a', r'⟩, h1, h2⟩ := Option.map_eq_some_iff.1 h
        match n with
        | 0 => omega
        | n + 1 =>
          rw [ltx_of n (s.drop 8) a' r' (by simp; omega) h1]
          exact congrArg some h2
      · rename_i hb
        have hb8 : s[7]! ≠ 8 := fun e => hb (by rw [e]; rfl)
        rw [if_neg hb8]
        split at h
        · rename_i hq
          rw [← h, Nat.min_eq_right (by omega)]
        · cases h
/-- A value, read loosely. -/
def lrV : List UInt8 → Option (Vl × List UInt8)
  | [] => none
  | k :: s => if k = 1 ∧ 8 ≤ s.length then some (numV (eigI (s.take 8)), s.drop 8)
    else if k = 3 ∧ 16 ≤ s.length then some (pointV (eigI (s.take 8)) (eigI ((s.drop 8).take 8)), s.drop 16)
    else if k = 2 then (ltx s).map fun p => (textV p.1, p.2)
    else none
theorem lrV_len {s r : List UInt8} {v : Vl} (h : lrV s = some (v, r)) : r.length < s.length := by
  cases s with
  | nil => cases h
  | cons k s =>
    rw [lrV] at h
    split at h
    · simp only [Option.some.injEq, Prod.mk.injEq] at h
      obtain ⟨rfl, rfl⟩ := h
      simp; omega
    · split at h
      · simp only [Option.some.injEq, Prod.mk.injEq] at h
        obtain ⟨rfl, rfl⟩ := h
        simp; omega
      · split at h
        · obtain ⟨⟨a', r'⟩, h1, h2⟩ := Option.map_eq_some_iff.1 h
          simp only [Prod.mk.injEq] at h2
          obtain ⟨rfl, rfl⟩ := h2
          have := ltx_len _ _ _ _ (Nat.le_refl _) h1
          simp; omega
        · cases h
theorem lrV_back {v : Vl} (hv : Good v) (r : List UInt8) : lrV (keyB v ++ r) = some (v, r) := by
  cases hv with
  | num n hn =>
    rw [keyB_num, List.cons_append, lrV, if_pos ⟨rfl, by simp [numB_len]⟩, List.take_left' (numB_len n), List.drop_left' (numB_len n), eigI_numB (by omega)]
  | text s =>
    rw [keyB_text, List.cons_append, lrV, if_neg (fun q => absurd q.1 (by decide)), if_neg (fun q => absurd q.1 (by decide)), if_pos rfl, ltx_of _ _ _ _ (Nat.le_refl _) (tkR_back s r)]
    rfl
  | point a b ha hb =>
    rw [keyB_point, List.cons_append, lrV, if_neg (fun q => absurd q.1 (by decide)), if_pos ⟨rfl, by simp [numB_len]; omega⟩, List.append_assoc, List.take_left' (numB_len a), List.drop_left' (numB_len a), List.take_left' (numB_len b), eigI_numB (by omega), eigI_numB (by omega)]
    have : (numB a ++ (numB b ++ r)).drop 16 = ((numB a ++ (numB b ++ r)).drop 8).drop 8 := by simp
    rw [this, List.drop_left' (numB_len a), List.drop_left' (numB_len b)]
/-- A list, read loosely. -/
def lprs : Nat → List UInt8 → Option (List Vl)
  | _, [] => some []
  | 0, _ => none
  | f + 1, s => match lrV s with
    | none => none
    | some (v, r) => (lprs f r).map (v :: ·)
theorem lprs_cons {f : Nat} {k : UInt8} {s : List UInt8} : lprs (f + 1) (k :: s) = match lrV (k :: s) with
    | none => none
    | some (v, r) => (lprs f r).map (v :: ·) := rfl
theorem lprs_back : ∀ (l : List Vl) (f : Nat), (keyBs l).length < f → keyE l = 0 → lprs f (keyBs l) = some l
  | [], f, hf, he => by
    show lprs f [] = _
    rw [lprs]
  | v :: l, f, hf, he => by
    obtain ⟨g, he'⟩ := keyE_cons he
    rw [keyBs_cons] at hf ⊢
    have hk : ∃ b t, keyB v ++ keyBs l = b :: t := ⟨_, _, rfl⟩
    obtain ⟨b, t, hbt⟩ := hk
    have hb := lrV_back g (keyBs l)
    have hlt := lrV_len hb
    rw [hbt] at hb hf hlt ⊢
    obtain ⟨f, rfl⟩ : ∃ k, f = k + 1 := ⟨f - 1, by omega⟩
    rw [lprs_cons, hb]
    simp only
    rw [lprs_back l f (by omega) he']
    rfl
/-- What a key is: both readings agree. -/
theorem prs_lprs (s : List UInt8) : prs (s.length + 1) 0 s = (lprs (s.length + 1) s).bind fun l => if l.length ≤ 16 ∧ keyE l = 0 ∧ keyBs l = s then some l else none := by
  cases hp : prs (s.length + 1) 0 s with
  | some l =>
    obtain ⟨h1, h2, h3⟩ := prs_sound _ _ _ _ (by omega) hp
    have h4 := lprs_back l (s.length + 1) (by rw [h3]; omega) h1
    rw [h3] at h4
    rw [h4, Option.bind_some, if_pos ⟨by omega, h1, h3⟩]
  | none =>
    cases hl : lprs (s.length + 1) s with
    | none => rfl
    | some l =>
      rw [Option.bind_some]
      split
      · rename_i hq
        have := prs_back l (s.length + 1) 0 (by rw [hq.2.2]; omega) (by omega) hq.2.1
        rw [hq.2.2, hp] at this
        cases this
      · rfl
end Go.Proofs.YtcdfdnmnnepnoaaDoor
end
