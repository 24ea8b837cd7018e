/- What the functions of the package rank come to. -/
import Derived.Test.YtmellpjoinldnaaRankCode
import Derived.Test.YtmellpjoinldnaaAmEq
set_option linter.unusedVariables false
set_option linter.unusedSimpArgs false
namespace Go.Proofs.Ytmellpjoinldnaa
open Go.Am

/-- A value. -/
structure Vl where
  kind : Int
  num : Int
  text : List UInt8
  re : Int
  im : Int
  deriving DecidableEq
def Vl.cells (v : Vl) : List AV := [.sc (.int .i64 v.kind), .sc (.int .i64 v.num), .sc (.string (str v.text)), .sc (.int .i64 v.re), .sc (.int .i64 v.im)]
def Vl.av (v : Vl) : AV := .ag v.cells
def i64r (n : Int) : Prop := -9223372036854775808 ≤ n ∧ n < 9223372036854775808

/-- Which of two numbers is ahead. -/
def cmpI (a b : Int) : Int := if a < b then -1 else if a > b then 1 else 0
/-- Strings compared. -/
def cb (a b : ByteArray) : Int := if sl a b then -1 else if a = b then 0 else 1
def orI : List Int → Int
  | [] => 0
  | a :: l => if a = 0 then orI l else a
def cmpV (a b : Vl) : Int := orI [cmpI a.kind b.kind, cmpI a.num b.num, cb (str a.text) (str b.text), cmpI a.re b.re, cmpI a.im b.im]
/-- Functions of the library. -/
structure Lb (P : Program) : Prop where
  cmp : ∀ (a b : ByteArray) (h : Heap), AWF P ann 0 23 [.sc (.string a), .sc (.string b)] h fun v h' => v = .sc (.int .i64 (cb a b)) ∧ h' = h
/-- What the program needs to know of values that are compared. -/
structure HasC (P : Program) : Prop where
  eq : ∀ a b : Vl, scalarBin P .eql 31 (.agg #[.int .i64 a.kind, .int .i64 a.num, .string (str a.text), .int .i64 a.re, .int .i64 a.im]) (.agg #[.int .i64 b.kind, .int .i64 b.num, .string (str b.text), .int .i64 b.re, .int .i64 b.im]) = some (.bool (decide (a = b)))
  bne : ∀ p q : Bool, scalarBin P .neq 4 (.bool p) (.bool q) = some (.bool (p != q))

def numV (n : Int) : Vl := ⟨1, n, [], 0, 0⟩
def textV (s : List UInt8) : Vl := ⟨2, 0, s, 0, 0⟩
def pointV (a b : Int) : Vl := ⟨3, 0, [], a, b⟩

theorem numV_av (n : Int) : (numV n).av = .ag [.sc (.int .i64 1), .sc (.int .i64 n), .sc (.string (str [])), .sc (.int .i64 0), .sc (.int .i64 0)] := rfl
theorem textV_av (s : List UInt8) : (textV s).av = .ag [.sc (.int .i64 2), .sc (.int .i64 0), .sc (.string (str s)), .sc (.int .i64 0), .sc (.int .i64 0)] := rfl
theorem pointV_av (a b : Int) : (pointV a b).av = .ag [.sc (.int .i64 3), .sc (.int .i64 0), .sc (.string (str [])), .sc (.int .i64 a), .sc (.int .i64 b)] := rfl
variable {P : Program} (H : Has P)
include H

theorem num_ok (n : Int) (h : Heap) : AWF P ann 0 10 [.sc (.int .i64 n)] h fun r h' => r = (numV n).av ∧ h' = h := by
  refine AWF.fnPure H.f0_10 rfl ?_
  simp (disch := first | omega | (simp only [List.length_cons, List.length_nil, List.length_append, u8s_len]; omega)) only [go_sem, ↓reduceIte, true_and, Nat.reduceLeDiff, Nat.reduceEqDiff, Nat.reduceAdd, Nat.reduceBEq, Int.reduceEq, H.cv_3_5, H.cv_3_49, H.cv_49_5, code0_10]
  intro b hb
  exact ⟨rfl, upd_keep hb⟩
theorem text_ok (s : List UInt8) (h : Heap) : AWF P ann 0 11 [.sc (.string (str s))] h fun r h' => r = (textV s).av ∧ h' = h := by
  refine AWF.fnPure H.f0_11 rfl ?_
  simp (disch := first | omega | (simp only [List.length_cons, List.length_nil, List.length_append, u8s_len]; omega)) only [go_sem, ↓reduceIte, true_and, Nat.reduceLeDiff, Nat.reduceEqDiff, Nat.reduceAdd, Nat.reduceBEq, Int.reduceEq, H.cv_3_5, H.cv_3_49, H.cv_49_5, code0_11]
  intro b hb
  exact ⟨rfl, upd_keep hb⟩
theorem point_ok (x y : Int) (h : Heap) : AWF P ann 0 12 [.sc (.int .i64 x), .sc (.int .i64 y)] h fun r h' => r = (pointV x y).av ∧ h' = h := by
  refine AWF.fnPure H.f0_12 rfl ?_
  simp (disch := first | omega | (simp only [List.length_cons, List.length_nil, List.length_append, u8s_len]; omega)) only [go_sem, ↓reduceIte, true_and, Nat.reduceLeDiff, Nat.reduceEqDiff, Nat.reduceAdd, Nat.reduceBEq, Int.reduceEq, H.cv_3_5, H.cv_3_49, H.cv_49_5, code0_12]
  intro b hb
  exact ⟨rfl, upd_keep hb⟩
theorem isnan_ok (n : Int) (h : Heap) : AWF P ann 0 25 [.sc (.int .i64 n)] h fun r h' => r = .sc (.bool false) ∧ h' = h := by
  refine AWF.fnc H.f0_25 rfl ?_
  simp (disch := first | omega | (simp only [List.length_cons, List.length_nil, List.length_append, u8s_len]; omega)) only [go_sem, ↓reduceIte, true_and, Nat.reduceLeDiff, Nat.reduceEqDiff, Nat.reduceAdd, Nat.reduceBEq, Int.reduceEq, H.cv_3_5, H.cv_3_49, H.cv_49_5]
  simp
theorem cmpi_ok (x y : Int) (h : Heap) : AWF P ann 0 22 [.sc (.int .i64 x), .sc (.int .i64 y)] h fun r h' => r = .sc (.int .i64 (cmpI x y)) ∧ h' = h := by
  refine AWF.fnc H.f0_22 rfl ?_
  (refine W_seq_gen fun N hN => ?_); simp (disch := first | omega | (simp only [List.length_cons, List.length_nil, List.length_append, u8s_len]; omega)) only [go_sem, ↓reduceIte, true_and, Nat.reduceLeDiff, Nat.reduceEqDiff, Nat.reduceAdd, Nat.reduceBEq, Int.reduceEq, H.cv_3_5, H.cv_3_49, H.cv_49_5]
  refine hN _ ?_; clear hN N
  (refine W_seq_gen fun N hN => ?_); simp (disch := first | omega | (simp only [List.length_cons, List.length_nil, List.length_append, u8s_len]; omega)) only [go_sem, ↓reduceIte, true_and, Nat.reduceLeDiff, Nat.reduceEqDiff, Nat.reduceAdd, Nat.reduceBEq, Int.reduceEq, H.cv_3_5, H.cv_3_49, H.cv_49_5]
  refine (isnan_ok H _ _).mono ?_
  rintro _ _ ⟨rfl, hh⟩; subst hh
  rw [contK_some]; simp (disch := first | omega | (simp only [List.length_cons, List.length_nil, List.length_append, u8s_len]; omega)) only [go_sem, ↓reduceIte, true_and, Nat.reduceLeDiff, Nat.reduceEqDiff, Nat.reduceAdd, Nat.reduceBEq, Int.reduceEq, H.cv_3_5, H.cv_3_49, H.cv_49_5]
  refine hN _ ?_; clear hN N
  (refine W_seq_gen fun N hN => ?_); simp (disch := first | omega | (simp only [List.length_cons, List.length_nil, List.length_append, u8s_len]; omega)) only [go_sem, ↓reduceIte, true_and, Nat.reduceLeDiff, Nat.reduceEqDiff, Nat.reduceAdd, Nat.reduceBEq, Int.reduceEq, H.cv_3_5, H.cv_3_49, H.cv_49_5]
  refine (isnan_ok H _ _).mono ?_
  rintro _ _ ⟨rfl, hh⟩; subst hh
  rw [contK_some]; simp (disch := first | omega | (simp only [List.length_cons, List.length_nil, List.length_append, u8s_len]; omega)) only [go_sem, ↓reduceIte, true_and, Nat.reduceLeDiff, Nat.reduceEqDiff, Nat.reduceAdd, Nat.reduceBEq, Int.reduceEq, H.cv_3_5, H.cv_3_49, H.cv_49_5]
  refine hN _ ?_; clear hN N
  (refine W_seq_gen fun N hN => ?_); simp (disch := first | omega | (simp only [List.length_cons, List.length_nil, List.length_append, u8s_len]; omega)) only [go_sem, ↓reduceIte, true_and, Nat.reduceLeDiff, Nat.reduceEqDiff, Nat.reduceAdd, Nat.reduceBEq, Int.reduceEq, H.cv_3_5, H.cv_3_49, H.cv_49_5]
  refine hN _ ?_; clear hN N
  (refine W_seq_gen fun N hN => ?_); simp (disch := first | omega | (simp only [List.length_cons, List.length_nil, List.length_append, u8s_len]; omega)) only [go_sem, ↓reduceIte, true_and, Nat.reduceLeDiff, Nat.reduceEqDiff, Nat.reduceAdd, Nat.reduceBEq, Int.reduceEq, H.cv_3_5, H.cv_3_49, H.cv_49_5]
  refine hN _ ?_; clear hN N
  by_cases h1 : x < y
  · simp (disch := first | omega | (simp only [List.length_cons, List.length_nil, List.length_append, u8s_len]; omega)) only [go_sem, ↓reduceIte, true_and, Nat.reduceLeDiff, Nat.reduceEqDiff, Nat.reduceAdd, Nat.reduceBEq, Int.reduceEq, H.cv_3_5, H.cv_3_49, H.cv_49_5, h1]
    simp [cmpI, h1]
  · (refine W_seq_gen fun N hN => ?_); simp (disch := first | omega | (simp only [List.length_cons, List.length_nil, List.length_append, u8s_len]; omega)) only [go_sem, ↓reduceIte, true_and, Nat.reduceLeDiff, Nat.reduceEqDiff, Nat.reduceAdd, Nat.reduceBEq, Int.reduceEq, H.cv_3_5, H.cv_3_49, H.cv_49_5, h1]
    refine hN _ ?_; clear hN N
    by_cases h2 : x > y
    · simp (disch := first | omega | (simp only [List.length_cons, List.length_nil, List.length_append, u8s_len]; omega)) only [go_sem, ↓reduceIte, true_and, Nat.reduceLeDiff, Nat.reduceEqDiff, Nat.reduceAdd, Nat.reduceBEq, Int.reduceEq, H.cv_3_5, H.cv_3_49, H.cv_49_5, h2]
      simp [cmpI, h1, h2]
    · simp (disch := first | omega | (simp only [List.length_cons, List.length_nil, List.length_append, u8s_len]; omega)) only [go_sem, ↓reduceIte, true_and, Nat.reduceLeDiff, Nat.reduceEqDiff, Nat.reduceAdd, Nat.reduceBEq, Int.reduceEq, H.cv_3_5, H.cv_3_49, H.cv_49_5, h2]
      simp [cmpI, h1, h2]
theorem part_ok (n : Int) (h : Heap) : AWF P ann 0 20 [.sc (.int .i64 n)] h fun r h' => r = .sc (.bool (decide (-1048576 ≤ n ∧ n ≤ 1048576))) ∧ h' = h := by
  refine AWF.fnc H.f0_20 rfl ?_
  by_cases h1 : n ≥ -1048576
  · by_cases h2 : n ≤ ((1048576 : Nat) : Int)
    · simp (disch := first | omega | (simp only [List.length_cons, List.length_nil, List.length_append, u8s_len]; omega)) only [go_sem, ↓reduceIte, true_and, Nat.reduceLeDiff, Nat.reduceEqDiff, Nat.reduceAdd, Nat.reduceBEq, Int.reduceEq, H.cv_3_5, H.cv_3_49, H.cv_49_5, h1, h2]
      have : n ≤ 1048576 := h2
      simp [h1, this]
    · simp (disch := first | omega | (simp only [List.length_cons, List.length_nil, List.length_append, u8s_len]; omega)) only [go_sem, ↓reduceIte, true_and, Nat.reduceLeDiff, Nat.reduceEqDiff, Nat.reduceAdd, Nat.reduceBEq, Int.reduceEq, H.cv_3_5, H.cv_3_49, H.cv_49_5, h1, h2]
      have : ¬ n ≤ 1048576 := h2
      simp [this]
  · simp (disch := first | omega | (simp only [List.length_cons, List.length_nil, List.length_append, u8s_len]; omega)) only [go_sem, ↓reduceIte, true_and, Nat.reduceLeDiff, Nat.reduceEqDiff, Nat.reduceAdd, Nat.reduceBEq, Int.reduceEq, H.cv_3_5, H.cv_3_49, H.cv_49_5, h1]
    have : ¬ -1048576 ≤ n := h1
    simp [this]

theorem or_ok {v : AV} {l : List Int} (hv : SL 1 v (l.map fun n => [.sc (.int .i64 n)])) (hl : l.length < 2 ^ 40) (h : Heap) : AWF P ann 0 21 [v] h fun r h' => r = .sc (.int .i64 (orI l)) ∧ h' = h := by
  refine AWF.fnc H.f0_21 rfl ?_
  (refine W_seq_gen fun N hN => ?_); simp (disch := first | omega | (simp only [List.length_cons, List.length_nil, List.length_append, u8s_len]; omega)) only [go_sem, ↓reduceIte, true_and, Nat.reduceLeDiff, Nat.reduceEqDiff, Nat.reduceAdd, Nat.reduceBEq, Int.reduceEq, H.cv_3_5, H.cv_3_49, H.cv_49_5]
  refine hN _ ?_; clear hN N
  (refine W_seq_gen fun N hN => ?_); simp (disch := first | omega | (simp only [List.length_cons, List.length_nil, List.length_append, u8s_len]; omega)) only [go_sem, ↓reduceIte, true_and, Nat.reduceLeDiff, Nat.reduceEqDiff, Nat.reduceAdd, Nat.reduceBEq, Int.reduceEq, H.cv_3_5, H.cv_3_49, H.cv_49_5]
  refine hN _ ?_; clear hN N
  (refine W_seq_gen fun M hM => ?_)
  (refine W_seq_gen fun N hN => ?_); simp (disch := first | omega | (simp only [List.length_cons, List.length_nil, List.length_append, u8s_len]; omega)) only [go_sem, ↓reduceIte, true_and, Nat.reduceLeDiff, Nat.reduceEqDiff, Nat.reduceAdd, Nat.reduceBEq, Int.reduceEq, H.cv_3_5, H.cv_3_49, H.cv_49_5, hv.dis.len]
  refine hN _ ?_; clear hN N
  simp (disch := first | omega | (simp only [List.length_cons, List.length_nil, List.length_append, u8s_len]; omega)) only [go_sem, ↓reduceIte, true_and, Nat.reduceLeDiff, Nat.reduceEqDiff, Nat.reduceAdd, Nat.reduceBEq, Int.reduceEq, H.cv_3_5, H.cv_3_49, H.cv_49_5]
  refine AW_loopN (fun n t h' => h' = h ∧ ∃ i, n = l.length - i ∧ i ≤ l.length ∧ t 6 = v.dis ∧ t 3 = .sc (.int .i64 (0 : Nat)) ∧ t 8 = .sc (.int .i64 (i : Nat)) ∧ t 7 = .sc (.int .i64 (l.length : Nat)) ∧ orI l = orI (l.drop i))
    (n := l.length) ⟨rfl, 0, rfl, Nat.zero_le _, rfl, rfl, rfl, by simp [upd_at], rfl⟩ ?_
  rintro n t h' ⟨rfl, i, rfl, hi, t6, t3, t8, t7, ho⟩
  rcases Nat.lt_or_ge i l.length with hlt | hge
  · have g0 : (l.map fun n => [AV.sc (.int .i64 n)])[i]? = some [.sc (.int .i64 l[i])] := by simp [hlt]
    (refine W_seq_gen fun N hN => ?_); simp (disch := first | omega | (simp only [List.length_cons, List.length_nil, List.length_append, u8s_len]; omega)) only [go_sem, ↓reduceIte, true_and, Nat.reduceLeDiff, Nat.reduceEqDiff, Nat.reduceAdd, Nat.reduceBEq, Int.reduceEq, H.cv_3_5, H.cv_3_49, H.cv_49_5, t7, t8, hlt]
    refine hN _ ?_; clear hN N
    (refine W_seq_gen fun N hN => ?_); simp (disch := first | omega | (simp only [List.length_cons, List.length_nil, List.length_append, u8s_len]; omega)) only [go_sem, ↓reduceIte, true_and, Nat.reduceLeDiff, Nat.reduceEqDiff, Nat.reduceAdd, Nat.reduceBEq, Int.reduceEq, H.cv_3_5, H.cv_3_49, H.cv_49_5]
    refine hN _ ?_; clear hN N
    (refine W_seq_gen fun N hN => ?_)
    rw [W_block]
    have hd : l.drop i = l[i] :: l.drop (i + 1) := List.drop_eq_getElem_cons hlt
    (refine W_seq_gen fun N hN => ?_); simp (disch := first | omega | (simp only [List.length_cons, List.length_nil, List.length_append, u8s_len]; omega)) only [go_sem, ↓reduceIte, true_and, Nat.reduceLeDiff, Nat.reduceEqDiff, Nat.reduceAdd, Nat.reduceBEq, Int.reduceEq, H.cv_3_5, H.cv_3_49, H.cv_49_5, t6, t8, hv.dd, hv.dis.ia, g0]
    refine hN _ ?_; clear hN N
    by_cases h0 : l[i] = 0
    · have h1 : (l[i] != ((0 : Nat) : Int)) = false := by simp [h0]
      simp (disch := first | omega | (simp only [List.length_cons, List.length_nil, List.length_append, u8s_len]; omega)) only [go_sem, ↓reduceIte, true_and, Nat.reduceLeDiff, Nat.reduceEqDiff, Nat.reduceAdd, Nat.reduceBEq, Int.reduceEq, H.cv_3_5, H.cv_3_49, H.cv_49_5, t3, h1]
      refine hN _ ?_; clear hN N
      simp (disch := first | omega | (simp only [List.length_cons, List.length_nil, List.length_append, u8s_len]; omega)) only [go_sem, ↓reduceIte, true_and, Nat.reduceLeDiff, Nat.reduceEqDiff, Nat.reduceAdd, Nat.reduceBEq, Int.reduceEq, H.cv_3_5, H.cv_3_49, H.cv_49_5, t8, nat_add]
      exact ⟨l.length - (i + 1), by omega, i + 1, rfl, by omega, t6, t3, rfl, t7, by rw [ho, hd, orI, if_pos h0]⟩
    · have h1 : (l[i] != ((0 : Nat) : Int)) = true := by simpa using h0
      simp (disch := first | omega | (simp only [List.length_cons, List.length_nil, List.length_append, u8s_len]; omega)) only [go_sem, ↓reduceIte, true_and, Nat.reduceLeDiff, Nat.reduceEqDiff, Nat.reduceAdd, Nat.reduceBEq, Int.reduceEq, H.cv_3_5, H.cv_3_49, H.cv_49_5, t3, h1]
      rw [ho, hd, orI, if_neg h0]
  obtain rfl : i = l.length := by omega
  (refine W_seq_gen fun N hN => ?_); simp (disch := first | omega | (simp only [List.length_cons, List.length_nil, List.length_append, u8s_len]; omega)) only [go_sem, ↓reduceIte, true_and, Nat.reduceLeDiff, Nat.reduceEqDiff, Nat.reduceAdd, Nat.reduceBEq, Int.reduceEq, H.cv_3_5, H.cv_3_49, H.cv_49_5, t7, t8, Nat.lt_irrefl]
  refine hN _ ?_; clear hN N
  (refine W_seq_gen fun N hN => ?_); simp (disch := first | omega | (simp only [List.length_cons, List.length_nil, List.length_append, u8s_len]; omega)) only [go_sem, ↓reduceIte, true_and, Nat.reduceLeDiff, Nat.reduceEqDiff, Nat.reduceAdd, Nat.reduceBEq, Int.reduceEq, H.cv_3_5, H.cv_3_49, H.cv_49_5]
  refine hM _ ?_; clear hN N hM M
  rw [ho, List.drop_length]
  simp (disch := first | omega | (simp only [List.length_cons, List.length_nil, List.length_append, u8s_len]; omega)) only [go_sem, ↓reduceIte, true_and, Nat.reduceLeDiff, Nat.reduceEqDiff, Nat.reduceAdd, Nat.reduceBEq, Int.reduceEq, H.cv_3_5, H.cv_3_49, H.cv_49_5, t3]
  rfl

theorem compare_ok (L : Lb P) (a b : Vl) (h : Heap) : AWF P ann 0 14 [a.av, b.av] h fun r h' => r = .sc (.int .i64 (cmpV a b)) ∧ h' = h := by
  refine AWF.fnPurec H.f0_14 rfl ?_
  (refine W_seq_gen fun N hN => ?_); simp (disch := first | omega | (simp only [List.length_cons, List.length_nil, List.length_append, u8s_len]; omega)) only [go_sem, ↓reduceIte, true_and, Nat.reduceLeDiff, Nat.reduceEqDiff, Nat.reduceAdd, Nat.reduceBEq, Int.reduceEq, H.cv_3_5, H.cv_3_49, H.cv_49_5, Vl.av, Vl.cells]
  intro o ho p hp
  obtain ⟨h2, hh, f1, f2, f3⟩ := box2 ho hp (Y := some (.arr b.cells))
  refine hN _ ?_; clear hN N
  rw [Vl.cells] at hh f2
  rw [hh]
  clear hh hp ho
  simp (disch := first | omega | (simp only [List.length_cons, List.length_nil, List.length_append, u8s_len]; omega)) only [go_sem, ↓reduceIte, true_and, Nat.reduceLeDiff, Nat.reduceEqDiff, Nat.reduceAdd, Nat.reduceBEq, Int.reduceEq, H.cv_3_5, H.cv_3_49, H.cv_49_5, f1, f2]
  refine ⟨_, cmpi_ok H _ _ _, ?_⟩
  rw [contK_some]; simp (disch := first | omega | (simp only [List.length_cons, List.length_nil, List.length_append, u8s_len]; omega)) only [go_sem, ↓reduceIte, true_and, Nat.reduceLeDiff, Nat.reduceEqDiff, Nat.reduceAdd, Nat.reduceBEq, Int.reduceEq, H.cv_3_5, H.cv_3_49, H.cv_49_5, f1, f2]
  refine ⟨_, cmpi_ok H _ _ _, ?_⟩
  rw [contK_some]; simp (disch := first | omega | (simp only [List.length_cons, List.length_nil, List.length_append, u8s_len]; omega)) only [go_sem, ↓reduceIte, true_and, Nat.reduceLeDiff, Nat.reduceEqDiff, Nat.reduceAdd, Nat.reduceBEq, Int.reduceEq, H.cv_3_5, H.cv_3_49, H.cv_49_5, f1, f2]
  refine ⟨_, L.cmp _ _ _, ?_⟩
  rw [contK_some]; simp (disch := first | omega | (simp only [List.length_cons, List.length_nil, List.length_append, u8s_len]; omega)) only [go_sem, ↓reduceIte, true_and, Nat.reduceLeDiff, Nat.reduceEqDiff, Nat.reduceAdd, Nat.reduceBEq, Int.reduceEq, H.cv_3_5, H.cv_3_49, H.cv_49_5, f1, f2]
  refine ⟨_, cmpi_ok H _ _ _, ?_⟩
  rw [contK_some]; simp (disch := first | omega | (simp only [List.length_cons, List.length_nil, List.length_append, u8s_len]; omega)) only [go_sem, ↓reduceIte, true_and, Nat.reduceLeDiff, Nat.reduceEqDiff, Nat.reduceAdd, Nat.reduceBEq, Int.reduceEq, H.cv_3_5, H.cv_3_49, H.cv_49_5, f1, f2]
  refine ⟨_, cmpi_ok H _ _ _, ?_⟩
  rw [contK_some]; simp (disch := first | omega | (simp only [List.length_cons, List.length_nil, List.length_append, u8s_len]; omega)) only [go_sem, ↓reduceIte, true_and, Nat.reduceLeDiff, Nat.reduceEqDiff, Nat.reduceAdd, Nat.reduceBEq, Int.reduceEq, H.cv_3_5, H.cv_3_49, H.cv_49_5, f1, f2]
  refine ⟨_, or_ok H (l := [cmpI a.kind b.kind, cmpI a.num b.num, cb (str a.text) (str b.text), cmpI a.re b.re, cmpI a.im b.im]) SL.bs (by simp) _, ?_⟩
  rw [contK_some]; simp (disch := first | omega | (simp only [List.length_cons, List.length_nil, List.length_append, u8s_len]; omega)) only [go_sem, ↓reduceIte, true_and, Nat.reduceLeDiff, Nat.reduceEqDiff, Nat.reduceAdd, Nat.reduceBEq, Int.reduceEq, H.cv_3_5, H.cv_3_49, H.cv_49_5]
  exact ⟨rfl, f3⟩

def okNum (n : Int) : Bool := decide (n ≥ -9007199254740992) && decide (n ≤ ((9007199254740992 : Nat) : Int))
def okPart (n : Int) : Bool := decide (-1048576 ≤ n ∧ n ≤ 1048576)
def checkS (v : Vl) : Nat :=
  if v.kind = 1 then (if (decide (v = numV v.num) && okNum v.num) = true then 0 else 1)
  else if v.kind = 3 then (if (decide (v = pointV v.re v.im) && (okPart v.re && okPart v.im)) = true then 0 else 1)
  else if v.kind = 2 then (if v.text.length > 256 then 3 else if v = textV v.text then 0 else 1)
  else 1

theorem check_ok (HC : HasC P) (v : Vl) (h : Heap) : AWF P ann 0 13 [v.av] h fun r h' => r = .sc (.int .i64 (checkS v : Nat)) ∧ h' = h := by
  refine AWF.fnPurec H.f0_13 rfl ?_
  (refine W_seq_gen fun N hN => ?_); simp (disch := first | omega | (simp only [List.length_cons, List.length_nil, List.length_append, u8s_len]; omega)) only [go_sem, ↓reduceIte, true_and, Nat.reduceLeDiff, Nat.reduceEqDiff, Nat.reduceAdd, Nat.reduceBEq, Int.reduceEq, H.cv_3_5, H.cv_3_49, H.cv_49_5, Vl.av, Vl.cells]
  intro o ho
  have f3 := upd_keep (x := some (.arr v.cells)) ho
  have f1 : upd h o (some (.arr v.cells)) o = some (.arr [.sc (.int .i64 v.kind), .sc (.int .i64 v.num), .sc (.string (str v.text)), .sc (.int .i64 v.re), .sc (.int .i64 v.im)]) := upd_same _ _ _
  refine hN _ ?_; clear hN N
  rw [Vl.cells] at f3 f1
  generalize upd h o (some (.arr [.sc (.int .i64 v.kind), .sc (.int .i64 v.num), .sc (.string (str v.text)), .sc (.int .i64 v.re), .sc (.int .i64 v.im)])) = h2 at f1 f3
  clear ho
  (refine W_seq_gen fun N hN => ?_); simp (disch := first | omega | (simp only [List.length_cons, List.length_nil, List.length_append, u8s_len]; omega)) only [go_sem, ↓reduceIte, true_and, Nat.reduceLeDiff, Nat.reduceEqDiff, Nat.reduceAdd, Nat.reduceBEq, Int.reduceEq, H.cv_3_5, H.cv_3_49, H.cv_49_5]
  refine hN _ ?_; clear hN N
  (refine W_seq_gen fun M hM => ?_)
  have fin : ∀ (t : Nat → AV) (q : Bool), t 3 = .sc (.bool q) → checkS v = (if q then 0 else 1) → M ⟨t, h2⟩ := by
    intro t q t3 hc
    refine hM _ ?_; clear hM M
    cases q with
    | true =>
      (refine W_seq_gen fun N hN => ?_); simp (disch := first | omega | (simp only [List.length_cons, List.length_nil, List.length_append, u8s_len]; omega)) only [go_sem, ↓reduceIte, true_and, Nat.reduceLeDiff, Nat.reduceEqDiff, Nat.reduceAdd, Nat.reduceBEq, Int.reduceEq, H.cv_3_5, H.cv_3_49, H.cv_49_5, t3]
      refine hN _ ?_; clear hN N
      simp (disch := first | omega | (simp only [List.length_cons, List.length_nil, List.length_append, u8s_len]; omega)) only [go_sem, ↓reduceIte, true_and, Nat.reduceLeDiff, Nat.reduceEqDiff, Nat.reduceAdd, Nat.reduceBEq, Int.reduceEq, H.cv_3_5, H.cv_3_49, H.cv_49_5]
      rw [hc]
      exact ⟨rfl, f3⟩
    | false =>
      (refine W_seq_gen fun N hN => ?_); simp (disch := first | omega | (simp only [List.length_cons, List.length_nil, List.length_append, u8s_len]; omega)) only [go_sem, ↓reduceIte, true_and, Nat.reduceLeDiff, Nat.reduceEqDiff, Nat.reduceAdd, Nat.reduceBEq, Int.reduceEq, H.cv_3_5, H.cv_3_49, H.cv_49_5, t3]
      rw [hc]
      exact ⟨rfl, f3⟩
  clear hM
  by_cases k1 : v.kind = 1
  · have q1 : (v.kind == ((1 : Nat) : Int)) = true := by rw [k1]; rfl
    have he : scalarBin P .eql 31 (.agg #[.int .i64 v.kind, .int .i64 v.num, .string (str v.text), .int .i64 v.re, .int .i64 v.im]) (.agg #[.int .i64 1, .int .i64 v.num, .string (str []), .int .i64 0, .int .i64 0]) = some (.bool (decide (v = numV v.num))) := HC.eq v (numV v.num)
    have hcs : checkS v = if (decide (v = numV v.num) && okNum v.num) = true then 0 else 1 := by rw [checkS, if_pos k1]
    simp (disch := first | omega | (simp only [List.length_cons, List.length_nil, List.length_append, u8s_len]; omega)) only [go_sem, ↓reduceIte, true_and, Nat.reduceLeDiff, Nat.reduceEqDiff, Nat.reduceAdd, Nat.reduceBEq, Int.reduceEq, H.cv_3_5, H.cv_3_49, H.cv_49_5, q1, f1]
    refine ⟨_, num_ok H _ _, ?_⟩
    by_cases e1 : v = numV v.num
    · rw [decide_eq_true e1] at he
      by_cases b1 : v.num ≥ -9007199254740992
      · by_cases b2 : v.num ≤ ((9007199254740992 : Nat) : Int)
        · rw [contK_some]; simp (disch := first | omega | (simp only [List.length_cons, List.length_nil, List.length_append, u8s_len]; omega)) only [go_sem, ↓reduceIte, true_and, Nat.reduceLeDiff, Nat.reduceEqDiff, Nat.reduceAdd, Nat.reduceBEq, Int.reduceEq, H.cv_3_5, H.cv_3_49, H.cv_49_5, numV_av, he, f1, b1, b2]
          exact fin _ true rfl (by rw [hcs, okNum, decide_eq_true e1, decide_eq_true b1, decide_eq_true b2]; rfl)
        · rw [contK_some]; simp (disch := first | omega | (simp only [List.length_cons, List.length_nil, List.length_append, u8s_len]; omega)) only [go_sem, ↓reduceIte, true_and, Nat.reduceLeDiff, Nat.reduceEqDiff, Nat.reduceAdd, Nat.reduceBEq, Int.reduceEq, H.cv_3_5, H.cv_3_49, H.cv_49_5, numV_av, he, f1, b1, b2]
          exact fin _ false rfl (by rw [hcs, okNum, decide_eq_false b2]; simp)
      · rw [contK_some]; simp (disch := first | omega | (simp only [List.length_cons, List.length_nil, List.length_append, u8s_len]; omega)) only [go_sem, ↓reduceIte, true_and, Nat.reduceLeDiff, Nat.reduceEqDiff, Nat.reduceAdd, Nat.reduceBEq, Int.reduceEq, H.cv_3_5, H.cv_3_49, H.cv_49_5, numV_av, he, f1, b1]
        exact fin _ false rfl (by rw [hcs, okNum, decide_eq_false b1]; simp)
    · rw [decide_eq_false e1] at he
      rw [contK_some]; simp (disch := first | omega | (simp only [List.length_cons, List.length_nil, List.length_append, u8s_len]; omega)) only [go_sem, ↓reduceIte, true_and, Nat.reduceLeDiff, Nat.reduceEqDiff, Nat.reduceAdd, Nat.reduceBEq, Int.reduceEq, H.cv_3_5, H.cv_3_49, H.cv_49_5, numV_av, he, f1]
      exact fin _ false rfl (by rw [hcs, decide_eq_false e1]; rfl)
  have q1 : (v.kind == ((1 : Nat) : Int)) = false := by simpa using k1
  by_cases k3 : v.kind = 3
  · have q3 : (v.kind == ((3 : Nat) : Int)) = true := by rw [k3]; rfl
    have he : scalarBin P .eql 31 (.agg #[.int .i64 v.kind, .int .i64 v.num, .string (str v.text), .int .i64 v.re, .int .i64 v.im]) (.agg #[.int .i64 3, .int .i64 0, .string (str []), .int .i64 v.re, .int .i64 v.im]) = some (.bool (decide (v = pointV v.re v.im))) := HC.eq v (pointV v.re v.im)
    have hcs : checkS v = if (decide (v = pointV v.re v.im) && (okPart v.re && okPart v.im)) = true then 0 else 1 := by rw [checkS, if_neg k1, if_pos k3]
    simp (disch := first | omega | (simp only [List.length_cons, List.length_nil, List.length_append, u8s_len]; omega)) only [go_sem, ↓reduceIte, true_and, Nat.reduceLeDiff, Nat.reduceEqDiff, Nat.reduceAdd, Nat.reduceBEq, Int.reduceEq, H.cv_3_5, H.cv_3_49, H.cv_49_5, q1, q3, f1]
    refine ⟨_, point_ok H _ _ _, ?_⟩
    by_cases e1 : v = pointV v.re v.im
    · rw [decide_eq_true e1] at he hcs
      rw [contK_some]; simp (disch := first | omega | (simp only [List.length_cons, List.length_nil, List.length_append, u8s_len]; omega)) only [go_sem, ↓reduceIte, true_and, Nat.reduceLeDiff, Nat.reduceEqDiff, Nat.reduceAdd, Nat.reduceBEq, Int.reduceEq, H.cv_3_5, H.cv_3_49, H.cv_49_5, pointV_av, he, f1]
      refine ⟨_, part_ok H _ _, ?_⟩
      change contK _ _ _ (.sc (.bool (okPart v.re))) _
      cases b1 : okPart v.re with
      | false =>
        rw [contK_some]; simp (disch := first | omega | (simp only [List.length_cons, List.length_nil, List.length_append, u8s_len]; omega)) only [go_sem, ↓reduceIte, true_and, Nat.reduceLeDiff, Nat.reduceEqDiff, Nat.reduceAdd, Nat.reduceBEq, Int.reduceEq, H.cv_3_5, H.cv_3_49, H.cv_49_5, f1]
        exact fin _ false rfl (by rw [hcs, b1]; rfl)
      | true =>
        rw [contK_some]; simp (disch := first | omega | (simp only [List.length_cons, List.length_nil, List.length_append, u8s_len]; omega)) only [go_sem, ↓reduceIte, true_and, Nat.reduceLeDiff, Nat.reduceEqDiff, Nat.reduceAdd, Nat.reduceBEq, Int.reduceEq, H.cv_3_5, H.cv_3_49, H.cv_49_5, f1]
        refine ⟨_, part_ok H _ _, ?_⟩
        change contK _ _ _ (.sc (.bool (okPart v.im))) _
        rw [contK_some]; simp (disch := first | omega | (simp only [List.length_cons, List.length_nil, List.length_append, u8s_len]; omega)) only [go_sem, ↓reduceIte, true_and, Nat.reduceLeDiff, Nat.reduceEqDiff, Nat.reduceAdd, Nat.reduceBEq, Int.reduceEq, H.cv_3_5, H.cv_3_49, H.cv_49_5, f1]
        exact fin _ (okPart v.im) rfl (by rw [hcs, b1]; simp)
    · rw [decide_eq_false e1] at he hcs
      rw [contK_some]; simp (disch := first | omega | (simp only [List.length_cons, List.length_nil, List.length_append, u8s_len]; omega)) only [go_sem, ↓reduceIte, true_and, Nat.reduceLeDiff, Nat.reduceEqDiff, Nat.reduceAdd, Nat.reduceBEq, Int.reduceEq, H.cv_3_5, H.cv_3_49, H.cv_49_5, pointV_av, he, f1]
      exact fin _ false rfl (by rw [hcs]; rfl)
  have q3 : (v.kind == ((3 : Nat) : Int)) = false := by simpa using k3
  by_cases k2 : v.kind = 2
  · have q2 : (v.kind == ((2 : Nat) : Int)) = true := by rw [k2]; rfl
    have he : scalarBin P .eql 31 (.agg #[.int .i64 v.kind, .int .i64 v.num, .string (str v.text), .int .i64 v.re, .int .i64 v.im]) (.agg #[.int .i64 2, .int .i64 0, .string (str v.text), .int .i64 0, .int .i64 0]) = some (.bool (decide (v = textV v.text))) := HC.eq v (textV v.text)
    have hcs : checkS v = if v.text.length > 256 then 3 else if v = textV v.text then 0 else 1 := by rw [checkS, if_neg k1, if_neg k3, if_pos k2]
    simp (disch := first | omega | (simp only [List.length_cons, List.length_nil, List.length_append, u8s_len]; omega)) only [go_sem, ↓reduceIte, true_and, Nat.reduceLeDiff, Nat.reduceEqDiff, Nat.reduceAdd, Nat.reduceBEq, Int.reduceEq, H.cv_3_5, H.cv_3_49, H.cv_49_5, q1, q2, q3, f1]
    refine ⟨_, text_ok H _ _, ?_⟩
    by_cases b1 : 256 < v.text.length
    · rw [contK_some]; simp (disch := first | omega | (simp only [List.length_cons, List.length_nil, List.length_append, u8s_len]; omega)) only [go_sem, ↓reduceIte, true_and, Nat.reduceLeDiff, Nat.reduceEqDiff, Nat.reduceAdd, Nat.reduceBEq, Int.reduceEq, H.cv_3_5, H.cv_3_49, H.cv_49_5, textV_av, he, f1, b1]
      exact ⟨by rw [hcs, if_pos b1], f3⟩
    · rw [contK_some]; simp (disch := first | omega | (simp only [List.length_cons, List.length_nil, List.length_append, u8s_len]; omega)) only [go_sem, ↓reduceIte, true_and, Nat.reduceLeDiff, Nat.reduceEqDiff, Nat.reduceAdd, Nat.reduceBEq, Int.reduceEq, H.cv_3_5, H.cv_3_49, H.cv_49_5, textV_av, he, f1, b1]
      exact fin _ (decide (v = textV v.text)) rfl (by rw [hcs, if_neg b1]; simp)
  have q2 : (v.kind == ((2 : Nat) : Int)) = false := by simpa using k2
  have hcs : checkS v = 1 := by rw [checkS, if_neg k1, if_neg k3, if_neg k2]
  simp (disch := first | omega | (simp only [List.length_cons, List.length_nil, List.length_append, u8s_len]; omega)) only [go_sem, ↓reduceIte, true_and, Nat.reduceLeDiff, Nat.reduceEqDiff, Nat.reduceAdd, Nat.reduceBEq, Int.reduceEq, H.cv_3_5, H.cv_3_49, H.cv_49_5, q1, q2, q3, f1]
  exact fin _ false rfl (by rw [hcs]; rfl)
end Go.Proofs.Ytmellpjoinldnaa
