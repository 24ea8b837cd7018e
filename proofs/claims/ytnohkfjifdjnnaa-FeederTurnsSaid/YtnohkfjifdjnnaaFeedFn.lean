/- Documents and changes: their own memory; compared. -/
import Derived.Test.YtnohkfjifdjnnaaFeedCode
import Derived.Test.YtnohkfjifdjnnaaAmRow
set_option linter.unusedVariables false
set_option linter.unusedSimpArgs false
namespace Go.Proofs.Ytnohkfjifdjnnaa
open Go.Am
/-- A field of a document. -/
structure Fl where
  path : ByteArray
  kind : Int
  num : Int
  text : ByteArray
  re : Int
  im : Int
  deriving DecidableEq
def fl (f : Fl) : List AV := [.sc (.string f.path), .sc (.int .i64 f.kind), .sc (.int .i64 f.num), .sc (.string f.text), .sc (.int .i64 f.re), .sc (.int .i64 f.im)]
def fls (d : List Fl) : List (List AV) := d.map fl
theorem fls_len {d : List Fl} : (fls d).length = d.length := by simp [fls]
theorem fls_get {d : List Fl} {i : Nat} (h : i < d.length) : (fls d)[i]? = some (fl d[i]) := by simp [fls, h]
/-- A named document, a change. -/
def nmR (e : List AV) (x : ByteArray × List Fl) : Prop := ∃ v, e = [.sc (.string x.1), v] ∧ SF 6 v (fls x.2)
def chR (e : List AV) (x : Int × ByteArray × Bool × List Fl) : Prop := ∃ v, e = [.sc (.int .i64 x.1), .sc (.string x.2.1), .sc (.bool x.2.2.1), v] ∧ SF 6 v (fls x.2.2.2)
/-- What the program needs to know of things that are compared. -/
structure HasC (P : Program) : Prop where
  bne : ∀ p q : Bool, scalarBin P .neq 4 (.bool p) (.bool q) = some (.bool (p != q))
  fne : ∀ a b : Fl, scalarBin P .neq 107 (.agg #[.string a.path, .int .i64 a.kind, .int .i64 a.num, .string a.text, .int .i64 a.re, .int .i64 a.im]) (.agg #[.string b.path, .int .i64 b.kind, .int .i64 b.num, .string b.text, .int .i64 b.re, .int .i64 b.im]) = some (.bool (!decide (a = b)))
theorem toV_fl (f : Fl) : (AV.ag (fl f)).toV = some (.agg #[.string f.path, .int .i64 f.kind, .int .i64 f.num, .string f.text, .int .i64 f.re, .int .i64 f.im]) := rfl
variable {P : Program} (H : Has P) (HC : HasC P)
include H HC
theorem dsame_ok {v w : AV} {l m : List Fl} (hv : SF 6 v (fls l)) (hw : SF 6 w (fls m)) (hl : l.length < 2 ^ 60) (hm : m.length < 2 ^ 60) (h : Heap) : AWF P ann 0 39 [v, w] h fun r h' => r = .sc (.bool (decide (l = m))) ∧ h' = h := by
  refine AWF.fnc H.f0_39 rfl ?_
  have e1 := @fls_len l
  have e2 := @fls_len m
  (refine W_seq_gen fun N hN => ?_); simp (disch := first | omega | (simp only [List.length_cons, List.length_nil, List.length_append, u8s_len]; omega)) only [go_sem, ↓reduceIte, true_and, Nat.reduceLeDiff, Nat.reduceEqDiff, Nat.reduceAdd, Nat.reduceBEq, Int.reduceEq]
  refine hN _ ?_; clear hN N
  by_cases hlen : l.length = m.length
  · (refine W_seq_gen fun N hN => ?_); simp (disch := first | omega | (simp only [List.length_cons, List.length_nil, List.length_append, u8s_len]; omega)) only [go_sem, ↓reduceIte, true_and, Nat.reduceLeDiff, Nat.reduceEqDiff, Nat.reduceAdd, Nat.reduceBEq, Int.reduceEq, hv.same, hv.disc, hw.same, hw.disc, hv.sl.len, hw.sl.len, e1, e2, hlen]
    refine hN _ ?_; clear hN N
    (refine W_seq_gen fun M hM => ?_)
    (refine W_seq_gen fun N hN => ?_); simp (disch := first | omega | (simp only [List.length_cons, List.length_nil, List.length_append, u8s_len]; omega)) only [go_sem, ↓reduceIte, true_and, Nat.reduceLeDiff, Nat.reduceEqDiff, Nat.reduceAdd, Nat.reduceBEq, Int.reduceEq]
    refine hN _ ?_; clear hN N
    simp (disch := first | omega | (simp only [List.length_cons, List.length_nil, List.length_append, u8s_len]; omega)) only [go_sem, ↓reduceIte, true_and, Nat.reduceLeDiff, Nat.reduceEqDiff, Nat.reduceAdd, Nat.reduceBEq, Int.reduceEq]
    refine AW_loopN (fun n t h' => h' = h ∧ ∃ i, n = l.length - i ∧ i ≤ l.length ∧ t 0 = v ∧ t 1 = w ∧ t 5 = .sc (.int .i64 (i : Nat)) ∧ l.take i = m.take i)
      (n := l.length) ⟨rfl, 0, rfl, Nat.zero_le _, rfl, rfl, rfl, rfl⟩ ?_
    rintro n t h' ⟨rfl, i, rfl, hi, t0, t1, t5, he⟩
    rcases Nat.lt_or_ge i l.length with hlt | hge
    · have hlt2 : i < m.length := by omega
      have g0 := fls_get hlt
      have g1 := fls_get hlt2
      (refine W_seq_gen fun N hN => ?_); simp (disch := first | omega | (simp only [List.length_cons, List.length_nil, List.length_append, u8s_len]; omega)) only [go_sem, ↓reduceIte, true_and, Nat.reduceLeDiff, Nat.reduceEqDiff, Nat.reduceAdd, Nat.reduceBEq, Int.reduceEq, t0, t1, t5, hv.same, hv.disc, hv.sl.len, e1, hlt]
      refine hN _ ?_; clear hN N
      (refine W_seq_gen fun N hN => ?_)
      rw [W_block]
      have ld : ∀ (f : Fl) (t : Nat → AV) (h : Heap), aexLd false true 6 t h (.cp (fl f)) = some (.val (.ag (fl f)) t h) := fun f t h => rfl
      have dd : ∀ f : Fl, (AV.ag (fl f)).dis = .ag (fl f) := fun f => rfl
      by_cases hq : l[i] = m[i]
      · have hq2 : (!decide (l[i] = m[i])) = false := by simp [hq]
        simp (disch := first | omega | (simp only [List.length_cons, List.length_nil, List.length_append, u8s_len]; omega)) only [go_sem, ↓reduceIte, true_and, Nat.reduceLeDiff, Nat.reduceEqDiff, Nat.reduceAdd, Nat.reduceBEq, Int.reduceEq, t0, t1, t5, hv.same, hv.disc, hw.same, hw.disc, hv.sl.ia, hw.sl.ia, g0, g1, ld, dd, toV_fl, HC.fne, hq2]
        refine hN _ ?_; clear hN N
        simp (disch := first | omega | (simp only [List.length_cons, List.length_nil, List.length_append, u8s_len]; omega)) only [go_sem, ↓reduceIte, true_and, Nat.reduceLeDiff, Nat.reduceEqDiff, Nat.reduceAdd, Nat.reduceBEq, Int.reduceEq, t5, nat_add]
        exact ⟨l.length - (i + 1), by omega, i + 1, rfl, by omega, by simp [upd_at, t0], by simp [upd_at, t1], by simp [upd_at], by rw [List.take_add_one, List.take_add_one, he]; simp [hlt, hlt2, hq]⟩
      · have hq2 : (!decide (l[i] = m[i])) = true := by simp [hq]
        simp (disch := first | omega | (simp only [List.length_cons, List.length_nil, List.length_append, u8s_len]; omega)) only [go_sem, ↓reduceIte, true_and, Nat.reduceLeDiff, Nat.reduceEqDiff, Nat.reduceAdd, Nat.reduceBEq, Int.reduceEq, t0, t1, t5, hv.same, hv.disc, hw.same, hw.disc, hv.sl.ia, hw.sl.ia, g0, g1, ld, dd, toV_fl, HC.fne, hq2]
        have : l ≠ m := fun e => hq (by simp [e])
        simp [this]
    obtain rfl : i = l.length := by omega
    have : l = m := by
      rw [List.take_length] at he
      rw [he, hlen, List.take_length]
    (refine W_seq_gen fun N hN => ?_); simp (disch := first | omega | (simp only [List.length_cons, List.length_nil, List.length_append, u8s_len]; omega)) only [go_sem, ↓reduceIte, true_and, Nat.reduceLeDiff, Nat.reduceEqDiff, Nat.reduceAdd, Nat.reduceBEq, Int.reduceEq, t0, t1, t5, hv.same, hv.disc, hv.sl.len, e1, Nat.lt_irrefl]
    refine hM _ ?_; clear hN N hM M
    simp (disch := first | omega | (simp only [List.length_cons, List.length_nil, List.length_append, u8s_len]; omega)) only [go_sem, ↓reduceIte, true_and, Nat.reduceLeDiff, Nat.reduceEqDiff, Nat.reduceAdd, Nat.reduceBEq, Int.reduceEq]
    simp [this]
  · have : l ≠ m := fun e => hlen (by rw [e])
    (refine W_seq_gen fun N hN => ?_); simp (disch := first | omega | (simp only [List.length_cons, List.length_nil, List.length_append, u8s_len]; omega)) only [go_sem, ↓reduceIte, true_and, Nat.reduceLeDiff, Nat.reduceEqDiff, Nat.reduceAdd, Nat.reduceBEq, Int.reduceEq, hv.same, hv.disc, hw.same, hw.disc, hv.sl.len, hw.sl.len, e1, e2, hlen]
    simp [this]
/-- Bounds of documents. -/
def dsmall (l : List (ByteArray × List Fl)) : Prop := ∀ x ∈ l, x.2.length < 2 ^ 40
def csmall (l : List (Int × ByteArray × Bool × List Fl)) : Prop := ∀ x ∈ l, x.2.2.2.length < 2 ^ 40
theorem nsame_ok {v w : AV} {es fs : List (List AV)} {l m : List (ByteArray × List Fl)} (hv : SF 2 v es) (hw : SF 2 w fs) (hL : RR nmR es l) (hRm : RR nmR fs m) (hl : l.length < 2 ^ 60) (hm : m.length < 2 ^ 60) (sl : dsmall l) (sm : dsmall m) (h : Heap) :
    AWF P ann 0 40 [v, w] h fun r h' => r = .sc (.bool (decide (l = m))) ∧ h' = h := by
  refine AWF.fnc H.f0_40 rfl ?_
  have e1 := hL.len
  have e2 := hRm.len
  (refine W_seq_gen fun N hN => ?_); simp (disch := first | omega | (simp only [List.length_cons, List.length_nil, List.length_append, u8s_len]; omega)) only [go_sem, ↓reduceIte, true_and, Nat.reduceLeDiff, Nat.reduceEqDiff, Nat.reduceAdd, Nat.reduceBEq, Int.reduceEq]
  refine hN _ ?_; clear hN N
  by_cases hlen : l.length = m.length
  · (refine W_seq_gen fun N hN => ?_); simp (disch := first | omega | (simp only [List.length_cons, List.length_nil, List.length_append, u8s_len]; omega)) only [go_sem, ↓reduceIte, true_and, Nat.reduceLeDiff, Nat.reduceEqDiff, Nat.reduceAdd, Nat.reduceBEq, Int.reduceEq, hv.same, hv.disc, hw.same, hw.disc, hv.sl.len, hw.sl.len, e1, e2, hlen]
    refine hN _ ?_; clear hN N
    (refine W_seq_gen fun M hM => ?_)
    (refine W_seq_gen fun N hN => ?_); simp (disch := first | omega | (simp only [List.length_cons, List.length_nil, List.length_append, u8s_len]; omega)) only [go_sem, ↓reduceIte, true_and, Nat.reduceLeDiff, Nat.reduceEqDiff, Nat.reduceAdd, Nat.reduceBEq, Int.reduceEq]
    refine hN _ ?_; clear hN N
    simp (disch := first | omega | (simp only [List.length_cons, List.length_nil, List.length_append, u8s_len]; omega)) only [go_sem, ↓reduceIte, true_and, Nat.reduceLeDiff, Nat.reduceEqDiff, Nat.reduceAdd, Nat.reduceBEq, Int.reduceEq]
    refine AW_loopN (fun n t h' => h' = h ∧ ∃ i, n = l.length - i ∧ i ≤ l.length ∧ t 0 = v ∧ t 1 = w ∧ t 5 = .sc (.int .i64 (i : Nat)) ∧ l.take i = m.take i)
      (n := l.length) ⟨rfl, 0, rfl, Nat.zero_le _, rfl, rfl, rfl, rfl⟩ ?_
    rintro n t h' ⟨rfl, i, rfl, hi, t0, t1, t5, he⟩
    rcases Nat.lt_or_ge i l.length with hlt | hge
    · have hlt2 : i < m.length := by omega
      obtain ⟨_, g0, x, rfl, hx⟩ := hL.lt hlt
      obtain ⟨_, g1, y, rfl, hy⟩ := hRm.lt hlt2
      have bx := sl _ (List.getElem_mem hlt)
      have by' := sm _ (List.getElem_mem hlt2)
      (refine W_seq_gen fun N hN => ?_); simp (disch := first | omega | (simp only [List.length_cons, List.length_nil, List.length_append, u8s_len]; omega)) only [go_sem, ↓reduceIte, true_and, Nat.reduceLeDiff, Nat.reduceEqDiff, Nat.reduceAdd, Nat.reduceBEq, Int.reduceEq, t0, t1, t5, hv.same, hv.disc, hv.sl.len, e1, hlt]
      refine hN _ ?_; clear hN N
      (refine W_seq_gen fun N hN => ?_)
      rw [W_block]
      by_cases hq : l[i].1 = m[i].1
      · have hq1 : (!decide (l[i].1 = m[i].1)) = false := by simp [hq]
        by_cases hq2 : l[i].2 = m[i].2
        · have hq3 : (!decide (l[i].2 = m[i].2)) = false := by simp [hq2]
          simp (disch := first | omega | (simp only [List.length_cons, List.length_nil, List.length_append, u8s_len]; omega)) only [go_sem, ↓reduceIte, true_and, Nat.reduceLeDiff, Nat.reduceEqDiff, Nat.reduceAdd, Nat.reduceBEq, Int.reduceEq, t0, t1, t5, hv.same, hv.disc, hw.same, hw.disc, hv.sl.ia, hw.sl.ia, g0, g1, hq1, hx.same, hx.disc, hy.same, hy.disc, hx.own, Bool.not_false, Bool.true_or]
          refine ⟨_, dsame_ok H HC hx hy (by omega) (by omega) _, ?_⟩
          rw [contK_some]; simp (disch := first | omega | (simp only [List.length_cons, List.length_nil, List.length_append, u8s_len]; omega)) only [go_sem, ↓reduceIte, true_and, Nat.reduceLeDiff, Nat.reduceEqDiff, Nat.reduceAdd, Nat.reduceBEq, Int.reduceEq, hq3]
          refine hN _ ?_; clear hN N
          simp (disch := first | omega | (simp only [List.length_cons, List.length_nil, List.length_append, u8s_len]; omega)) only [go_sem, ↓reduceIte, true_and, Nat.reduceLeDiff, Nat.reduceEqDiff, Nat.reduceAdd, Nat.reduceBEq, Int.reduceEq, t5, nat_add]
          have hq4 : l[i] = m[i] := Prod.ext hq hq2
          exact ⟨l.length - (i + 1), by omega, i + 1, rfl, by omega, by simp [upd_at, t0], by simp [upd_at, t1], by simp [upd_at], by rw [List.take_add_one, List.take_add_one, he]; simp [hlt, hlt2, hq4]⟩
        · have hq3 : (!decide (l[i].2 = m[i].2)) = true := by simp [hq2]
          simp (disch := first | omega | (simp only [List.length_cons, List.length_nil, List.length_append, u8s_len]; omega)) only [go_sem, ↓reduceIte, true_and, Nat.reduceLeDiff, Nat.reduceEqDiff, Nat.reduceAdd, Nat.reduceBEq, Int.reduceEq, t0, t1, t5, hv.same, hv.disc, hw.same, hw.disc, hv.sl.ia, hw.sl.ia, g0, g1, hq1, hx.same, hx.disc, hy.same, hy.disc, hx.own, Bool.not_false, Bool.true_or]
          refine ⟨_, dsame_ok H HC hx hy (by omega) (by omega) _, ?_⟩
          rw [contK_some]; simp (disch := first | omega | (simp only [List.length_cons, List.length_nil, List.length_append, u8s_len]; omega)) only [go_sem, ↓reduceIte, true_and, Nat.reduceLeDiff, Nat.reduceEqDiff, Nat.reduceAdd, Nat.reduceBEq, Int.reduceEq, hq3]
          have : l ≠ m := fun e => hq2 (by simp [e])
          simp [this]
      · have hq1 : (!decide (l[i].1 = m[i].1)) = true := by simp [hq]
        simp (disch := first | omega | (simp only [List.length_cons, List.length_nil, List.length_append, u8s_len]; omega)) only [go_sem, ↓reduceIte, true_and, Nat.reduceLeDiff, Nat.reduceEqDiff, Nat.reduceAdd, Nat.reduceBEq, Int.reduceEq, t0, t1, t5, hv.same, hv.disc, hw.same, hw.disc, hv.sl.ia, hw.sl.ia, g0, g1, hq1]
        have : l ≠ m := fun e => hq (by simp [e])
        simp [this]
    obtain rfl : i = l.length := by omega
    have : l = m := by
      rw [List.take_length] at he
      rw [he, hlen, List.take_length]
    (refine W_seq_gen fun N hN => ?_); simp (disch := first | omega | (simp only [List.length_cons, List.length_nil, List.length_append, u8s_len]; omega)) only [go_sem, ↓reduceIte, true_and, Nat.reduceLeDiff, Nat.reduceEqDiff, Nat.reduceAdd, Nat.reduceBEq, Int.reduceEq, t0, t1, t5, hv.same, hv.disc, hv.sl.len, e1, Nat.lt_irrefl]
    refine hM _ ?_; clear hN N hM M
    simp (disch := first | omega | (simp only [List.length_cons, List.length_nil, List.length_append, u8s_len]; omega)) only [go_sem, ↓reduceIte, true_and, Nat.reduceLeDiff, Nat.reduceEqDiff, Nat.reduceAdd, Nat.reduceBEq, Int.reduceEq]
    simp [this]
  · have : l ≠ m := fun e => hlen (by rw [e])
    (refine W_seq_gen fun N hN => ?_); simp (disch := first | omega | (simp only [List.length_cons, List.length_nil, List.length_append, u8s_len]; omega)) only [go_sem, ↓reduceIte, true_and, Nat.reduceLeDiff, Nat.reduceEqDiff, Nat.reduceAdd, Nat.reduceBEq, Int.reduceEq, hv.same, hv.disc, hw.same, hw.disc, hv.sl.len, hw.sl.len, e1, e2, hlen]
    simp [this]
theorem csame_ok {v w : AV} {es fs : List (List AV)} {l m : List (Int × ByteArray × Bool × List Fl)} (hv : SF 4 v es) (hw : SF 4 w fs) (hL : RR chR es l) (hRm : RR chR fs m) (hl : l.length < 2 ^ 60) (hm : m.length < 2 ^ 60) (sl : csmall l) (sm : csmall m) (h : Heap) :
    AWF P ann 0 41 [v, w] h fun r h' => r = .sc (.bool (decide (l = m))) ∧ h' = h := by
  refine AWF.fnc H.f0_41 rfl ?_
  have e1 := hL.len
  have e2 := hRm.len
  (refine W_seq_gen fun N hN => ?_); simp (disch := first | omega | (simp only [List.length_cons, List.length_nil, List.length_append, u8s_len]; omega)) only [go_sem, ↓reduceIte, true_and, Nat.reduceLeDiff, Nat.reduceEqDiff, Nat.reduceAdd, Nat.reduceBEq, Int.reduceEq]
  refine hN _ ?_; clear hN N
  by_cases hlen : l.length = m.length
  · (refine W_seq_gen fun N hN => ?_); simp (disch := first | omega | (simp only [List.length_cons, List.length_nil, List.length_append, u8s_len]; omega)) only [go_sem, ↓reduceIte, true_and, Nat.reduceLeDiff, Nat.reduceEqDiff, Nat.reduceAdd, Nat.reduceBEq, Int.reduceEq, hv.same, hv.disc, hw.same, hw.disc, hv.sl.len, hw.sl.len, e1, e2, hlen]
    refine hN _ ?_; clear hN N
    (refine W_seq_gen fun M hM => ?_)
    (refine W_seq_gen fun N hN => ?_); simp (disch := first | omega | (simp only [List.length_cons, List.length_nil, List.length_append, u8s_len]; omega)) only [go_sem, ↓reduceIte, true_and, Nat.reduceLeDiff, Nat.reduceEqDiff, Nat.reduceAdd, Nat.reduceBEq, Int.reduceEq]
    refine hN _ ?_; clear hN N
    simp (disch := first | omega | (simp only [List.length_cons, List.length_nil, List.length_append, u8s_len]; omega)) only [go_sem, ↓reduceIte, true_and, Nat.reduceLeDiff, Nat.reduceEqDiff, Nat.reduceAdd, Nat.reduceBEq, Int.reduceEq]
    refine AW_loopN (fun n t h' => h' = h ∧ ∃ i, n = l.length - i ∧ i ≤ l.length ∧ t 0 = v ∧ t 1 = w ∧ t 5 = .sc (.int .i64 (i : Nat)) ∧ l.take i = m.take i)
      (n := l.length) ⟨rfl, 0, rfl, Nat.zero_le _, rfl, rfl, rfl, rfl⟩ ?_
    rintro n t h' ⟨rfl, i, rfl, hi, t0, t1, t5, he⟩
    rcases Nat.lt_or_ge i l.length with hlt | hge
    · have hlt2 : i < m.length := by omega
      obtain ⟨_, g0, x, rfl, hx⟩ := hL.lt hlt
      obtain ⟨_, g1, y, rfl, hy⟩ := hRm.lt hlt2
      have bx := sl _ (List.getElem_mem hlt)
      have by' := sm _ (List.getElem_mem hlt2)
      (refine W_seq_gen fun N hN => ?_); simp (disch := first | omega | (simp only [List.length_cons, List.length_nil, List.length_append, u8s_len]; omega)) only [go_sem, ↓reduceIte, true_and, Nat.reduceLeDiff, Nat.reduceEqDiff, Nat.reduceAdd, Nat.reduceBEq, Int.reduceEq, t0, t1, t5, hv.same, hv.disc, hv.sl.len, e1, hlt]
      refine hN _ ?_; clear hN N
      (refine W_seq_gen fun N hN => ?_)
      rw [W_block]
      have hi : (((l[i].1 : Int)) != m[i].1) = !decide (l[i].1 = m[i].1) := by by_cases h : l[i].1 = m[i].1 <;> simp [h]
      have hb : scalarBin P .neq 4 (.bool l[i].2.2.1) (.bool m[i].2.2.1) = some (.bool (!decide (l[i].2.2.1 = m[i].2.2.1))) := by rw [HC.bne]; cases l[i].2.2.1 <;> cases m[i].2.2.1 <;> rfl
      by_cases q1 : l[i].1 = m[i].1
      case neg =>
        have h1 : (!decide (l[i].1 = m[i].1)) = true := by simp [q1]
        simp (disch := first | omega | (simp only [List.length_cons, List.length_nil, List.length_append, u8s_len]; omega)) only [go_sem, ↓reduceIte, true_and, Nat.reduceLeDiff, Nat.reduceEqDiff, Nat.reduceAdd, Nat.reduceBEq, Int.reduceEq, t0, t1, t5, hv.same, hv.disc, hw.same, hw.disc, hv.sl.ia, hw.sl.ia, g0, g1, hi, h1]
        have : l ≠ m := fun e => q1 (by simp [e])
        simp [this]
      have h1 : (!decide (l[i].1 = m[i].1)) = false := by simp [q1]
      by_cases q2 : l[i].2.1 = m[i].2.1
      case neg =>
        have h2 : (!decide (l[i].2.1 = m[i].2.1)) = true := by simp [q2]
        simp (disch := first | omega | (simp only [List.length_cons, List.length_nil, List.length_append, u8s_len]; omega)) only [go_sem, ↓reduceIte, true_and, Nat.reduceLeDiff, Nat.reduceEqDiff, Nat.reduceAdd, Nat.reduceBEq, Int.reduceEq, t0, t1, t5, hv.same, hv.disc, hw.same, hw.disc, hv.sl.ia, hw.sl.ia, g0, g1, hi, h1, h2]
        have : l ≠ m := fun e => q2 (by simp [e])
        simp [this]
      have h2 : (!decide (l[i].2.1 = m[i].2.1)) = false := by simp [q2]
      by_cases q3 : l[i].2.2.1 = m[i].2.2.1
      case neg =>
        have h3 : (!decide (l[i].2.2.1 = m[i].2.2.1)) = true := by simp [q3]
        simp (disch := first | omega | (simp only [List.length_cons, List.length_nil, List.length_append, u8s_len]; omega)) only [go_sem, ↓reduceIte, true_and, Nat.reduceLeDiff, Nat.reduceEqDiff, Nat.reduceAdd, Nat.reduceBEq, Int.reduceEq, t0, t1, t5, hv.same, hv.disc, hw.same, hw.disc, hv.sl.ia, hw.sl.ia, g0, g1, hi, h1, h2, hb, h3]
        have : l ≠ m := fun e => q3 (by simp [e])
        simp [this]
      have h3 : (!decide (l[i].2.2.1 = m[i].2.2.1)) = false := by simp [q3]
      simp (disch := first | omega | (simp only [List.length_cons, List.length_nil, List.length_append, u8s_len]; omega)) only [go_sem, ↓reduceIte, true_and, Nat.reduceLeDiff, Nat.reduceEqDiff, Nat.reduceAdd, Nat.reduceBEq, Int.reduceEq, t0, t1, t5, hv.same, hv.disc, hw.same, hw.disc, hv.sl.ia, hw.sl.ia, g0, g1, hi, h1, h2, hb, h3, hx.same, hx.disc, hy.same, hy.disc, hx.own, Bool.not_false, Bool.true_or]
      refine ⟨_, dsame_ok H HC hx hy (by omega) (by omega) _, ?_⟩
      by_cases q4 : l[i].2.2.2 = m[i].2.2.2
      · have h4 : (!decide (l[i].2.2.2 = m[i].2.2.2)) = false := by simp [q4]
        rw [contK_some]; simp (disch := first | omega | (simp only [List.length_cons, List.length_nil, List.length_append, u8s_len]; omega)) only [go_sem, ↓reduceIte, true_and, Nat.reduceLeDiff, Nat.reduceEqDiff, Nat.reduceAdd, Nat.reduceBEq, Int.reduceEq, h4]
        refine hN _ ?_; clear hN N
        simp (disch := first | omega | (simp only [List.length_cons, List.length_nil, List.length_append, u8s_len]; omega)) only [go_sem, ↓reduceIte, true_and, Nat.reduceLeDiff, Nat.reduceEqDiff, Nat.reduceAdd, Nat.reduceBEq, Int.reduceEq, t5, nat_add]
        have hq4 : l[i] = m[i] := Prod.ext q1 (Prod.ext q2 (Prod.ext q3 q4))
        exact ⟨l.length - (i + 1), by omega, i + 1, rfl, by omega, by simp [upd_at, t0], by simp [upd_at, t1], by simp [upd_at], by rw [List.take_add_one, List.take_add_one, he]; simp [hlt, hlt2, hq4]⟩
      · have h4 : (!decide (l[i].2.2.2 = m[i].2.2.2)) = true := by simp [q4]
        rw [contK_some]; simp (disch := first | omega | (simp only [List.length_cons, List.length_nil, List.length_append, u8s_len]; omega)) only [go_sem, ↓reduceIte, true_and, Nat.reduceLeDiff, Nat.reduceEqDiff, Nat.reduceAdd, Nat.reduceBEq, Int.reduceEq, h4]
        have : l ≠ m := fun e => q4 (by simp [e])
        simp [this]
    obtain rfl : i = l.length := by omega
    have : l = m := by
      rw [List.take_length] at he
      rw [he, hlen, List.take_length]
    (refine W_seq_gen fun N hN => ?_); simp (disch := first | omega | (simp only [List.length_cons, List.length_nil, List.length_append, u8s_len]; omega)) only [go_sem, ↓reduceIte, true_and, Nat.reduceLeDiff, Nat.reduceEqDiff, Nat.reduceAdd, Nat.reduceBEq, Int.reduceEq, t0, t1, t5, hv.same, hv.disc, hv.sl.len, e1, Nat.lt_irrefl]
    refine hM _ ?_; clear hN N hM M
    simp (disch := first | omega | (simp only [List.length_cons, List.length_nil, List.length_append, u8s_len]; omega)) only [go_sem, ↓reduceIte, true_and, Nat.reduceLeDiff, Nat.reduceEqDiff, Nat.reduceAdd, Nat.reduceBEq, Int.reduceEq]
    simp [this]
  · have : l ≠ m := fun e => hlen (by rw [e])
    (refine W_seq_gen fun N hN => ?_); simp (disch := first | omega | (simp only [List.length_cons, List.length_nil, List.length_append, u8s_len]; omega)) only [go_sem, ↓reduceIte, true_and, Nat.reduceLeDiff, Nat.reduceEqDiff, Nat.reduceAdd, Nat.reduceBEq, Int.reduceEq, hv.same, hv.disc, hw.same, hw.disc, hv.sl.len, hw.sl.len, e1, e2, hlen]
    simp [this]
end Go.Proofs.Ytnohkfjifdjnnaa
