/- The law of keys that begin keys. -/
import Derived.Test.YtmellpjoinldnaaRankLaws
import Derived.Test.YtmellpjoinldnaaRankPure
set_option linter.unusedVariables false
set_option linter.unusedSimpArgs false
namespace Go.Proofs.Ytmellpjoinldnaa
open Go.Am
/-- More of what the program needs to know of values that are compared. -/
structure HasD (P : Program) : Prop where
  ne : ∀ a b : Vl, scalarBin P .neq 31 (.agg #[.int .i64 a.kind, .int .i64 a.num, .string (str a.text), .int .i64 a.re, .int .i64 a.im]) (.agg #[.int .i64 b.kind, .int .i64 b.num, .string (str b.text), .int .i64 b.re, .int .i64 b.im]) = some (.bool (!decide (a = b)))
  beq : ∀ p q : Bool, scalarBin P .eql 4 (.bool p) (.bool q) = some (.bool (p == q))

theorem vls_take (l : List Vl) (i : Nat) : (vls l).take i = vls (l.take i) := by simp [vls]
variable {P : Program} (H : Has P) (HC : HasC P) (L : Lb P) (HD : HasD P)
include H HD
theorem same_ok {v w : AV} {l m : List Vl} (hv : SL 5 v (vls l)) (hw : SL 5 w (vls m)) (hl : l.length < 2 ^ 60) (hm : m.length < 2 ^ 60) (h : Heap) : AWF P ann 0 9 [v, w] h fun r h' => r = .sc (.bool (decide (l = m))) ∧ h' = h := by
  refine AWF.fnc H.f0_9 rfl ?_
  have e1 := @vls_len l
  have e2 := @vls_len m
  (refine W_seq_gen fun N hN => ?_); simp (disch := first | omega | (simp only [List.length_cons, List.length_nil, List.length_append, u8s_len]; omega)) only [go_sem, ↓reduceIte, true_and, Nat.reduceLeDiff, Nat.reduceEqDiff, Nat.reduceAdd, Nat.reduceBEq, Int.reduceEq, H.cv_3_5, H.cv_3_49, H.cv_49_5]
  refine hN _ ?_; clear hN N
  (refine W_seq_gen fun M hM => ?_)
  (refine W_seq_gen fun N hN => ?_); simp (disch := first | omega | (simp only [List.length_cons, List.length_nil, List.length_append, u8s_len]; omega)) only [go_sem, ↓reduceIte, true_and, Nat.reduceLeDiff, Nat.reduceEqDiff, Nat.reduceAdd, Nat.reduceBEq, Int.reduceEq, H.cv_3_5, H.cv_3_49, H.cv_49_5]
  refine hN _ ?_; clear hN N
  simp (disch := first | omega | (simp only [List.length_cons, List.length_nil, List.length_append, u8s_len]; omega)) only [go_sem, ↓reduceIte, true_and, Nat.reduceLeDiff, Nat.reduceEqDiff, Nat.reduceAdd, Nat.reduceBEq, Int.reduceEq, H.cv_3_5, H.cv_3_49, H.cv_49_5]
  refine AW_loopN (fun n t h' => h' = h ∧ ∃ i, n = l.length - i ∧ i ≤ l.length ∧ i ≤ m.length ∧ t 0 = v ∧ t 1 = w ∧ t 5 = .sc (.int .i64 (i : Nat)) ∧ l.take i = m.take i)
    (n := l.length) ⟨rfl, 0, rfl, Nat.zero_le _, Nat.zero_le _, rfl, rfl, rfl, rfl⟩ ?_
  rintro n t h' ⟨rfl, i, rfl, hi, hi2, t0, t1, t5, he⟩
  have fin : (i = l.length ∨ i = m.length) → ∀ t : Nat → AV, t 0 = v → t 1 = w → M ⟨t, h'⟩ := by
    intro hq t t0 t1
    refine hM _ ?_; clear hM M
    have hlm : l.length = m.length ↔ l = m := ⟨fun e => by
      have hi3 : i = l.length := by omega
      rw [hi3, List.take_length, e, List.take_length] at he
      exact he, fun e => by rw [e]⟩
    simp (disch := first | omega | (simp only [List.length_cons, List.length_nil, List.length_append, u8s_len]; omega)) only [go_sem, ↓reduceIte, true_and, Nat.reduceLeDiff, Nat.reduceEqDiff, Nat.reduceAdd, Nat.reduceBEq, Int.reduceEq, H.cv_3_5, H.cv_3_49, H.cv_49_5, t0, t1, hv.dis.len, hw.dis.len, e1, e2]
    simpa using hlm
  by_cases h1 : i < l.length
  · by_cases h2 : i < m.length
    · have g0 := vls_get h1
      have g1 := vls_get h2
      (refine W_seq_gen fun N hN => ?_); simp (disch := first | omega | (simp only [List.length_cons, List.length_nil, List.length_append, u8s_len]; omega)) only [go_sem, ↓reduceIte, true_and, Nat.reduceLeDiff, Nat.reduceEqDiff, Nat.reduceAdd, Nat.reduceBEq, Int.reduceEq, H.cv_3_5, H.cv_3_49, H.cv_49_5, t0, t1, t5, hv.dis.len, hw.dis.len, e1, e2, h1, h2]
      refine hN _ ?_; clear hN N
      (refine W_seq_gen fun N hN => ?_)
      rw [W_block]
      by_cases hq : l[i] = m[i]
      · have q := HD.ne l[i] m[i]
        rw [decide_eq_true hq] at q
        (refine W_seq_gen fun N hN => ?_); simp (disch := first | omega | (simp only [List.length_cons, List.length_nil, List.length_append, u8s_len]; omega)) only [go_sem, ↓reduceIte, true_and, Nat.reduceLeDiff, Nat.reduceEqDiff, Nat.reduceAdd, Nat.reduceBEq, Int.reduceEq, H.cv_3_5, H.cv_3_49, H.cv_49_5, t0, t1, t5, hv.dis.ia, hw.dis.ia, g0, g1, Vl.cells, q]
        refine hN _ ?_; clear hN N
        simp (disch := first | omega | (simp only [List.length_cons, List.length_nil, List.length_append, u8s_len]; omega)) only [go_sem, ↓reduceIte, true_and, Nat.reduceLeDiff, Nat.reduceEqDiff, Nat.reduceAdd, Nat.reduceBEq, Int.reduceEq, H.cv_3_5, H.cv_3_49, H.cv_49_5]
        refine hN _ ?_; clear hN N
        simp (disch := first | omega | (simp only [List.length_cons, List.length_nil, List.length_append, u8s_len]; omega)) only [go_sem, ↓reduceIte, true_and, Nat.reduceLeDiff, Nat.reduceEqDiff, Nat.reduceAdd, Nat.reduceBEq, Int.reduceEq, H.cv_3_5, H.cv_3_49, H.cv_49_5, t5, nat_add]
        exact ⟨l.length - (i + 1), by omega, i + 1, rfl, by omega, by omega, t0, t1, rfl, by rw [List.take_add_one, List.take_add_one, he]; simp [h1, h2, hq]⟩
      · have q := HD.ne l[i] m[i]
        rw [decide_eq_false hq] at q
        (refine W_seq_gen fun N hN => ?_); simp (disch := first | omega | (simp only [List.length_cons, List.length_nil, List.length_append, u8s_len]; omega)) only [go_sem, ↓reduceIte, true_and, Nat.reduceLeDiff, Nat.reduceEqDiff, Nat.reduceAdd, Nat.reduceBEq, Int.reduceEq, H.cv_3_5, H.cv_3_49, H.cv_49_5, t0, t1, t5, hv.dis.ia, hw.dis.ia, g0, g1, Vl.cells, q]
        refine hN _ ?_; clear hN N
        simp (disch := first | omega | (simp only [List.length_cons, List.length_nil, List.length_append, u8s_len]; omega)) only [go_sem, ↓reduceIte, true_and, Nat.reduceLeDiff, Nat.reduceEqDiff, Nat.reduceAdd, Nat.reduceBEq, Int.reduceEq, H.cv_3_5, H.cv_3_49, H.cv_49_5]
        have : l ≠ m := fun e => hq (by simp [e])
        simp [this]
    · (refine W_seq_gen fun N hN => ?_); simp (disch := first | omega | (simp only [List.length_cons, List.length_nil, List.length_append, u8s_len]; omega)) only [go_sem, ↓reduceIte, true_and, Nat.reduceLeDiff, Nat.reduceEqDiff, Nat.reduceAdd, Nat.reduceBEq, Int.reduceEq, H.cv_3_5, H.cv_3_49, H.cv_49_5, t0, t1, t5, hv.dis.len, hw.dis.len, e1, e2, h1, h2]
      refine fin (by omega) _ ?_ ?_
      · simpa [upd_at] using t0
      · simpa [upd_at] using t1
  · (refine W_seq_gen fun N hN => ?_); simp (disch := first | omega | (simp only [List.length_cons, List.length_nil, List.length_append, u8s_len]; omega)) only [go_sem, ↓reduceIte, true_and, Nat.reduceLeDiff, Nat.reduceEqDiff, Nat.reduceAdd, Nat.reduceBEq, Int.reduceEq, H.cv_3_5, H.cv_3_49, H.cv_49_5, t0, t1, t5, hv.dis.len, hw.dis.len, e1, e2, h1]
    refine fin (by omega) _ ?_ ?_
    · simpa [upd_at] using t0
    · simpa [upd_at] using t1

include HC L
theorem begins_law {v w : AV} {l m : List Vl} (hv : SF 5 v (vls l)) (hw : SF 5 w (vls m)) (hl : l.length < 2 ^ 60) (hm : m.length < 2 ^ 60) (h : Heap) :
    AWF P ann 0 3 [v, w] h fun r h' => r = .sc (.bool true) := by
  refine AWF.fnc H.f0_3 rfl ?_
  have e1 := @vls_len l
  have e2 := @vls_len m
  (refine W_seq_gen fun N hN => ?_); simp (disch := first | omega | (simp only [List.length_cons, List.length_nil, List.length_append, u8s_len]; omega)) only [go_sem, ↓reduceIte, true_and, Nat.reduceLeDiff, Nat.reduceEqDiff, Nat.reduceAdd, Nat.reduceBEq, Int.reduceEq, H.cv_3_5, H.cv_3_49, H.cv_49_5]
  refine hN _ ?_; clear hN N
  by_cases hb1 : 16 < l.length
  · (refine W_seq_gen fun N hN => ?_); simp (disch := first | omega | (simp only [List.length_cons, List.length_nil, List.length_append, u8s_len]; omega)) only [go_sem, ↓reduceIte, true_and, Nat.reduceLeDiff, Nat.reduceEqDiff, Nat.reduceAdd, Nat.reduceBEq, Int.reduceEq, H.cv_3_5, H.cv_3_49, H.cv_49_5, hv.same, hv.sl.len, e1, hb1]
    refine (awake_ok H HC L _).mono ?_
    rintro _ _ ⟨rfl, hh⟩; subst hh
    rw [contK_some]; simp (disch := first | omega | (simp only [List.length_cons, List.length_nil, List.length_append, u8s_len]; omega)) only [go_sem, ↓reduceIte, true_and, Nat.reduceLeDiff, Nat.reduceEqDiff, Nat.reduceAdd, Nat.reduceBEq, Int.reduceEq, H.cv_3_5, H.cv_3_49, H.cv_49_5]
  by_cases hb2 : 16 < m.length
  · (refine W_seq_gen fun N hN => ?_); simp (disch := first | omega | (simp only [List.length_cons, List.length_nil, List.length_append, u8s_len]; omega)) only [go_sem, ↓reduceIte, true_and, Nat.reduceLeDiff, Nat.reduceEqDiff, Nat.reduceAdd, Nat.reduceBEq, Int.reduceEq, H.cv_3_5, H.cv_3_49, H.cv_49_5, hv.same, hw.same, hv.sl.len, hw.sl.len, e1, e2, hb1, hb2]
    refine (awake_ok H HC L _).mono ?_
    rintro _ _ ⟨rfl, hh⟩; subst hh
    rw [contK_some]; simp (disch := first | omega | (simp only [List.length_cons, List.length_nil, List.length_append, u8s_len]; omega)) only [go_sem, ↓reduceIte, true_and, Nat.reduceLeDiff, Nat.reduceEqDiff, Nat.reduceAdd, Nat.reduceBEq, Int.reduceEq, H.cv_3_5, H.cv_3_49, H.cv_49_5]
  (refine W_seq_gen fun N hN => ?_); simp (disch := first | omega | (simp only [List.length_cons, List.length_nil, List.length_append, u8s_len]; omega)) only [go_sem, ↓reduceIte, true_and, Nat.reduceLeDiff, Nat.reduceEqDiff, Nat.reduceAdd, Nat.reduceBEq, Int.reduceEq, H.cv_3_5, H.cv_3_49, H.cv_49_5, hv.same, hw.same, hv.sl.len, hw.sl.len, e1, e2, hb1, hb2]
  refine hN _ ?_; clear hN N
  (refine W_seq_gen fun N hN => ?_); simp (disch := first | omega | (simp only [List.length_cons, List.length_nil, List.length_append, u8s_len]; omega)) only [go_sem, ↓reduceIte, true_and, Nat.reduceLeDiff, Nat.reduceEqDiff, Nat.reduceAdd, Nat.reduceBEq, Int.reduceEq, H.cv_3_5, H.cv_3_49, H.cv_49_5, hv.same]
  refine (key_ok H HC hv.sl hl _).mono ?_
  rw [if_neg hb1, if_neg hb1]
  rintro _ _ ⟨rfl, hh⟩; subst hh
  rw [contK_some]; simp (disch := first | omega | (simp only [List.length_cons, List.length_nil, List.length_append, u8s_len]; omega)) only [go_sem, ↓reduceIte, true_and, Nat.reduceLeDiff, Nat.reduceEqDiff, Nat.reduceAdd, Nat.reduceBEq, Int.reduceEq, H.cv_3_5, H.cv_3_49, H.cv_49_5]
  refine hN _ ?_; clear hN N
  (refine W_seq_gen fun N hN => ?_); simp (disch := first | omega | (simp only [List.length_cons, List.length_nil, List.length_append, u8s_len]; omega)) only [go_sem, ↓reduceIte, true_and, Nat.reduceLeDiff, Nat.reduceEqDiff, Nat.reduceAdd, Nat.reduceBEq, Int.reduceEq, H.cv_3_5, H.cv_3_49, H.cv_49_5, hw.same]
  refine (key_ok H HC hw.sl hm _).mono ?_
  rw [if_neg hb2, if_neg hb2]
  rintro _ _ ⟨rfl, hh⟩; subst hh
  rw [contK_some]; simp (disch := first | omega | (simp only [List.length_cons, List.length_nil, List.length_append, u8s_len]; omega)) only [go_sem, ↓reduceIte, true_and, Nat.reduceLeDiff, Nat.reduceEqDiff, Nat.reduceAdd, Nat.reduceBEq, Int.reduceEq, H.cv_3_5, H.cv_3_49, H.cv_49_5]
  refine hN _ ?_; clear hN N
  by_cases hx : keyE l = 0
  case neg =>
    have q : (((keyE l : Nat) : Int) != ((0 : Nat) : Int)) = true := by simpa using hx
    (refine W_seq_gen fun N hN => ?_); simp (disch := first | omega | (simp only [List.length_cons, List.length_nil, List.length_append, u8s_len]; omega)) only [go_sem, ↓reduceIte, true_and, Nat.reduceLeDiff, Nat.reduceEqDiff, Nat.reduceAdd, Nat.reduceBEq, Int.reduceEq, H.cv_3_5, H.cv_3_49, H.cv_49_5, q]
    refine (awake_ok H HC L _).mono ?_
    rintro _ _ ⟨rfl, hh⟩; subst hh
    rw [contK_some]; simp (disch := first | omega | (simp only [List.length_cons, List.length_nil, List.length_append, u8s_len]; omega)) only [go_sem, ↓reduceIte, true_and, Nat.reduceLeDiff, Nat.reduceEqDiff, Nat.reduceAdd, Nat.reduceBEq, Int.reduceEq, H.cv_3_5, H.cv_3_49, H.cv_49_5]
  by_cases hy : keyE m = 0
  case neg =>
    have q : (((keyE m : Nat) : Int) != ((0 : Nat) : Int)) = true := by simpa using hy
    (refine W_seq_gen fun N hN => ?_); simp (disch := first | omega | (simp only [List.length_cons, List.length_nil, List.length_append, u8s_len]; omega)) only [go_sem, ↓reduceIte, true_and, Nat.reduceLeDiff, Nat.reduceEqDiff, Nat.reduceAdd, Nat.reduceBEq, Int.reduceEq, H.cv_3_5, H.cv_3_49, H.cv_49_5, hx, q]
    refine (awake_ok H HC L _).mono ?_
    rintro _ _ ⟨rfl, hh⟩; subst hh
    rw [contK_some]; simp (disch := first | omega | (simp only [List.length_cons, List.length_nil, List.length_append, u8s_len]; omega)) only [go_sem, ↓reduceIte, true_and, Nat.reduceLeDiff, Nat.reduceEqDiff, Nat.reduceAdd, Nat.reduceBEq, Int.reduceEq, H.cv_3_5, H.cv_3_49, H.cv_49_5]
  rw [if_pos hx, if_pos hy]
  (refine W_seq_gen fun N hN => ?_); simp (disch := first | omega | (simp only [List.length_cons, List.length_nil, List.length_append, u8s_len]; omega)) only [go_sem, ↓reduceIte, true_and, Nat.reduceLeDiff, Nat.reduceEqDiff, Nat.reduceAdd, Nat.reduceBEq, Int.reduceEq, H.cv_3_5, H.cv_3_49, H.cv_49_5, hx, hy]
  refine hN _ ?_; clear hN N
  (refine W_seq_gen fun N hN => ?_); simp (disch := first | omega | (simp only [List.length_cons, List.length_nil, List.length_append, u8s_len]; omega)) only [go_sem, ↓reduceIte, true_and, Nat.reduceLeDiff, Nat.reduceEqDiff, Nat.reduceAdd, Nat.reduceBEq, Int.reduceEq, H.cv_3_5, H.cv_3_49, H.cv_49_5]
  refine hN _ ?_; clear hN N
  have hiff := keys_begin_iff hx hy
  have hxl : (keyBs l).length < 2 ^ 60 ∨ True := .inr trivial
  have fin2 : ∀ (t : Nat → AV) (h' : Heap) (M : St → Prop), (∀ s', W P ann (.seq (.reg [⟨some 59, .mov false (.t 10), none⟩, ⟨some 60, .mov false (.t 9), none⟩, ⟨some 61, .bin .eql 4 (.t 59) (.t 60), none⟩, ⟨some 62, .mov false (.t 61), none⟩, ⟨some 63, .call 0 7 [], some (62, true)⟩, ⟨some 64, .pick (.t 62) (.t 63) (.c (.sc (.bool false))), none⟩, ⟨some 4, .mov true (.t 64), none⟩]) .ret) s'
      (fun e s => (e = .ret ∨ e = .normal) ∧ ∃ v, resA [.tmp 4] s = some v ∧ v = .sc (.bool true)) → M s') → ∀ q : Bool, t 9 = .sc (.bool q) → t 10 = .sc (.bool q) → M ⟨t, h'⟩ := by
    intro t h' M hM q t9 t10
    refine hM _ ?_
    have hbq : (q == q) = true := by cases q <;> rfl
    simp (disch := first | omega | (simp only [List.length_cons, List.length_nil, List.length_append, u8s_len]; omega)) only [go_sem, ↓reduceIte, true_and, Nat.reduceLeDiff, Nat.reduceEqDiff, Nat.reduceAdd, Nat.reduceBEq, Int.reduceEq, H.cv_3_5, H.cv_3_49, H.cv_49_5, t9, t10, HD.beq, hbq]
    refine (awake_ok H HC L _).mono ?_
    rintro _ _ ⟨rfl, hh⟩; subst hh
    rw [contK_some]; simp (disch := first | omega | (simp only [List.length_cons, List.length_nil, List.length_append, u8s_len]; omega)) only [go_sem, ↓reduceIte, true_and, Nat.reduceLeDiff, Nat.reduceEqDiff, Nat.reduceAdd, Nat.reduceBEq, Int.reduceEq, H.cv_3_5, H.cv_3_49, H.cv_49_5]
  (refine W_seq_gen fun M hM => ?_)
  have fin1 : ∀ (t : Nat → AV) (h' : Heap), t 5 = .sc (.string (str (keyBs l))) → t 7 = .sc (.string (str (keyBs m))) → t 9 = .sc (.bool (decide (m.take l.length = l ∧ l.length ≤ m.length))) → M ⟨t, h'⟩ := by
    intro t h' t5 t7 t9
    refine hM _ ?_; clear hM M
    (refine W_seq_gen fun N hN => ?_); simp (disch := first | omega | (simp only [List.length_cons, List.length_nil, List.length_append, u8s_len]; omega)) only [go_sem, ↓reduceIte, true_and, Nat.reduceLeDiff, Nat.reduceEqDiff, Nat.reduceAdd, Nat.reduceBEq, Int.reduceEq, H.cv_3_5, H.cv_3_49, H.cv_49_5]
    refine hN _ ?_; clear hN N
    (refine W_seq_gen fun M hM => ?_)
    by_cases hle : (keyBs l).length ≤ (keyBs m).length
    · simp (disch := first | omega | (simp only [List.length_cons, List.length_nil, List.length_append, u8s_len]; omega)) only [go_sem, ↓reduceIte, true_and, Nat.reduceLeDiff, Nat.reduceEqDiff, Nat.reduceAdd, Nat.reduceBEq, Int.reduceEq, H.cv_3_5, H.cv_3_49, H.cv_49_5, t5, t7, hle, sls_u (l := keyBs m) (u := (keyBs l).length) hle]
      refine fin2 _ _ _ hM (decide (m.take l.length = l ∧ l.length ≤ m.length)) ?_ ?_
      · simpa [upd_at] using t9
      · have : (decide (str ((keyBs m).take (keyBs l).length) = str (keyBs l))) = decide (m.take l.length = l ∧ l.length ≤ m.length) := by
          rw [decide_eq_decide, str_inj]
          exact ⟨fun e => hiff.1 ⟨e, hle⟩, fun e => (hiff.2 e).1⟩
        simp [upd_at, this]
    · simp (disch := first | omega | (simp only [List.length_cons, List.length_nil, List.length_append, u8s_len]; omega)) only [go_sem, ↓reduceIte, true_and, Nat.reduceLeDiff, Nat.reduceEqDiff, Nat.reduceAdd, Nat.reduceBEq, Int.reduceEq, H.cv_3_5, H.cv_3_49, H.cv_49_5, t5, t7, hle]
      refine fin2 _ _ _ hM (decide (m.take l.length = l ∧ l.length ≤ m.length)) ?_ ?_
      · simpa [upd_at] using t9
      · have : decide (m.take l.length = l ∧ l.length ≤ m.length) = false := by
          rw [decide_eq_false_iff_not]
          exact fun e => hle (hiff.2 e).2
        simp [upd_at, this]
  clear hM
  by_cases hle : l.length ≤ m.length
  · have htk : SF 5 (cutV 5 0 l.length w) (vls (m.take l.length)) := by
      have := hw.sl.take l.length
      rwa [vls_take] at this
    have hsl := fun (t : Nat → AV) (h : Heap) => hw.sl.slc_u (t := t) (h := h) (u := l.length) (k := .i64) (by rw [e2]; exact hle)
    simp (disch := first | omega | (simp only [List.length_cons, List.length_nil, List.length_append, u8s_len]; omega)) only [go_sem, ↓reduceIte, true_and, Nat.reduceLeDiff, Nat.reduceEqDiff, Nat.reduceAdd, Nat.reduceBEq, Int.reduceEq, H.cv_3_5, H.cv_3_49, H.cv_49_5, hv.same, hw.same, hv.sl.len, hw.sl.len, e1, e2, hle, hsl, hv.own, htk.own, Bool.not_false, Bool.true_or]
    refine (same_ok H HD hv.sl htk.sl hl (by simp; omega) _).mono ?_
    rintro _ _ ⟨rfl, hh⟩; subst hh
    rw [contK_some]; simp (disch := first | omega | (simp only [List.length_cons, List.length_nil, List.length_append, u8s_len]; omega)) only [go_sem, ↓reduceIte, true_and, Nat.reduceLeDiff, Nat.reduceEqDiff, Nat.reduceAdd, Nat.reduceBEq, Int.reduceEq, H.cv_3_5, H.cv_3_49, H.cv_49_5]
    refine fin1 _ _ rfl rfl ?_
    have : decide (l = m.take l.length) = decide (m.take l.length = l ∧ l.length ≤ m.length) := by
      rw [decide_eq_decide]
      exact ⟨fun e => ⟨e.symm, hle⟩, fun e => e.1.symm⟩
    simp [upd_at, this]
  · simp (disch := first | omega | (simp only [List.length_cons, List.length_nil, List.length_append, u8s_len]; omega)) only [go_sem, ↓reduceIte, true_and, Nat.reduceLeDiff, Nat.reduceEqDiff, Nat.reduceAdd, Nat.reduceBEq, Int.reduceEq, H.cv_3_5, H.cv_3_49, H.cv_49_5, hv.same, hw.same, hv.sl.len, hw.sl.len, e1, e2, hle]
    refine fin1 _ _ rfl rfl ?_
    have : decide (m.take l.length = l ∧ l.length ≤ m.length) = false := by
      rw [decide_eq_false_iff_not]
      exact fun e => hle e.2
    simp [upd_at, this]
end Go.Proofs.Ytmellpjoinldnaa
