/- Where a key stands; what is got; that the package is awake. -/
import Derived.Test.YtmdkgaljnoookaaSheafRef
set_option linter.unusedVariables false
set_option linter.unusedSimpArgs false
namespace Go.Proofs.Ytmdkgaljnoookaa
open Go.Am

/-- Strings compared. -/
def cb (a b : ByteArray) : Int := if sl a b then -1 else if a = b then 0 else 1
/-- Functions of the library. -/
structure Lb (P : Program) : Prop where
  cmp : ∀ (a b : ByteArray) (h : Heap), AWF P ann 0 30 [.sc (.string a), .sc (.string b)] h fun v h' => v = .sc (.int .i64 (cb a b)) ∧ h' = h

theorem srt_get : ∀ (l : List Pr) (i j : Nat) (hij : i < j) (hj : j < l.length), Srt l = true → sl (l[i]'(by omega)).1 (l[j]).1 = true
  | [], i, j, hij, hj, _ => by simp at hj
  | a :: l, 0, j + 1, hij, hj, hs => srt_lt hs _ (List.getElem_mem _)
  | a :: l, i + 1, j + 1, hij, hj, hs => srt_get l i j (by omega) (by simpa using hj) (srt_tail hs)

/-- How many keys stand ahead of a key. -/
def lbk (l : List Pr) (k : ByteArray) : Nat := (l.takeWhile (fun p => sl p.1 k)).length
def isk (l : List Pr) (k : ByteArray) : Bool := match l[lbk l k]? with | some p => decide (p.1 = k) | none => false

variable {P : Program} (H : Has P) (L : Lb P)
include H L

theorem at1_ok (p : Pr) (k : ByteArray) (h : Heap) : AWF P ann 0 29 [.ag [.sc (.string p.1), .sc (.string p.2)], .sc (.string k)] h fun v h' => v = .sc (.int .i64 (cb p.1 k)) ∧ h' = h := by
  refine AWF.fnPure H.f0_29 rfl ?_
  simp (disch := first | omega | (simp only [List.length_cons, List.length_nil, List.length_append, u8s_len]; omega)) only [go_sem, ↓reduceIte, true_and, Nat.reduceLeDiff, Nat.reduceEqDiff, Nat.reduceAdd, Nat.reduceBEq, Int.reduceEq, H.cv_3_57, H.cv_5_3, H.cv_57_3, code0_29]
  intro b hb
  refine (L.cmp p.1 k _).mono ?_
  rintro _ _ ⟨rfl, hh⟩; subst hh
  rw [contK_some]; simp (disch := first | omega | (simp only [List.length_cons, List.length_nil, List.length_append, u8s_len]; omega)) only [go_sem, ↓reduceIte, true_and, Nat.reduceLeDiff, Nat.reduceEqDiff, Nat.reduceAdd, Nat.reduceBEq, Int.reduceEq, H.cv_3_57, H.cv_5_3, H.cv_57_3]
  intro o ho
  exact upd_ne _ _ (fun e => ho (by rw [e]; exact hb))

theorem bs_ok {v : AV} {l : List Pr} {k : ByteArray} (hv : SF 2 v (prs l)) (hl : l.length < 2 ^ 60) (hs : Srt l = true) (h : Heap) :
    AWF P ann 0 28 [v, .sc (.string k), .fn 29 [] []] h fun r h' => r = .tu [.sc (.int .i64 (lbk l k : Nat)), .sc (.bool (isk l k))] ∧ h' = h := by
  refine AWF.fnc H.f0_28 rfl ?_
  have e1 := @prs_len l
  (refine W_seq_gen fun N hN => ?_); simp (disch := first | omega | (simp only [List.length_cons, List.length_nil, List.length_append, u8s_len]; omega)) only [go_sem, ↓reduceIte, true_and, Nat.reduceLeDiff, Nat.reduceEqDiff, Nat.reduceAdd, Nat.reduceBEq, Int.reduceEq, H.cv_3_57, H.cv_5_3, H.cv_57_3]
  refine hN _ ?_; clear hN N
  (refine W_seq_gen fun N hN => ?_); simp (disch := first | omega | (simp only [List.length_cons, List.length_nil, List.length_append, u8s_len]; omega)) only [go_sem, ↓reduceIte, true_and, Nat.reduceLeDiff, Nat.reduceEqDiff, Nat.reduceAdd, Nat.reduceBEq, Int.reduceEq, H.cv_3_57, H.cv_5_3, H.cv_57_3, hv.same, hv.sl.len, e1]
  refine hN _ ?_; clear hN N
  (refine W_seq_gen fun N hN => ?_); simp (disch := first | omega | (simp only [List.length_cons, List.length_nil, List.length_append, u8s_len]; omega)) only [go_sem, ↓reduceIte, true_and, Nat.reduceLeDiff, Nat.reduceEqDiff, Nat.reduceAdd, Nat.reduceBEq, Int.reduceEq, H.cv_3_57, H.cv_5_3, H.cv_57_3]
  refine hN _ ?_; clear hN N
  (refine W_seq_gen fun M hM => ?_)
  simp (disch := first | omega | (simp only [List.length_cons, List.length_nil, List.length_append, u8s_len]; omega)) only [go_sem, ↓reduceIte, true_and, Nat.reduceLeDiff, Nat.reduceEqDiff, Nat.reduceAdd, Nat.reduceBEq, Int.reduceEq, H.cv_3_57, H.cv_5_3, H.cv_57_3]
  refine AW_loopN (fun n t h' => h' = h ∧ ∃ i j, n = j - i ∧ i ≤ j ∧ j ≤ l.length ∧ t 0 = v ∧ t 1 = .sc (.string k) ∧ t 2 = .fn 29 [] [] ∧ t 8 = .sc (.int .i64 (l.length : Nat)) ∧ t 9 = .sc (.int .i64 (i : Nat)) ∧ t 10 = .sc (.int .i64 (j : Nat)) ∧
      (∀ (x : Nat) (hx : x < i) (hl : x < l.length), sl l[x].1 k = true) ∧ (∀ (x : Nat) (hx : j ≤ x) (hl : x < l.length), sl l[x].1 k = false))
    (n := l.length) ⟨rfl, 0, l.length, rfl, Nat.zero_le _, Nat.le_refl _, rfl, rfl, rfl, rfl, rfl, rfl, fun x hx => by omega, fun x hx hl => by omega⟩ ?_
  rintro n t h' ⟨rfl, i, j, rfl, hij, hj, t0, t1, t2, t8, t9, t10, hlo, hhi⟩
  rcases Nat.lt_or_ge i j with hlt | hge
  · generalize hm : (i + j) / 2 = m
    have hm1 : i ≤ m := by omega
    have hm2 : m < j := by omega
    have hml : m < l.length := by omega
    have g0 := prs_get hml
    (refine W_seq_gen fun N hN => ?_); simp (disch := first | omega | (simp only [List.length_cons, List.length_nil, List.length_append, u8s_len]; omega)) only [go_sem, ↓reduceIte, true_and, Nat.reduceLeDiff, Nat.reduceEqDiff, Nat.reduceAdd, Nat.reduceBEq, Int.reduceEq, H.cv_3_57, H.cv_5_3, H.cv_57_3, t9, t10, hlt]
    refine hN _ ?_; clear hN N
    (refine W_seq_gen fun N hN => ?_)
    have hsh : scalarBin P .shr 57 (.int .u64 ((i + j : Nat) : Int)) (.int .u64 ((1 : Nat) : Int)) = some (.int .u64 ((m : Nat) : Int)) := by
      rw [sb_shr (Int.natCast_nonneg _)]
      have : Int.fdiv ((i + j : Nat) : Int) (2 ^ (min ((1 : Nat) : Int).toNat IntKind.u64.bits)) = ((m : Nat) : Int) := by
        have h2 : ((2 : Int) ^ (min ((1 : Nat) : Int).toNat IntKind.u64.bits)) = 2 := rfl
        rw [h2, Int.fdiv_eq_ediv_of_nonneg _ (by omega)]
        omega
      rw [this]
    simp (disch := first | omega | (simp only [List.length_cons, List.length_nil, List.length_append, u8s_len]; omega)) only [go_sem, ↓reduceIte, true_and, Nat.reduceLeDiff, Nat.reduceEqDiff, Nat.reduceAdd, Nat.reduceBEq, Int.reduceEq, H.cv_3_57, H.cv_5_3, H.cv_57_3, t9, t10, nat_add, wrap_u64u, wrap_i64u, hsh]
    refine hN _ ?_; clear hN N
    (refine W_seq_gen fun N hN => ?_)
    simp (disch := first | omega | (simp only [List.length_cons, List.length_nil, List.length_append, u8s_len]; omega)) only [go_sem, ↓reduceIte, true_and, Nat.reduceLeDiff, Nat.reduceEqDiff, Nat.reduceAdd, Nat.reduceBEq, Int.reduceEq, H.cv_3_57, H.cv_5_3, H.cv_57_3, t0, t1, t2, hv.same, hv.sl.ia, g0]
    refine (at1_ok H L l[m] k _).mono ?_
    rintro _ _ ⟨rfl, hh⟩; subst hh
    by_cases hc : sl l[m].1 k = true
    · have hcb : cb l[m].1 k < ((0 : Nat) : Int) := by simp [cb, hc]
      rw [contK_some]; simp (disch := first | omega | (simp only [List.length_cons, List.length_nil, List.length_append, u8s_len]; omega)) only [go_sem, ↓reduceIte, true_and, Nat.reduceLeDiff, Nat.reduceEqDiff, Nat.reduceAdd, Nat.reduceBEq, Int.reduceEq, H.cv_3_57, H.cv_5_3, H.cv_57_3, hcb]
      refine hN _ ?_; clear hN N
      simp (disch := first | omega | (simp only [List.length_cons, List.length_nil, List.length_append, u8s_len]; omega)) only [go_sem, ↓reduceIte, true_and, Nat.reduceLeDiff, Nat.reduceEqDiff, Nat.reduceAdd, Nat.reduceBEq, Int.reduceEq, H.cv_3_57, H.cv_5_3, H.cv_57_3, nat_add]
      exact ⟨j - (m + 1), by omega, m + 1, j, rfl, by omega, hj, t0, t1, t2, t8, rfl, t10, fun x hx hxl => by
        rcases Nat.lt_or_ge x m with h | h
        · exact sl_trans (srt_get l x m h hml hs) hc
        · obtain rfl : x = m := by omega
          exact hc, hhi⟩
    · have hc : sl l[m].1 k = false := by simpa using hc
      have hcb : ¬ cb l[m].1 k < ((0 : Nat) : Int) := by
        simp only [cb, hc, Bool.false_eq_true, if_false]
        split <;> simp
      rw [contK_some]; simp (disch := first | omega | (simp only [List.length_cons, List.length_nil, List.length_append, u8s_len]; omega)) only [go_sem, ↓reduceIte, true_and, Nat.reduceLeDiff, Nat.reduceEqDiff, Nat.reduceAdd, Nat.reduceBEq, Int.reduceEq, H.cv_3_57, H.cv_5_3, H.cv_57_3, hcb]
      refine hN _ ?_; clear hN N
      simp (disch := first | omega | (simp only [List.length_cons, List.length_nil, List.length_append, u8s_len]; omega)) only [go_sem, ↓reduceIte, true_and, Nat.reduceLeDiff, Nat.reduceEqDiff, Nat.reduceAdd, Nat.reduceBEq, Int.reduceEq, H.cv_3_57, H.cv_5_3, H.cv_57_3]
      exact ⟨m - i, by omega, i, m, rfl, by omega, by omega, t0, t1, t2, t8, t9, rfl, hlo, fun x hx hxl => by
        rcases Nat.lt_or_ge m x with h | h
        · cases hq : sl l[x].1 k with
          | false => rfl
          | true => rw [sl_trans (srt_get l m x h hxl hs) hq] at hc; cases hc
        · obtain rfl : x = m := by omega
          exact hc⟩
  obtain rfl : i = j := by omega
  have htw : l.takeWhile (fun p => sl p.1 k) = l.take i := takeWhile_of l i hj hlo (fun hl => hhi i (Nat.le_refl _) hl)
  have hlb : lbk l k = i := by rw [lbk, htw]; simp; omega
  (refine W_seq_gen fun N hN => ?_); simp (disch := first | omega | (simp only [List.length_cons, List.length_nil, List.length_append, u8s_len]; omega)) only [go_sem, ↓reduceIte, true_and, Nat.reduceLeDiff, Nat.reduceEqDiff, Nat.reduceAdd, Nat.reduceBEq, Int.reduceEq, H.cv_3_57, H.cv_5_3, H.cv_57_3, t9, t10, Nat.lt_irrefl]
  refine hM _ ?_; clear hN N hM M
  rw [hlb]
  by_cases hlt : i < l.length
  · have g0 := prs_get hlt
    have his : isk l k = decide (l[i].1 = k) := by simp [isk, hlb, hlt]
    simp (disch := first | omega | (simp only [List.length_cons, List.length_nil, List.length_append, u8s_len]; omega)) only [go_sem, ↓reduceIte, true_and, Nat.reduceLeDiff, Nat.reduceEqDiff, Nat.reduceAdd, Nat.reduceBEq, Int.reduceEq, H.cv_3_57, H.cv_5_3, H.cv_57_3, t0, t1, t2, t8, t9, hlt, hv.same, hv.sl.ia, g0]
    refine (at1_ok H L l[i] k _).mono ?_
    rintro _ _ ⟨rfl, hh⟩; subst hh
    have hcb : (cb l[i].1 k == ((0 : Nat) : Int)) = isk l k := by
      rw [his, cb, hhi i (Nat.le_refl _) hlt]
      by_cases h : l[i].1 = k <;> simp [h]
    rw [contK_some]; simp (disch := first | omega | (simp only [List.length_cons, List.length_nil, List.length_append, u8s_len]; omega)) only [go_sem, ↓reduceIte, true_and, Nat.reduceLeDiff, Nat.reduceEqDiff, Nat.reduceAdd, Nat.reduceBEq, Int.reduceEq, H.cv_3_57, H.cv_5_3, H.cv_57_3, hcb]
  · have his : isk l k = false := by simp [isk, hlb, hlt]
    rw [his]
    simp (disch := first | omega | (simp only [List.length_cons, List.length_nil, List.length_append, u8s_len]; omega)) only [go_sem, ↓reduceIte, true_and, Nat.reduceLeDiff, Nat.reduceEqDiff, Nat.reduceAdd, Nat.reduceBEq, Int.reduceEq, H.cv_3_57, H.cv_5_3, H.cv_57_3, t0, t1, t2, t8, t9, hlt]

theorem at_ok {v : AV} {l : List Pr} {k : ByteArray} (hv : SF 2 v (prs l)) (hl : l.length < 2 ^ 60) (hs : Srt l = true) (h : Heap) :
    AWF P ann 0 23 [v, .sc (.string k)] h fun r h' => r = .tu [.sc (.int .i64 (lbk l k : Nat)), .sc (.bool (isk l k))] ∧ h' = h := by
  refine AWF.fnc H.f0_23 rfl ?_
  (refine W_seq_gen fun N hN => ?_); simp (disch := first | omega | (simp only [List.length_cons, List.length_nil, List.length_append, u8s_len]; omega)) only [go_sem, ↓reduceIte, true_and, Nat.reduceLeDiff, Nat.reduceEqDiff, Nat.reduceAdd, Nat.reduceBEq, Int.reduceEq, H.cv_3_57, H.cv_5_3, H.cv_57_3]
  refine hN _ ?_; clear hN N
  simp (disch := first | omega | (simp only [List.length_cons, List.length_nil, List.length_append, u8s_len]; omega)) only [go_sem, ↓reduceIte, true_and, Nat.reduceLeDiff, Nat.reduceEqDiff, Nat.reduceAdd, Nat.reduceBEq, Int.reduceEq, H.cv_3_57, H.cv_5_3, H.cv_57_3, hv.same]
  refine (bs_ok H L hv hl hs _).mono ?_
  rintro _ _ ⟨rfl, hh⟩; subst hh
  rw [contK_some]; simp (disch := first | omega | (simp only [List.length_cons, List.length_nil, List.length_append, u8s_len]; omega)) only [go_sem, ↓reduceIte, true_and, Nat.reduceLeDiff, Nat.reduceEqDiff, Nat.reduceAdd, Nat.reduceBEq, Int.reduceEq, H.cv_3_57, H.cv_5_3, H.cv_57_3]

def valOf (l : List Pr) (k : ByteArray) : ByteArray := match l[lbk l k]? with | some p => if p.1 = k then p.2 else ⟨#[]⟩ | none => ⟨#[]⟩

theorem get_ok {v : AV} {l : List Pr} {k : ByteArray} (hv : SF 2 v (prs l)) (hl : l.length < 2 ^ 60) (hs : Srt l = true) (h : Heap) :
    AWF P ann 0 18 [v, .sc (.string k)] h fun r h' => r = .tu [.sc (.string (valOf l k)), .sc (.bool (isk l k))] ∧ h' = h := by
  refine AWF.fnc H.f0_18 rfl ?_
  (refine W_seq_gen fun N hN => ?_); simp (disch := first | omega | (simp only [List.length_cons, List.length_nil, List.length_append, u8s_len]; omega)) only [go_sem, ↓reduceIte, true_and, Nat.reduceLeDiff, Nat.reduceEqDiff, Nat.reduceAdd, Nat.reduceBEq, Int.reduceEq, H.cv_3_57, H.cv_5_3, H.cv_57_3]
  refine hN _ ?_; clear hN N
  (refine W_seq_gen fun N hN => ?_); simp (disch := first | omega | (simp only [List.length_cons, List.length_nil, List.length_append, u8s_len]; omega)) only [go_sem, ↓reduceIte, true_and, Nat.reduceLeDiff, Nat.reduceEqDiff, Nat.reduceAdd, Nat.reduceBEq, Int.reduceEq, H.cv_3_57, H.cv_5_3, H.cv_57_3, hv.same]
  refine (at_ok H L hv hl hs _).mono ?_
  rintro _ _ ⟨rfl, hh⟩; subst hh
  rw [contK_some]; simp (disch := first | omega | (simp only [List.length_cons, List.length_nil, List.length_append, u8s_len]; omega)) only [go_sem, ↓reduceIte, true_and, Nat.reduceLeDiff, Nat.reduceEqDiff, Nat.reduceAdd, Nat.reduceBEq, Int.reduceEq, H.cv_3_57, H.cv_5_3, H.cv_57_3]
  refine hN _ ?_; clear hN N
  cases hi : isk l k with
  | false =>
    have hv2 : valOf l k = ⟨#[]⟩ := by
      unfold valOf
      unfold isk at hi
      split at hi
      · simp_all
      · rfl
    rw [hv2]
    simp (disch := first | omega | (simp only [List.length_cons, List.length_nil, List.length_append, u8s_len]; omega)) only [go_sem, ↓reduceIte, true_and, Nat.reduceLeDiff, Nat.reduceEqDiff, Nat.reduceAdd, Nat.reduceBEq, Int.reduceEq, H.cv_3_57, H.cv_5_3, H.cv_57_3]
  | true =>
    have hlt : lbk l k < l.length := by
      rcases Nat.lt_or_ge (lbk l k) l.length with h | h
      · exact h
      · simp [isk, List.getElem?_eq_none h] at hi
    have g0 := prs_get hlt
    have hv2 : valOf l k = (l[lbk l k]).2 := by
      simp only [isk, List.getElem?_eq_getElem hlt, decide_eq_true_eq] at hi
      simp [valOf, List.getElem?_eq_getElem hlt, hi]
    rw [hv2]
    (refine W_seq_gen fun N hN => ?_); simp (disch := first | omega | (simp only [List.length_cons, List.length_nil, List.length_append, u8s_len]; omega)) only [go_sem, ↓reduceIte, true_and, Nat.reduceLeDiff, Nat.reduceEqDiff, Nat.reduceAdd, Nat.reduceBEq, Int.reduceEq, H.cv_3_57, H.cv_5_3, H.cv_57_3]
    refine hN _ ?_; clear hN N
    simp (disch := first | omega | (simp only [List.length_cons, List.length_nil, List.length_append, u8s_len]; omega)) only [go_sem, ↓reduceIte, true_and, Nat.reduceLeDiff, Nat.reduceEqDiff, Nat.reduceAdd, Nat.reduceBEq, Int.reduceEq, H.cv_3_57, H.cv_5_3, H.cv_57_3, hv.same, hv.sl.ia, g0]

omit L in
theorem pset_ok {v : AV} {l : List Pr} {k w : ByteArray} (hv : SL 2 v (prs l)) (hl : l.length < 2 ^ 38) (hs : Srt l = true) (h : Heap) :
    AWF P ann 0 13 [v, .sc (.string k), .sc (.string w)] h fun r h' => (∃ x, r = .tu [x, errN true] ∧ SF 2 x (prs (mergeS l [(k, w)]))) ∧ h' = h := by
  refine AWF.fnc H.f0_13 rfl ?_
  (refine W_seq_gen fun N hN => ?_); simp (disch := first | omega | (simp only [List.length_cons, List.length_nil, List.length_append, u8s_len]; omega)) only [go_sem, ↓reduceIte, true_and, Nat.reduceLeDiff, Nat.reduceEqDiff, Nat.reduceAdd, Nat.reduceBEq, Int.reduceEq, H.cv_3_57, H.cv_5_3, H.cv_57_3]
  refine hN _ ?_; clear hN N
  simp (disch := first | omega | (simp only [List.length_cons, List.length_nil, List.length_append, u8s_len]; omega)) only [go_sem, ↓reduceIte, true_and, Nat.reduceLeDiff, Nat.reduceEqDiff, Nat.reduceAdd, Nat.reduceBEq, Int.reduceEq, H.cv_3_57, H.cv_5_3, H.cv_57_3]
  refine (merge_ok H hv.dis (w := .bs true 2 [[.sc (.string k), .sc (.string w)]] (some 1)) (m := [(k, w)]) SL.bs hl (by simp) hs rfl _).mono ?_
  rintro _ _ ⟨⟨x, rfl, hx⟩, hh⟩; subst hh
  rw [contK_some]; simp (disch := first | omega | (simp only [List.length_cons, List.length_nil, List.length_append, u8s_len]; omega)) only [go_sem, ↓reduceIte, true_and, Nat.reduceLeDiff, Nat.reduceEqDiff, Nat.reduceAdd, Nat.reduceBEq, Int.reduceEq, H.cv_3_57, H.cv_5_3, H.cv_57_3, hx.same, hx.disc, errN]
  exact ⟨x, rfl, hx⟩

theorem awake_ok (h : Heap) : AWF P ann 0 7 [] h fun r h' => r = .sc (.bool true) ∧ h' = h := by
  refine AWF.fnc H.f0_7 rfl ?_
  (refine W_seq_gen fun N hN => ?_); simp (disch := first | omega | (simp only [List.length_cons, List.length_nil, List.length_append, u8s_len]; omega)) only [go_sem, ↓reduceIte, true_and, Nat.reduceLeDiff, Nat.reduceEqDiff, Nat.reduceAdd, Nat.reduceBEq, Int.reduceEq, H.cv_3_57, H.cv_5_3, H.cv_57_3]
  refine hN _ ?_; clear hN N
  (refine W_seq_gen fun N hN => ?_); simp (disch := first | omega | (simp only [List.length_cons, List.length_nil, List.length_append, u8s_len]; omega)) only [go_sem, ↓reduceIte, true_and, Nat.reduceLeDiff, Nat.reduceEqDiff, Nat.reduceAdd, Nat.reduceBEq, Int.reduceEq, H.cv_3_57, H.cv_5_3, H.cv_57_3]
  refine (pset_ok H (l := []) SL.nil (by simp) rfl _).mono ?_
  rintro _ _ ⟨⟨x, rfl, hx⟩, hh⟩; subst hh
  rw [mergeS_nil'] at hx
  rw [contK_some]; simp (disch := first | omega | (simp only [List.length_cons, List.length_nil, List.length_append, u8s_len]; omega)) only [go_sem, ↓reduceIte, true_and, Nat.reduceLeDiff, Nat.reduceEqDiff, Nat.reduceAdd, Nat.reduceBEq, Int.reduceEq, H.cv_3_57, H.cv_5_3, H.cv_57_3, hx.same, hx.disc, errN]
  refine hN _ ?_; clear hN N
  (refine W_seq_gen fun N hN => ?_); simp (disch := first | omega | (simp only [List.length_cons, List.length_nil, List.length_append, u8s_len]; omega)) only [go_sem, ↓reduceIte, true_and, Nat.reduceLeDiff, Nat.reduceEqDiff, Nat.reduceAdd, Nat.reduceBEq, Int.reduceEq, H.cv_3_57, H.cv_5_3, H.cv_57_3, hx.same]
  refine (get_ok H L hx (by simp) rfl _).mono ?_
  have e1 : valOf [((⟨#[107]⟩ : ByteArray), (⟨#[118]⟩ : ByteArray))] ⟨#[107]⟩ = ⟨#[118]⟩ := by decide +kernel
  have e2 : isk [((⟨#[107]⟩ : ByteArray), (⟨#[118]⟩ : ByteArray))] ⟨#[107]⟩ = true := by decide +kernel
  rw [e1, e2]
  rintro _ _ ⟨rfl, hh⟩; subst hh
  rw [contK_some]; simp (disch := first | omega | (simp only [List.length_cons, List.length_nil, List.length_append, u8s_len]; omega)) only [go_sem, ↓reduceIte, true_and, Nat.reduceLeDiff, Nat.reduceEqDiff, Nat.reduceAdd, Nat.reduceBEq, Int.reduceEq, H.cv_3_57, H.cv_5_3, H.cv_57_3]
  refine hN _ ?_; clear hN N
  simp (disch := first | omega | (simp only [List.length_cons, List.length_nil, List.length_append, u8s_len]; omega)) only [go_sem, ↓reduceIte, true_and, Nat.reduceLeDiff, Nat.reduceEqDiff, Nat.reduceAdd, Nat.reduceBEq, Int.reduceEq, H.cv_3_57, H.cv_5_3, H.cv_57_3]
end Go.Proofs.Ytmdkgaljnoookaa
