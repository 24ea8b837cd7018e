/- The laws of keys, for arguments that came in. -/
import Derived.Test.YtcdfdnmnnepnoaaDoorRankM3
import Derived.Shelf.Small.Strs
import Derived.Test.YtcdfdnmnnepnoaaDoorProg
import Derived.Test.YtcdfdnmnnepnoaaDoorAmArg
section
set_option linter.unusedVariables false
set_option linter.unusedSimpArgs false
namespace Go.Proofs.YtcdfdnmnnepnoaaDoor
open Go.Am
theorem keyBs_len : ∀ {l : List Vl}, keyE l = 0 → (keyBs l).length ≤ 2100 * l.length
  | [], _ => by simp [keyBs]
  | v :: l, h => by
    obtain ⟨g, h2⟩ := keyE_cons h
    have hv : checkS v = 0 := by
      rw [keyE] at h
      split at h
      · assumption
      · contradiction
    have h1 := keyB_len hv
    have h3 := keyBs_len h2
    rw [keyBs_cons, List.length_append, List.length_cons]
    omega
variable {P : Program} (H : Has P) (HC : HasC P) (L : Lb P) (HD : HasD P) (T : Tk P)
include H HC L HD T
theorem parses_law (s : List UInt8) (h : Heap) : AWF P ann 0 4 [.sc (.string (str s))] h fun r h' => r = .sc (.bool true) := by
  refine AWF.fnc H.f0_4 rfl ?_
  (refine W_seq_gen fun N hN => ?_); simp (disch := first | omega | (simp only [List.length_cons, List.length_nil, List.length_append, u8s_len]; omega)) only [go_sem, ↓reduceIte, true_and, Nat.reduceLeDiff, Nat.reduceEqDiff, Nat.reduceAdd, Nat.reduceBEq, Int.reduceEq, H.cv_3_5, H.cv_3_56, H.cv_5_3, H.cv_5_56, H.cv_56_3, H.cv_56_5]
  refine hN _ ?_; clear hN N
  by_cases hb : 3000 < s.length
  · (refine W_seq_gen fun N hN => ?_); simp (disch := first | omega | (simp only [List.length_cons, List.length_nil, List.length_append, u8s_len]; omega)) only [go_sem, ↓reduceIte, true_and, Nat.reduceLeDiff, Nat.reduceEqDiff, Nat.reduceAdd, Nat.reduceBEq, Int.reduceEq, H.cv_3_5, H.cv_3_56, H.cv_5_3, H.cv_5_56, H.cv_56_3, H.cv_56_5, hb]
    refine (awake_ok H HC L _).mono ?_
    rintro _ _ ⟨rfl, hh⟩; subst hh
    rw [contK_some]; simp (disch := first | omega | (simp only [List.length_cons, List.length_nil, List.length_append, u8s_len]; omega)) only [go_sem, ↓reduceIte, true_and, Nat.reduceLeDiff, Nat.reduceEqDiff, Nat.reduceAdd, Nat.reduceBEq, Int.reduceEq, H.cv_3_5, H.cv_3_56, H.cv_5_3, H.cv_5_56, H.cv_56_3, H.cv_56_5]
  (refine W_seq_gen fun N hN => ?_); simp (disch := first | omega | (simp only [List.length_cons, List.length_nil, List.length_append, u8s_len]; omega)) only [go_sem, ↓reduceIte, true_and, Nat.reduceLeDiff, Nat.reduceEqDiff, Nat.reduceAdd, Nat.reduceBEq, Int.reduceEq, H.cv_3_5, H.cv_3_56, H.cv_5_3, H.cv_5_56, H.cv_56_3, H.cv_56_5, hb]
  refine hN _ ?_; clear hN N
  (refine W_seq_gen fun N hN => ?_); simp (disch := first | omega | (simp only [List.length_cons, List.length_nil, List.length_append, u8s_len]; omega)) only [go_sem, ↓reduceIte, true_and, Nat.reduceLeDiff, Nat.reduceEqDiff, Nat.reduceAdd, Nat.reduceBEq, Int.reduceEq, H.cv_3_5, H.cv_3_56, H.cv_5_3, H.cv_5_56, H.cv_56_3, H.cv_56_5]
  refine (parse_ok H HC T s (by omega) _).mono ?_
  rintro r _ ⟨hr, hh'⟩; subst hh'
  have hpl := prs_lprs s
  cases hl : lprs (s.length + 1) s with
  | none =>
    rw [hl] at hpl
    have hp : prs (s.length + 1) 0 s = none := hpl
    rw [hp] at hr
    obtain rfl : r = .tu [.sc (.slice none 0 0), .sc (.int .i64 (5 : Nat))] := hr
    rw [contK_some]; simp (disch := first | omega | (simp only [List.length_cons, List.length_nil, List.length_append, u8s_len]; omega)) only [go_sem, ↓reduceIte, true_and, Nat.reduceLeDiff, Nat.reduceEqDiff, Nat.reduceAdd, Nat.reduceBEq, Int.reduceEq, H.cv_3_5, H.cv_3_56, H.cv_5_3, H.cv_5_56, H.cv_56_3, H.cv_56_5]
    refine hN _ ?_; clear hN N
    (refine W_seq_gen fun N hN => ?_); simp (disch := first | omega | (simp only [List.length_cons, List.length_nil, List.length_append, u8s_len]; omega)) only [go_sem, ↓reduceIte, true_and, Nat.reduceLeDiff, Nat.reduceEqDiff, Nat.reduceAdd, Nat.reduceBEq, Int.reduceEq, H.cv_3_5, H.cv_3_56, H.cv_5_3, H.cv_5_56, H.cv_56_3, H.cv_56_5]
    refine (rparse_ok H HD s (by omega) _).mono ?_
    rintro r _ ⟨hr, hh'⟩; subst hh'
    rw [RefR, hl] at hr
    simp only at hr
    subst hr
    rw [contK_some]; simp (disch := first | omega | (simp only [List.length_cons, List.length_nil, List.length_append, u8s_len]; omega)) only [go_sem, ↓reduceIte, true_and, Nat.reduceLeDiff, Nat.reduceEqDiff, Nat.reduceAdd, Nat.reduceBEq, Int.reduceEq, H.cv_3_5, H.cv_3_56, H.cv_5_3, H.cv_5_56, H.cv_56_3, H.cv_56_5]
    refine hN _ ?_; clear hN N
    (refine W_seq_gen fun N hN => ?_); simp (disch := first | omega | (simp only [List.length_cons, List.length_nil, List.length_append, u8s_len]; omega)) only [go_sem, ↓reduceIte, true_and, Nat.reduceLeDiff, Nat.reduceEqDiff, Nat.reduceAdd, Nat.reduceBEq, Int.reduceEq, H.cv_3_5, H.cv_3_56, H.cv_5_3, H.cv_5_56, H.cv_56_3, H.cv_56_5]
    refine (awake_ok H HC L _).mono ?_
    rintro _ _ ⟨rfl, hh⟩; subst hh
    rw [contK_some]; simp (disch := first | omega | (simp only [List.length_cons, List.length_nil, List.length_append, u8s_len]; omega)) only [go_sem, ↓reduceIte, true_and, Nat.reduceLeDiff, Nat.reduceEqDiff, Nat.reduceAdd, Nat.reduceBEq, Int.reduceEq, H.cv_3_5, H.cv_3_56, H.cv_5_3, H.cv_5_56, H.cv_56_3, H.cv_56_5]
  | some l =>
    rw [hl, Option.bind_some] at hpl
    by_cases hq : l.length ≤ 16 ∧ keyE l = 0 ∧ keyBs l = s
    · rw [if_pos hq] at hpl
      rw [hpl] at hr
      obtain ⟨v, rfl, hv⟩ : ∃ v, r = .tu [v, .sc (.int .i64 (0 : Nat))] ∧ SL 5 v (vls l) := hr
      rw [contK_some]; simp (disch := first | omega | (simp only [List.length_cons, List.length_nil, List.length_append, u8s_len]; omega)) only [go_sem, ↓reduceIte, true_and, Nat.reduceLeDiff, Nat.reduceEqDiff, Nat.reduceAdd, Nat.reduceBEq, Int.reduceEq, H.cv_3_5, H.cv_3_56, H.cv_5_3, H.cv_5_56, H.cv_56_3, H.cv_56_5]
      refine hN _ ?_; clear hN N
      (refine W_seq_gen fun N hN => ?_); simp (disch := first | omega | (simp only [List.length_cons, List.length_nil, List.length_append, u8s_len]; omega)) only [go_sem, ↓reduceIte, true_and, Nat.reduceLeDiff, Nat.reduceEqDiff, Nat.reduceAdd, Nat.reduceBEq, Int.reduceEq, H.cv_3_5, H.cv_3_56, H.cv_5_3, H.cv_5_56, H.cv_56_3, H.cv_56_5]
      refine (rparse_ok H HD s (by omega) _).mono ?_
      rintro r _ ⟨hr, hh'⟩; subst hh'
      rw [RefR, hl] at hr
      simp only at hr
      obtain ⟨w, rfl, hw⟩ := hr
      rw [decide_eq_true hq]
      rw [contK_some]; simp (disch := first | omega | (simp only [List.length_cons, List.length_nil, List.length_append, u8s_len]; omega)) only [go_sem, ↓reduceIte, true_and, Nat.reduceLeDiff, Nat.reduceEqDiff, Nat.reduceAdd, Nat.reduceBEq, Int.reduceEq, H.cv_3_5, H.cv_3_56, H.cv_5_3, H.cv_5_56, H.cv_56_3, H.cv_56_5, hv.disc, hv.dd, hw.disc, hw.dd]
      refine hN _ ?_; clear hN N
      (refine W_seq_gen fun N hN => ?_); simp (disch := first | omega | (simp only [List.length_cons, List.length_nil, List.length_append, u8s_len]; omega)) only [go_sem, ↓reduceIte, true_and, Nat.reduceLeDiff, Nat.reduceEqDiff, Nat.reduceAdd, Nat.reduceBEq, Int.reduceEq, H.cv_3_5, H.cv_3_56, H.cv_5_3, H.cv_5_56, H.cv_56_3, H.cv_56_5]
      refine hN _ ?_; clear hN N
      refine W_forget (fun t => t 3 = v.dis ∧ t 4 = .sc (.int .i64 (0 : Nat)) ∧ t 5 = w.dis ∧ True) (by simp [upd_at, *] <;> (first | rfl | exact ⟨rfl, rfl⟩ | exact ⟨rfl, rfl, rfl⟩ | exact ⟨rfl, rfl, rfl, rfl⟩ | exact ⟨rfl, rfl, rfl, rfl, rfl⟩)) ?_; rintro t ⟨t3, t4, t5, -⟩
      simp (disch := first | omega | (simp only [List.length_cons, List.length_nil, List.length_append, u8s_len]; omega)) only [go_sem, ↓reduceIte, true_and, Nat.reduceLeDiff, Nat.reduceEqDiff, Nat.reduceAdd, Nat.reduceBEq, Int.reduceEq, H.cv_3_5, H.cv_3_56, H.cv_5_3, H.cv_5_56, H.cv_56_3, H.cv_56_5, t3, t4, t5, hv.dd, hw.dd]
      refine (same_ok H HD hv.dis hw.dis (by omega) (by omega) _).mono ?_
      rw [decide_eq_true (rfl : l = l)]
      rintro _ _ ⟨rfl, hh⟩; subst hh
      rw [contK_some]; simp (disch := first | omega | (simp only [List.length_cons, List.length_nil, List.length_append, u8s_len]; omega)) only [go_sem, ↓reduceIte, true_and, Nat.reduceLeDiff, Nat.reduceEqDiff, Nat.reduceAdd, Nat.reduceBEq, Int.reduceEq, H.cv_3_5, H.cv_3_56, H.cv_5_3, H.cv_5_56, H.cv_56_3, H.cv_56_5]
      refine (awake_ok H HC L _).mono ?_
      rintro _ _ ⟨rfl, hh⟩; subst hh
      rw [contK_some]; simp (disch := first | omega | (simp only [List.length_cons, List.length_nil, List.length_append, u8s_len]; omega)) only [go_sem, ↓reduceIte, true_and, Nat.reduceLeDiff, Nat.reduceEqDiff, Nat.reduceAdd, Nat.reduceBEq, Int.reduceEq, H.cv_3_5, H.cv_3_56, H.cv_5_3, H.cv_5_56, H.cv_56_3, H.cv_56_5]
    · rw [if_neg hq] at hpl
      rw [hpl] at hr
      obtain rfl : r = .tu [.sc (.slice none 0 0), .sc (.int .i64 (5 : Nat))] := hr
      rw [contK_some]; simp (disch := first | omega | (simp only [List.length_cons, List.length_nil, List.length_append, u8s_len]; omega)) only [go_sem, ↓reduceIte, true_and, Nat.reduceLeDiff, Nat.reduceEqDiff, Nat.reduceAdd, Nat.reduceBEq, Int.reduceEq, H.cv_3_5, H.cv_3_56, H.cv_5_3, H.cv_5_56, H.cv_56_3, H.cv_56_5]
      refine hN _ ?_; clear hN N
      (refine W_seq_gen fun N hN => ?_); simp (disch := first | omega | (simp only [List.length_cons, List.length_nil, List.length_append, u8s_len]; omega)) only [go_sem, ↓reduceIte, true_and, Nat.reduceLeDiff, Nat.reduceEqDiff, Nat.reduceAdd, Nat.reduceBEq, Int.reduceEq, H.cv_3_5, H.cv_3_56, H.cv_5_3, H.cv_5_56, H.cv_56_3, H.cv_56_5]
      refine (rparse_ok H HD s (by omega) _).mono ?_
      rintro r _ ⟨hr, hh'⟩; subst hh'
      rw [RefR, hl] at hr
      simp only at hr
      obtain ⟨w, rfl, hw⟩ := hr
      rw [decide_eq_false hq]
      rw [contK_some]; simp (disch := first | omega | (simp only [List.length_cons, List.length_nil, List.length_append, u8s_len]; omega)) only [go_sem, ↓reduceIte, true_and, Nat.reduceLeDiff, Nat.reduceEqDiff, Nat.reduceAdd, Nat.reduceBEq, Int.reduceEq, H.cv_3_5, H.cv_3_56, H.cv_5_3, H.cv_5_56, H.cv_56_3, H.cv_56_5, hw.disc, hw.dd]
      refine hN _ ?_; clear hN N
      (refine W_seq_gen fun N hN => ?_); simp (disch := first | omega | (simp only [List.length_cons, List.length_nil, List.length_append, u8s_len]; omega)) only [go_sem, ↓reduceIte, true_and, Nat.reduceLeDiff, Nat.reduceEqDiff, Nat.reduceAdd, Nat.reduceBEq, Int.reduceEq, H.cv_3_5, H.cv_3_56, H.cv_5_3, H.cv_5_56, H.cv_56_3, H.cv_56_5]
      refine (awake_ok H HC L _).mono ?_
      rintro _ _ ⟨rfl, hh⟩; subst hh
      rw [contK_some]; simp (disch := first | omega | (simp only [List.length_cons, List.length_nil, List.length_append, u8s_len]; omega)) only [go_sem, ↓reduceIte, true_and, Nat.reduceLeDiff, Nat.reduceEqDiff, Nat.reduceAdd, Nat.reduceBEq, Int.reduceEq, H.cv_3_5, H.cv_3_56, H.cv_5_3, H.cv_5_56, H.cv_56_3, H.cv_56_5]
theorem keys_law {v : AV} {l : List Vl} (hv : SF 5 v (vls l)) (hl : l.length < 2 ^ 60) (h : Heap) : AWF P ann 0 3 [v] h fun r h' => r = .sc (.bool true) := by
  refine AWF.fnc H.f0_3 rfl ?_
  have e1 := @vls_len l
  (refine W_seq_gen fun N hN => ?_); simp (disch := first | omega | (simp only [List.length_cons, List.length_nil, List.length_append, u8s_len]; omega)) only [go_sem, ↓reduceIte, true_and, Nat.reduceLeDiff, Nat.reduceEqDiff, Nat.reduceAdd, Nat.reduceBEq, Int.reduceEq, H.cv_3_5, H.cv_3_56, H.cv_5_3, H.cv_5_56, H.cv_56_3, H.cv_56_5]
  refine hN _ ?_; clear hN N
  by_cases hb : 100 < l.length
  · (refine W_seq_gen fun N hN => ?_); simp (disch := first | omega | (simp only [List.length_cons, List.length_nil, List.length_append, u8s_len]; omega)) only [go_sem, ↓reduceIte, true_and, Nat.reduceLeDiff, Nat.reduceEqDiff, Nat.reduceAdd, Nat.reduceBEq, Int.reduceEq, H.cv_3_5, H.cv_3_56, H.cv_5_3, H.cv_5_56, H.cv_56_3, H.cv_56_5, hv.same, hv.sl.len, e1, hb]
    refine (awake_ok H HC L _).mono ?_
    rintro _ _ ⟨rfl, hh⟩; subst hh
    rw [contK_some]; simp (disch := first | omega | (simp only [List.length_cons, List.length_nil, List.length_append, u8s_len]; omega)) only [go_sem, ↓reduceIte, true_and, Nat.reduceLeDiff, Nat.reduceEqDiff, Nat.reduceAdd, Nat.reduceBEq, Int.reduceEq, H.cv_3_5, H.cv_3_56, H.cv_5_3, H.cv_5_56, H.cv_56_3, H.cv_56_5]
  (refine W_seq_gen fun N hN => ?_); simp (disch := first | omega | (simp only [List.length_cons, List.length_nil, List.length_append, u8s_len]; omega)) only [go_sem, ↓reduceIte, true_and, Nat.reduceLeDiff, Nat.reduceEqDiff, Nat.reduceAdd, Nat.reduceBEq, Int.reduceEq, H.cv_3_5, H.cv_3_56, H.cv_5_3, H.cv_5_56, H.cv_56_3, H.cv_56_5, hv.same, hv.sl.len, e1, hb]
  refine hN _ ?_; clear hN N
  have hz0 : SG 5 (.bs true 5 [] (some 0)) [] := SG.bs
  have a1 := fun (t : Nat → AV) (h : Heap) => hz0.app (t := t) (h := h) (ys := vls l) (bytes := 48) (by rw [e1]; simp; omega)
  have hz := hz0.cat (vls l)
  rw [List.nil_append] at hz
  (refine W_seq_gen fun N hN => ?_); simp (disch := first | omega | (simp only [List.length_cons, List.length_nil, List.length_append, u8s_len]; omega)) only [go_sem, ↓reduceIte, true_and, Nat.reduceLeDiff, Nat.reduceEqDiff, Nat.reduceAdd, Nat.reduceBEq, Int.reduceEq, H.cv_3_5, H.cv_3_56, H.cv_5_3, H.cv_5_56, H.cv_56_3, H.cv_56_5, hv.same, hv.sl.elems, a1]
  refine (key_ok H HC hz.sl hl _).mono ?_
  obtain ⟨kb, hkb⟩ : ∃ kb, kb = (if l.length > 16 then [] else if keyE l = 0 then keyBs l else []) := ⟨_, rfl⟩
  obtain ⟨ke, hke⟩ : ∃ ke, ke = (if l.length > 16 then 3 else keyE l) := ⟨_, rfl⟩
  have hrk := rkey_ok H HD hv.sl hl
  rw [← hkb, ← hke]
  rw [← hkb, ← hke] at hrk
  rintro _ _ ⟨rfl, hh'⟩; subst hh'
  rw [contK_some]; simp (disch := first | omega | (simp only [List.length_cons, List.length_nil, List.length_append, u8s_len]; omega)) only [go_sem, ↓reduceIte, true_and, Nat.reduceLeDiff, Nat.reduceEqDiff, Nat.reduceAdd, Nat.reduceBEq, Int.reduceEq, H.cv_3_5, H.cv_3_56, H.cv_5_3, H.cv_5_56, H.cv_56_3, H.cv_56_5]
  refine hN _ ?_; clear hN N
  refine W_forget (fun t => t 0 = v ∧ t 3 = .sc (.string (str kb)) ∧ t 4 = .sc (.int .i64 (ke : Nat)) ∧ True) (by simp [upd_at, *] <;> (first | rfl | exact ⟨rfl, rfl⟩ | exact ⟨rfl, rfl, rfl⟩ | exact ⟨rfl, rfl, rfl, rfl⟩ | exact ⟨rfl, rfl, rfl, rfl, rfl⟩)) ?_; rintro t ⟨t0, t3, t4, -⟩
  (refine W_seq_gen fun N hN => ?_); simp (disch := first | omega | (simp only [List.length_cons, List.length_nil, List.length_append, u8s_len]; omega)) only [go_sem, ↓reduceIte, true_and, Nat.reduceLeDiff, Nat.reduceEqDiff, Nat.reduceAdd, Nat.reduceBEq, Int.reduceEq, H.cv_3_5, H.cv_3_56, H.cv_5_3, H.cv_5_56, H.cv_56_3, H.cv_56_5, t0, hv.same]
  refine (hrk _).mono ?_
  rintro _ _ ⟨rfl, hh'⟩; subst hh'
  rw [contK_some]; simp (disch := first | omega | (simp only [List.length_cons, List.length_nil, List.length_append, u8s_len]; omega)) only [go_sem, ↓reduceIte, true_and, Nat.reduceLeDiff, Nat.reduceEqDiff, Nat.reduceAdd, Nat.reduceBEq, Int.reduceEq, H.cv_3_5, H.cv_3_56, H.cv_5_3, H.cv_5_56, H.cv_56_3, H.cv_56_5]
  refine hN _ ?_; clear hN N
  refine W_forget (fun t => t 0 = v ∧ t 3 = .sc (.string (str kb)) ∧ t 4 = .sc (.int .i64 (ke : Nat)) ∧ t 5 = .sc (.string (str kb)) ∧ t 6 = .sc (.int .i64 (ke : Nat)) ∧ True) (by simp [upd_at, *] <;> (first | rfl | exact ⟨rfl, rfl⟩ | exact ⟨rfl, rfl, rfl⟩ | exact ⟨rfl, rfl, rfl, rfl⟩ | exact ⟨rfl, rfl, rfl, rfl, rfl⟩)) ?_; rintro t ⟨t0, t3, t4, t5, t6, -⟩
  have hne : (((ke : Nat) : Int) != ((ke : Nat) : Int)) = false := by simp
  (refine W_seq_gen fun N hN => ?_); simp (disch := first | omega | (simp only [List.length_cons, List.length_nil, List.length_append, u8s_len]; omega)) only [go_sem, ↓reduceIte, true_and, Nat.reduceLeDiff, Nat.reduceEqDiff, Nat.reduceAdd, Nat.reduceBEq, Int.reduceEq, H.cv_3_5, H.cv_3_56, H.cv_5_3, H.cv_5_56, H.cv_56_3, H.cv_56_5, t3, t4, t5, t6, hne]
  refine hN _ ?_; clear hN N
  refine W_forget (fun t => t 0 = v ∧ t 3 = .sc (.string (str kb)) ∧ t 4 = .sc (.int .i64 (ke : Nat)) ∧ True) (by simp [upd_at, *] <;> (first | rfl | exact ⟨rfl, rfl⟩ | exact ⟨rfl, rfl, rfl⟩ | exact ⟨rfl, rfl, rfl, rfl⟩ | exact ⟨rfl, rfl, rfl, rfl, rfl⟩)) ?_; rintro t ⟨t0, t3, t4, -⟩
  (refine W_seq_gen fun M hM => ?_)
  (refine W_seq_gen fun N hN => ?_); simp (disch := first | omega | (simp only [List.length_cons, List.length_nil, List.length_append, u8s_len]; omega)) only [go_sem, ↓reduceIte, true_and, Nat.reduceLeDiff, Nat.reduceEqDiff, Nat.reduceAdd, Nat.reduceBEq, Int.reduceEq, H.cv_3_5, H.cv_3_56, H.cv_5_3, H.cv_5_56, H.cv_56_3, H.cv_56_5]
  refine hN _ ?_; clear hN N
  simp (disch := first | omega | (simp only [List.length_cons, List.length_nil, List.length_append, u8s_len]; omega)) only [go_sem, ↓reduceIte, true_and, Nat.reduceLeDiff, Nat.reduceEqDiff, Nat.reduceAdd, Nat.reduceBEq, Int.reduceEq, H.cv_3_5, H.cv_3_56, H.cv_5_3, H.cv_5_56, H.cv_56_3, H.cv_56_5]
  refine AW_loopN (fun n t h' => ∃ i, n = l.length - i ∧ i ≤ l.length ∧ t 0 = v ∧ t 3 = .sc (.string (str kb)) ∧ t 4 = .sc (.int .i64 (ke : Nat)) ∧ t 7 = .sc (.int .i64 (i : Nat)))
    (n := l.length) ⟨0, rfl, Nat.zero_le _, by simp [upd_at, t0], by simp [upd_at, t3], by simp [upd_at, t4], by simp [upd_at]⟩ ?_
  clear t0 t3 t4 t
  rintro n t h' ⟨i, rfl, hi, t0, t3, t4, t7⟩
  rcases Nat.lt_or_ge i l.length with hlt | hge
  · have g0 := vls_get hlt
    (refine W_seq_gen fun N hN => ?_); simp (disch := first | omega | (simp only [List.length_cons, List.length_nil, List.length_append, u8s_len]; omega)) only [go_sem, ↓reduceIte, true_and, Nat.reduceLeDiff, Nat.reduceEqDiff, Nat.reduceAdd, Nat.reduceBEq, Int.reduceEq, H.cv_3_5, H.cv_3_56, H.cv_5_3, H.cv_5_56, H.cv_56_3, H.cv_56_5, t0, t7, hv.same, hv.sl.len, e1, hlt]
    refine hN _ ?_; clear hN N
    (refine W_seq_gen fun N hN => ?_)
    rw [W_block]
    have hnc : (((checkS l[i] : Nat) : Int) != ((checkS l[i] : Nat) : Int)) = false := by simp
    simp (disch := first | omega | (simp only [List.length_cons, List.length_nil, List.length_append, u8s_len]; omega)) only [go_sem, ↓reduceIte, true_and, Nat.reduceLeDiff, Nat.reduceEqDiff, Nat.reduceAdd, Nat.reduceBEq, Int.reduceEq, H.cv_3_5, H.cv_3_56, H.cv_5_3, H.cv_5_56, H.cv_56_3, H.cv_56_5, t0, t7, hv.same, hv.sl.ia, g0, Vl.cells]
    refine ⟨_, check_ok H HC l[i] _, ?_⟩
    rw [contK_some]; simp (disch := first | omega | (simp only [List.length_cons, List.length_nil, List.length_append, u8s_len]; omega)) only [go_sem, ↓reduceIte, true_and, Nat.reduceLeDiff, Nat.reduceEqDiff, Nat.reduceAdd, Nat.reduceBEq, Int.reduceEq, H.cv_3_5, H.cv_3_56, H.cv_5_3, H.cv_5_56, H.cv_56_3, H.cv_56_5, t0, t7, hv.same, hv.sl.ia, g0, Vl.cells]
    refine ⟨_, rcheck_ok H HD l[i] _, ?_⟩
    rw [contK_some]; simp (disch := first | omega | (simp only [List.length_cons, List.length_nil, List.length_append, u8s_len]; omega)) only [go_sem, ↓reduceIte, true_and, Nat.reduceLeDiff, Nat.reduceEqDiff, Nat.reduceAdd, Nat.reduceBEq, Int.reduceEq, H.cv_3_5, H.cv_3_56, H.cv_5_3, H.cv_5_56, H.cv_56_3, H.cv_56_5, hnc]
    refine hN _ ?_; clear hN N
    simp (disch := first | omega | (simp only [List.length_cons, List.length_nil, List.length_append, u8s_len]; omega)) only [go_sem, ↓reduceIte, true_and, Nat.reduceLeDiff, Nat.reduceEqDiff, Nat.reduceAdd, Nat.reduceBEq, Int.reduceEq, H.cv_3_5, H.cv_3_56, H.cv_5_3, H.cv_5_56, H.cv_56_3, H.cv_56_5, t7, nat_add]
    exact ⟨l.length - (i + 1), by omega, i + 1, rfl, by omega, t0, t3, t4, rfl⟩
  obtain rfl : i = l.length := by omega
  (refine W_seq_gen fun N hN => ?_); simp (disch := first | omega | (simp only [List.length_cons, List.length_nil, List.length_append, u8s_len]; omega)) only [go_sem, ↓reduceIte, true_and, Nat.reduceLeDiff, Nat.reduceEqDiff, Nat.reduceAdd, Nat.reduceBEq, Int.reduceEq, H.cv_3_5, H.cv_3_56, H.cv_5_3, H.cv_5_56, H.cv_56_3, H.cv_56_5, t0, t7, hv.same, hv.sl.len, e1, Nat.lt_irrefl]
  refine hM _ ?_; clear hN N hM M
  by_cases hk0 : ke = 0
  case neg =>
    have q : (((ke : Nat) : Int) != ((0 : Nat) : Int)) = true := by simpa using hk0
    (refine W_seq_gen fun N hN => ?_); simp (disch := first | omega | (simp only [List.length_cons, List.length_nil, List.length_append, u8s_len]; omega)) only [go_sem, ↓reduceIte, true_and, Nat.reduceLeDiff, Nat.reduceEqDiff, Nat.reduceAdd, Nat.reduceBEq, Int.reduceEq, H.cv_3_5, H.cv_3_56, H.cv_5_3, H.cv_5_56, H.cv_56_3, H.cv_56_5, t4, q]
    refine (awake_ok H HC L _).mono ?_
    rintro _ _ ⟨rfl, hh⟩; subst hh
    rw [contK_some]; simp (disch := first | omega | (simp only [List.length_cons, List.length_nil, List.length_append, u8s_len]; omega)) only [go_sem, ↓reduceIte, true_and, Nat.reduceLeDiff, Nat.reduceEqDiff, Nat.reduceAdd, Nat.reduceBEq, Int.reduceEq, H.cv_3_5, H.cv_3_56, H.cv_5_3, H.cv_5_56, H.cv_56_3, H.cv_56_5]
  have hl16 : ¬ l.length > 16 := fun q => by rw [if_pos q] at hke; omega
  rw [if_neg hl16] at hke hkb
  have hk : keyE l = 0 := by omega
  rw [if_pos hk] at hkb
  subst hkb
  have hkl := keyBs_len hk
  have hp := prs_back l ((keyBs l).length + 1) 0 (by omega) (by omega) hk
  (refine W_seq_gen fun N hN => ?_); simp (disch := first | omega | (simp only [List.length_cons, List.length_nil, List.length_append, u8s_len]; omega)) only [go_sem, ↓reduceIte, true_and, Nat.reduceLeDiff, Nat.reduceEqDiff, Nat.reduceAdd, Nat.reduceBEq, Int.reduceEq, H.cv_3_5, H.cv_3_56, H.cv_5_3, H.cv_5_56, H.cv_56_3, H.cv_56_5, t4, hk0]
  refine hN _ ?_; clear hN N
  (refine W_seq_gen fun N hN => ?_); simp (disch := first | omega | (simp only [List.length_cons, List.length_nil, List.length_append, u8s_len]; omega)) only [go_sem, ↓reduceIte, true_and, Nat.reduceLeDiff, Nat.reduceEqDiff, Nat.reduceAdd, Nat.reduceBEq, Int.reduceEq, H.cv_3_5, H.cv_3_56, H.cv_5_3, H.cv_5_56, H.cv_56_3, H.cv_56_5, t3]
  refine (parse_ok H HC T (keyBs l) (by omega) _).mono ?_
  rintro r _ ⟨hr, hh'⟩; subst hh'
  rw [hp] at hr
  obtain ⟨w, rfl, hw⟩ : ∃ v, r = .tu [v, .sc (.int .i64 (0 : Nat))] ∧ SL 5 v (vls l) := hr
  rw [contK_some]; simp (disch := first | omega | (simp only [List.length_cons, List.length_nil, List.length_append, u8s_len]; omega)) only [go_sem, ↓reduceIte, true_and, Nat.reduceLeDiff, Nat.reduceEqDiff, Nat.reduceAdd, Nat.reduceBEq, Int.reduceEq, H.cv_3_5, H.cv_3_56, H.cv_5_3, H.cv_5_56, H.cv_56_3, H.cv_56_5, hw.disc, hw.dd]
  refine hN _ ?_; clear hN N
  refine W_forget (fun t => t 0 = v ∧ t 8 = w.dis ∧ t 9 = .sc (.int .i64 (0 : Nat)) ∧ True) (by simp [upd_at, *] <;> (first | rfl | exact ⟨rfl, rfl⟩ | exact ⟨rfl, rfl, rfl⟩ | exact ⟨rfl, rfl, rfl, rfl⟩ | exact ⟨rfl, rfl, rfl, rfl, rfl⟩)) ?_; rintro t ⟨t0, t8, t9, -⟩
  simp (disch := first | omega | (simp only [List.length_cons, List.length_nil, List.length_append, u8s_len]; omega)) only [go_sem, ↓reduceIte, true_and, Nat.reduceLeDiff, Nat.reduceEqDiff, Nat.reduceAdd, Nat.reduceBEq, Int.reduceEq, H.cv_3_5, H.cv_3_56, H.cv_5_3, H.cv_5_56, H.cv_56_3, H.cv_56_5, t0, t8, t9, hv.same, hw.dd]
  refine (same_ok H HD hw.dis hv.sl (by omega) (by omega) _).mono ?_
  rw [decide_eq_true (rfl : l = l)]
  rintro _ _ ⟨rfl, hh⟩; subst hh
  rw [contK_some]; simp (disch := first | omega | (simp only [List.length_cons, List.length_nil, List.length_append, u8s_len]; omega)) only [go_sem, ↓reduceIte, true_and, Nat.reduceLeDiff, Nat.reduceEqDiff, Nat.reduceAdd, Nat.reduceBEq, Int.reduceEq, H.cv_3_5, H.cv_3_56, H.cv_5_3, H.cv_5_56, H.cv_56_3, H.cv_56_5]
  refine (awake_ok H HC L _).mono ?_
  rintro _ _ ⟨rfl, hh⟩; subst hh
  rw [contK_some]; simp (disch := first | omega | (simp only [List.length_cons, List.length_nil, List.length_append, u8s_len]; omega)) only [go_sem, ↓reduceIte, true_and, Nat.reduceLeDiff, Nat.reduceEqDiff, Nat.reduceAdd, Nat.reduceBEq, Int.reduceEq, H.cv_3_5, H.cv_3_56, H.cv_5_3, H.cv_5_56, H.cv_56_3, H.cv_56_5]
end Go.Proofs.YtcdfdnmnnepnoaaDoor
end

section
namespace Go.Proofs
open Go.Shelf
def Tryd.lays213_ren : Go.Shelf.Ren := ⟨fun | 213 => 33 | 265 => 42 | n => n, fun | 9 => 9 | 3 => 3 | n => n, fun | n => n⟩
theorem Tryd.lays213 : Go.Proofs.Lays.n213 Tryd.prog Tryd.lays213_ren := {
  mixed := by kernel_rfl
  f213 := Tryd.func33.trans (congrArg some (by kernel_rfl))
  f265 := Tryd.func42.trans (congrArg some (by kernel_rfl))
  t3 := Tryd.underlying3
  a3 := Tryd.isAgg3
  z3 := Tryd.sizeOf3
  v3 := Tryd.zeroValue3
  t9 := Tryd.underlying9
  a9 := Tryd.isAgg9
  z9 := Tryd.sizeOf9
  v9 := Tryd.zeroValue9 }
open Go.RowKit in
/-- internal/bytealg.CompareString (what strings.Compare calls): IT RETURNS 'Lib.compareBytes a b'; the world is as it was. (LAID: no walk: one application.) -/
theorem Tryd.bytealg_CompareString (a b : ByteArray) (w : World) :
    Calls Tryd.prog 33 #[.string a, .string b] w fun e w' => e = .returned (.int .i64 (Lib.compareBytes a.data.toList b.data.toList)) ∧ w' = w := Any.bytealg_CompareString Tryd.lays213 a b w
def Tryd.lays106_ren : Go.Shelf.Ren := ⟨fun | 106 => 26 | 213 => 33 | 265 => 42 | n => n, fun | 9 => 9 | 3 => 3 | n => n, fun | n => n⟩
theorem Tryd.lays106 : Go.Proofs.Lays.n106 Tryd.prog Tryd.lays106_ren := {
  mixed := by kernel_rfl
  f106 := Tryd.func26.trans (congrArg some (by kernel_rfl))
  f213 := Tryd.func33.trans (congrArg some (by kernel_rfl))
  f265 := Tryd.func42.trans (congrArg some (by kernel_rfl))
  t3 := Tryd.underlying3
  a3 := Tryd.isAgg3
  z3 := Tryd.sizeOf3
  v3 := Tryd.zeroValue3
  t9 := Tryd.underlying9
  a9 := Tryd.isAgg9
  z9 := Tryd.sizeOf9
  v9 := Tryd.zeroValue9 }
open Go.RowKit in
/-- strings.Compare: "Compare returns an integer comparing two strings lexicographically. The result will be 0 if a == b, -1 if a < b, and +1 if a > b.": IT RETURNS 'Lib.compareBytes a b'; the world is as it was. (LAID: no walk: one application.) -/
theorem Tryd.strings_Compare (a b : ByteArray) (w : World) :
    Calls Tryd.prog 26 #[.string a, .string b] w fun e w' => e = .returned (.int .i64 (Lib.compareBytes a.data.toList b.data.toList)) ∧ w' = w := Any.strings_Compare Tryd.lays106 a b w
end Go.Proofs
end

section
set_option linter.unusedVariables false
set_option linter.unusedSimpArgs false
namespace Go.Proofs.YtcdfdnmnnepnoaaDoor
open Go.Am
theorem cmp_cb : ∀ a b : List UInt8, Lib.compareBytes a b = if Op.bytesLess a b then -1 else if a = b then 0 else 1
  | [], [] => by simp [Lib.compareBytes, Op.bytesLess]
  | [], _ :: _ => by simp [Lib.compareBytes, Op.bytesLess]
  | _ :: _, [] => by simp [Lib.compareBytes, Op.bytesLess]
  | x :: a, y :: b => by
    rw [Lib.compareBytes, cmp_cb a b]
    by_cases h1 : x < y
    · simp [h1, Op.bytesLess]
    · by_cases h2 : y < x
      · have hne : ¬ x = y := fun e => by rw [e] at h2; exact UInt8.lt_irrefl _ h2
        simp [h1, h2, hne, Op.bytesLess]
      · have : x = y := UInt8.le_antisymm (UInt8.not_lt.1 h2) (UInt8.not_lt.1 h1)
        subst this
        simp [h1, Op.bytesLess]
theorem lb : Lb Tryd.prog where
  cmp a b h := by
    refine .sem (M5_pure (P := Tryd.prog) (args := [.string a, .string b]) (r := .int .i64 (cb a b)) ⟨_, Tryd.func26, rfl, by decide⟩ (by simp [scalarV]) rfl fun w => ?_)
    refine (Tryd.strings_Compare a b w).mono fun e w' ⟨h1, h2⟩ => ⟨?_, h2⟩
    rw [h1, cmp_cb]
    have : (if Op.bytesLess a.data.toList b.data.toList then (-1 : Int) else if a.data.toList = b.data.toList then 0 else 1) = cb a b := by
      unfold cb sl
      rw [ByteArray.toList_eq, ByteArray.toList_eq]
      have : (a.data.toList = b.data.toList) ↔ a = b := by
        constructor
        · intro h; cases a; cases b; simpa using h
        · intro h; rw [h]
      simp only [this]
    rw [this]
theorem eqin_four {P : Program} {t : TypeId} {f0 f1 f2 f3 : Field} (ht : P.underlying t = some (.struct #[f0, f1, f2, f3])) (n0 : f0.name ≠ "_") (n1 : f1.name ≠ "_") (n2 : f2.name ≠ "_") (n3 : f3.name ≠ "_") (hs : P.stoodInHeld t = false) {xs ys : Array Value} {a0 a1 a2 a3 b0 b1 b2 b3 : Value} {e0 e1 e2 e3 : Bool} (d : Nat)
   (p0 : pureRun P (part f0.type xs f0.offset) = some a0) (p1 : pureRun P (part f1.type xs f1.offset) = some a1) (p2 : pureRun P (part f2.type xs f2.offset) = some a2) (p3 : pureRun P (part f3.type xs f3.offset) = some a3)
   (q0 : pureRun P (part f0.type ys f0.offset) = some b0) (q1 : pureRun P (part f1.type ys f1.offset) = some b1) (q2 : pureRun P (part f2.type ys f2.offset) = some b2) (q3 : pureRun P (part f3.type ys f3.offset) = some b3)
   (h0 : pureRun P (Op.equalIn d f0.type a0 b0) = some e0) (h1 : pureRun P (Op.equalIn d f1.type a1 b1) = some e1) (h2 : pureRun P (Op.equalIn d f2.type a2 b2) = some e2) (h3 : pureRun P (Op.equalIn d f3.type a3 b3) = some e3) :
    pureRun P (Op.equalIn (d + 1) t (.agg xs) (.agg ys)) = some (e0 && (e1 && (e2 && e3))) := by
  rw [Op.equalIn, pr_bind, pr_underlying ht]
  cases e0 <;> cases e1 <;> cases e2 <;> cases e3 <;> simp [pr_bind, pr_prog, hs, n0, n1, n2, n3, p0, p1, p2, p3, q0, q1, q2, q3, h0, h1, h2, h3, pr_pure]
theorem hasC : HasC Tryd.prog where
  bne p q := by
    have : pureRun Tryd.prog (Op.equal 4 (.bool p) (.bool q)) = some (p == q) := eqin_bool Tryd.underlying4 9999 p q
    simp [scalarBin, eqGuard, binOp, pr_bind, pr_prog, pr_pure, pr_map, this]
    cases p <;> cases q <;> rfl
  eq a b := by
    have hi : ∀ (d : Nat) (x y : Int), pureRun Tryd.prog (Op.equalIn (d + 1) 3 (.int .i64 x) (.int .i64 y)) = some (decide (x = y)) := fun d x y => by
      rw [eqin_int Tryd.underlying3 d x y]
      by_cases h : x = y <;> simp [h]
    have ht : ∀ (x y : List UInt8), pureRun Tryd.prog (Op.equalIn 9999 9 (.string (str x)) (.string (str y))) = some (decide (x = y)) := fun x y => by
      rw [eqin_str Tryd.underlying9 9998, ba_beq]
      by_cases h : x = y
      · rw [h]; simp
      · simp [h, str_inj]
    have hp : ∀ (v : Vl), pureRun Tryd.prog (part 29 #[.int .i64 v.kind, .int .i64 v.num, .string (str v.text), .int .i64 v.re, .int .i64 v.im] 3) = some (.agg #[.int .i64 v.re, .int .i64 v.im]) := fun v => by
      have hsz : pureRun Tryd.prog (Go.sizeOf 29) = some 2 := by kernel_rfl
      unfold part isAgg
      simp only [pr_bind, pr_underlying Tryd.underlying29, Option.bind_some, pr_pure]
      simp [pr_map, hsz]
    have i0 : ∀ (c0 c1 c2 c3 c4 : Value), pureRun Tryd.prog (part 3 #[c0, c1, c2, c3, c4] 0) = some c0 := fun _ _ _ _ _ => part_sc Tryd.underlying3 (fun _ => by simp) (fun _ _ => by simp) rfl
    have i1 : ∀ (c0 c1 c2 c3 c4 : Value), pureRun Tryd.prog (part 3 #[c0, c1, c2, c3, c4] 1) = some c1 := fun _ _ _ _ _ => part_sc Tryd.underlying3 (fun _ => by simp) (fun _ _ => by simp) rfl
    have i2 : ∀ (c0 c1 c2 c3 c4 : Value), pureRun Tryd.prog (part 9 #[c0, c1, c2, c3, c4] 2) = some c2 := fun _ _ _ _ _ => part_sc Tryd.underlying9 (fun _ => by simp) (fun _ _ => by simp) rfl
    have j0 : ∀ (c0 c1 : Value), pureRun Tryd.prog (part 3 #[c0, c1] 0) = some c0 := fun _ _ => part_sc Tryd.underlying3 (fun _ => by simp) (fun _ _ => by simp) rfl
    have j1 : ∀ (c0 c1 : Value), pureRun Tryd.prog (part 3 #[c0, c1] 1) = some c1 := fun _ _ => part_sc Tryd.underlying3 (fun _ => by simp) (fun _ _ => by simp) rfl
    have hpt := eqin_two Tryd.underlying29 (by decide) (by decide) (by kernel_rfl) 9998 (j0 (.int .i64 a.re) (.int .i64 a.im)) (j1 (.int .i64 a.re) (.int .i64 a.im)) (j0 (.int .i64 b.re) (.int .i64 b.im)) (j1 (.int .i64 b.re) (.int .i64 b.im)) (hi 9997 a.re b.re) (hi 9997 a.im b.im)
    have key := sb_agg_eql (P := Tryd.prog) (t := 31) (by kernel_rfl) (eqin_four Tryd.underlying31 (by decide) (by decide) (by decide) (by decide) (by kernel_rfl) 9999 (i0 _ _ _ _ _) (i1 _ _ _ _ _) (i2 _ _ _ _ _) (hp a) (i0 _ _ _ _ _) (i1 _ _ _ _ _) (i2 _ _ _ _ _) (hp b) (hi 9998 a.kind b.kind) (hi 9998 a.num b.num) (ht a.text b.text) hpt)
    rw [key]
    congr 2
    cases a; cases b
    simp [and_assoc]
theorem cells31 : Tryd.prog.cellsOf 31 = 5 := by kernel_rfl
abbrev slW : TypeId → Nat → Prop := fun e n => n * Tryd.prog.bytesOf e ≤ reachBytes
abbrev stW : Nat → Prop := fun n => n ≤ reachBytes
theorem vl_fs {sl : TypeId → Nat → Prop} {st : Nat → Prop} {k : Nat} {x : List AV} (hf : okFs (OkAv Tryd.prog sl st k)
    [{ name := "Kind", type := 3, offset := 0, embedded := false, tag := "", pkgPath := "", byteOffset := 0 }, { name := "Num", type := 3, offset := 1, embedded := false, tag := "", pkgPath := "", byteOffset := 8 },
     { name := "Text", type := 9, offset := 2, embedded := false, tag := "", pkgPath := "", byteOffset := 16 }, { name := "Point", type := 29, offset := 3, embedded := false, tag := "", pkgPath := "", byteOffset := 32 }] x) : ∃ v : Vl, x = v.cells := by
  obtain ⟨a, _, rfl, ha, b, _, rfl, hb, c, _, rfl, hc, d, _, rfl, hd, rfl⟩ := hf
  obtain ⟨a, rfl, _⟩ := okav_int Tryd.underlying3 ha
  obtain ⟨b, rfl, _⟩ := okav_int Tryd.underlying3 hb
  obtain ⟨c, rfl, _⟩ := okav_string Tryd.underlying9 hc
  obtain ⟨m, _, hf⟩ := okav_struct Tryd.underlying29 hd
  obtain ⟨e, _, rfl, he, f, _, rfl, hf, rfl⟩ := hf
  obtain ⟨e, rfl, _⟩ := okav_int Tryd.underlying3 he
  obtain ⟨f, rfl, _⟩ := okav_int Tryd.underlying3 hf
  exact ⟨⟨a, b, c.data.toList, e, f⟩, by rw [Vl.cells, ← str_of]; rfl⟩
theorem hasD : HasD Tryd.prog where
  pt a b c d := by
    have hi : ∀ (d : Nat) (x y : Int), pureRun Tryd.prog (Op.equalIn (d + 1) 3 (.int .i64 x) (.int .i64 y)) = some (decide (x = y)) := fun d x y => by
      rw [eqin_int Tryd.underlying3 d x y]
      by_cases h : x = y <;> simp [h]
    have j0 : ∀ (c0 c1 : Value), pureRun Tryd.prog (part 3 #[c0, c1] 0) = some c0 := fun _ _ => part_sc Tryd.underlying3 (fun _ => by simp) (fun _ _ => by simp) rfl
    have j1 : ∀ (c0 c1 : Value), pureRun Tryd.prog (part 3 #[c0, c1] 1) = some c1 := fun _ _ => part_sc Tryd.underlying3 (fun _ => by simp) (fun _ _ => by simp) rfl
    have key := sb_agg_eql (P := Tryd.prog) (t := 29) (by kernel_rfl) (eqin_two Tryd.underlying29 (by decide) (by decide) (by kernel_rfl) 9999 (j0 (.int .i64 a) (.int .i64 b)) (j1 (.int .i64 a) (.int .i64 b)) (j0 (.int .i64 c) (.int .i64 d)) (j1 (.int .i64 c) (.int .i64 d)) (hi 9998 a c) (hi 9998 b d))
    rw [key]
    congr 2
    simp
  ne a b := by
    have h := hasC.eq a b
    have hg : Tryd.prog.eqGuardType Tryd.prog.depth 31 = false := by kernel_rfl
    simp [scalarBin, eqGuard, binOp, pr_bind, pr_prog, hg, pr_pure, pr_map] at h ⊢
    rw [h]
def vlR (e : List AV) (v : Vl) : Prop := e = v.cells
theorem RR.vls : ∀ {es : List (List AV)} {l : List Vl}, RR vlR es l → es = vls l
  | [], [], _ => rfl
  | _ :: _, _ :: _, h => by
    have h1 : _ = _ := h.1
    rw [h1, RR.vls h.2]
    rfl
  | [], _ :: _, h => h.elim
  | _ :: _, [], h => h.elim
theorem bytes31 : Tryd.prog.bytesOf 31 = 48 := by kernel_rfl
theorem vls_ok {a : AV} (h : OkArg Tryd.prog slW stW 22 a) : ∃ l : List Vl, SF 5 a (vls l) ∧ l.length < 2 ^ 48 := by
  obtain ⟨es, l, h1, h2, h3, h4⟩ := okarg_slice (R := vlR) Tryd.underlying22 cells31 (fun m x hx => by
    obtain ⟨k, _, hf⟩ := okav_struct Tryd.underlying31 hx
    exact vl_fs hf) h
  rw [RR.vls h2] at h1
  refine ⟨l, h1, ?_⟩
  by_cases hl : l = []
  · subst hl; simp
  · have := h4 hl
    simp only [slW, bytes31, reachBytes] at this
    omega
theorem keys_row {avs : List AV} (h : okArgs Tryd.prog slW stW Tryd.f3.params.toList avs) : AWF Tryd.prog ann 0 3 avs (fun _ => none) fun v _ => v = .sc (.bool true) := by
  obtain ⟨a, rfl, ha⟩ := okArgs1 (t := 22) h
  obtain ⟨l, h1, h2⟩ := vls_ok ha
  exact keys_law has hasC lb hasD tk h1 (by omega) _
theorem parses_row {avs : List AV} (h : okArgs Tryd.prog slW stW Tryd.f4.params.toList avs) : AWF Tryd.prog ann 0 4 avs (fun _ => none) fun v _ => v = .sc (.bool true) := by
  obtain ⟨a, rfl, ha⟩ := okArgs1 (t := 9) h
  obtain ⟨s, rfl, _⟩ := okarg_string Tryd.underlying9 ha
  rw [str_of s]
  exact parses_law has hasC lb hasD tk s.data.toList _
end Go.Proofs.YtcdfdnmnnepnoaaDoor
end
