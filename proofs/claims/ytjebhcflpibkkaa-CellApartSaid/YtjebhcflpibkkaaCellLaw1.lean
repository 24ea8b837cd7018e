/- The law of cells that are made. -/
import Derived.Test.YtjebhcflpibkkaaCellFn8
set_option linter.unusedVariables false
set_option linter.unusedSimpArgs false
namespace Go.Proofs.Ytjebhcflpibkkaa
open Go.Am
variable {P : Program} (H : Has P)
include H
theorem makes_law {n : Int} {s : ByteArray} {v : AV} {es : List (List AV)} {l : List Cel} (hv : SF 4 v es) (hl : RR CE es l) (hn : -9223372036854775808 ≤ n ∧ n < 9223372036854775808) (hs : s.size < 2 ^ 47) (hb : es.length * 56 ≤ 2 ^ 47) (h : Heap) :
    AWF P ann 0 3 [.sc (.int .i64 n), .sc (.string s), v] h fun r _ => r = .sc (.bool true) := by
  have hes := hl.len
  refine AWF.fnc H.f0_3 rfl ?_
  have hO := OB.nil (h := h)
  (refine W_seq_gen fun N hN => ?_); simp (disch := first | omega | (simp only [List.length_cons, List.length_nil, List.length_append, u8s_len]; omega)) only [go_sem, ↓reduceIte, true_and, Nat.reduceLeDiff, Nat.reduceEqDiff, Nat.reduceAdd, Nat.reduceBEq, Int.reduceEq, H.cv_3_5, H.cv_5_3]
  refine hN _ ?_; clear hN N
  refine W_forget (fun t => t 0 = .sc (.int .i64 n) ∧ t 1 = .sc (.string s) ∧ t 2 = v ∧ True) (by simp [upd_at, *] <;> (first | rfl | exact ⟨rfl, rfl⟩ | exact ⟨rfl, rfl, rfl⟩)) ?_; rintro t ⟨t0, t1, t2, -⟩
  (refine W_seq_gen fun N hN => ?_); simp (disch := first | omega | (simp only [List.length_cons, List.length_nil, List.length_append, u8s_len]; omega)) only [go_sem, ↓reduceIte, true_and, Nat.reduceLeDiff, Nat.reduceEqDiff, Nat.reduceAdd, Nat.reduceBEq, Int.reduceEq, H.cv_3_5, H.cv_5_3, t0, t1, t2, hv.same, hv.disc]
  refine (num_ok H n _).mono ?_
  rintro _ _ ⟨rfl, hh⟩; subst hh
  rw [contK_some]; simp (disch := first | omega | (simp only [List.length_cons, List.length_nil, List.length_append, u8s_len]; omega)) only [go_sem, ↓reduceIte, true_and, Nat.reduceLeDiff, Nat.reduceEqDiff, Nat.reduceAdd, Nat.reduceBEq, Int.reduceEq, H.cv_3_5, H.cv_5_3, t1, t2, hv.same, hv.disc]
  refine (text_ok H s _).mono ?_
  rintro _ _ ⟨rfl, hh⟩; subst hh
  rw [contK_some]; simp (disch := first | omega | (simp only [List.length_cons, List.length_nil, List.length_append, u8s_len]; omega)) only [go_sem, ↓reduceIte, true_and, Nat.reduceLeDiff, Nat.reduceEqDiff, Nat.reduceAdd, Nat.reduceBEq, Int.reduceEq, H.cv_3_5, H.cv_5_3, t1, t2, hv.same, hv.disc]
  refine (list_ok H hv.sl hb _).mono ?_
  rintro _ _ ⟨⟨v', rfl, hv'⟩, hh⟩; subst hh
  rw [contK_some]; simp (disch := first | omega | (simp only [List.length_cons, List.length_nil, List.length_append, u8s_len]; omega)) only [go_sem, ↓reduceIte, true_and, Nat.reduceLeDiff, Nat.reduceEqDiff, Nat.reduceAdd, Nat.reduceBEq, Int.reduceEq, H.cv_3_5, H.cv_5_3, hv'.same, hv'.disc]
  intro o7 h7 o8 h8 o9 h9
  have hO8 := ((hO.new h7 (X := .arr [.sc (.int .i64 (0 : Nat)), .sc (.int .i64 (0 : Nat)), .sc (.string noS), .sc (.slice none 0 0)])).new h8 (X := .arr [.sc (.int .i64 (0 : Nat)), .sc (.int .i64 (0 : Nat)), .sc (.string noS), .sc (.slice none 0 0)])).new h9 (X := .arr [.sc (.int .i64 (0 : Nat)), .sc (.int .i64 (0 : Nat)), .sc (.string noS), .sc (.slice none 0 0)])
  have n98 : ¬ o9 = o8 := hO8.ne01
  have n97 : ¬ o9 = o7 := hO8.ne02
  have n87 : ¬ o8 = o7 := hO8.ne12
  have n89 : ¬ o8 = o9 := fun e => n98 e.symm
  have n79 : ¬ o7 = o9 := fun e => n97 e.symm
  have n78 : ¬ o7 = o8 := fun e => n87 e.symm
  clear hO
  simp (disch := first | omega | (simp only [List.length_cons, List.length_nil, List.length_append, u8s_len]; omega)) only [go_sem, ↓reduceIte, true_and, Nat.reduceLeDiff, Nat.reduceEqDiff, Nat.reduceAdd, Nat.reduceBEq, Int.reduceEq, H.cv_3_5, H.cv_5_3, n98, n97, n87, n89, n79, n78]
  refine hN _ ?_; clear hN N; refine W_ob (hO8.st2.st1.st0) fun hc hO => ?_
  clear hO8
  refine W_forget (fun t => t 0 = .sc (.int .i64 n) ∧ t 1 = .sc (.string s) ∧ t 2 = v ∧ t 7 = .op o7 0 ∧ t 8 = .op o8 0 ∧ t 9 = .op o9 0 ∧ True) (by simp [upd_at, *] <;> (first | rfl | exact ⟨rfl, rfl⟩ | exact ⟨rfl, rfl, rfl⟩)) ?_; rintro t ⟨t0, t1, t2, t7, t8, t9, -⟩
  -- DEF T: t0, t1, t2, t7, t8, t9, hO.get0, hO.get1, hO.get2, hv.same, hv.disc, hv'.same, hv'.disc, hv.sl.cells, sl_tu hv.sl
  have ca : CE [.sc (.int .i64 ((1 : Nat) : Int)), .sc (.int .i64 n), .sc (.string noS), .sc (.slice none 0 0)] (.mk 1 n noS []) :=
    CE.in (fits_small (by omega) (by omega) (by decide) (by decide)) SF.nil RR.nil
  have cb : CE [.sc (.int .i64 ((2 : Nat) : Int)), .sc (.int .i64 ((0 : Nat) : Int)), .sc (.string s), .sc (.slice none 0 0)] (.mk 2 0 s []) :=
    CE.in (fits_small (by omega) (by omega) hs (by decide)) SF.nil RR.nil
  have cc : CE [.sc (.int .i64 ((3 : Nat) : Int)), .sc (.int .i64 ((0 : Nat) : Int)), .sc (.string noS), v'] (.mk 3 0 noS l) :=
    CE.in (fits_small (by omega) (by omega) (by decide) (by omega)) hv' hl
  have cd : CE [.sc (.int .i64 ((3 : Nat) : Int)), .sc (.int .i64 ((0 : Nat) : Int)), .sc (.string noS), v] (.mk 3 0 noS l) :=
    CE.in (fits_small (by omega) (by omega) (by decide) (by omega)) hv hl
  generalize hz : sizeS (.mk 3 0 noS l) 0 = z
  have hsz := size_ok H (.mk 3 0 noS l) _ ((0 : Nat) : Int) (by omega) (by omega) cc
  rw [show sizeS (.mk 3 0 noS l) ((0 : Nat) : Int) = z from hz] at hsz
  by_cases c1 : z > ((6000 : Nat) : Int)
  · (refine W_seq_gen fun N hN => ?_); simp (disch := first | omega | (simp only [List.length_cons, List.length_nil, List.length_append, u8s_len]; omega)) only [go_sem, ↓reduceIte, true_and, Nat.reduceLeDiff, Nat.reduceEqDiff, Nat.reduceAdd, Nat.reduceBEq, Int.reduceEq, H.cv_3_5, H.cv_5_3, t0, t1, t2, t7, t8, t9, hO.get0, hO.get1, hO.get2, hv.same, hv.disc, hv'.same, hv'.disc, hv.sl.cells, sl_tu hv.sl]
    refine (hsz _).mono ?_
    rintro _ _ ⟨rfl, hh⟩; subst hh
    rw [contK_some]; simp (disch := first | omega | (simp only [List.length_cons, List.length_nil, List.length_append, u8s_len]; omega)) only [go_sem, ↓reduceIte, true_and, Nat.reduceLeDiff, Nat.reduceEqDiff, Nat.reduceAdd, Nat.reduceBEq, Int.reduceEq, H.cv_3_5, H.cv_5_3, c1]
    refine (awake_ok H _).mono ?_
    rintro _ _ ⟨rfl, hh⟩; subst hh
    rw [contK_some]; simp (disch := first | omega | (simp only [List.length_cons, List.length_nil, List.length_append, u8s_len]; omega)) only [go_sem, ↓reduceIte, true_and, Nat.reduceLeDiff, Nat.reduceEqDiff, Nat.reduceAdd, Nat.reduceBEq, Int.reduceEq, H.cv_3_5, H.cv_5_3]
  by_cases c2 : s.size > 6000
  · (refine W_seq_gen fun N hN => ?_); simp (disch := first | omega | (simp only [List.length_cons, List.length_nil, List.length_append, u8s_len]; omega)) only [go_sem, ↓reduceIte, true_and, Nat.reduceLeDiff, Nat.reduceEqDiff, Nat.reduceAdd, Nat.reduceBEq, Int.reduceEq, H.cv_3_5, H.cv_5_3, t0, t1, t2, t7, t8, t9, hO.get0, hO.get1, hO.get2, hv.same, hv.disc, hv'.same, hv'.disc, hv.sl.cells, sl_tu hv.sl]
    refine (hsz _).mono ?_
    rintro _ _ ⟨rfl, hh⟩; subst hh
    rw [contK_some]; simp (disch := first | omega | (simp only [List.length_cons, List.length_nil, List.length_append, u8s_len]; omega)) only [go_sem, ↓reduceIte, true_and, Nat.reduceLeDiff, Nat.reduceEqDiff, Nat.reduceAdd, Nat.reduceBEq, Int.reduceEq, H.cv_3_5, H.cv_5_3, c1, c2, t0, t1, t2, t7, t8, t9, hO.get0, hO.get1, hO.get2, hv.same, hv.disc, hv'.same, hv'.disc, hv.sl.cells, sl_tu hv.sl]
    refine (awake_ok H _).mono ?_
    rintro _ _ ⟨rfl, hh⟩; subst hh
    rw [contK_some]; simp (disch := first | omega | (simp only [List.length_cons, List.length_nil, List.length_append, u8s_len]; omega)) only [go_sem, ↓reduceIte, true_and, Nat.reduceLeDiff, Nat.reduceEqDiff, Nat.reduceAdd, Nat.reduceBEq, Int.reduceEq, H.cv_3_5, H.cv_5_3]
  (refine W_seq_gen fun N hN => ?_); simp (disch := first | omega | (simp only [List.length_cons, List.length_nil, List.length_append, u8s_len]; omega)) only [go_sem, ↓reduceIte, true_and, Nat.reduceLeDiff, Nat.reduceEqDiff, Nat.reduceAdd, Nat.reduceBEq, Int.reduceEq, H.cv_3_5, H.cv_5_3, t0, t1, t2, t7, t8, t9, hO.get0, hO.get1, hO.get2, hv.same, hv.disc, hv'.same, hv'.disc, hv.sl.cells, sl_tu hv.sl]
  refine (hsz _).mono ?_
  rintro _ _ ⟨rfl, hh⟩; subst hh
  rw [contK_some]; simp (disch := first | omega | (simp only [List.length_cons, List.length_nil, List.length_append, u8s_len]; omega)) only [go_sem, ↓reduceIte, true_and, Nat.reduceLeDiff, Nat.reduceEqDiff, Nat.reduceAdd, Nat.reduceBEq, Int.reduceEq, H.cv_3_5, H.cv_5_3, c1, c2, t0, t1, t2, t7, t8, t9, hO.get0, hO.get1, hO.get2, hv.same, hv.disc, hv'.same, hv'.disc, hv.sl.cells, sl_tu hv.sl]
  refine hN _ ?_; clear hN N
  simp (disch := first | omega | (simp only [List.length_cons, List.length_nil, List.length_append, u8s_len]; omega)) only [go_sem, ↓reduceIte, true_and, Nat.reduceLeDiff, Nat.reduceEqDiff, Nat.reduceAdd, Nat.reduceBEq, Int.reduceEq, H.cv_3_5, H.cv_5_3, t0, t1, t2, t7, t8, t9, hO.get0, hO.get1, hO.get2, hv.same, hv.disc, hv'.same, hv'.disc, hv.sl.cells, sl_tu hv.sl]
  refine (same_ok H _ _ _ _ ca ca _).mono ?_
  rw [sameS_refl]
  rintro _ _ ⟨rfl, hh⟩; subst hh
  rw [contK_some]; simp (disch := first | omega | (simp only [List.length_cons, List.length_nil, List.length_append, u8s_len]; omega)) only [go_sem, ↓reduceIte, true_and, Nat.reduceLeDiff, Nat.reduceEqDiff, Nat.reduceAdd, Nat.reduceBEq, Int.reduceEq, H.cv_3_5, H.cv_5_3, t0, t1, t2, t7, t8, t9, hO.get0, hO.get1, hO.get2, hv.same, hv.disc, hv'.same, hv'.disc, hv.sl.cells, sl_tu hv.sl]
  refine (same_ok H _ _ _ _ cb cb _).mono ?_
  rw [sameS_refl]
  rintro _ _ ⟨rfl, hh⟩; subst hh
  rw [contK_some]; simp (disch := first | omega | (simp only [List.length_cons, List.length_nil, List.length_append, u8s_len]; omega)) only [go_sem, ↓reduceIte, true_and, Nat.reduceLeDiff, Nat.reduceEqDiff, Nat.reduceAdd, Nat.reduceBEq, Int.reduceEq, H.cv_3_5, H.cv_5_3, t0, t1, t2, t7, t8, t9, hO.get0, hO.get1, hO.get2, hv.same, hv.disc, hv'.same, hv'.disc, hv.sl.cells, sl_tu hv.sl]
  refine (same_ok H _ _ _ _ cc cd _).mono ?_
  rw [sameS_refl]
  rintro _ _ ⟨rfl, hh⟩; subst hh
  rw [contK_some]; simp (disch := first | omega | (simp only [List.length_cons, List.length_nil, List.length_append, u8s_len]; omega)) only [go_sem, ↓reduceIte, true_and, Nat.reduceLeDiff, Nat.reduceEqDiff, Nat.reduceAdd, Nat.reduceBEq, Int.reduceEq, H.cv_3_5, H.cv_5_3]
  refine (awake_ok H _).mono ?_
  rintro _ _ ⟨rfl, hh⟩; subst hh
  rw [contK_some]; simp (disch := first | omega | (simp only [List.length_cons, List.length_nil, List.length_append, u8s_len]; omega)) only [go_sem, ↓reduceIte, true_and, Nat.reduceLeDiff, Nat.reduceEqDiff, Nat.reduceAdd, Nat.reduceBEq, Int.reduceEq, H.cv_3_5, H.cv_5_3]
end Go.Proofs.Ytjebhcflpibkkaa
