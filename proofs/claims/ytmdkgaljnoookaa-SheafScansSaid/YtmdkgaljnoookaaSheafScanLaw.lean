/- The law of scans. -/
import Derived.Test.YtmdkgaljnoookaaSheafScan3
set_option linter.unusedVariables false
set_option linter.unusedSimpArgs false
namespace Go.Proofs.Ytmdkgaljnoookaa
open Go.Am
variable {P : Program} (H : Has P) (L : Lb P) (HC : HasC P)
include H L HC
theorem scans_law {v : AV} {l : List Pr} {f to : ByteArray} {m : Int} (hv : SF 2 v (prs l)) (hl : l.length < 2 ^ 60) (hm : m < 2 ^ 63) (h : Heap) :
    AWF P ann 0 5 [v, .ag [.sc (.string f), .sc (.string to)], .sc (.int .i64 m)] h fun r h' => r = .sc (.bool true) := by
  refine AWF.fnc H.f0_5 rfl ?_
  have e1 := @prs_len l
  have hO := OB.nil (h := h)
  (refine W_seq_gen fun N hN => ?_); simp (disch := first | omega | (simp only [List.length_cons, List.length_nil, List.length_append, u8s_len]; omega)) only [go_sem, ↓reduceIte, true_and, Nat.reduceLeDiff, Nat.reduceEqDiff, Nat.reduceAdd, Nat.reduceBEq, Int.reduceEq, H.cv_3_57, H.cv_5_3, H.cv_57_3]
  intro o4 h4
  refine hN _ ?_; clear hN N; refine W_ob (hO.new h4) fun hc hO => ?_
  refine W_forget (fun t => t 0 = v ∧ t 2 = .sc (.int .i64 m) ∧ t 4 = .op o4 0 ∧ True) (by simp [upd_at, *] <;> (first | rfl | exact ⟨rfl, rfl⟩ | exact ⟨rfl, rfl, rfl⟩ | exact ⟨rfl, rfl, rfl, rfl⟩ | exact ⟨rfl, rfl, rfl, rfl, rfl⟩)) ?_; rintro t ⟨t0, t2, t4, -⟩
  by_cases hb1 : 300 < l.length
  · (refine W_seq_gen fun N hN => ?_); simp (disch := first | omega | (simp only [List.length_cons, List.length_nil, List.length_append, u8s_len]; omega)) only [go_sem, ↓reduceIte, true_and, Nat.reduceLeDiff, Nat.reduceEqDiff, Nat.reduceAdd, Nat.reduceBEq, Int.reduceEq, H.cv_3_57, H.cv_5_3, H.cv_57_3, t0, hv.same, hv.disc, hv.sl.len, e1, hb1]
    refine (awake_ok H L _).mono ?_
    rintro _ _ ⟨rfl, hh⟩; subst hh
    rw [contK_some]; simp (disch := first | omega | (simp only [List.length_cons, List.length_nil, List.length_append, u8s_len]; omega)) only [go_sem, ↓reduceIte, true_and, Nat.reduceLeDiff, Nat.reduceEqDiff, Nat.reduceAdd, Nat.reduceBEq, Int.reduceEq, H.cv_3_57, H.cv_5_3, H.cv_57_3]
  (refine W_seq_gen fun N hN => ?_); simp (disch := first | omega | (simp only [List.length_cons, List.length_nil, List.length_append, u8s_len]; omega)) only [go_sem, ↓reduceIte, true_and, Nat.reduceLeDiff, Nat.reduceEqDiff, Nat.reduceAdd, Nat.reduceBEq, Int.reduceEq, H.cv_3_57, H.cv_5_3, H.cv_57_3, t0, hv.same, hv.disc, hv.sl.len, e1, hb1]
  refine hN _ ?_; clear hN N
  (refine W_seq_gen fun N hN => ?_); simp (disch := first | omega | (simp only [List.length_cons, List.length_nil, List.length_append, u8s_len]; omega)) only [go_sem, ↓reduceIte, true_and, Nat.reduceLeDiff, Nat.reduceEqDiff, Nat.reduceAdd, Nat.reduceBEq, Int.reduceEq, H.cv_3_57, H.cv_5_3, H.cv_57_3, t4, hO.get0]
  refine ⟨by decide, _, rfl, by decide, ?_⟩
  refine hN _ ?_; clear hN N
  refine W_forget (fun t => t 0 = v ∧ t 2 = .sc (.int .i64 m) ∧ t 7 = .sc (.string f) ∧ t 8 = .sc (.string to) ∧ True) (by simp [upd_at, *] <;> (first | rfl | exact ⟨rfl, rfl⟩ | exact ⟨rfl, rfl, rfl⟩ | exact ⟨rfl, rfl, rfl, rfl⟩ | exact ⟨rfl, rfl, rfl, rfl, rfl⟩)) ?_; rintro t ⟨t0, t2, t7, t8, -⟩
  clear hO
  (refine W_seq_gen fun N hN => ?_); simp (disch := first | omega | (simp only [List.length_cons, List.length_nil, List.length_append, u8s_len]; omega)) only [go_sem, ↓reduceIte, true_and, Nat.reduceLeDiff, Nat.reduceEqDiff, Nat.reduceAdd, Nat.reduceBEq, Int.reduceEq, H.cv_3_57, H.cv_5_3, H.cv_57_3, t0, t2, t7, t8, hv.same, hv.disc]
  refine (scan1_ok H L hv (by omega) hm _).mono ?_
  intro r h1 hr
  cases hs : Srt l && decide (0 ≤ m) with
  | false =>
    rw [hs] at hr
    obtain ⟨rfl, rfl⟩ := hr
    rw [contK_some]; simp (disch := first | omega | (simp only [List.length_cons, List.length_nil, List.length_append, u8s_len]; omega)) only [go_sem, ↓reduceIte, true_and, Nat.reduceLeDiff, Nat.reduceEqDiff, Nat.reduceAdd, Nat.reduceBEq, Int.reduceEq, H.cv_3_57, H.cv_5_3, H.cv_57_3, errN]
    refine hN _ ?_; clear hN N
    refine W_forget (fun t => t 0 = v ∧ t 2 = .sc (.int .i64 m) ∧ t 9 = .sc (.slice none 0 0) ∧ t 10 = .sc (.int .i64 ((1 : Nat) : Int)) ∧ True) (by simp [upd_at, *] <;> (first | rfl | exact ⟨rfl, rfl⟩ | exact ⟨rfl, rfl, rfl⟩ | exact ⟨rfl, rfl, rfl, rfl⟩ | exact ⟨rfl, rfl, rfl, rfl, rfl⟩)) ?_; rintro t ⟨t0, t2, t9, t10, -⟩
    (refine W_seq_gen fun N hN => ?_); simp (disch := first | omega | (simp only [List.length_cons, List.length_nil, List.length_append, u8s_len]; omega)) only [go_sem, ↓reduceIte, true_and, Nat.reduceLeDiff, Nat.reduceEqDiff, Nat.reduceAdd, Nat.reduceBEq, Int.reduceEq, H.cv_3_57, H.cv_5_3, H.cv_57_3, t0, hv.same, hv.disc]
    refine (may_ok H hv (by omega) _).mono ?_
    rintro _ _ ⟨rfl, hh⟩; subst hh
    have fin : ∀ t : Nat → AV, True := fun _ => trivial
    cases hs1 : Srt l with
    | false =>
      rw [contK_some]; simp (disch := first | omega | (simp only [List.length_cons, List.length_nil, List.length_append, u8s_len]; omega)) only [go_sem, ↓reduceIte, true_and, Nat.reduceLeDiff, Nat.reduceEqDiff, Nat.reduceAdd, Nat.reduceBEq, Int.reduceEq, H.cv_3_57, H.cv_5_3, H.cv_57_3, t9, t10]
      refine (none_ok H (n := 1) SL.nil (by simp) _).mono ?_
      rintro _ _ ⟨rfl, hh⟩; subst hh
      rw [contK_some]; simp (disch := first | omega | (simp only [List.length_cons, List.length_nil, List.length_append, u8s_len]; omega)) only [go_sem, ↓reduceIte, true_and, Nat.reduceLeDiff, Nat.reduceEqDiff, Nat.reduceAdd, Nat.reduceBEq, Int.reduceEq, H.cv_3_57, H.cv_5_3, H.cv_57_3]
      refine (awake_ok H L _).mono ?_
      rintro _ _ ⟨rfl, hh⟩; subst hh
      rw [contK_some]; simp (disch := first | omega | (simp only [List.length_cons, List.length_nil, List.length_append, u8s_len]; omega)) only [go_sem, ↓reduceIte, true_and, Nat.reduceLeDiff, Nat.reduceEqDiff, Nat.reduceAdd, Nat.reduceBEq, Int.reduceEq, H.cv_3_57, H.cv_5_3, H.cv_57_3]
    | true =>
      have hm0 : m < ((0 : Nat) : Int) := by
        rw [hs1, Bool.true_and] at hs
        have := of_decide_eq_false hs
        omega
      rw [contK_some]; simp (disch := first | omega | (simp only [List.length_cons, List.length_nil, List.length_append, u8s_len]; omega)) only [go_sem, ↓reduceIte, true_and, Nat.reduceLeDiff, Nat.reduceEqDiff, Nat.reduceAdd, Nat.reduceBEq, Int.reduceEq, H.cv_3_57, H.cv_5_3, H.cv_57_3, t2, t9, t10, hm0]
      refine (none_ok H (n := 1) SL.nil (by simp) _).mono ?_
      rintro _ _ ⟨rfl, hh⟩; subst hh
      rw [contK_some]; simp (disch := first | omega | (simp only [List.length_cons, List.length_nil, List.length_append, u8s_len]; omega)) only [go_sem, ↓reduceIte, true_and, Nat.reduceLeDiff, Nat.reduceEqDiff, Nat.reduceAdd, Nat.reduceBEq, Int.reduceEq, H.cv_3_57, H.cv_5_3, H.cv_57_3]
      refine (awake_ok H L _).mono ?_
      rintro _ _ ⟨rfl, hh⟩; subst hh
      rw [contK_some]; simp (disch := first | omega | (simp only [List.length_cons, List.length_nil, List.length_append, u8s_len]; omega)) only [go_sem, ↓reduceIte, true_and, Nat.reduceLeDiff, Nat.reduceEqDiff, Nat.reduceAdd, Nat.reduceBEq, Int.reduceEq, H.cv_3_57, H.cv_5_3, H.cv_57_3]
  | true =>
    rw [hs] at hr
    obtain ⟨s, rfl, hr⟩ := hr
    rw [Bool.and_eq_true, decide_eq_true_eq] at hs
    obtain ⟨hs, hm0⟩ := hs
    obtain ⟨m, rfl⟩ : ∃ k : Nat, m = (k : Nat) := ⟨m.toNat, by omega⟩
    have hrd := hr.rd
    have hsd : s.dis = s ∧ s.disc = s ∧ s.isOwn = false := by
      rcases hr with ⟨rfl | rfl, _, _⟩ | ⟨_, _, _, _, rfl, _⟩ <;> exact ⟨rfl, rfl, rfl⟩
    obtain ⟨sd1, sd2, sd3⟩ := hsd
    have sl := fun t => hrd.len (t := t)
    rw [prs_len] at sl
    have hon := scan_on (l := l) (f := f) (to := to) (m := m) hs
    have hslen := scan_len (l := l) (f := f) (to := to) m
    have halen := scan_len (l := l) (f := f) (to := to) l.length
    rw [Int.toNat_natCast] at hr hrd sl
    rw [contK_some]; simp (disch := first | omega | (simp only [List.length_cons, List.length_nil, List.length_append, u8s_len]; omega)) only [go_sem, ↓reduceIte, true_and, Nat.reduceLeDiff, Nat.reduceEqDiff, Nat.reduceAdd, Nat.reduceBEq, Int.reduceEq, H.cv_3_57, H.cv_5_3, H.cv_57_3, errN, sd1, sd2]
    refine hN _ ?_; clear hN N
    refine W_forget (fun t => t 0 = v ∧ t 2 = .sc (.int .i64 (m : Nat)) ∧ t 7 = .sc (.string f) ∧ t 8 = .sc (.string to) ∧ t 9 = s ∧ t 10 = .sc (.int .i64 ((0 : Nat) : Int)) ∧ True) (by simp [upd_at, *] <;> (first | rfl | exact ⟨rfl, rfl⟩ | exact ⟨rfl, rfl, rfl⟩ | exact ⟨rfl, rfl, rfl, rfl⟩ | exact ⟨rfl, rfl, rfl, rfl, rfl⟩)) ?_; rintro t ⟨t0, t2, t7, t8, t9, t10, -⟩
    (refine W_seq_gen fun N hN => ?_); simp (disch := first | omega | (simp only [List.length_cons, List.length_nil, List.length_append, u8s_len]; omega)) only [go_sem, ↓reduceIte, true_and, Nat.reduceLeDiff, Nat.reduceEqDiff, Nat.reduceAdd, Nat.reduceBEq, Int.reduceEq, H.cv_3_57, H.cv_5_3, H.cv_57_3, t0, hv.same, hv.disc]
    refine (may_ok H hv (by omega) _).mono ?_
    rintro _ h1 ⟨rfl, rfl⟩
    rw [hs]
    have nneg : ¬ ((m : Nat) : Int) < ((0 : Nat) : Int) := by omega
    rw [contK_some]; simp (disch := first | omega | (simp only [List.length_cons, List.length_nil, List.length_append, u8s_len]; omega)) only [go_sem, ↓reduceIte, true_and, Nat.reduceLeDiff, Nat.reduceEqDiff, Nat.reduceAdd, Nat.reduceBEq, Int.reduceEq, H.cv_3_57, H.cv_5_3, H.cv_57_3, t2, nneg]
    refine hN _ ?_; clear hN N
    refine W_forget (fun t => t 0 = v ∧ t 2 = .sc (.int .i64 (m : Nat)) ∧ t 7 = .sc (.string f) ∧ t 8 = .sc (.string to) ∧ t 9 = s ∧ t 10 = .sc (.int .i64 ((0 : Nat) : Int)) ∧ True) (by simp [upd_at, *] <;> (first | rfl | exact ⟨rfl, rfl⟩ | exact ⟨rfl, rfl, rfl⟩ | exact ⟨rfl, rfl, rfl, rfl⟩ | exact ⟨rfl, rfl, rfl, rfl, rfl⟩)) ?_; rintro t ⟨t0, t2, t7, t8, t9, t10, -⟩
    (refine W_seq_gen fun N hN => ?_); simp (disch := first | omega | (simp only [List.length_cons, List.length_nil, List.length_append, u8s_len]; omega)) only [go_sem, ↓reduceIte, true_and, Nat.reduceLeDiff, Nat.reduceEqDiff, Nat.reduceAdd, Nat.reduceBEq, Int.reduceEq, H.cv_3_57, H.cv_5_3, H.cv_57_3, t0, t2, t7, t8, t9, t10, hv.same, hv.disc, sd1, sd2]
    refine (rscan_ok H hv (by omega) (by omega) _).mono ?_
    rintro y h1 ⟨hy, rfl⟩
    rw [scan_eq m hs] at hy
    have slen : (scanS l f to m).length ≤ l.length := by rw [hslen]; omega
    rw [contK_some]; simp (disch := first | omega | (simp only [List.length_cons, List.length_nil, List.length_append, u8s_len]; omega)) only [go_sem, ↓reduceIte, true_and, Nat.reduceLeDiff, Nat.reduceEqDiff, Nat.reduceAdd, Nat.reduceBEq, Int.reduceEq, H.cv_3_57, H.cv_5_3, H.cv_57_3, t9, sd1, sd2, sd3, Bool.not_false, Bool.true_or]
    refine (same_rd H HC hrd hy (by omega) (by omega) ).mono ?_
    rintro _ h1 ⟨rfl, rfl⟩
    rw [contK_some]; simp (disch := first | omega | (simp only [List.length_cons, List.length_nil, List.length_append, u8s_len]; omega)) only [go_sem, ↓reduceIte, true_and, Nat.reduceLeDiff, Nat.reduceEqDiff, Nat.reduceAdd, Nat.reduceBEq, Int.reduceEq, H.cv_3_57, H.cv_5_3, H.cv_57_3, decide_true]
    refine hN _ ?_; clear hN N
    refine W_forget (fun t => t 0 = v ∧ t 2 = .sc (.int .i64 (m : Nat)) ∧ t 7 = .sc (.string f) ∧ t 8 = .sc (.string to) ∧ t 9 = s ∧ t 10 = .sc (.int .i64 ((0 : Nat) : Int)) ∧ True) (by simp [upd_at, *] <;> (first | rfl | exact ⟨rfl, rfl⟩ | exact ⟨rfl, rfl, rfl⟩ | exact ⟨rfl, rfl, rfl, rfl⟩ | exact ⟨rfl, rfl, rfl, rfl, rfl⟩)) ?_; rintro t ⟨t0, t2, t7, t8, t9, t10, -⟩
    (refine W_seq_gen fun N hN => ?_); simp (disch := first | omega | (simp only [List.length_cons, List.length_nil, List.length_append, u8s_len]; omega)) only [go_sem, ↓reduceIte, true_and, Nat.reduceLeDiff, Nat.reduceEqDiff, Nat.reduceAdd, Nat.reduceBEq, Int.reduceEq, H.cv_3_57, H.cv_5_3, H.cv_57_3, t0, t7, t8, hv.same, hv.disc, hv.sl.len, e1]
    refine (scan_ok H L hv (by omega) (by omega) _).mono ?_
    have hok : (Srt l && decide ((0 : Int) ≤ (l.length : Nat))) = true := by rw [hs]; simp
    rw [hok]
    rintro _ h1 ⟨al, rfl, hal, rfl⟩
    rw [Int.toNat_natCast] at hal
    have alen : (scanS l f to l.length).length ≤ l.length := by rw [halen]; omega
    have all := fun (t : Nat → AV) (h : Heap) => hal.sl.len (t := t) (h := h)
    rw [prs_len] at all
    rw [contK_some]; simp (disch := first | omega | (simp only [List.length_cons, List.length_nil, List.length_append, u8s_len]; omega)) only [go_sem, ↓reduceIte, true_and, Nat.reduceLeDiff, Nat.reduceEqDiff, Nat.reduceAdd, Nat.reduceBEq, Int.reduceEq, H.cv_3_57, H.cv_5_3, H.cv_57_3, errN, hal.same, hal.disc]
    refine hN _ ?_; clear hN N
    refine W_forget (fun t => t 0 = v ∧ t 8 = .sc (.string to) ∧ t 9 = s ∧ t 11 = al ∧ t 12 = .sc (.int .i64 ((0 : Nat) : Int)) ∧ True) (by simp [upd_at, *] <;> (first | rfl | exact ⟨rfl, rfl⟩ | exact ⟨rfl, rfl, rfl⟩ | exact ⟨rfl, rfl, rfl, rfl⟩ | exact ⟨rfl, rfl, rfl, rfl, rfl⟩)) ?_; rintro t ⟨t0, t8, t9, t11, t12, -⟩
    have c1 : ¬ (scanS l f to l.length).length < (scanS l f to m).length := by rw [hslen, halen]; omega
    (refine W_seq_gen fun N hN => ?_); simp (disch := first | omega | (simp only [List.length_cons, List.length_nil, List.length_append, u8s_len]; omega)) only [go_sem, ↓reduceIte, true_and, Nat.reduceLeDiff, Nat.reduceEqDiff, Nat.reduceAdd, Nat.reduceBEq, Int.reduceEq, H.cv_3_57, H.cv_5_3, H.cv_57_3, t9, t11, t12, sd1, sd2, sl, hal.same, hal.disc, all, c1]
    refine hN _ ?_; clear hN N
    refine W_forget (fun t => t 0 = v ∧ t 8 = .sc (.string to) ∧ t 9 = s ∧ t 11 = al ∧ True) (by simp [upd_at, *] <;> (first | rfl | exact ⟨rfl, rfl⟩ | exact ⟨rfl, rfl, rfl⟩ | exact ⟨rfl, rfl, rfl, rfl⟩ | exact ⟨rfl, rfl, rfl, rfl, rfl⟩)) ?_; rintro t ⟨t0, t8, t9, t11, -⟩
    by_cases c2 : (scanS l f to m).length = (scanS l f to l.length).length
    · have d2 : decide ((scanS l f to m).length = (scanS l f to l.length).length) = true := decide_eq_true c2
      (refine W_seq_gen fun N hN => ?_); simp (disch := first | omega | (simp only [List.length_cons, List.length_nil, List.length_append, u8s_len]; omega)) only [go_sem, ↓reduceIte, true_and, Nat.reduceLeDiff, Nat.reduceEqDiff, Nat.reduceAdd, Nat.reduceBEq, Int.reduceEq, H.cv_3_57, H.cv_5_3, H.cv_57_3, t9, t11, sd1, sd2, sl, hal.same, hal.disc, all, d2]
      refine (awake_ok H L _).mono ?_
      rintro _ _ ⟨rfl, hh⟩; subst hh
      rw [contK_some]; simp (disch := first | omega | (simp only [List.length_cons, List.length_nil, List.length_append, u8s_len]; omega)) only [go_sem, ↓reduceIte, true_and, Nat.reduceLeDiff, Nat.reduceEqDiff, Nat.reduceAdd, Nat.reduceBEq, Int.reduceEq, H.cv_3_57, H.cv_5_3, H.cv_57_3]
    have d2 : decide ((scanS l f to m).length = (scanS l f to l.length).length) = false := decide_eq_false c2
    (refine W_seq_gen fun N hN => ?_); simp (disch := first | omega | (simp only [List.length_cons, List.length_nil, List.length_append, u8s_len]; omega)) only [go_sem, ↓reduceIte, true_and, Nat.reduceLeDiff, Nat.reduceEqDiff, Nat.reduceAdd, Nat.reduceBEq, Int.reduceEq, H.cv_3_57, H.cv_5_3, H.cv_57_3, t9, t11, sd1, sd2, sl, hal.same, hal.disc, all, d2]
    refine hN _ ?_; clear hN N
    refine W_forget (fun t => t 0 = v ∧ t 8 = .sc (.string to) ∧ t 9 = s ∧ t 11 = al ∧ True) (by simp [upd_at, *] <;> (first | rfl | exact ⟨rfl, rfl⟩ | exact ⟨rfl, rfl, rfl⟩ | exact ⟨rfl, rfl, rfl, rfl⟩ | exact ⟨rfl, rfl, rfl, rfl, rfl⟩)) ?_; rintro t ⟨t0, t8, t9, t11, -⟩
    obtain ⟨p, hp, happ⟩ := hon (by omega)
    have g0 : (prs (scanS l f to l.length))[(scanS l f to m).length]? = some [.sc (.string p.1), .sc (.string p.2)] := by simp [prs, hp]
    (refine W_seq_gen fun N hN => ?_); simp (disch := first | omega | (simp only [List.length_cons, List.length_nil, List.length_append, u8s_len]; omega)) only [go_sem, ↓reduceIte, true_and, Nat.reduceLeDiff, Nat.reduceEqDiff, Nat.reduceAdd, Nat.reduceBEq, Int.reduceEq, H.cv_3_57, H.cv_5_3, H.cv_57_3, t0, t8, t9, t11, sd1, sd2, sl, hal.same, hal.disc, hal.sl.ia, g0, hv.same, hv.disc, hv.sl.len, e1]
    refine (scan_ok H L hv (by omega) (by omega) _).mono ?_
    rw [hok]
    rintro _ h1 ⟨re, rfl, hre, rfl⟩
    rw [Int.toNat_natCast] at hre
    rw [contK_some]; simp (disch := first | omega | (simp only [List.length_cons, List.length_nil, List.length_append, u8s_len]; omega)) only [go_sem, ↓reduceIte, true_and, Nat.reduceLeDiff, Nat.reduceEqDiff, Nat.reduceAdd, Nat.reduceBEq, Int.reduceEq, H.cv_3_57, H.cv_5_3, H.cv_57_3, errN, hre.same, hre.disc]
    refine hN _ ?_; clear hN N
    refine W_forget (fun t => t 9 = s ∧ t 11 = al ∧ t 13 = re ∧ t 14 = .sc (.int .i64 ((0 : Nat) : Int)) ∧ True) (by simp [upd_at, *] <;> (first | rfl | exact ⟨rfl, rfl⟩ | exact ⟨rfl, rfl, rfl⟩ | exact ⟨rfl, rfl, rfl, rfl⟩ | exact ⟨rfl, rfl, rfl, rfl, rfl⟩)) ?_; rintro t ⟨t9, t11, t13, t14, -⟩
    simp (disch := first | omega | (simp only [List.length_cons, List.length_nil, List.length_append, u8s_len]; omega)) only [go_sem, ↓reduceIte, true_and, Nat.reduceLeDiff, Nat.reduceEqDiff, Nat.reduceAdd, Nat.reduceBEq, Int.reduceEq, H.cv_3_57, H.cv_5_3, H.cv_57_3, t9, t13, t14, sd1, hre.same, hre.disc, hre.sl.elems]
    have rlen : (scanS l p.1 to l.length).length ≤ l.length := by rw [scan_len]; omega
    refine after_app hr (by omega) ?_
    intro x h2 hx
    rw [happ] at hx
    simp only [putd]
    simp (disch := first | omega | (simp only [List.length_cons, List.length_nil, List.length_append, u8s_len]; omega)) only [go_sem, ↓reduceIte, true_and, Nat.reduceLeDiff, Nat.reduceEqDiff, Nat.reduceAdd, Nat.reduceBEq, Int.reduceEq, H.cv_3_57, H.cv_5_3, H.cv_57_3, t11, hal.same, hal.disc, hal.own, Bool.not_false, Bool.or_true, Bool.true_or]
    refine (same_rd H HC hx hal.sl (by omega) (by omega)).mono ?_
    rintro _ _ ⟨rfl, hh⟩; subst hh
    rw [contK_some]; simp (disch := first | omega | (simp only [List.length_cons, List.length_nil, List.length_append, u8s_len]; omega)) only [go_sem, ↓reduceIte, true_and, Nat.reduceLeDiff, Nat.reduceEqDiff, Nat.reduceAdd, Nat.reduceBEq, Int.reduceEq, H.cv_3_57, H.cv_5_3, H.cv_57_3, decide_true]
    refine (awake_ok H L _).mono ?_
    rintro _ _ ⟨rfl, hh⟩; subst hh
    rw [contK_some]; simp (disch := first | omega | (simp only [List.length_cons, List.length_nil, List.length_append, u8s_len]; omega)) only [go_sem, ↓reduceIte, true_and, Nat.reduceLeDiff, Nat.reduceEqDiff, Nat.reduceAdd, Nat.reduceBEq, Int.reduceEq, H.cv_3_57, H.cv_5_3, H.cv_57_3]
end Go.Proofs.Ytmdkgaljnoookaa
