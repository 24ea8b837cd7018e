/- The law of orders. -/
import Derived.Test.YtmdkgaljnoookaaSheafOrd
set_option linter.unusedVariables false
set_option linter.unusedSimpArgs false
namespace Go.Proofs.Ytmdkgaljnoookaa
open Go.Am
theorem app_new {sz bytes : Nat} {t : Nat → AV} {h : Heap} {ys : List (List AV)} (hy : 0 < ys.length) (hb : ys.length * bytes ≤ 2 ^ 46) :
    aexApp true sz bytes t h ys (.bs true sz [] (some 0)) = some (.new (fun o => .rs o 0 sz ys.length none) (.arr (ys.flatten.map AV.disc)) t) := by
  have h1 : ¬ (ys.length = 0) := by omega
  have h2 : ¬ (2 ^ 46 < ys.length * bytes) := by omega
  simp [aexApp, h1, h2, hy]
theorem app_none {sz bytes : Nat} {t : Nat → AV} {h : Heap} : aexApp true sz bytes t h [] (.bs true sz [] (some 0)) = some (.val (.bs true sz [] (some 0)) t h) := by
  simp [aexApp]
theorem flatP_disc : ∀ q : List Pr, (prs q).flatten.map AV.disc = flatP q
  | [] => rfl
  | p :: q => by
    have := flatP_disc q
    show _ :: _ :: ((prs q).flatten.map AV.disc) = _
    rw [this]
    rfl
theorem aexIad_rs {sz o c n lim i} {t : Nat → AV} {h : Heap} (hi : i < n) : aexIad sz ((i : Nat) : Int) t h (.rs o c sz n lim) = some (.val (.op o (c + i * sz)) t h) := by
  have : (sz = sz ∧ (0 : Int) ≤ (i : Int) ∧ (i : Int) < n) := ⟨rfl, by omega, by omega⟩
  simp only [aexIad, this, and_self, if_true, Int.toNat_natCast]
theorem aexLen_rs {o c sz n lim} {t : Nat → AV} {h : Heap} : aexLen 0 t h (.rs o c sz n lim) = some (.val (.sc (.int .i64 (n : Nat))) t h) := rfl

variable {P : Program} (H : Has P) (L : Lb P) (HC : HasC P)
include H
theorem pset_det {v : AV} {l : List Pr} {k w : ByteArray} (hv : SL 2 v (prs l)) (hl : l.length < 2 ^ 38) (hs : Srt l = true) (h : Heap) :
    AWF P ann 0 13 [v, .sc (.string k), .sc (.string w)] h fun r h' => r = .tu [(growN 2 (prs (setS l k w))).dis, errN true] ∧ h' = h := by
  refine AWF.fnc H.f0_13 rfl ?_
  (refine W_seq_gen fun N hN => ?_); simp (disch := first | omega | (simp only [List.length_cons, List.length_nil, List.length_append, u8s_len]; omega)) only [go_sem, ↓reduceIte, true_and, Nat.reduceLeDiff, Nat.reduceEqDiff, Nat.reduceAdd, Nat.reduceBEq, Int.reduceEq, H.cv_3_57, H.cv_5_3, H.cv_57_3]
  refine hN _ ?_; clear hN N
  simp (disch := first | omega | (simp only [List.length_cons, List.length_nil, List.length_append, u8s_len]; omega)) only [go_sem, ↓reduceIte, true_and, Nat.reduceLeDiff, Nat.reduceEqDiff, Nat.reduceAdd, Nat.reduceBEq, Int.reduceEq, H.cv_3_57, H.cv_5_3, H.cv_57_3]
  refine (merge_det H hv.dis (w := .bs true 2 [[.sc (.string k), .sc (.string w)]] (some 1)) (m := [(k, w)]) SL.bs hl (by simp) hs rfl _).mono ?_
  rw [merge_one (k, w) hs]
  rintro _ _ ⟨rfl, hh⟩; subst hh
  have hx := growN_sf (prs (setS l k w))
  generalize (growN 2 (prs (setS l k w))).dis = x at hx
  rw [contK_some]; simp (disch := first | omega | (simp only [List.length_cons, List.length_nil, List.length_append, u8s_len]; omega)) only [go_sem, ↓reduceIte, true_and, Nat.reduceLeDiff, Nat.reduceEqDiff, Nat.reduceAdd, Nat.reduceBEq, Int.reduceEq, H.cv_3_57, H.cv_5_3, H.cv_57_3, hx.same, hx.disc, errN]

include L HC
theorem orders_law {v w : AV} {l : List Pr} {mix : List UInt8} (hv : SF 2 v (prs l)) (hw : SF 1 w (u8s mix)) (hl : l.length < 2 ^ 60) (hm : mix.length < 2 ^ 60) (h : Heap) :
    AWF P ann 0 4 [v, w] h fun r h' => r = .sc (.bool true) := by
  refine AWF.fnc H.f0_4 rfl ?_
  have e1 := @prs_len l
  have e2 := @u8s_len mix
  (refine W_seq_gen fun N hN => ?_); simp (disch := first | omega | (simp only [List.length_cons, List.length_nil, List.length_append, u8s_len]; omega)) only [go_sem, ↓reduceIte, true_and, Nat.reduceLeDiff, Nat.reduceEqDiff, Nat.reduceAdd, Nat.reduceBEq, Int.reduceEq, H.cv_3_57, H.cv_5_3, H.cv_57_3]
  refine hN _ ?_; clear hN N
  by_cases hb1 : 100 < l.length
  · (refine W_seq_gen fun N hN => ?_); simp (disch := first | omega | (simp only [List.length_cons, List.length_nil, List.length_append, u8s_len]; omega)) only [go_sem, ↓reduceIte, true_and, Nat.reduceLeDiff, Nat.reduceEqDiff, Nat.reduceAdd, Nat.reduceBEq, Int.reduceEq, H.cv_3_57, H.cv_5_3, H.cv_57_3, hv.same, hv.sl.len, e1, hb1]
    refine (awake_ok H L _).mono ?_
    rintro _ _ ⟨rfl, hh⟩; subst hh
    rw [contK_some]; simp (disch := first | omega | (simp only [List.length_cons, List.length_nil, List.length_append, u8s_len]; omega)) only [go_sem, ↓reduceIte, true_and, Nat.reduceLeDiff, Nat.reduceEqDiff, Nat.reduceAdd, Nat.reduceBEq, Int.reduceEq, H.cv_3_57, H.cv_5_3, H.cv_57_3]
  (refine W_seq_gen fun N hN => ?_); simp (disch := first | omega | (simp only [List.length_cons, List.length_nil, List.length_append, u8s_len]; omega)) only [go_sem, ↓reduceIte, true_and, Nat.reduceLeDiff, Nat.reduceEqDiff, Nat.reduceAdd, Nat.reduceBEq, Int.reduceEq, H.cv_3_57, H.cv_5_3, H.cv_57_3, hv.same, hv.sl.len, e1, hb1]
  refine (may_ok H hv hl _).mono ?_
  rintro _ _ ⟨rfl, hh⟩; subst hh
  cases hs : Srt l with
  | false =>
    rw [contK_some]; simp (disch := first | omega | (simp only [List.length_cons, List.length_nil, List.length_append, u8s_len]; omega)) only [go_sem, ↓reduceIte, true_and, Nat.reduceLeDiff, Nat.reduceEqDiff, Nat.reduceAdd, Nat.reduceBEq, Int.reduceEq, H.cv_3_57, H.cv_5_3, H.cv_57_3]
    refine (awake_ok H L _).mono ?_
    rintro _ _ ⟨rfl, hh⟩; subst hh
    rw [contK_some]; simp (disch := first | omega | (simp only [List.length_cons, List.length_nil, List.length_append, u8s_len]; omega)) only [go_sem, ↓reduceIte, true_and, Nat.reduceLeDiff, Nat.reduceEqDiff, Nat.reduceAdd, Nat.reduceBEq, Int.reduceEq, H.cv_3_57, H.cv_5_3, H.cv_57_3]
  | true =>
    rw [contK_some]; simp (disch := first | omega | (simp only [List.length_cons, List.length_nil, List.length_append, u8s_len]; omega)) only [go_sem, ↓reduceIte, true_and, Nat.reduceLeDiff, Nat.reduceEqDiff, Nat.reduceAdd, Nat.reduceBEq, Int.reduceEq, H.cv_3_57, H.cv_5_3, H.cv_57_3]
    refine hN _ ?_; clear hN N
    rcases Nat.eq_zero_or_pos l.length with h0 | hpos
    · have hl0 : l = [] := List.eq_nil_of_length_eq_zero h0
      subst hl0
      have hp0 : prs [] = [] := rfl
      (refine W_seq_gen fun N hN => ?_); simp (disch := first | omega | (simp only [List.length_cons, List.length_nil, List.length_append, u8s_len]; omega)) only [go_sem, ↓reduceIte, true_and, Nat.reduceLeDiff, Nat.reduceEqDiff, Nat.reduceAdd, Nat.reduceBEq, Int.reduceEq, H.cv_3_57, H.cv_5_3, H.cv_57_3, hv.same, hv.sl.elems, hp0, app_none]
      refine hN _ ?_; clear hN N
      (refine W_seq_gen fun M hM => ?_)
      (refine W_seq_gen fun N hN => ?_); simp (disch := first | omega | (simp only [List.length_cons, List.length_nil, List.length_append, u8s_len]; omega)) only [go_sem, ↓reduceIte, true_and, Nat.reduceLeDiff, Nat.reduceEqDiff, Nat.reduceAdd, Nat.reduceBEq, Int.reduceEq, H.cv_3_57, H.cv_5_3, H.cv_57_3]
      refine hN _ ?_; clear hN N
      simp (disch := first | omega | (simp only [List.length_cons, List.length_nil, List.length_append, u8s_len]; omega)) only [go_sem, ↓reduceIte, true_and, Nat.reduceLeDiff, Nat.reduceEqDiff, Nat.reduceAdd, Nat.reduceBEq, Int.reduceEq, H.cv_3_57, H.cv_5_3, H.cv_57_3]
      refine AW_loopN (fun n t h' => t 0 = v ∧ t 5 = .bs true 2 [] (some 0) ∧ t 6 = .sc (.int .i64 (0 : Nat))) (n := 0) ⟨rfl, rfl, rfl⟩ ?_
      rintro n t h' ⟨t0, t5, t6⟩
      (refine W_seq_gen fun N hN => ?_); simp (disch := first | omega | (simp only [List.length_cons, List.length_nil, List.length_append, u8s_len]; omega)) only [go_sem, ↓reduceIte, true_and, Nat.reduceLeDiff, Nat.reduceEqDiff, Nat.reduceAdd, Nat.reduceBEq, Int.reduceEq, H.cv_3_57, H.cv_5_3, H.cv_57_3, t5, t6, Nat.lt_irrefl, List.length_nil]
      refine hM _ ?_; clear hN N hM M
      (refine W_seq_gen fun N hN => ?_); simp (disch := first | omega | (simp only [List.length_cons, List.length_nil, List.length_append, u8s_len]; omega)) only [go_sem, ↓reduceIte, true_and, Nat.reduceLeDiff, Nat.reduceEqDiff, Nat.reduceAdd, Nat.reduceBEq, Int.reduceEq, H.cv_3_57, H.cv_5_3, H.cv_57_3]
      refine hN _ ?_; clear hN N
      (refine W_seq_gen fun M hM => ?_)
      (refine W_seq_gen fun N hN => ?_); simp (disch := first | omega | (simp only [List.length_cons, List.length_nil, List.length_append, u8s_len]; omega)) only [go_sem, ↓reduceIte, true_and, Nat.reduceLeDiff, Nat.reduceEqDiff, Nat.reduceAdd, Nat.reduceBEq, Int.reduceEq, H.cv_3_57, H.cv_5_3, H.cv_57_3]
      refine hN _ ?_; clear hN N
      simp (disch := first | omega | (simp only [List.length_cons, List.length_nil, List.length_append, u8s_len]; omega)) only [go_sem, ↓reduceIte, true_and, Nat.reduceLeDiff, Nat.reduceEqDiff, Nat.reduceAdd, Nat.reduceBEq, Int.reduceEq, H.cv_3_57, H.cv_5_3, H.cv_57_3]
      refine AW_loopN (fun n t h' => t 0 = v ∧ t 5 = .bs true 2 [] (some 0) ∧ t 10 = .sc (.int .i64 (0 : Nat)) ∧ ∃ z, t 9 = z ∧ SL 2 z (prs [])) (n := 0) ⟨?_, ?_, rfl, _, rfl, SL.bs⟩ ?_
      · simpa [upd_at] using t0
      · simpa [upd_at] using t5
      clear t0 t5 t6 t
      rintro n t h' ⟨t0, t5, t10, z, t9, hz⟩
      (refine W_seq_gen fun N hN => ?_); simp (disch := first | omega | (simp only [List.length_cons, List.length_nil, List.length_append, u8s_len]; omega)) only [go_sem, ↓reduceIte, true_and, Nat.reduceLeDiff, Nat.reduceEqDiff, Nat.reduceAdd, Nat.reduceBEq, Int.reduceEq, H.cv_3_57, H.cv_5_3, H.cv_57_3, t5, t10, Nat.lt_irrefl, List.length_nil]
      refine hM _ ?_; clear hN N hM M
      simp (disch := first | omega | (simp only [List.length_cons, List.length_nil, List.length_append, u8s_len]; omega)) only [go_sem, ↓reduceIte, true_and, Nat.reduceLeDiff, Nat.reduceEqDiff, Nat.reduceAdd, Nat.reduceBEq, Int.reduceEq, H.cv_3_57, H.cv_5_3, H.cv_57_3, t0, t9, hv.same, hv.own, Bool.not_false, Bool.or_true]
      refine (same_ok H HC hz.dis hv.sl (by simp) (by simp) _).mono ?_
      rintro _ _ ⟨rfl, hh⟩; subst hh
      rw [contK_some]; simp (disch := first | omega | (simp only [List.length_cons, List.length_nil, List.length_append, u8s_len]; omega)) only [go_sem, ↓reduceIte, true_and, Nat.reduceLeDiff, Nat.reduceEqDiff, Nat.reduceAdd, Nat.reduceBEq, Int.reduceEq, H.cv_3_57, H.cv_5_3, H.cv_57_3]
      refine (awake_ok H L _).mono ?_
      rintro _ _ ⟨rfl, hh⟩; subst hh
      rw [contK_some]; simp (disch := first | omega | (simp only [List.length_cons, List.length_nil, List.length_append, u8s_len]; omega)) only [go_sem, ↓reduceIte, true_and, Nat.reduceLeDiff, Nat.reduceEqDiff, Nat.reduceAdd, Nat.reduceBEq, Int.reduceEq, H.cv_3_57, H.cv_5_3, H.cv_57_3]
    have hfl := flatP_disc l
    (refine W_seq_gen fun N hN => ?_); simp (disch := first | omega | (simp only [List.length_cons, List.length_nil, List.length_append, u8s_len]; omega)) only [go_sem, ↓reduceIte, true_and, Nat.reduceLeDiff, Nat.reduceEqDiff, Nat.reduceAdd, Nat.reduceBEq, Int.reduceEq, H.cv_3_57, H.cv_5_3, H.cv_57_3, hv.same, hv.sl.elems, app_new (ys := prs l) (sz := 2) (bytes := 32) (by omega) (by omega), hfl, e1]
    intro o ho
    have f1 : ∀ h0 : Heap, upd h0 o (some (.arr (flatP l))) o = some (.arr (flatP l)) := fun _ => upd_same _ _ _
    refine hN _ ?_; clear hN N
    rename_i hh
    have f2 := f1 hh
    generalize upd hh o (some (.arr (flatP l))) = h2 at f2
    clear f1 ho
    (refine W_seq_gen fun M hM => ?_)
    (refine W_seq_gen fun N hN => ?_); simp (disch := first | omega | (simp only [List.length_cons, List.length_nil, List.length_append, u8s_len]; omega)) only [go_sem, ↓reduceIte, true_and, Nat.reduceLeDiff, Nat.reduceEqDiff, Nat.reduceAdd, Nat.reduceBEq, Int.reduceEq, H.cv_3_57, H.cv_5_3, H.cv_57_3]
    refine hN _ ?_; clear hN N
    simp (disch := first | omega | (simp only [List.length_cons, List.length_nil, List.length_append, u8s_len]; omega)) only [go_sem, ↓reduceIte, true_and, Nat.reduceLeDiff, Nat.reduceEqDiff, Nat.reduceAdd, Nat.reduceBEq, Int.reduceEq, H.cv_3_57, H.cv_5_3, H.cv_57_3]
    refine AW_loopN (fun n t h' => ∃ i q, n = l.length - i ∧ i ≤ l.length ∧ t 0 = v ∧ t 1 = w ∧ t 5 = .rs o 0 2 l.length none ∧ t 6 = .sc (.int .i64 (i : Nat)) ∧ q.Perm l ∧ h' o = some (.arr (flatP q)))
      (n := l.length) ⟨0, l, rfl, Nat.zero_le _, rfl, rfl, rfl, rfl, List.Perm.refl _, f2⟩ ?_
    clear f2
    rintro n t h' ⟨i, q, rfl, hi, t0, t1, t5, t6, hq, ho⟩
    have hql := hq.length_eq
    have dr : (AV.rs o 0 2 l.length none).dis = .rs o 0 2 l.length none := rfl
    by_cases hlt : i < l.length ∧ i < mix.length
    · obtain ⟨h1, h2⟩ := hlt
      generalize hk : mix[i].toNat % l.length = k
      have hkl : k < l.length := by rw [← hk]; exact Nat.mod_lt _ hpos
      have g0 := u8s_get h2
      (refine W_seq_gen fun N hN => ?_); simp (disch := first | omega | (simp only [List.length_cons, List.length_nil, List.length_append, u8s_len]; omega)) only [go_sem, ↓reduceIte, true_and, Nat.reduceLeDiff, Nat.reduceEqDiff, Nat.reduceAdd, Nat.reduceBEq, Int.reduceEq, H.cv_3_57, H.cv_5_3, H.cv_57_3, t1, t5, t6, dr, aexLen_rs, hw.same, hw.sl.len, e2, h1, h2]
      refine hN _ ?_; clear hN N
      (refine W_seq_gen fun N hN => ?_)
      rw [W_block]
      have hmod : (IntKind.i64.wrap (mix[i].toNat : Int)).tmod (l.length : Int) = ((k : Nat) : Int) := by
        have := mix[i].toNat_lt
        rw [wrap_i64u (by omega) (by omega), ← hk]
        exact (Int.ofNat_tmod _ _).symm
      (refine W_seq_gen fun N hN => ?_); simp (disch := first | omega | (simp only [List.length_cons, List.length_nil, List.length_append, u8s_len]; omega)) only [go_sem, ↓reduceIte, true_and, Nat.reduceLeDiff, Nat.reduceEqDiff, Nat.reduceAdd, Nat.reduceBEq, Int.reduceEq, H.cv_3_57, H.cv_5_3, H.cv_57_3, t1, t5, t6, dr, aexLen_rs, hw.same, hw.sl.ia, g0, hmod]
      refine hN _ ?_; clear hN N
      have hiq : i < q.length := by omega
      have hkq : k < q.length := by omega
      have ci : i * 2 + 2 ≤ 2 * q.length := by omega
      have ck : k * 2 + 2 ≤ 2 * q.length := by omega
      have di := flatP_drop q i hiq
      have dk := flatP_drop q k hkq
      have si := flatP_set q i hiq q[k]
      have hq1 : (q.set i q[k]).length = q.length := by simp
      have sk := flatP_set (q.set i q[k]) k (by omega) q[i]
      have hsw := (swap_perm q hiq hkq).trans hq
      (refine W_seq_gen fun N hN => ?_); simp (disch := first | omega | (simp only [List.length_cons, List.length_nil, List.length_append, u8s_len]; omega)) only [go_sem, ↓reduceIte, true_and, Nat.reduceLeDiff, Nat.reduceEqDiff, Nat.reduceAdd, Nat.reduceBEq, Int.reduceEq, H.cv_3_57, H.cv_5_3, H.cv_57_3, t5, t6, dr, aexIad_rs, h1, ho, flatP_len, Nat.zero_add, ci, di]
      intro b hb
      have hbo : o ≠ b := fun e => by rw [e, hb] at ho; cases ho
      have hbo2 : ¬ b = o := fun e => hbo e.symm
      have u1 : upd h' b (some (.arr [.sc (.string q[i].1), .sc (.string q[i].2)])) o = some (.arr (flatP q)) := by rw [upd_ne _ _ hbo, ho]
      have u2 : upd h' b (some (.arr [.sc (.string q[i].1), .sc (.string q[i].2)])) b = some (.arr [.sc (.string q[i].1), .sc (.string q[i].2)]) := upd_same _ _ _
      refine hN _ ?_; clear hN N
      generalize upd h' b (some (.arr [.sc (.string q[i].1), .sc (.string q[i].2)])) = h3 at u1 u2
      (refine W_seq_gen fun N hN => ?_); simp (disch := first | omega | (simp only [List.length_cons, List.length_nil, List.length_append, u8s_len]; omega)) only [go_sem, ↓reduceIte, true_and, Nat.reduceLeDiff, Nat.reduceEqDiff, Nat.reduceAdd, Nat.reduceBEq, Int.reduceEq, H.cv_3_57, H.cv_5_3, H.cv_57_3, t5, t6, dr, aexIad_rs, h1, hkl, u1, flatP_len, Nat.zero_add, ci, ck, dk, si]
      refine hN _ ?_; clear hN N
      have u3 : upd h3 o (some (.arr (flatP (q.set i q[k])))) o = some (.arr (flatP (q.set i q[k]))) := upd_same _ _ _
      have u4 : upd h3 o (some (.arr (flatP (q.set i q[k])))) b = some (.arr [.sc (.string q[i].1), .sc (.string q[i].2)]) := by rw [upd_ne _ _ hbo2, u2]
      generalize upd h3 o (some (.arr (flatP (q.set i q[k])))) = h4 at u3 u4
      simp (disch := first | omega | (simp only [List.length_cons, List.length_nil, List.length_append, u8s_len]; omega)) only [go_sem, ↓reduceIte, true_and, Nat.reduceLeDiff, Nat.reduceEqDiff, Nat.reduceAdd, Nat.reduceBEq, Int.reduceEq, H.cv_3_57, H.cv_5_3, H.cv_57_3, t5, t6, dr, aexIad_rs, hkl, u3, u4, flatP_len, hq1, Nat.zero_add, ck, sk]
      refine hN _ ?_; clear hN N
      simp (disch := first | omega | (simp only [List.length_cons, List.length_nil, List.length_append, u8s_len]; omega)) only [go_sem, ↓reduceIte, true_and, Nat.reduceLeDiff, Nat.reduceEqDiff, Nat.reduceAdd, Nat.reduceBEq, Int.reduceEq, H.cv_3_57, H.cv_5_3, H.cv_57_3, t6, nat_add]
      exact ⟨l.length - (i + 1), by omega, i + 1, _, rfl, by omega, t0, t1, t5, rfl, hsw, rfl⟩
    have fin : ∀ t : Nat → AV, t 0 = v → t 5 = .rs o 0 2 l.length none → M ⟨t, h'⟩ := by
      intro t t0 t5
      refine hM _ ?_; clear hM M
      (refine W_seq_gen fun N hN => ?_); simp (disch := first | omega | (simp only [List.length_cons, List.length_nil, List.length_append, u8s_len]; omega)) only [go_sem, ↓reduceIte, true_and, Nat.reduceLeDiff, Nat.reduceEqDiff, Nat.reduceAdd, Nat.reduceBEq, Int.reduceEq, H.cv_3_57, H.cv_5_3, H.cv_57_3]
      refine hN _ ?_; clear hN N
      (refine W_seq_gen fun M hM => ?_)
      (refine W_seq_gen fun N hN => ?_); simp (disch := first | omega | (simp only [List.length_cons, List.length_nil, List.length_append, u8s_len]; omega)) only [go_sem, ↓reduceIte, true_and, Nat.reduceLeDiff, Nat.reduceEqDiff, Nat.reduceAdd, Nat.reduceBEq, Int.reduceEq, H.cv_3_57, H.cv_5_3, H.cv_57_3]
      refine hN _ ?_; clear hN N
      simp (disch := first | omega | (simp only [List.length_cons, List.length_nil, List.length_append, u8s_len]; omega)) only [go_sem, ↓reduceIte, true_and, Nat.reduceLeDiff, Nat.reduceEqDiff, Nat.reduceAdd, Nat.reduceBEq, Int.reduceEq, H.cv_3_57, H.cv_5_3, H.cv_57_3]
      refine AW_loopN (fun n t h' => ∃ i z, n = l.length - i ∧ i ≤ l.length ∧ t 0 = v ∧ t 5 = .rs o 0 2 l.length none ∧ t 10 = .sc (.int .i64 (i : Nat)) ∧ h' o = some (.arr (flatP q)) ∧ t 9 = z ∧ SL 2 z (prs (setAll [] (q.take i))))
        (n := l.length) ⟨0, _, rfl, Nat.zero_le _, ?_, ?_, rfl, ho, rfl, SL.bs⟩ ?_
      · simpa [upd_at] using t0
      · simpa [upd_at] using t5
      clear t0 t5 t
      rintro n t h' ⟨i, z, rfl, hi, t0, t5, t10, ho, t9, hz⟩
      have hsrt := setAll_srt (q.take i) [] rfl
      have hlen : (setAll [] (q.take i)).length ≤ l.length := by
        have := mergeR_len [] (q.take i)
        have h3 : (q.take i).length ≤ q.length := by simp; omega
        have h4 : (setAll [] (q.take i)).length = (mergeR [] (q.take i)).length := rfl
        simp only [List.length_nil] at this
        omega
      rcases Nat.lt_or_ge i l.length with hlt | hge
      · have hiq : i < q.length := by omega
        have hn : q.take (i + 1) = q.take i ++ [q[i]] := by rw [List.take_add_one]; simp [hiq]
        have ci : i * 2 + 1 ≤ 2 * q.length := by omega
        have ci2 : i * 2 + 1 + 1 ≤ 2 * q.length := by omega
        have d0 := flatP_drop q i hiq
        have d1 : (flatP q).drop (i * 2 + 1) = .sc (.string q[i].2) :: flatP (q.drop (i + 1)) := by rw [← List.drop_drop, d0]; rfl
        (refine W_seq_gen fun N hN => ?_); simp (disch := first | omega | (simp only [List.length_cons, List.length_nil, List.length_append, u8s_len]; omega)) only [go_sem, ↓reduceIte, true_and, Nat.reduceLeDiff, Nat.reduceEqDiff, Nat.reduceAdd, Nat.reduceBEq, Int.reduceEq, H.cv_3_57, H.cv_5_3, H.cv_57_3, t5, t10, dr, aexLen_rs, hlt]
        refine hN _ ?_; clear hN N
        (refine W_seq_gen fun N hN => ?_)
        rw [W_block]
        (refine W_seq_gen fun N hN => ?_); simp (disch := first | omega | (simp only [List.length_cons, List.length_nil, List.length_append, u8s_len]; omega)) only [go_sem, ↓reduceIte, true_and, Nat.reduceLeDiff, Nat.reduceEqDiff, Nat.reduceAdd, Nat.reduceBEq, Int.reduceEq, H.cv_3_57, H.cv_5_3, H.cv_57_3, t5, t9, t10, dr, aexIad_rs, hlt, ho, flatP_len, Nat.zero_add, Nat.add_zero, ci, ci2, d0, d1]
        refine ⟨_, pset_det H hz.dis (by omega) hsrt _, ?_⟩
        have hx := growN_sf (prs (setS (setAll [] (q.take i)) q[i].1 q[i].2))
        generalize (growN 2 (prs (setS (setAll [] (q.take i)) q[i].1 q[i].2))).dis = x at hx
        rw [← setAll_snoc, ← hn] at hx
        rw [contK_some]; simp (disch := first | omega | (simp only [List.length_cons, List.length_nil, List.length_append, u8s_len]; omega)) only [go_sem, ↓reduceIte, true_and, Nat.reduceLeDiff, Nat.reduceEqDiff, Nat.reduceAdd, Nat.reduceBEq, Int.reduceEq, H.cv_3_57, H.cv_5_3, H.cv_57_3, errN, hx.same, hx.disc]
        refine hN _ ?_; clear hN N
        (refine W_seq_gen fun N hN => ?_); simp (disch := first | omega | (simp only [List.length_cons, List.length_nil, List.length_append, u8s_len]; omega)) only [go_sem, ↓reduceIte, true_and, Nat.reduceLeDiff, Nat.reduceEqDiff, Nat.reduceAdd, Nat.reduceBEq, Int.reduceEq, H.cv_3_57, H.cv_5_3, H.cv_57_3]
        refine hN _ ?_; clear hN N
        simp (disch := first | omega | (simp only [List.length_cons, List.length_nil, List.length_append, u8s_len]; omega)) only [go_sem, ↓reduceIte, true_and, Nat.reduceLeDiff, Nat.reduceEqDiff, Nat.reduceAdd, Nat.reduceBEq, Int.reduceEq, H.cv_3_57, H.cv_5_3, H.cv_57_3, hx.same]
        refine hN _ ?_; clear hN N
        simp (disch := first | omega | (simp only [List.length_cons, List.length_nil, List.length_append, u8s_len]; omega)) only [go_sem, ↓reduceIte, true_and, Nat.reduceLeDiff, Nat.reduceEqDiff, Nat.reduceAdd, Nat.reduceBEq, Int.reduceEq, H.cv_3_57, H.cv_5_3, H.cv_57_3, t10, nat_add]
        exact ⟨l.length - (i + 1), by omega, i + 1, _, rfl, by omega, t0, t5, rfl, ho, rfl, hx.sl⟩
      obtain rfl : i = l.length := by omega
      rw [← hql, List.take_length, setAll_eq hs hq] at hz
      (refine W_seq_gen fun N hN => ?_); simp (disch := first | omega | (simp only [List.length_cons, List.length_nil, List.length_append, u8s_len]; omega)) only [go_sem, ↓reduceIte, true_and, Nat.reduceLeDiff, Nat.reduceEqDiff, Nat.reduceAdd, Nat.reduceBEq, Int.reduceEq, H.cv_3_57, H.cv_5_3, H.cv_57_3, t5, t10, dr, aexLen_rs, Nat.lt_irrefl]
      refine hM _ ?_; clear hN N hM M
      simp (disch := first | omega | (simp only [List.length_cons, List.length_nil, List.length_append, u8s_len]; omega)) only [go_sem, ↓reduceIte, true_and, Nat.reduceLeDiff, Nat.reduceEqDiff, Nat.reduceAdd, Nat.reduceBEq, Int.reduceEq, H.cv_3_57, H.cv_5_3, H.cv_57_3, t0, t9, hv.same, hv.own, Bool.not_false, Bool.or_true]
      refine (same_ok H HC hz.dis hv.sl hl hl _).mono ?_
      rintro _ _ ⟨rfl, hh⟩; subst hh
      rw [contK_some]; simp (disch := first | omega | (simp only [List.length_cons, List.length_nil, List.length_append, u8s_len]; omega)) only [go_sem, ↓reduceIte, true_and, Nat.reduceLeDiff, Nat.reduceEqDiff, Nat.reduceAdd, Nat.reduceBEq, Int.reduceEq, H.cv_3_57, H.cv_5_3, H.cv_57_3]
      refine (awake_ok H L _).mono ?_
      rintro _ _ ⟨rfl, hh⟩; subst hh
      rw [contK_some]; simp (disch := first | omega | (simp only [List.length_cons, List.length_nil, List.length_append, u8s_len]; omega)) only [go_sem, ↓reduceIte, true_and, Nat.reduceLeDiff, Nat.reduceEqDiff, Nat.reduceAdd, Nat.reduceBEq, Int.reduceEq, H.cv_3_57, H.cv_5_3, H.cv_57_3]
    by_cases h1 : i < l.length
    · have h2 : ¬ i < mix.length := fun h => hlt ⟨h1, h⟩
      (refine W_seq_gen fun N hN => ?_); simp (disch := first | omega | (simp only [List.length_cons, List.length_nil, List.length_append, u8s_len]; omega)) only [go_sem, ↓reduceIte, true_and, Nat.reduceLeDiff, Nat.reduceEqDiff, Nat.reduceAdd, Nat.reduceBEq, Int.reduceEq, H.cv_3_57, H.cv_5_3, H.cv_57_3, t1, t5, t6, dr, aexLen_rs, hw.same, hw.sl.len, e2, h1, h2]
      refine fin _ ?_ ?_
      · simpa [upd_at] using t0
      · simpa [upd_at] using t5
    · (refine W_seq_gen fun N hN => ?_); simp (disch := first | omega | (simp only [List.length_cons, List.length_nil, List.length_append, u8s_len]; omega)) only [go_sem, ↓reduceIte, true_and, Nat.reduceLeDiff, Nat.reduceEqDiff, Nat.reduceAdd, Nat.reduceBEq, Int.reduceEq, H.cv_3_57, H.cv_5_3, H.cv_57_3, t1, t5, t6, dr, aexLen_rs, h1]
      refine fin _ ?_ ?_
      · simpa [upd_at] using t0
      · simpa [upd_at] using t5
end Go.Proofs.Ytmdkgaljnoookaa
