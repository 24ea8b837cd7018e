/- The law of lists. -/
import Derived.Test.YtjebhcflpibkkaaCellPure2
import Derived.Test.YtjebhcflpibkkaaCellArgs
set_option linter.unusedVariables false
set_option linter.unusedSimpArgs false
namespace Go.Proofs.Ytjebhcflpibkkaa
open Go.Am
theorem list_bytes {l : List Cel} (hl : l.length ≤ 100) : encB (listC l) = 3 :: UInt8.ofNat l.length :: encL l := by
  rw [encB, if_neg (by decide), if_neg (by decide), numB_small (by omega)]; rfl
variable {P : Program} (H : Has P)
include H
theorem lists_law {v : AV} {es : List (List AV)} {l : List Cel} (hv : SF 4 v es) (hl : RR CE es l) (hb : es.length * 56 ≤ 2 ^ 47) (h : Heap) :
    AWF P ann 0 4 [v] h fun r _ => r = .sc (.bool true) := by
  have hes := hl.len
  refine AWF.fnc H.f0_4 rfl ?_
  have hO := OB.nil (h := h)
  (refine W_seq_gen fun N hN => ?_); simp (disch := first | omega | (simp only [List.length_cons, List.length_nil, List.length_append, u8s_len]; omega)) only [go_sem, ↓reduceIte, true_and, Nat.reduceLeDiff, Nat.reduceEqDiff, Nat.reduceAdd, Nat.reduceBEq, Int.reduceEq, H.cv_3_5, H.cv_5_3]
  refine hN _ ?_; clear hN N
  refine W_forget (fun t => t 0 = v ∧ True) (by simp [upd_at, *] <;> (first | rfl | exact ⟨rfl, rfl⟩ | exact ⟨rfl, rfl, rfl⟩)) ?_; rintro t ⟨t0, -⟩
  (refine W_seq_gen fun N hN => ?_); simp (disch := first | omega | (simp only [List.length_cons, List.length_nil, List.length_append, u8s_len]; omega)) only [go_sem, ↓reduceIte, true_and, Nat.reduceLeDiff, Nat.reduceEqDiff, Nat.reduceAdd, Nat.reduceBEq, Int.reduceEq, H.cv_3_5, H.cv_5_3, t0, hv.same, hv.disc]
  refine (list_ok H hv.sl hb _).mono ?_
  rintro _ _ ⟨⟨v', rfl, hv'⟩, hh⟩; subst hh
  rw [contK_some]; simp (disch := first | omega | (simp only [List.length_cons, List.length_nil, List.length_append, u8s_len]; omega)) only [go_sem, ↓reduceIte, true_and, Nat.reduceLeDiff, Nat.reduceEqDiff, Nat.reduceAdd, Nat.reduceBEq, Int.reduceEq, H.cv_3_5, H.cv_5_3, hv'.same, hv'.disc]
  intro o3 h3
  refine hN _ ?_; clear hN N; refine W_ob (hO.new h3) fun hc hO => ?_
  refine W_forget (fun t => t 0 = v ∧ t 3 = .op o3 0 ∧ True) (by simp [upd_at, *] <;> (first | rfl | exact ⟨rfl, rfl⟩ | exact ⟨rfl, rfl, rfl⟩)) ?_; rintro t ⟨t0, t3, -⟩
  -- DEF T: t0, t3, hO.get0, hv.same, hv.disc, hv'.same, hv'.disc
  have cc : CE [.sc (.int .i64 ((3 : Nat) : Int)), .sc (.int .i64 ((0 : Nat) : Int)), .sc (.string noS), v'] (listC l) :=
    CE.in (fits_small (by omega) (by omega) (by decide) (by omega)) hv' hl
  generalize hz : sizeS (listC l) 0 = z
  have hsz := size_ok H (listC l) _ ((0 : Nat) : Int) (by omega) (by omega) cc
  rw [show sizeS (listC l) ((0 : Nat) : Int) = z from hz] at hsz
  by_cases c1 : z > ((6000 : Nat) : Int)
  · (refine W_seq_gen fun N hN => ?_); simp (disch := first | omega | (simp only [List.length_cons, List.length_nil, List.length_append, u8s_len]; omega)) only [go_sem, ↓reduceIte, true_and, Nat.reduceLeDiff, Nat.reduceEqDiff, Nat.reduceAdd, Nat.reduceBEq, Int.reduceEq, H.cv_3_5, H.cv_5_3, t0, t3, hO.get0, hv.same, hv.disc, hv'.same, hv'.disc]
    refine (hsz _).mono ?_
    rintro _ _ ⟨rfl, hh⟩; subst hh
    rw [contK_some]; simp (disch := first | omega | (simp only [List.length_cons, List.length_nil, List.length_append, u8s_len]; omega)) only [go_sem, ↓reduceIte, true_and, Nat.reduceLeDiff, Nat.reduceEqDiff, Nat.reduceAdd, Nat.reduceBEq, Int.reduceEq, H.cv_3_5, H.cv_5_3, c1]
    refine (awake_ok H _).mono ?_
    rintro _ _ ⟨rfl, hh⟩; subst hh
    rw [contK_some]; simp (disch := first | omega | (simp only [List.length_cons, List.length_nil, List.length_append, u8s_len]; omega)) only [go_sem, ↓reduceIte, true_and, Nat.reduceLeDiff, Nat.reduceEqDiff, Nat.reduceAdd, Nat.reduceBEq, Int.reduceEq, H.cv_3_5, H.cv_5_3]
  by_cases c2 : l.length > 100
  · (refine W_seq_gen fun N hN => ?_); simp (disch := first | omega | (simp only [List.length_cons, List.length_nil, List.length_append, u8s_len]; omega)) only [go_sem, ↓reduceIte, true_and, Nat.reduceLeDiff, Nat.reduceEqDiff, Nat.reduceAdd, Nat.reduceBEq, Int.reduceEq, H.cv_3_5, H.cv_5_3, t0, t3, hO.get0, hv.same, hv.disc, hv'.same, hv'.disc]
    refine (hsz _).mono ?_
    rintro _ _ ⟨rfl, hh⟩; subst hh
    rw [contK_some]; simp (disch := first | omega | (simp only [List.length_cons, List.length_nil, List.length_append, u8s_len]; omega)) only [go_sem, ↓reduceIte, true_and, Nat.reduceLeDiff, Nat.reduceEqDiff, Nat.reduceAdd, Nat.reduceBEq, Int.reduceEq, H.cv_3_5, H.cv_5_3, c1, c2, t0, t3, hO.get0, hv.same, hv.disc, hv'.same, hv'.disc, hv.sl.len, hes]
    refine (awake_ok H _).mono ?_
    rintro _ _ ⟨rfl, hh⟩; subst hh
    rw [contK_some]; simp (disch := first | omega | (simp only [List.length_cons, List.length_nil, List.length_append, u8s_len]; omega)) only [go_sem, ↓reduceIte, true_and, Nat.reduceLeDiff, Nat.reduceEqDiff, Nat.reduceAdd, Nat.reduceBEq, Int.reduceEq, H.cv_3_5, H.cv_5_3]
  (refine W_seq_gen fun N hN => ?_); simp (disch := first | omega | (simp only [List.length_cons, List.length_nil, List.length_append, u8s_len]; omega)) only [go_sem, ↓reduceIte, true_and, Nat.reduceLeDiff, Nat.reduceEqDiff, Nat.reduceAdd, Nat.reduceBEq, Int.reduceEq, H.cv_3_5, H.cv_5_3, t0, t3, hO.get0, hv.same, hv.disc, hv'.same, hv'.disc]
  refine (hsz _).mono ?_
  rintro _ _ ⟨rfl, hh⟩; subst hh
  rw [contK_some]; simp (disch := first | omega | (simp only [List.length_cons, List.length_nil, List.length_append, u8s_len]; omega)) only [go_sem, ↓reduceIte, true_and, Nat.reduceLeDiff, Nat.reduceEqDiff, Nat.reduceAdd, Nat.reduceBEq, Int.reduceEq, H.cv_3_5, H.cv_5_3, c1, c2, t0, t3, hO.get0, hv.same, hv.disc, hv'.same, hv'.disc, hv.sl.len, hes]
  refine hN _ ?_; clear hN N
  (refine W_seq_gen fun N hN => ?_); simp (disch := first | omega | (simp only [List.length_cons, List.length_nil, List.length_append, u8s_len]; omega)) only [go_sem, ↓reduceIte, true_and, Nat.reduceLeDiff, Nat.reduceEqDiff, Nat.reduceAdd, Nat.reduceBEq, Int.reduceEq, H.cv_3_5, H.cv_5_3, t0, t3, hO.get0, hv.same, hv.disc, hv'.same, hv'.disc]
  refine (encode_ok H cc _).mono ?_
  rintro _ h4 ⟨⟨w, rfl, hw⟩, hh⟩; subst hh
  rw [contK_some]; simp (disch := first | omega | (simp only [List.length_cons, List.length_nil, List.length_append, u8s_len]; omega)) only [go_sem, ↓reduceIte, true_and, Nat.reduceLeDiff, Nat.reduceEqDiff, Nat.reduceAdd, Nat.reduceBEq, Int.reduceEq, H.cv_3_5, H.cv_5_3, errN, hw.same, hw.disc]
  refine hN _ ?_; clear hN N
  refine W_forget (fun t => t 0 = v ∧ t 4 = w ∧ t 5 = .sc (.int .i64 (encE (listC l) : Nat)) ∧ True) (by simp [upd_at, *] <;> (first | rfl | exact ⟨rfl, rfl⟩ | exact ⟨rfl, rfl, rfl⟩)) ?_; rintro t ⟨t0, t4, t5, -⟩
  have el : (UInt8.ofNat l.length).toNat = l.length % 256 := by simp
  (refine W_seq_gen fun N hN => ?_); simp (disch := first | omega | (simp only [List.length_cons, List.length_nil, List.length_append, u8s_len]; omega)) only [go_sem, ↓reduceIte, true_and, Nat.reduceLeDiff, Nat.reduceEqDiff, Nat.reduceAdd, Nat.reduceBEq, Int.reduceEq, H.cv_3_5, H.cv_5_3, t0, hv.same, hv.disc, hv.sl.len, hes, u8w, ← el]
  refine hN _ ?_; clear hN N
  have ha : SG 1 (.bs true 1 [[.sc (.int .u8 ((3 : Nat) : Int))], [.sc (.int .u8 (((UInt8.ofNat l.length).toNat : Nat) : Int))]] (some 2)) (u8s ([3, UInt8.ofNat l.length] ++ bytesL (l.take 0))) := .inr ⟨_, rfl⟩
  (refine W_seq_gen fun N hN => ?_); simp (disch := first | omega | (simp only [List.length_cons, List.length_nil, List.length_append, u8s_len]; omega)) only [go_sem, ↓reduceIte, true_and, Nat.reduceLeDiff, Nat.reduceEqDiff, Nat.reduceAdd, Nat.reduceBEq, Int.reduceEq, H.cv_3_5, H.cv_5_3]
  refine hN _ ?_; clear hN N
  generalize (AV.bs true 1 [[.sc (.int .u8 ((3 : Nat) : Int))], [.sc (.int .u8 (((UInt8.ofNat l.length).toNat : Nat) : Int))]] (some 2)) = u0 at ha
  refine W_forget (fun t => t 0 = v ∧ t 4 = w ∧ t 5 = .sc (.int .i64 (encE (listC l) : Nat)) ∧ t 6 = u0 ∧ t 7 = .sc (.bool true) ∧ True) (by simp [upd_at, *] <;> (first | rfl | exact ⟨rfl, rfl⟩ | exact ⟨rfl, rfl, rfl⟩)) ?_; rintro t ⟨t0, t4, t5, t6, t7, -⟩
  have hc2 : l.length ≤ 100 := by omega
  (refine W_seq_gen fun M hM => ?_)
  (refine W_seq_gen fun N hN => ?_); simp (disch := first | omega | (simp only [List.length_cons, List.length_nil, List.length_append, u8s_len]; omega)) only [go_sem, ↓reduceIte, true_and, Nat.reduceLeDiff, Nat.reduceEqDiff, Nat.reduceAdd, Nat.reduceBEq, Int.reduceEq, H.cv_3_5, H.cv_5_3]
  refine hN _ ?_; clear hN N
  simp (disch := first | omega | (simp only [List.length_cons, List.length_nil, List.length_append, u8s_len]; omega)) only [go_sem, ↓reduceIte, true_and, Nat.reduceLeDiff, Nat.reduceEqDiff, Nat.reduceAdd, Nat.reduceBEq, Int.reduceEq, H.cv_3_5, H.cv_5_3]
  refine AW_loopN (fun m t h' => h' = h4 ∧ ∃ (i : Nat) (u : AV), m = l.length - i ∧ i ≤ l.length ∧ SG 1 u (u8s ([3, UInt8.ofNat l.length] ++ bytesL (l.take i))) ∧ t 0 = v ∧ t 4 = w ∧ t 5 = .sc (.int .i64 (encE (listC l) : Nat)) ∧ t 6 = u ∧ t 7 = .sc (.bool ((l.take i).all okP)) ∧ t 8 = .sc (.int .i64 (i : Nat)))
    (n := l.length) ⟨rfl, 0, u0, rfl, Nat.zero_le _, ha, by simp [upd_at, t0], by simp [upd_at, t4], by simp [upd_at, t5], by simp [upd_at, t6], by simp [upd_at, t7], rfl⟩ ?_
  clear t0 t4 t5 t6 t7 ha
  rintro m t h' ⟨rfl, i, u, rfl, hi, hu, t0, t4, t5, t6, t7, t8⟩
  rcases Nat.lt_or_ge i l.length with hlt | hge
  · obtain ⟨e, he, hce⟩ := hl.lt hlt
    have hbt := bytesL_take hlt
    have hat := all_take hlt
    have hlen := bytesL_len (l.take i)
    have hlen2 : (l.take i).length ≤ l.length := by simp; omega
    generalize l[i] = x at hce hbt hat
    obtain ⟨v1, es1, rfl, hv1, _, _⟩ := id hce.out
    (refine W_seq_gen fun N hN => ?_); simp (disch := first | omega | (simp only [List.length_cons, List.length_nil, List.length_append, u8s_len]; omega)) only [go_sem, ↓reduceIte, true_and, Nat.reduceLeDiff, Nat.reduceEqDiff, Nat.reduceAdd, Nat.reduceBEq, Int.reduceEq, H.cv_3_5, H.cv_5_3, t0, t8, hv.same, hv.disc, hv.sl.len, hes, hlt]
    refine hN _ ?_; clear hN N
    (refine W_seq_gen fun N hN => ?_)
    rw [W_block]
    (refine W_seq_gen fun N hN => ?_); simp (disch := first | omega | (simp only [List.length_cons, List.length_nil, List.length_append, u8s_len]; omega)) only [go_sem, ↓reduceIte, true_and, Nat.reduceLeDiff, Nat.reduceEqDiff, Nat.reduceAdd, Nat.reduceBEq, Int.reduceEq, H.cv_3_5, H.cv_5_3, t0, t8, hv.same, hv.disc, hv.sl.ia, he, hv1.disc, hv1.same]
    refine (encode_ok H hce _).mono ?_
    rintro _ h5 ⟨⟨y, rfl, hy⟩, hh⟩; subst hh
    rw [contK_some]; simp (disch := first | omega | (simp only [List.length_cons, List.length_nil, List.length_append, u8s_len]; omega)) only [go_sem, ↓reduceIte, true_and, Nat.reduceLeDiff, Nat.reduceEqDiff, Nat.reduceAdd, Nat.reduceBEq, Int.reduceEq, H.cv_3_5, H.cv_5_3, errN, hy.same, hy.disc]
    refine hN _ ?_; clear hN N
    refine W_forget (fun t => t 0 = v ∧ t 4 = w ∧ t 5 = .sc (.int .i64 (encE (listC l) : Nat)) ∧ t 6 = u ∧ t 7 = .sc (.bool ((l.take i).all okP)) ∧ t 8 = .sc (.int .i64 (i : Nat)) ∧ t 9 = y ∧ t 10 = .sc (.int .i64 (encE x : Nat)) ∧ True) (by simp [upd_at, *] <;> (first | rfl | exact ⟨rfl, rfl⟩ | exact ⟨rfl, rfl, rfl⟩)) ?_; rintro t ⟨t0, t4, t5, t6, t7, t8, t9, t10, -⟩
    (refine W_seq_gen fun K hK => ?_)
    have fin : ∀ t : Nat → AV, t 0 = v → t 4 = w → t 5 = .sc (.int .i64 (encE (listC l) : Nat)) → t 6 = u → t 7 = .sc (.bool ((l.take (i + 1)).all okP)) → t 8 = .sc (.int .i64 (i : Nat)) → t 9 = y → K ⟨t, h5⟩ := by
      clear t0 t4 t5 t6 t7 t8 t9 t10
      intro t t0 t4 t5 t6 t7 t8 t9
      refine hK _ ?_; clear hK K
      have hyl : (if encE x = 0 then encB x else []).length ≤ 65536 := by
        split
        · exact enc0_len (by assumption)
        · simp
      generalize (if encE x = 0 then encB x else []) = yb at hy hbt hyl
      have happ := fun (t : Nat → AV) (h : Heap) => hu.app (t := t) (h := h) (ys := u8s yb) (bytes := 1) (by simp only [u8s_len, List.length_append, List.length_cons, List.length_nil]; omega)
      have hu2 := hu.cat (u8s yb)
      rw [u8s_app, List.append_assoc, ← hbt] at hu2
      simp (disch := first | omega | (simp only [List.length_cons, List.length_nil, List.length_append, u8s_len]; omega)) only [go_sem, ↓reduceIte, true_and, Nat.reduceLeDiff, Nat.reduceEqDiff, Nat.reduceAdd, Nat.reduceBEq, Int.reduceEq, H.cv_3_5, H.cv_5_3, t6, t9, hy.same, hy.disc, hy.sl.elems, happ]
      refine hN _ ?_; clear hN N
      simp (disch := first | omega | (simp only [List.length_cons, List.length_nil, List.length_append, u8s_len]; omega)) only [go_sem, ↓reduceIte, true_and, Nat.reduceLeDiff, Nat.reduceEqDiff, Nat.reduceAdd, Nat.reduceBEq, Int.reduceEq, H.cv_3_5, H.cv_5_3, t8, nat_add]
      exact ⟨l.length - (i + 1), by omega, i + 1, _, rfl, by omega, hu2, t0, t4, t5, rfl, t7, rfl⟩
    clear hK hN
    cases ha : (l.take i).all okP with
    | false =>
      rw [ha, Bool.false_and] at hat
      rw [ha] at t7
      simp (disch := first | omega | (simp only [List.length_cons, List.length_nil, List.length_append, u8s_len]; omega)) only [go_sem, ↓reduceIte, true_and, Nat.reduceLeDiff, Nat.reduceEqDiff, Nat.reduceAdd, Nat.reduceBEq, Int.reduceEq, H.cv_3_5, H.cv_5_3, t7]
      refine fin _ ?_ ?_ ?_ ?_ ?_ ?_ ?_ <;> simp [upd_at, t0, t4, t5, t6, t8, t9, hat]
    | true =>
      rw [ha, Bool.true_and] at hat
      rw [ha] at t7
      by_cases e0 : encE x = 0
      · have d0 : decide (encE x = 0) = true := decide_eq_true e0
        have hat2 : (l.take (i + 1)).all okP = decide (depthS 13 x < 12) := by rw [hat, okP, d0, Bool.true_and]
        simp (disch := first | omega | (simp only [List.length_cons, List.length_nil, List.length_append, u8s_len]; omega)) only [go_sem, ↓reduceIte, true_and, Nat.reduceLeDiff, Nat.reduceEqDiff, Nat.reduceAdd, Nat.reduceBEq, Int.reduceEq, H.cv_3_5, H.cv_5_3, t7, t10, d0, t0, t8, hv.same, hv.disc, hv.sl.ia, he, hv1.disc, hv1.same]
        refine (depth_ok H 13 x _ (by omega) hce _).mono ?_
        rintro _ _ ⟨rfl, hh⟩; subst hh
        rw [contK_some]; simp (disch := first | omega | (simp only [List.length_cons, List.length_nil, List.length_append, u8s_len]; omega)) only [go_sem, ↓reduceIte, true_and, Nat.reduceLeDiff, Nat.reduceEqDiff, Nat.reduceAdd, Nat.reduceBEq, Int.reduceEq, H.cv_3_5, H.cv_5_3]
        refine fin _ ?_ ?_ ?_ ?_ ?_ ?_ ?_ <;> simp [upd_at, t0, t4, t5, t6, t8, t9, hat2]
      · have d0 : decide (encE x = 0) = false := decide_eq_false e0
        have hat2 : (l.take (i + 1)).all okP = false := by rw [hat, okP, d0, Bool.false_and]
        simp (disch := first | omega | (simp only [List.length_cons, List.length_nil, List.length_append, u8s_len]; omega)) only [go_sem, ↓reduceIte, true_and, Nat.reduceLeDiff, Nat.reduceEqDiff, Nat.reduceAdd, Nat.reduceBEq, Int.reduceEq, H.cv_3_5, H.cv_5_3, t7, t10, d0]
        refine fin _ ?_ ?_ ?_ ?_ ?_ ?_ ?_ <;> simp [upd_at, t0, t4, t5, t6, t8, t9, hat2]
  obtain rfl : i = l.length := by omega
  rw [List.take_length] at hu t7
  (refine W_seq_gen fun N hN => ?_); simp (disch := first | omega | (simp only [List.length_cons, List.length_nil, List.length_append, u8s_len]; omega)) only [go_sem, ↓reduceIte, true_and, Nat.reduceLeDiff, Nat.reduceEqDiff, Nat.reduceAdd, Nat.reduceBEq, Int.reduceEq, H.cv_3_5, H.cv_5_3, t0, t8, hv.same, hv.disc, hv.sl.len, hes, Nat.lt_irrefl]
  refine hM _ ?_; clear hN N hM M
  by_cases e0 : encE (listC l) = 0
  case neg =>
    have q : (!decide (encE (listC l) = 0)) = true := by simp [e0]
    cases ho : l.all okP with
    | false =>
      rw [ho] at t7
      (refine W_seq_gen fun N hN => ?_); simp (disch := first | omega | (simp only [List.length_cons, List.length_nil, List.length_append, u8s_len]; omega)) only [go_sem, ↓reduceIte, true_and, Nat.reduceLeDiff, Nat.reduceEqDiff, Nat.reduceAdd, Nat.reduceBEq, Int.reduceEq, H.cv_3_5, H.cv_5_3, t5, t7, q]
      refine (awake_ok H _).mono ?_
      rintro _ _ ⟨rfl, hh⟩; subst hh
      rw [contK_some]; simp (disch := first | omega | (simp only [List.length_cons, List.length_nil, List.length_append, u8s_len]; omega)) only [go_sem, ↓reduceIte, true_and, Nat.reduceLeDiff, Nat.reduceEqDiff, Nat.reduceAdd, Nat.reduceBEq, Int.reduceEq, H.cv_3_5, H.cv_5_3]
    | true =>
      rw [ho] at t7
      have e3 := list_bad e0 (List.all_eq_true.1 ho)
      rw [e3] at t5
      (refine W_seq_gen fun N hN => ?_); simp (disch := first | omega | (simp only [List.length_cons, List.length_nil, List.length_append, u8s_len]; omega)) only [go_sem, ↓reduceIte, true_and, Nat.reduceLeDiff, Nat.reduceEqDiff, Nat.reduceAdd, Nat.reduceBEq, Int.reduceEq, H.cv_3_5, H.cv_5_3, t5, t7]
      refine (awake_ok H _).mono ?_
      rintro _ _ ⟨rfl, hh⟩; subst hh
      rw [contK_some]; simp (disch := first | omega | (simp only [List.length_cons, List.length_nil, List.length_append, u8s_len]; omega)) only [go_sem, ↓reduceIte, true_and, Nat.reduceLeDiff, Nat.reduceEqDiff, Nat.reduceAdd, Nat.reduceBEq, Int.reduceEq, H.cv_3_5, H.cv_5_3]
  have hg := list_good e0
  have ho : l.all okP = true := List.all_eq_true.2 hg
  rw [ho] at t7
  rw [e0] at t5
  rw [e0, if_pos rfl, list_bytes hc2] at hw
  rw [bytesL_good hg] at hu
  have hu : SG 1 u (u8s (3 :: UInt8.ofNat l.length :: encL l)) := hu
  have deq : decide (str (3 :: UInt8.ofNat l.length :: encL l) = str (3 :: UInt8.ofNat l.length :: encL l)) = true := decide_eq_true rfl
  (refine W_seq_gen fun N hN => ?_); simp (disch := first | omega | (simp only [List.length_cons, List.length_nil, List.length_append, u8s_len]; omega)) only [go_sem, ↓reduceIte, true_and, Nat.reduceLeDiff, Nat.reduceEqDiff, Nat.reduceAdd, Nat.reduceBEq, Int.reduceEq, H.cv_3_5, H.cv_5_3, t5, t7]
  refine hN _ ?_; clear hN N
  simp (disch := first | omega | (simp only [List.length_cons, List.length_nil, List.length_append, u8s_len]; omega)) only [go_sem, ↓reduceIte, true_and, Nat.reduceLeDiff, Nat.reduceEqDiff, Nat.reduceAdd, Nat.reduceBEq, Int.reduceEq, H.cv_3_5, H.cv_5_3, t4, t6, t7, hw.same, hw.sl.b2s, hu.sl.dis.b2s, deq]
  refine (awake_ok H _).mono ?_
  rintro _ _ ⟨rfl, hh⟩; subst hh
  rw [contK_some]; simp (disch := first | omega | (simp only [List.length_cons, List.length_nil, List.length_append, u8s_len]; omega)) only [go_sem, ↓reduceIte, true_and, Nat.reduceLeDiff, Nat.reduceEqDiff, Nat.reduceAdd, Nat.reduceBEq, Int.reduceEq, H.cv_3_5, H.cv_5_3]
end Go.Proofs.Ytjebhcflpibkkaa
namespace Go.Proofs.Ytjebhcflpibkkaa
open Go.Am
theorem lists_row {avs : List AV} (h : okArgs Try.prog slW stW Try.f4.params.toList avs) : AWF Try.prog ann 0 4 avs (fun _ => none) fun v _ => v = .sc (.bool true) := by
  obtain ⟨a, rfl, ha⟩ := okArgs1 (t := 22) h
  obtain ⟨es, l, h1, h2, h3⟩ := cells_arg ha
  exact lists_law has h1 h2 h3 _
end Go.Proofs.Ytjebhcflpibkkaa
