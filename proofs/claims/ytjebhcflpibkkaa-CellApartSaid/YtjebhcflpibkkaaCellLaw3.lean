/- The law of cells that are apart. -/
import Derived.Test.YtjebhcflpibkkaaCellPure3
import Derived.Test.YtjebhcflpibkkaaCellFn9
import Derived.Test.YtjebhcflpibkkaaCellArgs
set_option linter.unusedVariables false
set_option linter.unusedSimpArgs false
namespace Go.Proofs.Ytjebhcflpibkkaa
open Go.Am
/-- What the law asks of booleans. -/
structure HasC (P : Program) : Prop where
  bne : ∀ p q : Bool, scalarBin P .neq 4 (.bool p) (.bool q) = some (.bool (p != q))
  beq : ∀ p q : Bool, scalarBin P .eql 4 (.bool p) (.bool q) = some (.bool (p == q))
theorem enc0_pure {x : Cel} (h : encE x = 0) : pureS x = true := by
  have hc : checkS x = 0 := by
    unfold encE at h
    split at h
    · assumption
    · exact h
  exact (checkS_ok hc).2.1
variable {P : Program} (H : Has P) (HC : HasC P)
include H HC
theorem apart_law {cs cs' : List AV} {a b : Cel} (ha : CE cs a) (hb : CE cs' b) (h : Heap) :
    AWF P ann 0 5 [.ag cs, .ag cs'] h fun r _ => r = .sc (.bool true) := by
  obtain ⟨v, es, rfl, hv, hl, hf⟩ := id ha.out
  obtain ⟨v', es', rfl, hv', hl', hf'⟩ := id hb.out
  refine AWF.fnc H.f0_5 rfl ?_
  have hO := OB.nil (h := h)
  (refine W_seq_gen fun N hN => ?_); simp (disch := first | omega | (simp only [List.length_cons, List.length_nil, List.length_append, u8s_len]; omega)) only [go_sem, ↓reduceIte, true_and, Nat.reduceLeDiff, Nat.reduceEqDiff, Nat.reduceAdd, Nat.reduceBEq, Int.reduceEq, H.cv_3_5, H.cv_5_3, hv.disc, hv.same, hv'.disc, hv'.same]
  intro o2 h2 o3 h3
  refine hN _ ?_; clear hN N; refine W_ob ((hO.new h2).new h3) fun hc hO => ?_
  refine W_forget (fun t => t 2 = .op o2 0 ∧ t 3 = .op o3 0 ∧ True) (by simp [upd_at, *] <;> (first | rfl | exact ⟨rfl, rfl⟩ | exact ⟨rfl, rfl, rfl⟩)) ?_; rintro t ⟨t2, t3, -⟩
  -- DEF T: t2, t3, hO.get0, hO.get1, hv.same, hv.disc, hv'.same, hv'.disc
  have hsa := size_ok H a _ ((0 : Nat) : Int) (by omega) (by omega) ha
  have hsb := size_ok H b _ ((0 : Nat) : Int) (by omega) (by omega) hb
  generalize sizeS a ((0 : Nat) : Int) = za at hsa
  generalize sizeS b ((0 : Nat) : Int) = zb at hsb
  by_cases c1 : za > ((6000 : Nat) : Int)
  · (refine W_seq_gen fun N hN => ?_); simp (disch := first | omega | (simp only [List.length_cons, List.length_nil, List.length_append, u8s_len]; omega)) only [go_sem, ↓reduceIte, true_and, Nat.reduceLeDiff, Nat.reduceEqDiff, Nat.reduceAdd, Nat.reduceBEq, Int.reduceEq, H.cv_3_5, H.cv_5_3, t2, t3, hO.get0, hO.get1, hv.same, hv.disc, hv'.same, hv'.disc]
    refine (hsa _).mono ?_
    rintro _ _ ⟨rfl, hh⟩; subst hh
    rw [contK_some]; simp (disch := first | omega | (simp only [List.length_cons, List.length_nil, List.length_append, u8s_len]; omega)) only [go_sem, ↓reduceIte, true_and, Nat.reduceLeDiff, Nat.reduceEqDiff, Nat.reduceAdd, Nat.reduceBEq, Int.reduceEq, H.cv_3_5, H.cv_5_3, c1]
    refine (awake_ok H _).mono ?_
    rintro _ _ ⟨rfl, hh⟩; subst hh
    rw [contK_some]; simp (disch := first | omega | (simp only [List.length_cons, List.length_nil, List.length_append, u8s_len]; omega)) only [go_sem, ↓reduceIte, true_and, Nat.reduceLeDiff, Nat.reduceEqDiff, Nat.reduceAdd, Nat.reduceBEq, Int.reduceEq, H.cv_3_5, H.cv_5_3]
  by_cases c2 : zb > ((6000 : Nat) : Int)
  · (refine W_seq_gen fun N hN => ?_); simp (disch := first | omega | (simp only [List.length_cons, List.length_nil, List.length_append, u8s_len]; omega)) only [go_sem, ↓reduceIte, true_and, Nat.reduceLeDiff, Nat.reduceEqDiff, Nat.reduceAdd, Nat.reduceBEq, Int.reduceEq, H.cv_3_5, H.cv_5_3, t2, t3, hO.get0, hO.get1, hv.same, hv.disc, hv'.same, hv'.disc]
    refine (hsa _).mono ?_
    rintro _ _ ⟨rfl, hh⟩; subst hh
    rw [contK_some]; simp (disch := first | omega | (simp only [List.length_cons, List.length_nil, List.length_append, u8s_len]; omega)) only [go_sem, ↓reduceIte, true_and, Nat.reduceLeDiff, Nat.reduceEqDiff, Nat.reduceAdd, Nat.reduceBEq, Int.reduceEq, H.cv_3_5, H.cv_5_3, c1, t2, t3, hO.get0, hO.get1, hv.same, hv.disc, hv'.same, hv'.disc]
    refine (hsb _).mono ?_
    rintro _ _ ⟨rfl, hh⟩; subst hh
    rw [contK_some]; simp (disch := first | omega | (simp only [List.length_cons, List.length_nil, List.length_append, u8s_len]; omega)) only [go_sem, ↓reduceIte, true_and, Nat.reduceLeDiff, Nat.reduceEqDiff, Nat.reduceAdd, Nat.reduceBEq, Int.reduceEq, H.cv_3_5, H.cv_5_3, c2]
    refine (awake_ok H _).mono ?_
    rintro _ _ ⟨rfl, hh⟩; subst hh
    rw [contK_some]; simp (disch := first | omega | (simp only [List.length_cons, List.length_nil, List.length_append, u8s_len]; omega)) only [go_sem, ↓reduceIte, true_and, Nat.reduceLeDiff, Nat.reduceEqDiff, Nat.reduceAdd, Nat.reduceBEq, Int.reduceEq, H.cv_3_5, H.cv_5_3]
  (refine W_seq_gen fun N hN => ?_); simp (disch := first | omega | (simp only [List.length_cons, List.length_nil, List.length_append, u8s_len]; omega)) only [go_sem, ↓reduceIte, true_and, Nat.reduceLeDiff, Nat.reduceEqDiff, Nat.reduceAdd, Nat.reduceBEq, Int.reduceEq, H.cv_3_5, H.cv_5_3, t2, t3, hO.get0, hO.get1, hv.same, hv.disc, hv'.same, hv'.disc]
  refine (hsa _).mono ?_
  rintro _ _ ⟨rfl, hh⟩; subst hh
  rw [contK_some]; simp (disch := first | omega | (simp only [List.length_cons, List.length_nil, List.length_append, u8s_len]; omega)) only [go_sem, ↓reduceIte, true_and, Nat.reduceLeDiff, Nat.reduceEqDiff, Nat.reduceAdd, Nat.reduceBEq, Int.reduceEq, H.cv_3_5, H.cv_5_3, c1, t2, t3, hO.get0, hO.get1, hv.same, hv.disc, hv'.same, hv'.disc]
  refine (hsb _).mono ?_
  rintro _ _ ⟨rfl, hh⟩; subst hh
  rw [contK_some]; simp (disch := first | omega | (simp only [List.length_cons, List.length_nil, List.length_append, u8s_len]; omega)) only [go_sem, ↓reduceIte, true_and, Nat.reduceLeDiff, Nat.reduceEqDiff, Nat.reduceAdd, Nat.reduceBEq, Int.reduceEq, H.cv_3_5, H.cv_5_3, c2]
  refine hN _ ?_; clear hN N
  refine W_forget (fun t => t 2 = .op o2 0 ∧ t 3 = .op o3 0 ∧ True) (by simp [upd_at, *] <;> (first | rfl | exact ⟨rfl, rfl⟩ | exact ⟨rfl, rfl, rfl⟩)) ?_; rintro t ⟨t2, t3, -⟩
  generalize hq : sameS a b = q
  have hs1 := same_ok H a b _ _ ha hb
  have hs2 := same2_ok H a b _ _ ha hb
  have hs3 := same2_ok H a a _ _ ha ha
  rw [hq] at hs1 hs2
  rw [sameS_refl] at hs3
  (refine W_seq_gen fun N hN => ?_); simp (disch := first | omega | (simp only [List.length_cons, List.length_nil, List.length_append, u8s_len]; omega)) only [go_sem, ↓reduceIte, true_and, Nat.reduceLeDiff, Nat.reduceEqDiff, Nat.reduceAdd, Nat.reduceBEq, Int.reduceEq, H.cv_3_5, H.cv_5_3, t2, t3, hO.get0, hO.get1, hv.same, hv.disc, hv'.same, hv'.disc]
  refine (hs1 _).mono ?_
  rintro _ _ ⟨rfl, hh⟩; subst hh
  rw [contK_some]; simp (disch := first | omega | (simp only [List.length_cons, List.length_nil, List.length_append, u8s_len]; omega)) only [go_sem, ↓reduceIte, true_and, Nat.reduceLeDiff, Nat.reduceEqDiff, Nat.reduceAdd, Nat.reduceBEq, Int.reduceEq, H.cv_3_5, H.cv_5_3]
  refine hN _ ?_; clear hN N
  refine W_forget (fun t => t 2 = .op o2 0 ∧ t 3 = .op o3 0 ∧ t 5 = .sc (.bool q) ∧ True) (by simp [upd_at, *] <;> (first | rfl | exact ⟨rfl, rfl⟩ | exact ⟨rfl, rfl, rfl⟩)) ?_; rintro t ⟨t2, t3, t5, -⟩
  have bne : scalarBin P .neq 4 (.bool q) (.bool q) = some (.bool false) := by rw [HC.bne]; cases q <;> rfl
  (refine W_seq_gen fun N hN => ?_); simp (disch := first | omega | (simp only [List.length_cons, List.length_nil, List.length_append, u8s_len]; omega)) only [go_sem, ↓reduceIte, true_and, Nat.reduceLeDiff, Nat.reduceEqDiff, Nat.reduceAdd, Nat.reduceBEq, Int.reduceEq, H.cv_3_5, H.cv_5_3, t2, t3, hO.get0, hO.get1, hv.same, hv.disc, hv'.same, hv'.disc]
  refine (hs2 _).mono ?_
  rintro _ _ ⟨rfl, hh⟩; subst hh
  rw [contK_some]; simp (disch := first | omega | (simp only [List.length_cons, List.length_nil, List.length_append, u8s_len]; omega)) only [go_sem, ↓reduceIte, true_and, Nat.reduceLeDiff, Nat.reduceEqDiff, Nat.reduceAdd, Nat.reduceBEq, Int.reduceEq, H.cv_3_5, H.cv_5_3, bne, t5, t2, t3, hO.get0, hO.get1, hv.same, hv.disc, hv'.same, hv'.disc]
  refine (hs3 _).mono ?_
  rintro _ _ ⟨rfl, hh⟩; subst hh
  rw [contK_some]; simp (disch := first | omega | (simp only [List.length_cons, List.length_nil, List.length_append, u8s_len]; omega)) only [go_sem, ↓reduceIte, true_and, Nat.reduceLeDiff, Nat.reduceEqDiff, Nat.reduceAdd, Nat.reduceBEq, Int.reduceEq, H.cv_3_5, H.cv_5_3]
  refine hN _ ?_; clear hN N
  refine W_forget (fun t => t 2 = .op o2 0 ∧ t 3 = .op o3 0 ∧ t 5 = .sc (.bool q) ∧ True) (by simp [upd_at, *] <;> (first | rfl | exact ⟨rfl, rfl⟩ | exact ⟨rfl, rfl, rfl⟩)) ?_; rintro t ⟨t2, t3, t5, -⟩
  (refine W_seq_gen fun N hN => ?_); simp (disch := first | omega | (simp only [List.length_cons, List.length_nil, List.length_append, u8s_len]; omega)) only [go_sem, ↓reduceIte, true_and, Nat.reduceLeDiff, Nat.reduceEqDiff, Nat.reduceAdd, Nat.reduceBEq, Int.reduceEq, H.cv_3_5, H.cv_5_3, t2, t3, hO.get0, hO.get1, hv.same, hv.disc, hv'.same, hv'.disc]
  refine (encode_ok H ha _).mono ?_
  rintro _ _ ⟨⟨x, rfl, hx⟩, hh⟩; subst hh
  rw [contK_some]; simp (disch := first | omega | (simp only [List.length_cons, List.length_nil, List.length_append, u8s_len]; omega)) only [go_sem, ↓reduceIte, true_and, Nat.reduceLeDiff, Nat.reduceEqDiff, Nat.reduceAdd, Nat.reduceBEq, Int.reduceEq, H.cv_3_5, H.cv_5_3, errN, hx.same, hx.disc]
  refine hN _ ?_; clear hN N
  refine W_forget (fun t => t 3 = .op o3 0 ∧ t 5 = .sc (.bool q) ∧ t 6 = x ∧ t 7 = .sc (.int .i64 (encE a : Nat)) ∧ True) (by simp [upd_at, *] <;> (first | rfl | exact ⟨rfl, rfl⟩ | exact ⟨rfl, rfl, rfl⟩)) ?_; rintro t ⟨t3, t5, t6, t7, -⟩
  -- DEF T: t3, t5, t6, t7, hO.get0, hv'.same, hv'.disc, hx.same, hx.disc
  (refine W_seq_gen fun N hN => ?_); simp (disch := first | omega | (simp only [List.length_cons, List.length_nil, List.length_append, u8s_len]; omega)) only [go_sem, ↓reduceIte, true_and, Nat.reduceLeDiff, Nat.reduceEqDiff, Nat.reduceAdd, Nat.reduceBEq, Int.reduceEq, H.cv_3_5, H.cv_5_3, t3, t5, t6, t7, hO.get0, hv'.same, hv'.disc, hx.same, hx.disc]
  refine (encode_ok H hb _).mono ?_
  rintro _ _ ⟨⟨y, rfl, hy⟩, hh⟩; subst hh
  rw [contK_some]; simp (disch := first | omega | (simp only [List.length_cons, List.length_nil, List.length_append, u8s_len]; omega)) only [go_sem, ↓reduceIte, true_and, Nat.reduceLeDiff, Nat.reduceEqDiff, Nat.reduceAdd, Nat.reduceBEq, Int.reduceEq, H.cv_3_5, H.cv_5_3, errN, hy.same, hy.disc]
  refine hN _ ?_; clear hN N
  refine W_forget (fun t => t 5 = .sc (.bool q) ∧ t 6 = x ∧ t 7 = .sc (.int .i64 (encE a : Nat)) ∧ t 8 = y ∧ t 9 = .sc (.int .i64 (encE b : Nat)) ∧ True) (by simp [upd_at, *] <;> (first | rfl | exact ⟨rfl, rfl⟩ | exact ⟨rfl, rfl, rfl⟩)) ?_; rintro t ⟨t5, t6, t7, t8, t9, -⟩
  by_cases e1 : encE a = 0
  case neg =>
    have d1 : (!decide (encE a = 0)) = true := by simp [e1]
    (refine W_seq_gen fun N hN => ?_); simp (disch := first | omega | (simp only [List.length_cons, List.length_nil, List.length_append, u8s_len]; omega)) only [go_sem, ↓reduceIte, true_and, Nat.reduceLeDiff, Nat.reduceEqDiff, Nat.reduceAdd, Nat.reduceBEq, Int.reduceEq, H.cv_3_5, H.cv_5_3, t7, d1]
    refine (awake_ok H _).mono ?_
    rintro _ _ ⟨rfl, hh⟩; subst hh
    rw [contK_some]; simp (disch := first | omega | (simp only [List.length_cons, List.length_nil, List.length_append, u8s_len]; omega)) only [go_sem, ↓reduceIte, true_and, Nat.reduceLeDiff, Nat.reduceEqDiff, Nat.reduceAdd, Nat.reduceBEq, Int.reduceEq, H.cv_3_5, H.cv_5_3]
  by_cases e2 : encE b = 0
  case neg =>
    have d2 : (!decide (encE b = 0)) = true := by simp [e2]
    rw [e1] at t7
    (refine W_seq_gen fun N hN => ?_); simp (disch := first | omega | (simp only [List.length_cons, List.length_nil, List.length_append, u8s_len]; omega)) only [go_sem, ↓reduceIte, true_and, Nat.reduceLeDiff, Nat.reduceEqDiff, Nat.reduceAdd, Nat.reduceBEq, Int.reduceEq, H.cv_3_5, H.cv_5_3, t7, t9, d2]
    refine (awake_ok H _).mono ?_
    rintro _ _ ⟨rfl, hh⟩; subst hh
    rw [contK_some]; simp (disch := first | omega | (simp only [List.length_cons, List.length_nil, List.length_append, u8s_len]; omega)) only [go_sem, ↓reduceIte, true_and, Nat.reduceLeDiff, Nat.reduceEqDiff, Nat.reduceAdd, Nat.reduceBEq, Int.reduceEq, H.cv_3_5, H.cv_5_3]
  have l1 := enc0_len e1
  have l2 := enc0_len e2
  have p1 := enc0_pure e1
  have p2 := enc0_pure e2
  rw [e1] at t7
  rw [e2] at t9
  rw [e1, if_pos rfl] at hx
  rw [e2, if_pos rfl] at hy
  have xl := fun (t : Nat → AV) (h : Heap) => hx.sl.len (t := t) (h := h)
  have yl := fun (t : Nat → AV) (h : Heap) => hy.sl.len (t := t) (h := h)
  rw [u8s_len] at xl yl
  (refine W_seq_gen fun N hN => ?_); simp (disch := first | omega | (simp only [List.length_cons, List.length_nil, List.length_append, u8s_len]; omega)) only [go_sem, ↓reduceIte, true_and, Nat.reduceLeDiff, Nat.reduceEqDiff, Nat.reduceAdd, Nat.reduceBEq, Int.reduceEq, H.cv_3_5, H.cv_5_3, t7, t9]
  refine hN _ ?_; clear hN N
  (refine W_seq_gen fun N hN => ?_); simp (disch := first | omega | (simp only [List.length_cons, List.length_nil, List.length_append, u8s_len]; omega)) only [go_sem, ↓reduceIte, true_and, Nat.reduceLeDiff, Nat.reduceEqDiff, Nat.reduceAdd, Nat.reduceBEq, Int.reduceEq, H.cv_3_5, H.cv_5_3, t6, hx.same, hx.disc, xl]
  refine hN _ ?_; clear hN N
  refine W_forget (fun t => t 5 = .sc (.bool q) ∧ t 6 = x ∧ t 8 = y ∧ t 10 = .sc (.int .i64 ((encB a).length : Nat)) ∧ True) (by simp [upd_at, *] <;> (first | rfl | exact ⟨rfl, rfl⟩ | exact ⟨rfl, rfl, rfl⟩)) ?_; rintro t ⟨t5, t6, t8, t10, -⟩
  (refine W_seq_gen fun M hM => ?_)
  have fin : ∀ (t : Nat → AV) (h' : Heap) (n : Nat), n = min (encB a).length (encB b).length → t 5 = .sc (.bool q) → t 6 = x → t 8 = y → t 10 = .sc (.int .i64 (n : Nat)) → M ⟨t, h'⟩ := by
    clear t5 t6 t8 t10 t
    intro t h' n hn t5 t6 t8 t10
    refine hM _ ?_; clear hM M
    have hap := enc_apart p1 p2 hn
    rw [hq] at hap
    have sx := fun (t : Nat → AV) (h : Heap) => hx.sl.slc_u (t := t) (h := h) (u := n) (k := .i64) (by rw [u8s_len]; omega)
    have sy := fun (t : Nat → AV) (h : Heap) => hy.sl.slc_u (t := t) (h := h) (u := n) (k := .i64) (by rw [u8s_len]; omega)
    have bx := hx.sl.take n
    have by' := hy.sl.take n
    rw [u8s_take] at bx by'
    have hd : decide (str ((encB a).take n) = str ((encB b).take n)) = q := by
      rw [← hap, decide_eq_decide]
      exact str_inj
    have beq : scalarBin P .eql 4 (.bool q) (.bool q) = some (.bool true) := by rw [HC.beq]; cases q <;> rfl
    generalize cutV 1 0 n x = x2 at sx bx
    generalize cutV 1 0 n y = y2 at sy by'
    simp (disch := first | omega | (simp only [List.length_cons, List.length_nil, List.length_append, u8s_len]; omega)) only [go_sem, ↓reduceIte, true_and, Nat.reduceLeDiff, Nat.reduceEqDiff, Nat.reduceAdd, Nat.reduceBEq, Int.reduceEq, H.cv_3_5, H.cv_5_3, t5, t6, t8, t10, hx.same, hx.disc, hy.same, hy.disc, sx, sy, bx.same, by'.same, bx.sl.b2s, by'.sl.b2s, hd, beq]
    refine ⟨_, awake_ok H _, ?_⟩
    rw [contK_some]; simp (disch := first | omega | (simp only [List.length_cons, List.length_nil, List.length_append, u8s_len]; omega)) only [go_sem, ↓reduceIte, true_and, Nat.reduceLeDiff, Nat.reduceEqDiff, Nat.reduceAdd, Nat.reduceBEq, Int.reduceEq, H.cv_3_5, H.cv_5_3]
  clear hM
  by_cases c3 : (encB b).length < (encB a).length
  · simp (disch := first | omega | (simp only [List.length_cons, List.length_nil, List.length_append, u8s_len]; omega)) only [go_sem, ↓reduceIte, true_and, Nat.reduceLeDiff, Nat.reduceEqDiff, Nat.reduceAdd, Nat.reduceBEq, Int.reduceEq, H.cv_3_5, H.cv_5_3, t8, t10, hy.same, hy.disc, yl, c3]
    refine fin _ _ (encB b).length (by omega) ?_ ?_ ?_ ?_ <;> simp [upd_at, t5, t6, t8]
  · simp (disch := first | omega | (simp only [List.length_cons, List.length_nil, List.length_append, u8s_len]; omega)) only [go_sem, ↓reduceIte, true_and, Nat.reduceLeDiff, Nat.reduceEqDiff, Nat.reduceAdd, Nat.reduceBEq, Int.reduceEq, H.cv_3_5, H.cv_5_3, t8, t10, hy.same, hy.disc, yl, c3]
    refine fin _ _ (encB a).length (by omega) ?_ ?_ ?_ ?_ <;> simp [upd_at, t5, t6, t8, t10]
end Go.Proofs.Ytjebhcflpibkkaa
namespace Go.Proofs.Ytjebhcflpibkkaa
open Go.Am
theorem hasC : HasC Try.prog where
  bne p q := by
    have : pureRun Try.prog (Op.equal 4 (.bool p) (.bool q)) = some (p == q) := eqin_bool Try.underlying4 9999 p q
    simp [scalarBin, eqGuard, binOp, pr_bind, pr_prog, pr_pure, pr_map, this]
    cases p <;> cases q <;> rfl
  beq p q := by
    have : pureRun Try.prog (Op.equal 4 (.bool p) (.bool q)) = some (p == q) := eqin_bool Try.underlying4 9999 p q
    simp [scalarBin, eqGuard, binOp, pr_bind, pr_prog, pr_pure, pr_map, this]
theorem apart_row {avs : List AV} (h : okArgs Try.prog slW stW Try.f5.params.toList avs) : AWF Try.prog ann 0 5 avs (fun _ => none) fun v _ => v = .sc (.bool true) := by
  obtain ⟨a, b, rfl, ha, hb⟩ := okArgs2 (t := 24) (u := 24) h
  obtain ⟨cs, c, rfl, hc⟩ := cell_arg ha
  obtain ⟨cs', c', rfl, hc'⟩ := cell_arg hb
  exact apart_law has hasC hc hc' _
end Go.Proofs.Ytjebhcflpibkkaa
