/- The law of sums and products. -/
import Derived.Test.YtjnoigekhdjkcaaGaussArgs
import Derived.Test.YtjnoigekhdjkcaaAmFg
set_option linter.unusedVariables false
set_option linter.unusedSimpArgs false
namespace Go.Proofs.Ytjnoigekhdjkcaa
open Go.Am
theorem mulP_comm (a b : Pt) : mulP a b = mulP b a := by
  simp only [mulP]
  exact pt_ext (by grind) (by grind)
theorem mulP_add (a b c : Pt) : mulP (a.1 + b.1, a.2 + b.2) c = ((mulP a c).1 + (mulP b c).1, (mulP a c).2 + (mulP b c).2) := by
  simp only [mulP]
  exact pt_ext (by grind) (by grind)
theorem mulS_comm (a b : Pt) : mulS a b = mulS b a := by
  rw [mulS, mulS, mulP_comm a b]
  by_cases h : okPt a ∧ okPt b
  · rw [if_pos h, if_pos (show okPt b ∧ okPt a from ⟨h.2, h.1⟩)]
  · rw [if_neg h, if_neg (show ¬ (okPt b ∧ okPt a) from fun g => h ⟨g.2, g.1⟩)]
theorem addS_0 {a b : Pt} (h : (addS a b).2 = 0) : okPt a ∧ okPt b ∧ okPt (a.1 + b.1, a.2 + b.2) ∧ addS a b = ((a.1 + b.1, a.2 + b.2), 0) := by
  rw [addS] at h ⊢
  split at h
  · rename_i q
    rw [if_pos q]
    split at h
    · rename_i q2; rw [if_pos q2]; exact ⟨q.1, q.2, q2, rfl⟩
    · cases h
  · cases h
theorem mulS_0 {a b : Pt} (h : (mulS a b).2 = 0) : okPt a ∧ okPt b ∧ okPt (mulP a b) ∧ mulS a b = (mulP a b, 0) := by
  rw [mulS] at h ⊢
  split at h
  · rename_i q
    rw [if_pos q]
    split at h
    · rename_i q2; rw [if_pos q2]; exact ⟨q.1, q.2, q2, rfl⟩
    · cases h
  · cases h
theorem ring_law {a b c : Pt} (h1 : (addS a b).2 = 0) (h2 : (mulS (addS a b).1 c).2 = 0) (h3 : (mulS a c).2 = 0) (h4 : (mulS b c).2 = 0) :
    addS (mulS a c).1 (mulS b c).1 = mulS (addS a b).1 c := by
  obtain ⟨_, _, _, e1⟩ := addS_0 h1
  rw [e1] at h2 ⊢
  obtain ⟨_, _, g2, e2⟩ := mulS_0 h2
  obtain ⟨_, _, g3, e3⟩ := mulS_0 h3
  obtain ⟨_, _, g4, e4⟩ := mulS_0 h4
  rw [e2, e3, e4, addS, if_pos ⟨g3, g4⟩]
  rw [mulP_add] at g2
  rw [if_pos g2, mulP_add]
variable {P : Program} (H : Has P) (HC : HasC P)
include H HC
theorem rings_law (a b c : Pt) (h : Heap) : AWF P ann 0 4 [ptA a, ptA b, ptA c] h fun r _ => r = .sc (.bool true) := by
  refine AWF.fnc H.f0_4 rfl ?_
  have hO := OB.nil (h := h)
  (refine W_seq_gen fun N hN => ?_); simp (disch := first | omega | (simp only [List.length_cons, List.length_nil, List.length_append, u8s_len]; omega)) only [go_sem, ↓reduceIte, true_and, Nat.reduceLeDiff, Nat.reduceEqDiff, Nat.reduceAdd, Nat.reduceBEq, Int.reduceEq, ptA]
  intro o3 h3 o4 h4 o5 h5
  refine hN _ ?_; clear hN N; refine W_ob (((hO.new h3).new h4).new h5) fun hc hO => ?_
  refine W_forget (fun t => t 3 = .op o3 0 ∧ t 4 = .op o4 0 ∧ t 5 = .op o5 0 ∧ True) (by simp [upd_at, *] <;> rfl) ?_; rintro t ⟨t3, t4, t5, -⟩
  (refine W_seq_gen fun N hN => ?_); simp (disch := first | omega | (simp only [List.length_cons, List.length_nil, List.length_append, u8s_len]; omega)) only [go_sem, ↓reduceIte, true_and, Nat.reduceLeDiff, Nat.reduceEqDiff, Nat.reduceAdd, Nat.reduceBEq, Int.reduceEq, t3, t4, t5, hO.get0, hO.get1, hO.get2]
  refine (add_ok H a b _).mono ?_
  rintro _ _ ⟨rfl, hh⟩; subst hh
  generalize hs : addS a b = s
  rw [contK_some]; simp (disch := first | omega | (simp only [List.length_cons, List.length_nil, List.length_append, u8s_len]; omega)) only [go_sem, ↓reduceIte, true_and, Nat.reduceLeDiff, Nat.reduceEqDiff, Nat.reduceAdd, Nat.reduceBEq, Int.reduceEq, resP, ptA, errN]
  intro o7 h7
  refine hN _ ?_; clear hN N; refine W_ob (hO.new h7) fun hc hO => ?_
  refine W_forget (fun t => t 3 = .op o3 0 ∧ t 4 = .op o4 0 ∧ t 5 = .op o5 0 ∧ t 7 = .op o7 0 ∧ t 8 = .sc (.int .i64 (s.2 : Nat)) ∧ True) (by simp [upd_at, *] <;> rfl) ?_; rintro t ⟨t3, t4, t5, t7, t8, -⟩
  (refine W_seq_gen fun N hN => ?_); simp (disch := first | omega | (simp only [List.length_cons, List.length_nil, List.length_append, u8s_len]; omega)) only [go_sem, ↓reduceIte, true_and, Nat.reduceLeDiff, Nat.reduceEqDiff, Nat.reduceAdd, Nat.reduceBEq, Int.reduceEq, t3, t4, t5, t7, t8, hO.get0, hO.get1]
  refine (mul_ok H s.1 c _).mono ?_
  rintro _ _ ⟨rfl, hh⟩; subst hh
  generalize hx : mulS s.1 c = x
  rw [contK_some]; simp (disch := first | omega | (simp only [List.length_cons, List.length_nil, List.length_append, u8s_len]; omega)) only [go_sem, ↓reduceIte, true_and, Nat.reduceLeDiff, Nat.reduceEqDiff, Nat.reduceAdd, Nat.reduceBEq, Int.reduceEq, resP, ptA, errN]
  intro o9 h9
  refine hN _ ?_; clear hN N; refine W_ob (hO.new h9) fun hc hO => ?_
  refine W_forget (fun t => t 3 = .op o3 0 ∧ t 4 = .op o4 0 ∧ t 5 = .op o5 0 ∧ t 8 = .sc (.int .i64 (s.2 : Nat)) ∧ t 9 = .op o9 0 ∧ t 10 = .sc (.int .i64 (x.2 : Nat)) ∧ True) (by simp [upd_at, *] <;> rfl) ?_; rintro t ⟨t3, t4, t5, t8, t9, t10, -⟩
  (refine W_seq_gen fun N hN => ?_); simp (disch := first | omega | (simp only [List.length_cons, List.length_nil, List.length_append, u8s_len]; omega)) only [go_sem, ↓reduceIte, true_and, Nat.reduceLeDiff, Nat.reduceEqDiff, Nat.reduceAdd, Nat.reduceBEq, Int.reduceEq, t3, t4, t5, t8, t9, t10, hO.get4, hO.get2]
  refine (mul_ok H a c _).mono ?_
  rintro _ _ ⟨rfl, hh⟩; subst hh
  generalize hp : mulS a c = p
  rw [contK_some]; simp (disch := first | omega | (simp only [List.length_cons, List.length_nil, List.length_append, u8s_len]; omega)) only [go_sem, ↓reduceIte, true_and, Nat.reduceLeDiff, Nat.reduceEqDiff, Nat.reduceAdd, Nat.reduceBEq, Int.reduceEq, resP, ptA, errN]
  intro o11 h11
  refine hN _ ?_; clear hN N; refine W_ob (hO.new h11) fun hc hO => ?_
  refine W_forget (fun t => t 3 = .op o3 0 ∧ t 4 = .op o4 0 ∧ t 5 = .op o5 0 ∧ t 8 = .sc (.int .i64 (s.2 : Nat)) ∧ t 9 = .op o9 0 ∧ t 10 = .sc (.int .i64 (x.2 : Nat)) ∧ t 11 = .op o11 0 ∧ t 12 = .sc (.int .i64 (p.2 : Nat)) ∧ True) (by simp [upd_at, *] <;> rfl) ?_; rintro t ⟨t3, t4, t5, t8, t9, t10, t11, t12, -⟩
  (refine W_seq_gen fun N hN => ?_); simp (disch := first | omega | (simp only [List.length_cons, List.length_nil, List.length_append, u8s_len]; omega)) only [go_sem, ↓reduceIte, true_and, Nat.reduceLeDiff, Nat.reduceEqDiff, Nat.reduceAdd, Nat.reduceBEq, Int.reduceEq, t3, t4, t5, t8, t9, t10, t11, t12, hO.get4, hO.get3]
  refine (mul_ok H b c _).mono ?_
  rintro _ _ ⟨rfl, hh⟩; subst hh
  generalize hq : mulS b c = q
  rw [contK_some]; simp (disch := first | omega | (simp only [List.length_cons, List.length_nil, List.length_append, u8s_len]; omega)) only [go_sem, ↓reduceIte, true_and, Nat.reduceLeDiff, Nat.reduceEqDiff, Nat.reduceAdd, Nat.reduceBEq, Int.reduceEq, resP, ptA, errN]
  intro o13 h13
  refine hN _ ?_; clear hN N; refine W_ob (hO.new h13) fun hc hO => ?_
  refine W_forget (fun t => t 3 = .op o3 0 ∧ t 4 = .op o4 0 ∧ t 8 = .sc (.int .i64 (s.2 : Nat)) ∧ t 9 = .op o9 0 ∧ t 10 = .sc (.int .i64 (x.2 : Nat)) ∧ t 11 = .op o11 0 ∧ t 12 = .sc (.int .i64 (p.2 : Nat)) ∧ t 13 = .op o13 0 ∧ t 14 = .sc (.int .i64 (q.2 : Nat)) ∧ True) (by simp [upd_at, *] <;> rfl) ?_; rintro t ⟨t3, t4, t8, t9, t10, t11, t12, t13, t14, -⟩
  (refine W_seq_gen fun N hN => ?_); simp (disch := first | omega | (simp only [List.length_cons, List.length_nil, List.length_append, u8s_len]; omega)) only [go_sem, ↓reduceIte, true_and, Nat.reduceLeDiff, Nat.reduceEqDiff, Nat.reduceAdd, Nat.reduceBEq, Int.reduceEq, t3, t4, t8, t9, t10, t11, t12, t13, t14, hO.get1, hO.get0]
  refine (add_ok H p.1 q.1 _).mono ?_
  rintro _ _ ⟨rfl, hh⟩; subst hh
  generalize hy : addS p.1 q.1 = y
  rw [contK_some]; simp (disch := first | omega | (simp only [List.length_cons, List.length_nil, List.length_append, u8s_len]; omega)) only [go_sem, ↓reduceIte, true_and, Nat.reduceLeDiff, Nat.reduceEqDiff, Nat.reduceAdd, Nat.reduceBEq, Int.reduceEq, resP, ptA, errN]
  intro o15 h15
  refine hN _ ?_; clear hN N; refine W_ob (hO.new h15) fun hc hO => ?_
  refine W_forget (fun t => t 3 = .op o3 0 ∧ t 4 = .op o4 0 ∧ t 8 = .sc (.int .i64 (s.2 : Nat)) ∧ t 9 = .op o9 0 ∧ t 10 = .sc (.int .i64 (x.2 : Nat)) ∧ t 12 = .sc (.int .i64 (p.2 : Nat)) ∧ t 14 = .sc (.int .i64 (q.2 : Nat)) ∧ t 15 = .op o15 0 ∧ t 16 = .sc (.int .i64 (y.2 : Nat)) ∧ True) (by simp [upd_at, *] <;> rfl) ?_; rintro t ⟨t3, t4, t8, t9, t10, t12, t14, t15, t16, -⟩
  -- o15 o13 o11 o9 o7 o5 o4 o3
  -- DEF T: t3, t4, t8, t9, t10, t12, t14, t15, t16
  (refine W_seq_gen fun M hM => ?_)
  have rest : ∀ t : Nat → AV, t 3 = .op o3 0 → t 4 = .op o4 0 → M ⟨t, hc⟩ := by
    clear t3 t4 t8 t9 t10 t12 t14 t15 t16 t
    intro t t3 t4
    refine hM _ ?_; clear hM M
    (refine W_seq_gen fun N hN => ?_); simp (disch := first | omega | (simp only [List.length_cons, List.length_nil, List.length_append, u8s_len]; omega)) only [go_sem, ↓reduceIte, true_and, Nat.reduceLeDiff, Nat.reduceEqDiff, Nat.reduceAdd, Nat.reduceBEq, Int.reduceEq, t3, t4, hO.get6, hO.get7]
    refine (mul_ok H a b _).mono ?_
    rintro _ _ ⟨rfl, hh⟩; subst hh
    generalize hm : mulS a b = m
    rw [contK_some]; simp (disch := first | omega | (simp only [List.length_cons, List.length_nil, List.length_append, u8s_len]; omega)) only [go_sem, ↓reduceIte, true_and, Nat.reduceLeDiff, Nat.reduceEqDiff, Nat.reduceAdd, Nat.reduceBEq, Int.reduceEq, resP, ptA, errN]
    intro o17 h17
    refine hN _ ?_; clear hN N; refine W_ob (hO.new h17) fun hc hO => ?_
    refine W_forget (fun t => t 3 = .op o3 0 ∧ t 4 = .op o4 0 ∧ t 17 = .op o17 0 ∧ t 18 = .sc (.int .i64 (m.2 : Nat)) ∧ True) (by simp [upd_at, *] <;> rfl) ?_; rintro t ⟨t3, t4, t17, t18, -⟩
    (refine W_seq_gen fun N hN => ?_); simp (disch := first | omega | (simp only [List.length_cons, List.length_nil, List.length_append, u8s_len]; omega)) only [go_sem, ↓reduceIte, true_and, Nat.reduceLeDiff, Nat.reduceEqDiff, Nat.reduceAdd, Nat.reduceBEq, Int.reduceEq, t3, t4, t17, t18, hO.get7, hO.tail.get7]
    refine (mul_ok H b a _).mono ?_
    rintro _ _ ⟨rfl, hh⟩; subst hh
    rw [← mulS_comm a b, hm]
    rw [contK_some]; simp (disch := first | omega | (simp only [List.length_cons, List.length_nil, List.length_append, u8s_len]; omega)) only [go_sem, ↓reduceIte, true_and, Nat.reduceLeDiff, Nat.reduceEqDiff, Nat.reduceAdd, Nat.reduceBEq, Int.reduceEq, resP, ptA, errN]
    intro o19 h19
    refine hN _ ?_; clear hN N; refine W_ob (hO.new h19) fun hc hO => ?_
    refine W_forget (fun t => t 17 = .op o17 0 ∧ t 18 = .sc (.int .i64 (m.2 : Nat)) ∧ t 19 = .op o19 0 ∧ t 20 = .sc (.int .i64 (m.2 : Nat)) ∧ True) (by simp [upd_at, *] <;> rfl) ?_; rintro t ⟨t17, t18, t19, t20, -⟩
    have eq := HC.eq m.1.1 m.1.2 m.1.1 m.1.2
    rw [show decide (m.1.1 = m.1.1 ∧ m.1.2 = m.1.2) = true from decide_eq_true ⟨rfl, rfl⟩] at eq
    (refine W_seq_gen fun N hN => ?_); simp (disch := first | omega | (simp only [List.length_cons, List.length_nil, List.length_append, u8s_len]; omega)) only [go_sem, ↓reduceIte, true_and, Nat.reduceLeDiff, Nat.reduceEqDiff, Nat.reduceAdd, Nat.reduceBEq, Int.reduceEq, t17, t18, t19, t20, eq, hO.get0, hO.get1]
    refine (awake_ok H HC _).mono ?_
    rintro _ _ ⟨rfl, hh⟩; subst hh
    rw [contK_some]; simp (disch := first | omega | (simp only [List.length_cons, List.length_nil, List.length_append, u8s_len]; omega)) only [go_sem, ↓reduceIte, true_and, Nat.reduceLeDiff, Nat.reduceEqDiff, Nat.reduceAdd, Nat.reduceBEq, Int.reduceEq]
    refine hN _ ?_; clear hN N
    simp (disch := first | omega | (simp only [List.length_cons, List.length_nil, List.length_append, u8s_len]; omega)) only [go_sem, ↓reduceIte, true_and, Nat.reduceLeDiff, Nat.reduceEqDiff, Nat.reduceAdd, Nat.reduceBEq, Int.reduceEq]
  clear hM
  by_cases s2 : s.2 = 0
  case neg =>
    (refine W_seq_gen fun N hN => ?_); simp (disch := first | omega | (simp only [List.length_cons, List.length_nil, List.length_append, u8s_len]; omega)) only [go_sem, ↓reduceIte, true_and, Nat.reduceLeDiff, Nat.reduceEqDiff, Nat.reduceAdd, Nat.reduceBEq, Int.reduceEq, t3, t4, t8, t9, t10, t12, t14, t15, t16, s2]
    refine hN _ ?_; clear hN N
    simp (disch := first | omega | (simp only [List.length_cons, List.length_nil, List.length_append, u8s_len]; omega)) only [go_sem, ↓reduceIte, true_and, Nat.reduceLeDiff, Nat.reduceEqDiff, Nat.reduceAdd, Nat.reduceBEq, Int.reduceEq]
    exact rest _ t3 t4
  by_cases x2 : x.2 = 0
  case neg =>
    (refine W_seq_gen fun N hN => ?_); simp (disch := first | omega | (simp only [List.length_cons, List.length_nil, List.length_append, u8s_len]; omega)) only [go_sem, ↓reduceIte, true_and, Nat.reduceLeDiff, Nat.reduceEqDiff, Nat.reduceAdd, Nat.reduceBEq, Int.reduceEq, t3, t4, t8, t9, t10, t12, t14, t15, t16, s2, x2]
    refine hN _ ?_; clear hN N
    simp (disch := first | omega | (simp only [List.length_cons, List.length_nil, List.length_append, u8s_len]; omega)) only [go_sem, ↓reduceIte, true_and, Nat.reduceLeDiff, Nat.reduceEqDiff, Nat.reduceAdd, Nat.reduceBEq, Int.reduceEq]
    exact rest _ t3 t4
  by_cases p2 : p.2 = 0
  case neg =>
    (refine W_seq_gen fun N hN => ?_); simp (disch := first | omega | (simp only [List.length_cons, List.length_nil, List.length_append, u8s_len]; omega)) only [go_sem, ↓reduceIte, true_and, Nat.reduceLeDiff, Nat.reduceEqDiff, Nat.reduceAdd, Nat.reduceBEq, Int.reduceEq, t3, t4, t8, t9, t10, t12, t14, t15, t16, s2, x2, p2]
    refine hN _ ?_; clear hN N
    simp (disch := first | omega | (simp only [List.length_cons, List.length_nil, List.length_append, u8s_len]; omega)) only [go_sem, ↓reduceIte, true_and, Nat.reduceLeDiff, Nat.reduceEqDiff, Nat.reduceAdd, Nat.reduceBEq, Int.reduceEq]
    exact rest _ t3 t4
  by_cases q2 : q.2 = 0
  case neg =>
    (refine W_seq_gen fun N hN => ?_); simp (disch := first | omega | (simp only [List.length_cons, List.length_nil, List.length_append, u8s_len]; omega)) only [go_sem, ↓reduceIte, true_and, Nat.reduceLeDiff, Nat.reduceEqDiff, Nat.reduceAdd, Nat.reduceBEq, Int.reduceEq, t3, t4, t8, t9, t10, t12, t14, t15, t16, s2, x2, p2, q2]
    refine hN _ ?_; clear hN N
    simp (disch := first | omega | (simp only [List.length_cons, List.length_nil, List.length_append, u8s_len]; omega)) only [go_sem, ↓reduceIte, true_and, Nat.reduceLeDiff, Nat.reduceEqDiff, Nat.reduceAdd, Nat.reduceBEq, Int.reduceEq]
    exact rest _ t3 t4
  have e : y = x := by
    subst hs; subst hp; subst hq; subst hx; subst hy
    exact ring_law s2 x2 p2 q2
  subst e
  have ne := HC.ne y.1.1 y.1.2 y.1.1 y.1.2
  rw [show decide (y.1.1 = y.1.1 ∧ y.1.2 = y.1.2) = true from decide_eq_true ⟨rfl, rfl⟩, Bool.not_true] at ne
  (refine W_seq_gen fun N hN => ?_); simp (disch := first | omega | (simp only [List.length_cons, List.length_nil, List.length_append, u8s_len]; omega)) only [go_sem, ↓reduceIte, true_and, Nat.reduceLeDiff, Nat.reduceEqDiff, Nat.reduceAdd, Nat.reduceBEq, Int.reduceEq, t3, t4, t8, t9, t10, t12, t14, t15, t16, s2, x2, p2, q2, ne, hO.get0, hO.get3]
  refine hN _ ?_; clear hN N
  simp (disch := first | omega | (simp only [List.length_cons, List.length_nil, List.length_append, u8s_len]; omega)) only [go_sem, ↓reduceIte, true_and, Nat.reduceLeDiff, Nat.reduceEqDiff, Nat.reduceAdd, Nat.reduceBEq, Int.reduceEq]
  exact rest _ t3 t4
end Go.Proofs.Ytjnoigekhdjkcaa
namespace Go.Proofs.Ytjnoigekhdjkcaa
open Go.Am
theorem rings_row {avs : List AV} (h : okArgs Try.prog slW stW Try.f4.params.toList avs) : AWF Try.prog ann 0 4 avs (fun _ => none) fun v _ => v = .sc (.bool true) := by
  obtain ⟨a, b, c, rfl, ha, hb, hc⟩ := okArgs3 (t := 23) (u := 23) (v := 23) h
  obtain ⟨p, rfl, _⟩ := point_arg ha
  obtain ⟨q, rfl, _⟩ := point_arg hb
  obtain ⟨r, rfl, _⟩ := point_arg hc
  exact rings_law has hasC p q r _
end Go.Proofs.Ytjnoigekhdjkcaa
