/- What the functions come to: measures by the reference. -/
import Derived.Test.YtjnoigekhdjkcaaGaussOps5
set_option linter.unusedVariables false
set_option linter.unusedSimpArgs false
namespace Go.Proofs.Ytjnoigekhdjkcaa
open Go.Am
theorem zn (p : Pt) : decide (p.1 = ((0 : Nat) : Int) ∧ p.2 = ((0 : Nat) : Int)) = decide (p = (0, 0)) := by
  rw [decide_eq_decide]
  exact ⟨fun ⟨a, b⟩ => pt_ext a b, fun h => by subst h; exact ⟨rfl, rfl⟩⟩
theorem upK_le (x : Pt) : upK x ≤ 3 := by unfold upK; split <;> (try split) <;> (try split) <;> (try split) <;> omega
theorem half_step {z w : Int} {i : Nat} (hz : 2 * z ≤ w) (hz0 : 0 ≤ z) (h : w.toNat < 2 ^ (200 - i)) (hi : i < 200) : z.toNat < 2 ^ (200 - (i + 1)) := by
  have : 2 ^ (200 - i) = 2 * 2 ^ (200 - (i + 1)) := by rw [show 200 - i = (200 - (i + 1)) + 1 by omega, Nat.pow_succ]; omega
  omega

variable {P : Program} (H : Has P) (HC : HasC P)
include H HC
theorem rgcd_ok {a b : Pt} (ha : okPt a) (hb : okPt b) (h : Heap) : AWF P ann 0 25 [ptA a, ptA b] h fun r h' => r = ptA (upP (gcdP a b)) ∧ h' = h := by
  refine AWF.fnPurec H.f0_25 rfl ?_
  have hO := OB.nil (h := h)
  (refine W_seq_gen fun N hN => ?_); simp (disch := first | omega | (simp only [List.length_cons, List.length_nil, List.length_append, u8s_len]; omega)) only [go_sem, ↓reduceIte, true_and, Nat.reduceLeDiff, Nat.reduceEqDiff, Nat.reduceAdd, Nat.reduceBEq, Int.reduceEq, ptA]
  intro o2 h2 o3 h3 o4 h4
  refine hN _ ?_; clear hN N; refine W_ob (((hO.new h2).new h3).new h4) fun hc hO => ?_
  (refine W_seq_gen fun M hM => ?_)
  (refine W_seq_gen fun N hN => ?_); simp (disch := first | omega | (simp only [List.length_cons, List.length_nil, List.length_append, u8s_len]; omega)) only [go_sem, ↓reduceIte, true_and, Nat.reduceLeDiff, Nat.reduceEqDiff, Nat.reduceAdd, Nat.reduceBEq, Int.reduceEq]
  refine hN _ ?_; clear hN N
  simp (disch := first | omega | (simp only [List.length_cons, List.length_nil, List.length_append, u8s_len]; omega)) only [go_sem, ↓reduceIte, true_and, Nat.reduceLeDiff, Nat.reduceEqDiff, Nat.reduceAdd, Nat.reduceBEq, Int.reduceEq]
  refine AW_loopN (fun m t h' => ∃ i x y, m = 200 - i ∧ i ≤ 200 ∧ okPt x ∧ okPt y ∧ gcdP x y = gcdP a b ∧ (nrm y).toNat < 2 ^ (200 - i) ∧ t 2 = .op o2 0 ∧ t 3 = .op o3 0 ∧ t 4 = .op o4 0 ∧ t 5 = .sc (.int .i64 (i : Nat)) ∧
      OB h [(o4, .arr [.sc (.int .i64 (0 : Nat)), .sc (.int .i64 (0 : Nat))]), (o3, .arr [.sc (.int .i64 y.1), .sc (.int .i64 y.2)]), (o2, .arr [.sc (.int .i64 x.1), .sc (.int .i64 x.2)])] h')
    (n := 200) ⟨0, a, b, rfl, by omega, ha, hb, rfl, ?_, by simp [upd_at], by simp [upd_at], by simp [upd_at], rfl, hO⟩ ?_
  · have h1 := nrm_le hb
    have h0 := nrm_nonneg b
    have : (2199023255552 : Nat) < 2 ^ (200 - 0) := by decide
    omega
  clear hO
  rintro m t h' ⟨i, x, y, rfl, hi, okx, oky, hg, hlt, t2, t3, t4, t5, hO⟩
  have ne := HC.ne y.1 y.2 ((0 : Nat) : Int) ((0 : Nat) : Int)
  rw [zn y] at ne
  by_cases hy0 : y = (0, 0)
  · have rest : ∀ t : Nat → AV, t 2 = .op o2 0 → t 4 = .op o4 0 → M ⟨t, h'⟩ := by
      clear t2 t3 t4 t5 ne t
      intro t t2 t4
      refine hM _ ?_; clear hM M
      have hg' : upP (gcdP a b) = upP x := by rw [← hg, hy0, gcdP_zero]
      rw [hg']
      clear hg' hg ha hb hlt hi
      (refine W_seq_gen fun M hM => ?_)
      (refine W_seq_gen fun N hN => ?_); simp (disch := first | omega | (simp only [List.length_cons, List.length_nil, List.length_append, u8s_len]; omega)) only [go_sem, ↓reduceIte, true_and, Nat.reduceLeDiff, Nat.reduceEqDiff, Nat.reduceAdd, Nat.reduceBEq, Int.reduceEq]
      refine hN _ ?_; clear hN N
      simp (disch := first | omega | (simp only [List.length_cons, List.length_nil, List.length_append, u8s_len]; omega)) only [go_sem, ↓reduceIte, true_and, Nat.reduceLeDiff, Nat.reduceEqDiff, Nat.reduceAdd, Nat.reduceBEq, Int.reduceEq]
      refine AW_loopN (fun m t h' => ∃ i z, m = 4 - i ∧ i ≤ 4 ∧ okPt z ∧ upP z = upP x ∧ (z = (0, 0) ∨ upK z + i ≤ 3) ∧ t 2 = .op o2 0 ∧ t 4 = .op o4 0 ∧ t 8 = .sc (.int .i64 (i : Nat)) ∧
          OB h [(o4, .arr [.sc (.int .i64 (0 : Nat)), .sc (.int .i64 (0 : Nat))]), (o3, .arr [.sc (.int .i64 y.1), .sc (.int .i64 y.2)]), (o2, .arr [.sc (.int .i64 z.1), .sc (.int .i64 z.2)])] h')
        (n := 4) ⟨0, x, rfl, by omega, okx, rfl, .inr (upK_le x), by simpa [upd_at] using t2, by simpa [upd_at] using t4, rfl, hO⟩ ?_
      clear hO t2 t4 t okx
      rintro m t h' ⟨i, z, rfl, hi, okz, hz, hk, t2, t4, t8, hO⟩
      have fin : upP z = z → ∀ t : Nat → AV, t 2 = .op o2 0 → t 4 = .op o4 0 → M ⟨t, h'⟩ := by
        clear t2 t4 t8 t
        intro hzz t t2 t4
        refine hM _ ?_; clear hM M
        simp (disch := first | omega | (simp only [List.length_cons, List.length_nil, List.length_append, u8s_len]; omega)) only [go_sem, ↓reduceIte, true_and, Nat.reduceLeDiff, Nat.reduceEqDiff, Nat.reduceAdd, Nat.reduceBEq, Int.reduceEq, t2, t4, hO.get0, hO.get2]
        rw [← hz, hzz]
        exact ⟨rfl, hO.st0.keep⟩
      have step : (z.1 ≤ 0 ∨ z.2 < 0) → upP (rotP z) = upP x ∧ (rotP z = (0, 0) ∨ upK (rotP z) + (i + 1) ≤ 3) := by
        intro hq
        constructor
        · by_cases hz0 : z = (0, 0)
          · subst hz0; exact hz
          · rw [← hz]; exact (upP_rot hz0 (by omega)).symm
        · by_cases hz0 : z = (0, 0)
          · subst hz0; exact .inl rfl
          · have := upK_rot hz0 (by omega)
            rcases hk with hk | hk
            · exact absurd hk hz0
            · exact .inr (by omega)
      rcases Nat.lt_or_ge i 4 with hlt | hge
      · by_cases c1 : z.1 > ((0 : Nat) : Int)
        · by_cases c2 : z.2 ≥ ((0 : Nat) : Int)
          · (refine W_seq_gen fun N hN => ?_); simp (disch := first | omega | (simp only [List.length_cons, List.length_nil, List.length_append, u8s_len]; omega)) only [go_sem, ↓reduceIte, true_and, Nat.reduceLeDiff, Nat.reduceEqDiff, Nat.reduceAdd, Nat.reduceBEq, Int.reduceEq, t2, t8, hlt, hO.get2, c1, c2]
            have hz0 : z ≠ (0, 0) := fun e => by subst e; exact absurd c1 (by decide)
            have h0 : upK z = 0 := (upK_zero hz0).2 ⟨by omega, by omega⟩
            refine fin (by unfold upP; rw [h0]; rfl) _ ?_ ?_
            · simpa [upd_at] using t2
            · simpa [upd_at] using t4
          · (refine W_seq_gen fun N hN => ?_); simp (disch := first | omega | (simp only [List.length_cons, List.length_nil, List.length_append, u8s_len]; omega)) only [go_sem, ↓reduceIte, true_and, Nat.reduceLeDiff, Nat.reduceEqDiff, Nat.reduceAdd, Nat.reduceBEq, Int.reduceEq, t2, t8, hlt, hO.get2, c1, c2]
            refine hN _ ?_; clear hN N
            (refine W_seq_gen fun N hN => ?_)
            rw [W_block]
            simp (disch := first | omega | (simp only [List.length_cons, List.length_nil, List.length_append, u8s_len]; omega)) only [go_sem, ↓reduceIte, true_and, Nat.reduceLeDiff, Nat.reduceEqDiff, Nat.reduceAdd, Nat.reduceBEq, Int.reduceEq, t2, hO.get2]
            refine (rturn_ok H okz 1 _).mono ?_
            rw [rotN_one]
            rintro _ _ ⟨rfl, hh⟩; subst hh
            rw [contK_some]; simp (disch := first | omega | (simp only [List.length_cons, List.length_nil, List.length_append, u8s_len]; omega)) only [go_sem, ↓reduceIte, true_and, Nat.reduceLeDiff, Nat.reduceEqDiff, Nat.reduceAdd, Nat.reduceBEq, Int.reduceEq, ptA, t2, hO.get2]
            refine hN _ ?_; clear hN N
            simp (disch := first | omega | (simp only [List.length_cons, List.length_nil, List.length_append, u8s_len]; omega)) only [go_sem, ↓reduceIte, true_and, Nat.reduceLeDiff, Nat.reduceEqDiff, Nat.reduceAdd, Nat.reduceBEq, Int.reduceEq, t8, nat_add]
            obtain ⟨s1, s2⟩ := step (by omega)
            exact ⟨4 - (i + 1), by omega, i + 1, rotP z, rfl, by omega, rot_ok okz, s1, s2, t2, t4, rfl, hO.st2⟩
        · (refine W_seq_gen fun N hN => ?_); simp (disch := first | omega | (simp only [List.length_cons, List.length_nil, List.length_append, u8s_len]; omega)) only [go_sem, ↓reduceIte, true_and, Nat.reduceLeDiff, Nat.reduceEqDiff, Nat.reduceAdd, Nat.reduceBEq, Int.reduceEq, t2, t8, hlt, hO.get2, c1]
          refine hN _ ?_; clear hN N
          (refine W_seq_gen fun N hN => ?_)
          rw [W_block]
          simp (disch := first | omega | (simp only [List.length_cons, List.length_nil, List.length_append, u8s_len]; omega)) only [go_sem, ↓reduceIte, true_and, Nat.reduceLeDiff, Nat.reduceEqDiff, Nat.reduceAdd, Nat.reduceBEq, Int.reduceEq, t2, hO.get2]
          refine (rturn_ok H okz 1 _).mono ?_
          rw [rotN_one]
          rintro _ _ ⟨rfl, hh⟩; subst hh
          rw [contK_some]; simp (disch := first | omega | (simp only [List.length_cons, List.length_nil, List.length_append, u8s_len]; omega)) only [go_sem, ↓reduceIte, true_and, Nat.reduceLeDiff, Nat.reduceEqDiff, Nat.reduceAdd, Nat.reduceBEq, Int.reduceEq, ptA, t2, hO.get2]
          refine hN _ ?_; clear hN N
          simp (disch := first | omega | (simp only [List.length_cons, List.length_nil, List.length_append, u8s_len]; omega)) only [go_sem, ↓reduceIte, true_and, Nat.reduceLeDiff, Nat.reduceEqDiff, Nat.reduceAdd, Nat.reduceBEq, Int.reduceEq, t8, nat_add]
          obtain ⟨s1, s2⟩ := step (by omega)
          exact ⟨4 - (i + 1), by omega, i + 1, rotP z, rfl, by omega, rot_ok okz, s1, s2, t2, t4, rfl, hO.st2⟩
      · obtain rfl : i = 4 := by omega
        (refine W_seq_gen fun N hN => ?_); simp (disch := first | omega | (simp only [List.length_cons, List.length_nil, List.length_append, u8s_len]; omega)) only [go_sem, ↓reduceIte, true_and, Nat.reduceLeDiff, Nat.reduceEqDiff, Nat.reduceAdd, Nat.reduceBEq, Int.reduceEq, t8, Nat.lt_irrefl]
        rcases hk with hk | hk
        case inr => omega
        refine fin (by rw [hk]; exact upP_zero) _ ?_ ?_
        · simpa [upd_at] using t2
        · simpa [upd_at] using t4
    clear hM
    by_cases hi2 : i < 200
    · rw [decide_eq_true hy0] at ne
      (refine W_seq_gen fun N hN => ?_); simp (disch := first | omega | (simp only [List.length_cons, List.length_nil, List.length_append, u8s_len]; omega)) only [go_sem, ↓reduceIte, true_and, Nat.reduceLeDiff, Nat.reduceEqDiff, Nat.reduceAdd, Nat.reduceBEq, Int.reduceEq, t3, t5, hi2, hO.get1, ne]
      refine rest _ ?_ ?_
      · simpa [upd_at] using t2
      · simpa [upd_at] using t4
    · (refine W_seq_gen fun N hN => ?_); simp (disch := first | omega | (simp only [List.length_cons, List.length_nil, List.length_append, u8s_len]; omega)) only [go_sem, ↓reduceIte, true_and, Nat.reduceLeDiff, Nat.reduceEqDiff, Nat.reduceAdd, Nat.reduceBEq, Int.reduceEq, t5, hi2]
      refine rest _ ?_ ?_
      · simpa [upd_at] using t2
      · simpa [upd_at] using t4
  have hi2 : i < 200 := by
    apply Nat.lt_of_not_le
    intro h
    obtain rfl : i = 200 := by omega
    have := nrm_pos hy0
    omega
  rw [decide_eq_false hy0] at ne
  (refine W_seq_gen fun N hN => ?_); simp (disch := first | omega | (simp only [List.length_cons, List.length_nil, List.length_append, u8s_len]; omega)) only [go_sem, ↓reduceIte, true_and, Nat.reduceLeDiff, Nat.reduceEqDiff, Nat.reduceAdd, Nat.reduceBEq, Int.reduceEq, t3, t5, hi2, hO.get1, ne]
  refine hN _ ?_; clear hN N
  (refine W_seq_gen fun N hN => ?_)
  rw [W_block]
  (refine W_seq_gen fun N hN => ?_); simp (disch := first | omega | (simp only [List.length_cons, List.length_nil, List.length_append, u8s_len]; omega)) only [go_sem, ↓reduceIte, true_and, Nat.reduceLeDiff, Nat.reduceEqDiff, Nat.reduceAdd, Nat.reduceBEq, Int.reduceEq, t2, t3, hO.get1, hO.get2]
  refine (rdiv_ok H okx oky hy0 _).mono ?_
  rintro _ _ ⟨rfl, hh⟩; subst hh
  rw [contK_some]; simp (disch := first | omega | (simp only [List.length_cons, List.length_nil, List.length_append, u8s_len]; omega)) only [go_sem, ↓reduceIte, true_and, Nat.reduceLeDiff, Nat.reduceEqDiff, Nat.reduceAdd, Nat.reduceBEq, Int.reduceEq, ptA]
  intro o6 h6 o7 h7
  have hO8 := (hO.new h6 (X := .arr [.sc (.int .i64 (0 : Nat)), .sc (.int .i64 (0 : Nat))])).new h7 (X := .arr [.sc (.int .i64 (0 : Nat)), .sc (.int .i64 (0 : Nat))])
  have n76 : ¬ o7 = o6 := hO8.ne01
  have n67 : ¬ o6 = o7 := fun e => n76 e.symm
  clear hO
  simp (disch := first | omega | (simp only [List.length_cons, List.length_nil, List.length_append, u8s_len]; omega)) only [go_sem, ↓reduceIte, true_and, Nat.reduceLeDiff, Nat.reduceEqDiff, Nat.reduceAdd, Nat.reduceBEq, Int.reduceEq, n76, n67]
  refine hN _ ?_; clear hN N; refine W_ob (hO8.st1.st0) fun hc hO => ?_
  (refine W_seq_gen fun N hN => ?_); simp (disch := first | omega | (simp only [List.length_cons, List.length_nil, List.length_append, u8s_len]; omega)) only [go_sem, ↓reduceIte, true_and, Nat.reduceLeDiff, Nat.reduceEqDiff, Nat.reduceAdd, Nat.reduceBEq, Int.reduceEq, t2, t3, hO.get3, hO.get4]
  refine hN _ ?_; clear hN N; refine W_ob (hO.st4) fun hc hO => ?_
  simp (disch := first | omega | (simp only [List.length_cons, List.length_nil, List.length_append, u8s_len]; omega)) only [go_sem, ↓reduceIte, true_and, Nat.reduceLeDiff, Nat.reduceEqDiff, Nat.reduceAdd, Nat.reduceBEq, Int.reduceEq, t2, t3, hO.get0, hO.get3]
  refine hN _ ?_; clear hN N
  refine W_ob hO.st3 fun hc hO => ?_
  simp (disch := first | omega | (simp only [List.length_cons, List.length_nil, List.length_append, u8s_len]; omega)) only [go_sem, ↓reduceIte, true_and, Nat.reduceLeDiff, Nat.reduceEqDiff, Nat.reduceAdd, Nat.reduceBEq, Int.reduceEq, t5, nat_add]
  exact ⟨200 - (i + 1), by omega, i + 1, y, remP x y, rfl, by omega, oky, rem_ok oky (nrm_pos hy0), by rw [← hg, gcdP_step hy0], half_step (rem_half (nrm_pos hy0)) (nrm_nonneg _) hlt hi2, t2, t3, t4, rfl, hO.tail.tail⟩
theorem divides_ok {a b : Pt} (ha : okPt a) (hb : okPt b) (h0 : a ≠ (0, 0)) (h : Heap) : AWF P ann 0 26 [ptA a, ptA b] h fun r h' => r = .sc (.bool (decide (remP b a = (0, 0)))) ∧ h' = h := by
  refine AWF.fnPurec H.f0_26 rfl ?_
  have hO := OB.nil (h := h)
  (refine W_seq_gen fun N hN => ?_); simp (disch := first | omega | (simp only [List.length_cons, List.length_nil, List.length_append, u8s_len]; omega)) only [go_sem, ↓reduceIte, true_and, Nat.reduceLeDiff, Nat.reduceEqDiff, Nat.reduceAdd, Nat.reduceBEq, Int.reduceEq, ptA]
  intro o2 h2 o3 h3
  refine hN _ ?_; clear hN N; refine W_ob ((hO.new h2).new h3) fun hc hO => ?_
  (refine W_seq_gen fun N hN => ?_); simp (disch := first | omega | (simp only [List.length_cons, List.length_nil, List.length_append, u8s_len]; omega)) only [go_sem, ↓reduceIte, true_and, Nat.reduceLeDiff, Nat.reduceEqDiff, Nat.reduceAdd, Nat.reduceBEq, Int.reduceEq, hO.get0, hO.get1]
  refine (rdiv_ok H hb ha h0 _).mono ?_
  rintro _ _ ⟨rfl, hh⟩; subst hh
  rw [contK_some]; simp (disch := first | omega | (simp only [List.length_cons, List.length_nil, List.length_append, u8s_len]; omega)) only [go_sem, ↓reduceIte, true_and, Nat.reduceLeDiff, Nat.reduceEqDiff, Nat.reduceAdd, Nat.reduceBEq, Int.reduceEq, ptA]
  intro o5 h5 o6 h6
  have hO8 := (hO.new h5 (X := .arr [.sc (.int .i64 (0 : Nat)), .sc (.int .i64 (0 : Nat))])).new h6 (X := .arr [.sc (.int .i64 (0 : Nat)), .sc (.int .i64 (0 : Nat))])
  have n65 : ¬ o6 = o5 := hO8.ne01
  have n56 : ¬ o5 = o6 := fun e => n65 e.symm
  have eq := HC.eq (remP b a).1 (remP b a).2 ((0 : Nat) : Int) ((0 : Nat) : Int)
  rw [zn] at eq
  simp (disch := first | omega | (simp only [List.length_cons, List.length_nil, List.length_append, u8s_len]; omega)) only [go_sem, ↓reduceIte, true_and, Nat.reduceLeDiff, Nat.reduceEqDiff, Nat.reduceAdd, Nat.reduceBEq, Int.reduceEq, n65, n56]
  refine hN _ ?_; clear hN N; refine W_ob (hO8.st1.st0) fun hc hO => ?_
  simp (disch := first | omega | (simp only [List.length_cons, List.length_nil, List.length_append, u8s_len]; omega)) only [go_sem, ↓reduceIte, true_and, Nat.reduceLeDiff, Nat.reduceEqDiff, Nat.reduceAdd, Nat.reduceBEq, Int.reduceEq, hO.get0, eq]
  exact hO.keep
end Go.Proofs.Ytjnoigekhdjkcaa
