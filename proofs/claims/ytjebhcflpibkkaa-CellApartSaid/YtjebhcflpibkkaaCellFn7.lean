/- What the functions come to: checks, bytes of what may be. -/
import Derived.Test.YtjebhcflpibkkaaCellFn6
set_option linter.unusedVariables false
set_option linter.unusedSimpArgs false
namespace Go.Proofs.Ytjebhcflpibkkaa
open Go.Am
theorem encL_bd {l : List Cel} (h : ∀ x ∈ l, ∀ left : Int, okC x → 0 ≤ left → left < 2 ^ 60 → 0 ≤ countS x left → ((encB x).length : Int) ≤ 65556 * (left - countS x left) ∧ countS x left + 1 ≤ left) :
    ∀ left : Int, okL l → left < 2 ^ 60 → 0 ≤ countL l left → ((encL l).length : Int) ≤ 65556 * (left - countL l left) ∧ (l.length : Int) ≤ left - countL l left := by
  induction l with
  | nil => intro left _ _ _; rw [encL, countL]; simp
  | cons x l ih =>
    intro left ho hlt hc
    rw [countL] at hc ⊢
    rw [okL] at ho
    split at hc
    · omega
    · rename_i h0
      rw [if_neg h0]
      have h1 : 0 ≤ countS x left := by
        rcases Int.lt_or_le (countS x left) 0 with h | h
        · have := countL_neg (l := l) h
          omega
        · exact h
      have a := h x (by simp) left ho.1 (by omega) hlt h1
      have b := ih (fun y hy => h y (by simp [hy])) (countS x left) ho.2 (by omega) hc
      rw [encL, List.length_append, List.length_cons]
      omega
theorem encB_bd (c : Cel) : ∀ left : Int, okC c → 0 ≤ left → left < 2 ^ 60 → 0 ≤ countS c left → ((encB c).length : Int) ≤ 65556 * (left - countS c left) ∧ countS c left + 1 ≤ left := by
  induction c using Cel.ind with
  | h c ih =>
    cases c with
    | mk k n s l =>
      intro left ho h0 h1 hc
      rw [okC] at ho
      obtain ⟨⟨o1, o2⟩, o3, o4⟩ := ho
      rw [countS] at hc ⊢
      split at hc
      · omega
      rename_i hs
      rw [if_neg hs]
      have hb := encL_bd (l := l) ih (left - 1) o4 (by omega) hc
      have n1 := numB_len (n := zig n) (by unfold zig; split <;> omega)
      have n2 := numB_len (n := s.size) (by omega)
      have n3 := numB_len (n := l.length) (by omega)
      have hsz : s.data.toList.length = s.size := by rw [Array.length_toList]; rfl
      rw [encB]
      constructor
      · split
        · rw [List.length_cons]; omega
        · split
          · rw [List.length_cons, List.length_append]; omega
          · rw [List.length_cons, List.length_append]; omega
      · omega
def checkS (c : Cel) : Nat := if deepS 12 c then 13 else if pureS c then (if countS c 4096 < 0 then 3 else 0) else 1
def encE (c : Cel) : Nat := if checkS c = 0 then (if (encB c).length ≤ 65536 then 0 else 3) else checkS c
theorem checkS_ok {c : Cel} (h : checkS c = 0) : deepS 12 c = false ∧ pureS c = true ∧ 0 ≤ countS c 4096 := by
  unfold checkS at h
  split at h
  · cases h
  · rename_i h1
    split at h
    · rename_i h2
      split at h
      · cases h
      · rename_i h3
        exact ⟨by simpa using h1, h2, by omega⟩
    · cases h
theorem enc_bd {c : Cel} (h : checkS c = 0) : okC c ∧ (encB c).length ≤ 2 ^ 40 := by
  obtain ⟨_, h2, h3⟩ := checkS_ok h
  have ho := okC_of c 4096 h2 h3
  have := encB_bd c 4096 ho (by omega) (by omega) h3
  exact ⟨ho, by omega⟩
def errN (n : Nat) : AV := .sc (.int .i64 (n : Nat))
/-- What comes of writing a cell. -/
def EncR (c : Cel) (r : AV) : Prop := ∃ v, r = .tu [v, errN (encE c)] ∧ SF 1 v (u8s (if encE c = 0 then encB c else []))
variable {P : Program} (H : Has P)
include H
theorem check_ok {c : Cel} {cs : List AV} (hce : CE cs c) (h : Heap) : AWF P ann 0 18 [.ag cs] h fun r h' => r = errN (checkS c) ∧ h' = h := by
  obtain ⟨v, es, rfl, hv, hl, hf⟩ := id hce.out
  refine AWF.fnPurec H.f0_18 rfl ?_
  have hO := OB.nil (h := h)
  (refine W_seq_gen fun N hN => ?_); simp (disch := first | omega | (simp only [List.length_cons, List.length_nil, List.length_append, u8s_len]; omega)) only [go_sem, ↓reduceIte, true_and, Nat.reduceLeDiff, Nat.reduceEqDiff, Nat.reduceAdd, Nat.reduceBEq, Int.reduceEq, H.cv_3_5, H.cv_5_3, hv.disc, hv.same]
  intro o1 h1
  refine hN _ ?_; clear hN N; refine W_ob (hO.new h1) fun hc hO => ?_
  refine W_forget (fun t => t 1 = .op o1 0 ∧ True) (by simp [upd_at, *] <;> (first | rfl | exact ⟨rfl, rfl⟩ | exact ⟨rfl, rfl, rfl⟩)) ?_; rintro t ⟨t1, -⟩
  (refine W_seq_gen fun M hM => ?_)
  rw [W_block]
  simp (disch := first | omega | (simp only [List.length_cons, List.length_nil, List.length_append, u8s_len]; omega)) only [go_sem, ↓reduceIte, true_and, Nat.reduceLeDiff, Nat.reduceEqDiff, Nat.reduceAdd, Nat.reduceBEq, Int.reduceEq, H.cv_3_5, H.cv_5_3, t1, hO.get0, hv.disc, hv.same]
  refine (deep_ok H 12 c _ (by omega) hce _).mono ?_
  rintro _ _ ⟨rfl, hh⟩; subst hh
  cases hd : deepS 12 c with
  | true =>
    rw [contK_some]; simp (disch := first | omega | (simp only [List.length_cons, List.length_nil, List.length_append, u8s_len]; omega)) only [go_sem, ↓reduceIte, true_and, Nat.reduceLeDiff, Nat.reduceEqDiff, Nat.reduceAdd, Nat.reduceBEq, Int.reduceEq, H.cv_3_5, H.cv_5_3]
    rw [checkS, if_pos hd]
    exact ⟨rfl, hO.keep⟩
  | false =>
    rw [contK_some]; simp (disch := first | omega | (simp only [List.length_cons, List.length_nil, List.length_append, u8s_len]; omega)) only [go_sem, ↓reduceIte, true_and, Nat.reduceLeDiff, Nat.reduceEqDiff, Nat.reduceAdd, Nat.reduceBEq, Int.reduceEq, H.cv_3_5, H.cv_5_3, t1, hO.get0, hv.disc, hv.same]
    refine (pure_ok H c _ hce _).mono ?_
    rintro _ _ ⟨rfl, hh⟩; subst hh
    cases hp : pureS c with
    | false =>
      rw [contK_some]; simp (disch := first | omega | (simp only [List.length_cons, List.length_nil, List.length_append, u8s_len]; omega)) only [go_sem, ↓reduceIte, true_and, Nat.reduceLeDiff, Nat.reduceEqDiff, Nat.reduceAdd, Nat.reduceBEq, Int.reduceEq, H.cv_3_5, H.cv_5_3]
      rw [checkS, if_neg (by rw [hd]; decide), if_neg (by rw [hp]; decide)]
      exact ⟨rfl, hO.keep⟩
    | true =>
      rw [contK_some]; simp (disch := first | omega | (simp only [List.length_cons, List.length_nil, List.length_append, u8s_len]; omega)) only [go_sem, ↓reduceIte, true_and, Nat.reduceLeDiff, Nat.reduceEqDiff, Nat.reduceAdd, Nat.reduceBEq, Int.reduceEq, H.cv_3_5, H.cv_5_3, t1, hO.get0, hv.disc, hv.same]
      refine (count_ok H c _ 4096 (by omega) (by omega) hce _).mono ?_
      rintro _ _ ⟨rfl, hh⟩; subst hh
      by_cases c1 : countS c 4096 < ((0 : Nat) : Int)
      · rw [contK_some]; simp (disch := first | omega | (simp only [List.length_cons, List.length_nil, List.length_append, u8s_len]; omega)) only [go_sem, ↓reduceIte, true_and, Nat.reduceLeDiff, Nat.reduceEqDiff, Nat.reduceAdd, Nat.reduceBEq, Int.reduceEq, H.cv_3_5, H.cv_5_3, c1]
        rw [checkS, if_neg (by rw [hd]; decide), if_pos hp, if_pos (show countS c 4096 < 0 from c1)]
        exact ⟨rfl, hO.keep⟩
      · rw [contK_some]; simp (disch := first | omega | (simp only [List.length_cons, List.length_nil, List.length_append, u8s_len]; omega)) only [go_sem, ↓reduceIte, true_and, Nat.reduceLeDiff, Nat.reduceEqDiff, Nat.reduceAdd, Nat.reduceBEq, Int.reduceEq, H.cv_3_5, H.cv_5_3, c1]
        refine hM _ ?_; clear hM M
        simp (disch := first | omega | (simp only [List.length_cons, List.length_nil, List.length_append, u8s_len]; omega)) only [go_sem, ↓reduceIte, true_and, Nat.reduceLeDiff, Nat.reduceEqDiff, Nat.reduceAdd, Nat.reduceBEq, Int.reduceEq, H.cv_3_5, H.cv_5_3]
        rw [checkS, if_neg (by rw [hd]; decide), if_pos hp, if_neg (show ¬ countS c 4096 < 0 from c1)]
        exact ⟨rfl, hO.keep⟩
theorem encode_ok {c : Cel} {cs : List AV} (hce : CE cs c) (h : Heap) : AWF P ann 0 13 [.ag cs] h fun r h' => EncR c r ∧ h' = h := by
  obtain ⟨v, es, rfl, hv, hl, hf⟩ := id hce.out
  refine AWF.fnPurec H.f0_13 rfl ?_
  have hO := OB.nil (h := h)
  (refine W_seq_gen fun N hN => ?_); simp (disch := first | omega | (simp only [List.length_cons, List.length_nil, List.length_append, u8s_len]; omega)) only [go_sem, ↓reduceIte, true_and, Nat.reduceLeDiff, Nat.reduceEqDiff, Nat.reduceAdd, Nat.reduceBEq, Int.reduceEq, H.cv_3_5, H.cv_5_3, hv.disc, hv.same]
  intro o1 h1
  refine hN _ ?_; clear hN N; refine W_ob (hO.new h1) fun hc hO => ?_
  refine W_forget (fun t => t 1 = .op o1 0 ∧ True) (by simp [upd_at, *] <;> (first | rfl | exact ⟨rfl, rfl⟩ | exact ⟨rfl, rfl, rfl⟩)) ?_; rintro t ⟨t1, -⟩
  (refine W_seq_gen fun N hN => ?_); simp (disch := first | omega | (simp only [List.length_cons, List.length_nil, List.length_append, u8s_len]; omega)) only [go_sem, ↓reduceIte, true_and, Nat.reduceLeDiff, Nat.reduceEqDiff, Nat.reduceAdd, Nat.reduceBEq, Int.reduceEq, H.cv_3_5, H.cv_5_3, t1, hO.get0, hv.disc, hv.same]
  refine (check_ok H hce _).mono ?_
  rintro _ _ ⟨rfl, hh⟩; subst hh
  generalize hk : checkS c = k
  by_cases k0 : k = 0
  case neg =>
    have q : (!decide (k = 0)) = true := by simp [k0]
    rw [contK_some]; simp (disch := first | omega | (simp only [List.length_cons, List.length_nil, List.length_append, u8s_len]; omega)) only [go_sem, ↓reduceIte, true_and, Nat.reduceLeDiff, Nat.reduceEqDiff, Nat.reduceAdd, Nat.reduceBEq, Int.reduceEq, H.cv_3_5, H.cv_5_3, errN, q]
    have he : encE c = k := by rw [encE, hk, if_neg k0]
    refine ⟨⟨_, by rw [he]; rfl, ?_⟩, hO.keep⟩
    rw [he, if_neg k0]
    exact SF.nil
  subst k0
  have hb := enc_bd hk
  rw [contK_some]; simp (disch := first | omega | (simp only [List.length_cons, List.length_nil, List.length_append, u8s_len]; omega)) only [go_sem, ↓reduceIte, true_and, Nat.reduceLeDiff, Nat.reduceEqDiff, Nat.reduceAdd, Nat.reduceBEq, Int.reduceEq, H.cv_3_5, H.cv_5_3, errN]
  refine hN _ ?_; clear hN N
  (refine W_seq_gen fun N hN => ?_); simp (disch := first | omega | (simp only [List.length_cons, List.length_nil, List.length_append, u8s_len]; omega)) only [go_sem, ↓reduceIte, true_and, Nat.reduceLeDiff, Nat.reduceEqDiff, Nat.reduceAdd, Nat.reduceBEq, Int.reduceEq, H.cv_3_5, H.cv_5_3, t1, hO.get0, hv.disc, hv.same]
  refine (put_ok H c _ hce hb.1 _ [] SG.nil (by simpa using hb.2) _).mono ?_
  rintro r _ ⟨hr, hh⟩; subst hh
  rw [PutR, List.nil_append] at hr
  split at hr
  · rename_i hle
    have he : encE c = 0 := by rw [encE, hk, if_pos rfl, if_pos (by simpa using hle)]
    obtain ⟨lim, rfl⟩ := hr
    rw [contK_some]; simp (disch := first | omega | (simp only [List.length_cons, List.length_nil, List.length_append, u8s_len]; omega)) only [go_sem, ↓reduceIte, true_and, Nat.reduceLeDiff, Nat.reduceEqDiff, Nat.reduceAdd, Nat.reduceBEq, Int.reduceEq, H.cv_3_5, H.cv_5_3]
    refine hN _ ?_; clear hN N
    (refine W_seq_gen fun N hN => ?_); simp (disch := first | omega | (simp only [List.length_cons, List.length_nil, List.length_append, u8s_len]; omega)) only [go_sem, ↓reduceIte, true_and, Nat.reduceLeDiff, Nat.reduceEqDiff, Nat.reduceAdd, Nat.reduceBEq, Int.reduceEq, H.cv_3_5, H.cv_5_3]
    refine hN _ ?_; clear hN N
    simp (disch := first | omega | (simp only [List.length_cons, List.length_nil, List.length_append, u8s_len]; omega)) only [go_sem, ↓reduceIte, true_and, Nat.reduceLeDiff, Nat.reduceEqDiff, Nat.reduceAdd, Nat.reduceBEq, Int.reduceEq, H.cv_3_5, H.cv_5_3]
    refine ⟨⟨_, by rw [he]; rfl, ?_⟩, hO.keep⟩
    rw [he, if_pos rfl]
    exact SF.bs
  · rename_i hle
    have he : encE c = 3 := by rw [encE, hk, if_pos rfl, if_neg (by simpa using hle)]
    subst hr
    rw [contK_some]; simp (disch := first | omega | (simp only [List.length_cons, List.length_nil, List.length_append, u8s_len]; omega)) only [go_sem, ↓reduceIte, true_and, Nat.reduceLeDiff, Nat.reduceEqDiff, Nat.reduceAdd, Nat.reduceBEq, Int.reduceEq, H.cv_3_5, H.cv_5_3]
    refine hN _ ?_; clear hN N
    simp (disch := first | omega | (simp only [List.length_cons, List.length_nil, List.length_append, u8s_len]; omega)) only [go_sem, ↓reduceIte, true_and, Nat.reduceLeDiff, Nat.reduceEqDiff, Nat.reduceAdd, Nat.reduceBEq, Int.reduceEq, H.cv_3_5, H.cv_5_3]
    refine ⟨⟨_, by rw [he]; rfl, ?_⟩, hO.keep⟩
    rw [he, if_neg (by decide)]
    exact SF.nil
end Go.Proofs.Ytjebhcflpibkkaa
