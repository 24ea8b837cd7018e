/- The laws of the package seal, in the abstract machine. -/
import Derived.Test.YtfiaekgmblbmiaaSealRec
set_option linter.unusedVariables false
set_option linter.unusedSimpArgs false
namespace Go.Proofs.Ytfiaekgmblbmiaa
open Go.Am

/-- The document's record, as a value. -/
def recV (l : List UInt8) : AV := catV 1 (u8s (three (sumS l).toNat)) (catV 1 (u8s l) (catV 1 (u8s (three (sumS (three l.length)).toNat)) (catV 1 (u8s (three l.length)) (.bs true 1 [] (some 0)))))
theorem recV_ok (l : List UInt8) : SG 1 (recV l) (u8s (recS l)) := by
  have := ((((SG.bs : SG 1 (.bs true 1 [] (some 0)) []).cat (u8s (three l.length))).cat (u8s (three (sumS (three l.length)).toNat))).cat (u8s l)).cat (u8s (three (sumS l).toNat))
  simp only [List.nil_append, u8s_app] at this
  exact this

theorem num3_three (n : Nat) (hn : n < 2 ^ 24) : take3 (three n) = n := by
  unfold take3 three num3
  simp
  omega
theorem take3_app (a b : List UInt8) (h : 3 ≤ a.length) : take3 (a ++ b) = take3 a := by
  match a, h with
  | x :: y :: z :: r, _ => rfl
/-- What is sealed is read, whatever follows. -/
theorem first_rec (l m : List UInt8) (hl : l.length ≤ 16384) : firstS (recS l ++ m) = (l, l.length + 9, 0) := by
  have hs := sum_lt (three l.length)
  have hs2 := sum_lt l
  have hlen : (recS l ++ m).length = l.length + 9 + m.length := by simp [recS, three_len]; omega
  have e : recS l ++ m = three l.length ++ (three (sumS (three l.length)).toNat ++ (l ++ (three (sumS l).toNat ++ m))) := by simp [recS]
  have e3 : (recS l ++ m).drop 3 = three (sumS (three l.length)).toNat ++ (l ++ (three (sumS l).toNat ++ m)) := by rw [e]; rfl
  have t3 : (recS l ++ m).take 3 = three l.length := by rw [e]; rfl
  have e6 : (recS l ++ m).drop 6 = l ++ (three (sumS l).toNat ++ m) := by rw [e]; rfl
  have h1 : take3 (recS l ++ m) = l.length := by rw [e, take3_app _ _ (by simp [three_len]), num3_three _ (by omega)]
  have h2 : take3 ((recS l ++ m).drop 3) = (sumS ((recS l ++ m).take 3)).toNat := by rw [e3, t3, take3_app _ _ (by simp [three_len]), num3_three _ hs]
  have e9 : (recS l ++ m).drop (6 + l.length) = three (sumS l).toNat ++ m := by rw [← List.drop_drop, e6, List.drop_left]
  have t9 : ((recS l ++ m).drop 6).take l.length = l := by rw [e6, List.take_left]
  unfold firstS
  rw [if_neg (by omega), if_neg (by rw [h2]; simp), if_neg (by rw [h1, hlen]; omega), h1, e9, t9, take3_app _ _ (by simp [three_len]), num3_three _ hs2, if_neg (by simp)]

variable {P : Program} (H : Has P)
include H

theorem recordRef_ok {v : AV} {l : List UInt8} (hv : SL 1 v (u8s l)) (hl : l.length ≤ 16384) (h : Heap) : AWF P ann 0 13 [v] h fun r h' => r = recV l ∧ h' = h := by
  refine AWF.fnc H.f0_13 rfl ?_
  have hlen := @u8s_len l
  have hs := sum_lt (three l.length)
  have hs2 := sum_lt l
  (refine W_seq_gen fun N hN => ?_); simp (disch := first | omega | (simp only [List.length_cons, List.length_nil, List.length_append, u8s_len]; omega)) only [go_sem, ↓reduceIte, Nat.reduceEqDiff, Nat.reduceAdd, Nat.reduceBEq, Int.reduceEq, H.cv_3_29, H.cv_3_34, H.cv_5_3, H.cv_5_29, H.cv_29_3, H.cv_29_5, H.cv_33_3]
  refine hN _ ?_; clear hN N
  (refine W_seq_gen fun N hN => ?_); simp (disch := first | omega | (simp only [List.length_cons, List.length_nil, List.length_append, u8s_len]; omega)) only [go_sem, ↓reduceIte, Nat.reduceEqDiff, Nat.reduceAdd, Nat.reduceBEq, Int.reduceEq, H.cv_3_29, H.cv_3_34, H.cv_5_3, H.cv_5_29, H.cv_29_3, H.cv_29_5, H.cv_33_3, hv.dis.len, hlen, wrap_u32u]
  refine (three_ok H l.length (by omega) _).mono ?_
  rintro _ _ ⟨rfl, hh⟩; subst hh
  rw [contK_some]; simp (disch := first | omega | (simp only [List.length_cons, List.length_nil, List.length_append, u8s_len]; omega)) only [go_sem, ↓reduceIte, Nat.reduceEqDiff, Nat.reduceAdd, Nat.reduceBEq, Int.reduceEq, H.cv_3_29, H.cv_3_34, H.cv_5_3, H.cv_5_29, H.cv_29_3, H.cv_29_5, H.cv_33_3]
  refine hN _ ?_; clear hN N
  have h0 : SG 1 (.bs true 1 [] (some 0)) [] := SG.bs
  have h1 := h0.cat (u8s (three l.length))
  have h2 := h1.cat (u8s (three (sumS (three l.length)).toNat))
  have h3 := h2.cat (u8s l)
  simp only [List.nil_append, u8s_app] at h1 h2 h3
  (refine W_seq_gen fun N hN => ?_); simp (disch := first | omega | (simp only [List.length_cons, List.length_nil, List.length_append, u8s_len]; omega)) only [go_sem, ↓reduceIte, Nat.reduceEqDiff, Nat.reduceAdd, Nat.reduceBEq, Int.reduceEq, H.cv_3_29, H.cv_3_34, H.cv_5_3, H.cv_5_29, H.cv_29_3, H.cv_29_5, H.cv_33_3, h0.app (ys := u8s (three l.length)) (bytes := 1) (by simp [u8s_len, three_len])]
  refine (sumRef_ok H SL.bs (by simp [three_len]) _).mono ?_
  rintro _ _ ⟨rfl, hh⟩; subst hh
  rw [sums_eq]
  rw [contK_some]; simp (disch := first | omega | (simp only [List.length_cons, List.length_nil, List.length_append, u8s_len]; omega)) only [go_sem, ↓reduceIte, Nat.reduceEqDiff, Nat.reduceAdd, Nat.reduceBEq, Int.reduceEq, H.cv_3_29, H.cv_3_34, H.cv_5_3, H.cv_5_29, H.cv_29_3, H.cv_29_5, H.cv_33_3, u32]
  refine (three_ok H _ hs _).mono ?_
  rintro _ _ ⟨rfl, hh⟩; subst hh
  rw [contK_some]; simp (disch := first | omega | (simp only [List.length_cons, List.length_nil, List.length_append, u8s_len]; omega)) only [go_sem, ↓reduceIte, Nat.reduceEqDiff, Nat.reduceAdd, Nat.reduceBEq, Int.reduceEq, H.cv_3_29, H.cv_3_34, H.cv_5_3, H.cv_5_29, H.cv_29_3, H.cv_29_5, H.cv_33_3, h1.app (ys := u8s (three (sumS (three l.length)).toNat)) (bytes := 1) (by simp [u8s_len, three_len])]
  refine hN _ ?_; clear hN N
  (refine W_seq_gen fun N hN => ?_); simp (disch := first | omega | (simp only [List.length_cons, List.length_nil, List.length_append, u8s_len]; omega)) only [go_sem, ↓reduceIte, Nat.reduceEqDiff, Nat.reduceAdd, Nat.reduceBEq, Int.reduceEq, H.cv_3_29, H.cv_3_34, H.cv_5_3, H.cv_5_29, H.cv_29_3, H.cv_29_5, H.cv_33_3, hv.dis.elems, h2.app (ys := u8s l) (bytes := 1) (by simp [u8s_len, three_len]; omega)]
  refine (sumRef_ok H hv.dis (by omega) _).mono ?_
  rintro _ _ ⟨rfl, hh⟩; subst hh
  rw [sums_eq]
  rw [contK_some]; simp (disch := first | omega | (simp only [List.length_cons, List.length_nil, List.length_append, u8s_len]; omega)) only [go_sem, ↓reduceIte, Nat.reduceEqDiff, Nat.reduceAdd, Nat.reduceBEq, Int.reduceEq, H.cv_3_29, H.cv_3_34, H.cv_5_3, H.cv_5_29, H.cv_29_3, H.cv_29_5, H.cv_33_3, u32]
  refine (three_ok H _ hs2 _).mono ?_
  rintro _ _ ⟨rfl, hh⟩; subst hh
  rw [contK_some]; simp (disch := first | omega | (simp only [List.length_cons, List.length_nil, List.length_append, u8s_len]; omega)) only [go_sem, ↓reduceIte, Nat.reduceEqDiff, Nat.reduceAdd, Nat.reduceBEq, Int.reduceEq, H.cv_3_29, H.cv_3_34, H.cv_5_3, H.cv_5_29, H.cv_29_3, H.cv_29_5, H.cv_33_3, h3.app (ys := u8s (three (sumS l).toNat)) (bytes := 1) (by simp [u8s_len, three_len]; omega)]
  refine hN _ ?_; clear hN N
  simp (disch := first | omega | (simp only [List.length_cons, List.length_nil, List.length_append, u8s_len]; omega)) only [go_sem, ↓reduceIte, Nat.reduceEqDiff, Nat.reduceAdd, Nat.reduceBEq, Int.reduceEq, H.cv_3_29, H.cv_3_34, H.cv_5_3, H.cv_5_29, H.cv_29_3, H.cv_29_5, H.cv_33_3]
  rfl

theorem records_law {v : AV} {l : List UInt8} (hv : SF 1 v (u8s l)) (hl : l.length < 2 ^ 60) (h : Heap) : AWF P ann 0 3 [v] h fun r h' => r = .sc (.bool true) := by
  refine AWF.fnc H.f0_3 rfl ?_
  have hlen := @u8s_len l
  have ha : SG 1 (.bs true 1 [] (some 0)) [] := SG.bs
  (refine W_seq_gen fun N hN => ?_); simp (disch := first | omega | (simp only [List.length_cons, List.length_nil, List.length_append, u8s_len]; omega)) only [go_sem, ↓reduceIte, Nat.reduceEqDiff, Nat.reduceAdd, Nat.reduceBEq, Int.reduceEq, H.cv_3_29, H.cv_3_34, H.cv_5_3, H.cv_5_29, H.cv_29_3, H.cv_29_5, H.cv_33_3]
  refine hN _ ?_; clear hN N
  by_cases h1 : 3000 < l.length ∧ l.length ≤ 16384
  · (refine W_seq_gen fun N hN => ?_); simp (disch := first | omega | (simp only [List.length_cons, List.length_nil, List.length_append, u8s_len]; omega)) only [go_sem, ↓reduceIte, Nat.reduceEqDiff, Nat.reduceAdd, Nat.reduceBEq, Int.reduceEq, H.cv_3_29, H.cv_3_34, H.cv_5_3, H.cv_5_29, H.cv_29_3, H.cv_29_5, H.cv_33_3, hv.same, hv.sl.len, hlen, h1.1, h1.2]
    refine (awake_ok H _).mono ?_
    rintro _ _ ⟨rfl, hh⟩; subst hh
    rw [contK_some]; simp (disch := first | omega | (simp only [List.length_cons, List.length_nil, List.length_append, u8s_len]; omega)) only [go_sem, ↓reduceIte, Nat.reduceEqDiff, Nat.reduceAdd, Nat.reduceBEq, Int.reduceEq, H.cv_3_29, H.cv_3_34, H.cv_5_3, H.cv_5_29, H.cv_29_3, H.cv_29_5, H.cv_33_3]
  by_cases h2 : 20000 < l.length
  · have h3 : 3000 < l.length := by omega
    have h4 : ¬ l.length ≤ 16384 := by omega
    (refine W_seq_gen fun N hN => ?_); simp (disch := first | omega | (simp only [List.length_cons, List.length_nil, List.length_append, u8s_len]; omega)) only [go_sem, ↓reduceIte, Nat.reduceEqDiff, Nat.reduceAdd, Nat.reduceBEq, Int.reduceEq, H.cv_3_29, H.cv_3_34, H.cv_5_3, H.cv_5_29, H.cv_29_3, H.cv_29_5, H.cv_33_3, hv.same, hv.sl.len, hlen, h2, h3, h4]
    refine (awake_ok H _).mono ?_
    rintro _ _ ⟨rfl, hh⟩; subst hh
    rw [contK_some]; simp (disch := first | omega | (simp only [List.length_cons, List.length_nil, List.length_append, u8s_len]; omega)) only [go_sem, ↓reduceIte, Nat.reduceEqDiff, Nat.reduceAdd, Nat.reduceBEq, Int.reduceEq, H.cv_3_29, H.cv_3_34, H.cv_5_3, H.cv_5_29, H.cv_29_3, H.cv_29_5, H.cv_33_3]
  by_cases h3 : 16384 < l.length
  · have h5 : 3000 < l.length := by omega
    have h4 : ¬ l.length ≤ 16384 := by omega
    (refine W_seq_gen fun N hN => ?_); simp (disch := first | omega | (simp only [List.length_cons, List.length_nil, List.length_append, u8s_len]; omega)) only [go_sem, ↓reduceIte, Nat.reduceEqDiff, Nat.reduceAdd, Nat.reduceBEq, Int.reduceEq, H.cv_3_29, H.cv_3_34, H.cv_5_3, H.cv_5_29, H.cv_29_3, H.cv_29_5, H.cv_33_3, hv.same, hv.sl.len, hlen, h2, h5, h4]
    refine hN _ ?_; clear hN N
    (refine W_seq_gen fun N hN => ?_); simp (disch := first | omega | (simp only [List.length_cons, List.length_nil, List.length_append, u8s_len]; omega)) only [go_sem, ↓reduceIte, Nat.reduceEqDiff, Nat.reduceAdd, Nat.reduceBEq, Int.reduceEq, H.cv_3_29, H.cv_3_34, H.cv_5_3, H.cv_5_29, H.cv_29_3, H.cv_29_5, H.cv_33_3, hv.same, hv.sl.elems, ha.app (ys := u8s l) (bytes := 1) (by simp [u8s_len]; omega)]
    refine (record_long H ((ha.cat (u8s l)).sl) hl h3 _).mono ?_
    rintro _ _ ⟨rfl, hh⟩; subst hh
    rw [contK_some]; simp (disch := first | omega | (simp only [List.length_cons, List.length_nil, List.length_append, u8s_len]; omega)) only [go_sem, ↓reduceIte, Nat.reduceEqDiff, Nat.reduceAdd, Nat.reduceBEq, Int.reduceEq, H.cv_3_29, H.cv_3_34, H.cv_5_3, H.cv_5_29, H.cv_29_3, H.cv_29_5, H.cv_33_3]
    refine hN _ ?_; clear hN N
    (refine W_seq_gen fun N hN => ?_); simp (disch := first | omega | (simp only [List.length_cons, List.length_nil, List.length_append, u8s_len]; omega)) only [go_sem, ↓reduceIte, Nat.reduceEqDiff, Nat.reduceAdd, Nat.reduceBEq, Int.reduceEq, H.cv_3_29, H.cv_3_34, H.cv_5_3, H.cv_5_29, H.cv_29_3, H.cv_29_5, H.cv_33_3, hv.same, hv.sl.len, hlen, h3]
    refine (awake_ok H _).mono ?_
    rintro _ _ ⟨rfl, hh⟩; subst hh
    rw [contK_some]; simp (disch := first | omega | (simp only [List.length_cons, List.length_nil, List.length_append, u8s_len]; omega)) only [go_sem, ↓reduceIte, Nat.reduceEqDiff, Nat.reduceAdd, Nat.reduceBEq, Int.reduceEq, H.cv_3_29, H.cv_3_34, H.cv_5_3, H.cv_5_29, H.cv_29_3, H.cv_29_5, H.cv_33_3]
  have h4 : ¬ 3000 < l.length := by omega
  (refine W_seq_gen fun N hN => ?_); simp (disch := first | omega | (simp only [List.length_cons, List.length_nil, List.length_append, u8s_len]; omega)) only [go_sem, ↓reduceIte, Nat.reduceEqDiff, Nat.reduceAdd, Nat.reduceBEq, Int.reduceEq, H.cv_3_29, H.cv_3_34, H.cv_5_3, H.cv_5_29, H.cv_29_3, H.cv_29_5, H.cv_33_3, hv.same, hv.sl.len, hlen, h2, h4]
  refine hN _ ?_; clear hN N
  (refine W_seq_gen fun N hN => ?_); simp (disch := first | omega | (simp only [List.length_cons, List.length_nil, List.length_append, u8s_len]; omega)) only [go_sem, ↓reduceIte, Nat.reduceEqDiff, Nat.reduceAdd, Nat.reduceBEq, Int.reduceEq, H.cv_3_29, H.cv_3_34, H.cv_5_3, H.cv_5_29, H.cv_29_3, H.cv_29_5, H.cv_33_3, hv.same, hv.sl.elems, ha.app (ys := u8s l) (bytes := 1) (by simp [u8s_len]; omega)]
  have hb := ha.cat (u8s l)
  rw [List.nil_append] at hb
  refine (record_ok H hb.sl (by omega) _).mono ?_
  rintro _ _ ⟨⟨x, rfl, hx⟩, hh⟩; subst hh
  rw [contK_some]; simp (disch := first | omega | (simp only [List.length_cons, List.length_nil, List.length_append, u8s_len]; omega)) only [go_sem, ↓reduceIte, Nat.reduceEqDiff, Nat.reduceAdd, Nat.reduceBEq, Int.reduceEq, H.cv_3_29, H.cv_3_34, H.cv_5_3, H.cv_5_29, H.cv_29_3, H.cv_29_5, H.cv_33_3, hx.disc, hx.same]
  refine hN _ ?_; clear hN N
  (refine W_seq_gen fun N hN => ?_); simp (disch := first | omega | (simp only [List.length_cons, List.length_nil, List.length_append, u8s_len]; omega)) only [go_sem, ↓reduceIte, Nat.reduceEqDiff, Nat.reduceAdd, Nat.reduceBEq, Int.reduceEq, H.cv_3_29, H.cv_3_34, H.cv_5_3, H.cv_5_29, H.cv_29_3, H.cv_29_5, H.cv_33_3, hv.same, hv.sl.len, hlen, h3]
  refine hN _ ?_; clear hN N
  have hrl : (recS l).length = l.length + 9 := by simp [recS, three_len]; omega
  (refine W_seq_gen fun N hN => ?_); simp (disch := first | omega | (simp only [List.length_cons, List.length_nil, List.length_append, u8s_len]; omega)) only [go_sem, ↓reduceIte, Nat.reduceEqDiff, Nat.reduceAdd, Nat.reduceBEq, Int.reduceEq, H.cv_3_29, H.cv_3_34, H.cv_5_3, H.cv_5_29, H.cv_29_3, H.cv_29_5, H.cv_33_3, hx.same]
  refine (first_ok H hx.sl (by omega) _).mono ?_
  rintro _ _ ⟨⟨y, rfl, hy⟩, hh⟩; subst hh
  have hf := first_rec l [] (by omega)
  rw [List.append_nil] at hf
  rw [hf] at hy ⊢
  rw [contK_some]; simp (disch := first | omega | (simp only [List.length_cons, List.length_nil, List.length_append, u8s_len]; omega)) only [go_sem, ↓reduceIte, Nat.reduceEqDiff, Nat.reduceAdd, Nat.reduceBEq, Int.reduceEq, H.cv_3_29, H.cv_3_34, H.cv_5_3, H.cv_5_29, H.cv_29_3, H.cv_29_5, H.cv_33_3, hy.disc, hy.same]
  refine hN _ ?_; clear hN N
  (refine W_seq_gen fun N hN => ?_); simp (disch := first | omega | (simp only [List.length_cons, List.length_nil, List.length_append, u8s_len]; omega)) only [go_sem, ↓reduceIte, Nat.reduceEqDiff, Nat.reduceAdd, Nat.reduceBEq, Int.reduceEq, H.cv_3_29, H.cv_3_34, H.cv_5_3, H.cv_5_29, H.cv_29_3, H.cv_29_5, H.cv_33_3, hv.same]
  refine ⟨_, sum_ok H hv.sl (by omega) _, ?_⟩
  rw [contK_some]; simp (disch := first | omega | (simp only [List.length_cons, List.length_nil, List.length_append, u8s_len]; omega)) only [go_sem, ↓reduceIte, Nat.reduceEqDiff, Nat.reduceAdd, Nat.reduceBEq, Int.reduceEq, H.cv_3_29, H.cv_3_34, H.cv_5_3, H.cv_5_29, H.cv_29_3, H.cv_29_5, H.cv_33_3, hv.same]
  refine ⟨_, sumRef_ok H hv.sl (by omega) _, ?_⟩
  rw [sums_eq]
  rw [contK_some]; simp (disch := first | omega | (simp only [List.length_cons, List.length_nil, List.length_append, u8s_len]; omega)) only [go_sem, ↓reduceIte, Nat.reduceEqDiff, Nat.reduceAdd, Nat.reduceBEq, Int.reduceEq, H.cv_3_29, H.cv_3_34, H.cv_5_3, H.cv_5_29, H.cv_29_3, H.cv_29_5, H.cv_33_3, u32, hx.sl.b2s, hx.same, hv.same]
  refine ⟨_, recordRef_ok H hv.sl (by omega) _, ?_⟩
  rw [contK_some]; simp (disch := first | omega | (simp only [List.length_cons, List.length_nil, List.length_append, u8s_len]; omega)) only [go_sem, ↓reduceIte, Nat.reduceEqDiff, Nat.reduceAdd, Nat.reduceBEq, Int.reduceEq, H.cv_3_29, H.cv_3_34, H.cv_5_3, H.cv_5_29, H.cv_29_3, H.cv_29_5, H.cv_33_3, (recV_ok l).sl.b2s, hx.same, hx.sl.len, u8s_len, hrl, hy.sl.b2s, hy.same, hv.sl.b2s, hv.same]
  refine ⟨_, awake_ok H _, ?_⟩
  rw [contK_some]; simp (disch := first | omega | (simp only [List.length_cons, List.length_nil, List.length_append, u8s_len]; omega)) only [go_sem, ↓reduceIte, Nat.reduceEqDiff, Nat.reduceAdd, Nat.reduceBEq, Int.reduceEq, H.cv_3_29, H.cv_3_34, H.cv_5_3, H.cv_5_29, H.cv_29_3, H.cv_29_5, H.cv_33_3]
  refine hN _ ?_; clear hN N
  simp (disch := first | omega | (simp only [List.length_cons, List.length_nil, List.length_append, u8s_len]; omega)) only [go_sem, ↓reduceIte, Nat.reduceEqDiff, Nat.reduceAdd, Nat.reduceBEq, Int.reduceEq, H.cv_3_29, H.cv_3_34, H.cv_5_3, H.cv_5_29, H.cv_29_3, H.cv_29_5, H.cv_33_3]

theorem rows_law {v : AV} {l : List UInt8} (hv : SF 1 v (u8s l)) (hl : l.length < 2 ^ 60) (h : Heap) : AWF P ann 0 5 [v] h fun r h' => r = .sc (.bool true) := by
  refine AWF.fnc H.f0_5 rfl ?_
  have hlen := @u8s_len l
  have ha : SG 1 (.bs true 1 [] (some 0)) [] := SG.bs
  (refine W_seq_gen fun N hN => ?_); simp (disch := first | omega | (simp only [List.length_cons, List.length_nil, List.length_append, u8s_len]; omega)) only [go_sem, ↓reduceIte, Nat.reduceEqDiff, Nat.reduceAdd, Nat.reduceBEq, Int.reduceEq, H.cv_3_29, H.cv_3_34, H.cv_5_3, H.cv_5_29, H.cv_29_3, H.cv_29_5, H.cv_33_3]
  refine hN _ ?_; clear hN N
  by_cases h1 : 3000 < l.length
  · (refine W_seq_gen fun N hN => ?_); simp (disch := first | omega | (simp only [List.length_cons, List.length_nil, List.length_append, u8s_len]; omega)) only [go_sem, ↓reduceIte, Nat.reduceEqDiff, Nat.reduceAdd, Nat.reduceBEq, Int.reduceEq, H.cv_3_29, H.cv_3_34, H.cv_5_3, H.cv_5_29, H.cv_29_3, H.cv_29_5, H.cv_33_3, hv.same, hv.sl.len, hlen, h1]
    refine (awake_ok H _).mono ?_
    rintro _ _ ⟨rfl, hh⟩; subst hh
    rw [contK_some]; simp (disch := first | omega | (simp only [List.length_cons, List.length_nil, List.length_append, u8s_len]; omega)) only [go_sem, ↓reduceIte, Nat.reduceEqDiff, Nat.reduceAdd, Nat.reduceBEq, Int.reduceEq, H.cv_3_29, H.cv_3_34, H.cv_5_3, H.cv_5_29, H.cv_29_3, H.cv_29_5, H.cv_33_3]
  (refine W_seq_gen fun N hN => ?_); simp (disch := first | omega | (simp only [List.length_cons, List.length_nil, List.length_append, u8s_len]; omega)) only [go_sem, ↓reduceIte, Nat.reduceEqDiff, Nat.reduceAdd, Nat.reduceBEq, Int.reduceEq, H.cv_3_29, H.cv_3_34, H.cv_5_3, H.cv_5_29, H.cv_29_3, H.cv_29_5, H.cv_33_3, hv.same, hv.sl.len, hlen, h1]
  refine hN _ ?_; clear hN N
  have hb := ha.cat (u8s l)
  rw [List.nil_append] at hb
  (refine W_seq_gen fun N hN => ?_); simp (disch := first | omega | (simp only [List.length_cons, List.length_nil, List.length_append, u8s_len]; omega)) only [go_sem, ↓reduceIte, Nat.reduceEqDiff, Nat.reduceAdd, Nat.reduceBEq, Int.reduceEq, H.cv_3_29, H.cv_3_34, H.cv_5_3, H.cv_5_29, H.cv_29_3, H.cv_29_5, H.cv_33_3, hv.same, hv.sl.elems, ha.app (ys := u8s l) (bytes := 1) (by simp [u8s_len]; omega)]
  refine (first_ok H hb.sl (by omega) _).mono ?_
  rintro _ _ ⟨⟨x, rfl, hx⟩, hh⟩; subst hh
  rw [contK_some]; simp (disch := first | omega | (simp only [List.length_cons, List.length_nil, List.length_append, u8s_len]; omega)) only [go_sem, ↓reduceIte, Nat.reduceEqDiff, Nat.reduceAdd, Nat.reduceBEq, Int.reduceEq, H.cv_3_29, H.cv_3_34, H.cv_5_3, H.cv_5_29, H.cv_29_3, H.cv_29_5, H.cv_33_3, hx.disc, hx.same]
  refine hN _ ?_; clear hN N
  (refine W_seq_gen fun N hN => ?_); simp (disch := first | omega | (simp only [List.length_cons, List.length_nil, List.length_append, u8s_len]; omega)) only [go_sem, ↓reduceIte, Nat.reduceEqDiff, Nat.reduceAdd, Nat.reduceBEq, Int.reduceEq, H.cv_3_29, H.cv_3_34, H.cv_5_3, H.cv_5_29, H.cv_29_3, H.cv_29_5, H.cv_33_3, hv.same]
  refine (firstRef_ok H hv.sl (by omega) _).mono ?_
  rintro _ _ ⟨⟨y, rfl, hy⟩, hh⟩; subst hh
  rw [contK_some]; simp (disch := first | omega | (simp only [List.length_cons, List.length_nil, List.length_append, u8s_len]; omega)) only [go_sem, ↓reduceIte, Nat.reduceEqDiff, Nat.reduceAdd, Nat.reduceBEq, Int.reduceEq, H.cv_3_29, H.cv_3_34, H.cv_5_3, H.cv_5_29, H.cv_29_3, H.cv_29_5, H.cv_33_3, hy.disc, hy.same]
  refine hN _ ?_; clear hN N
  (refine W_seq_gen fun N hN => ?_); simp (disch := first | omega | (simp only [List.length_cons, List.length_nil, List.length_append, u8s_len]; omega)) only [go_sem, ↓reduceIte, Nat.reduceEqDiff, Nat.reduceAdd, Nat.reduceBEq, Int.reduceEq, H.cv_3_29, H.cv_3_34, H.cv_5_3, H.cv_5_29, H.cv_29_3, H.cv_29_5, H.cv_33_3, hv.same]
  refine (row_ok H hv.sl (by omega) _).mono ?_
  rintro _ _ ⟨⟨z, es, rfl, hz, hes⟩, hh⟩; subst hh
  rw [contK_some]; simp (disch := first | omega | (simp only [List.length_cons, List.length_nil, List.length_append, u8s_len]; omega)) only [go_sem, ↓reduceIte, Nat.reduceEqDiff, Nat.reduceAdd, Nat.reduceBEq, Int.reduceEq, H.cv_3_29, H.cv_3_34, H.cv_5_3, H.cv_5_29, H.cv_29_3, H.cv_29_5, H.cv_33_3, hz.disc, hz.same]
  refine hN _ ?_; clear hN N
  (refine W_seq_gen fun N hN => ?_); simp (disch := first | omega | (simp only [List.length_cons, List.length_nil, List.length_append, u8s_len]; omega)) only [go_sem, ↓reduceIte, Nat.reduceEqDiff, Nat.reduceAdd, Nat.reduceBEq, Int.reduceEq, H.cv_3_29, H.cv_3_34, H.cv_5_3, H.cv_5_29, H.cv_29_3, H.cv_29_5, H.cv_33_3, hv.same]
  refine (rowRef_ok H hv.sl (by omega) _).mono ?_
  rintro _ _ ⟨⟨z', es', rfl, hz', hes'⟩, hh⟩; subst hh
  rw [contK_some]; simp (disch := first | omega | (simp only [List.length_cons, List.length_nil, List.length_append, u8s_len]; omega)) only [go_sem, ↓reduceIte, Nat.reduceEqDiff, Nat.reduceAdd, Nat.reduceBEq, Int.reduceEq, H.cv_3_29, H.cv_3_34, H.cv_5_3, H.cv_5_29, H.cv_29_3, H.cv_29_5, H.cv_33_3, hz'.disc, hz'.same]
  refine hN _ ?_; clear hN N
  (refine W_seq_gen fun N hN => ?_); simp (disch := first | omega | (simp only [List.length_cons, List.length_nil, List.length_append, u8s_len]; omega)) only [go_sem, ↓reduceIte, Nat.reduceEqDiff, Nat.reduceAdd, Nat.reduceBEq, Int.reduceEq, H.cv_3_29, H.cv_3_34, H.cv_5_3, H.cv_5_29, H.cv_29_3, H.cv_29_5, H.cv_33_3, hx.same, hy.same, hx.sl.b2s, hy.sl.b2s, hz.same, hz'.same, hz.own, hz'.own]
  have hrl : (rowS l).1.length < 2 ^ 62 := by
    have := rowS_len l
    omega
  refine (same_ok H hz.sl hes hz'.sl hes' hrl hrl _).mono ?_
  rintro _ _ ⟨rfl, hh⟩; subst hh
  rw [contK_some]; simp (disch := first | omega | (simp only [List.length_cons, List.length_nil, List.length_append, u8s_len]; omega)) only [go_sem, ↓reduceIte, Nat.reduceEqDiff, Nat.reduceAdd, Nat.reduceBEq, Int.reduceEq, H.cv_3_29, H.cv_3_34, H.cv_5_3, H.cv_5_29, H.cv_29_3, H.cv_29_5, H.cv_33_3]
  refine (awake_ok H _).mono ?_
  rintro _ _ ⟨rfl, hh⟩; subst hh
  rw [contK_some]; simp (disch := first | omega | (simp only [List.length_cons, List.length_nil, List.length_append, u8s_len]; omega)) only [go_sem, ↓reduceIte, Nat.reduceEqDiff, Nat.reduceAdd, Nat.reduceBEq, Int.reduceEq, H.cv_3_29, H.cv_3_34, H.cv_5_3, H.cv_5_29, H.cv_29_3, H.cv_29_5, H.cv_33_3]
  refine hN _ ?_; clear hN N
  simp (disch := first | omega | (simp only [List.length_cons, List.length_nil, List.length_append, u8s_len]; omega)) only [go_sem, ↓reduceIte, Nat.reduceEqDiff, Nat.reduceAdd, Nat.reduceBEq, Int.reduceEq, H.cv_3_29, H.cv_3_34, H.cv_5_3, H.cv_5_29, H.cv_29_3, H.cv_29_5, H.cv_33_3]
end Go.Proofs.Ytfiaekgmblbmiaa
