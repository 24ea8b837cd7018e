/- What the functions come to: cells that are made; the fixed question. -/
import Derived.Test.YtjebhcflpibkkaaCellFn7
set_option linter.unusedVariables false
set_option linter.unusedSimpArgs false
namespace Go.Proofs.Ytjebhcflpibkkaa
open Go.Am
abbrev noS : ByteArray := ⟨#[]⟩
theorem sl_tu {sz v es} (h : SL sz v es) : v.isTu = false := by rcases h with ⟨rfl, _⟩ | ⟨o, l, rfl⟩ <;> rfl
theorem numB_small {n : Nat} (h : n < 128) : numB n = [UInt8.ofNat n] := by rw [numB, if_pos h]
theorem zig_m1 : zig (-1) = 1 := by decide
def wakeC : Cel := .mk 3 0 noS [.mk 1 (-1) noS [], .mk 2 0 ⟨#[97]⟩ []]
theorem wake_encB : encB wakeC = [3, 2, 1, 1, 2, 1, 97] := by
  have h1 : encB (.mk 1 (-1) noS []) = [1, 1] := by
    rw [encB, if_pos rfl, zig_m1, numB_small (by decide)]; rfl
  have h2 : encB (.mk 2 0 ⟨#[97]⟩ []) = [2, 1, 97] := by
    rw [encB, if_neg (by decide), if_pos rfl, numB_small (by decide)]; rfl
  rw [wakeC, encB, if_neg (by decide), if_neg (by decide), numB_small (by decide), encL, encL, encL, h1, h2]
  rfl
theorem wake_check : checkS wakeC = 0 := by
  have hd : deepS 12 wakeC = false := by rfl
  have hp : pureS wakeC = true := by
    simp [wakeC, pureS, pureL]
    rfl
  have hc : countS wakeC 4096 = 4093 := by
    simp [wakeC, countS, countL, ByteArray.size]
  rw [checkS, hd, hp, hc]
  rfl
theorem wake_encE : encE wakeC = 0 := by rw [encE, wake_check, wake_encB]; rfl
theorem fits_small {k n : Int} {s : ByteArray} {l : List Cel} (h1 : -9223372036854775808 ≤ k ∧ k < 9223372036854775808) (h2 : -9223372036854775808 ≤ n ∧ n < 9223372036854775808) (h3 : s.size < 2 ^ 47) (h4 : l.length < 2 ^ 42) : Fits (.mk k n s l) :=
  ⟨h1.1, h1.2, h2.1, h2.2, h3, h4⟩
variable {P : Program} (H : Has P)
include H
theorem num_ok (n : Int) (h : Heap) : AWF P ann 0 7 [.sc (.int .i64 n)] h fun r h' => r = .ag [.sc (.int .i64 ((1 : Nat) : Int)), .sc (.int .i64 n), .sc (.string noS), .sc (.slice none 0 0)] ∧ h' = h := by
  refine AWF.fnPurec H.f0_7 rfl ?_
  have hO := OB.nil (h := h)
  (refine W_seq_gen fun N hN => ?_); simp (disch := first | omega | (simp only [List.length_cons, List.length_nil, List.length_append, u8s_len]; omega)) only [go_sem, ↓reduceIte, true_and, Nat.reduceLeDiff, Nat.reduceEqDiff, Nat.reduceAdd, Nat.reduceBEq, Int.reduceEq, H.cv_3_5, H.cv_5_3]
  intro o1 h1
  refine hN _ ?_; clear hN N; refine W_ob (hO.new h1) fun hc hO => ?_
  simp (disch := first | omega | (simp only [List.length_cons, List.length_nil, List.length_append, u8s_len]; omega)) only [go_sem, ↓reduceIte, true_and, Nat.reduceLeDiff, Nat.reduceEqDiff, Nat.reduceAdd, Nat.reduceBEq, Int.reduceEq, H.cv_3_5, H.cv_5_3, hO.get0]
  exact hO.st0.keep
theorem text_ok (s : ByteArray) (h : Heap) : AWF P ann 0 8 [.sc (.string s)] h fun r h' => r = .ag [.sc (.int .i64 ((2 : Nat) : Int)), .sc (.int .i64 ((0 : Nat) : Int)), .sc (.string s), .sc (.slice none 0 0)] ∧ h' = h := by
  refine AWF.fnPurec H.f0_8 rfl ?_
  have hO := OB.nil (h := h)
  (refine W_seq_gen fun N hN => ?_); simp (disch := first | omega | (simp only [List.length_cons, List.length_nil, List.length_append, u8s_len]; omega)) only [go_sem, ↓reduceIte, true_and, Nat.reduceLeDiff, Nat.reduceEqDiff, Nat.reduceAdd, Nat.reduceBEq, Int.reduceEq, H.cv_3_5, H.cv_5_3]
  intro o1 h1
  refine hN _ ?_; clear hN N; refine W_ob (hO.new h1) fun hc hO => ?_
  simp (disch := first | omega | (simp only [List.length_cons, List.length_nil, List.length_append, u8s_len]; omega)) only [go_sem, ↓reduceIte, true_and, Nat.reduceLeDiff, Nat.reduceEqDiff, Nat.reduceAdd, Nat.reduceBEq, Int.reduceEq, H.cv_3_5, H.cv_5_3, hO.get0]
  exact hO.st0.keep
theorem list_ok {v : AV} {es : List (List AV)} (hv : SL 4 v es) (hl : es.length * 56 ≤ 2 ^ 47) (h : Heap) :
    AWF P ann 0 9 [v] h fun r h' => (∃ v', r = .ag [.sc (.int .i64 ((3 : Nat) : Int)), .sc (.int .i64 ((0 : Nat) : Int)), .sc (.string noS), v'] ∧ SF 4 v' es) ∧ h' = h := by
  refine AWF.fnPurec H.f0_9 rfl ?_
  have hO := OB.nil (h := h)
  (refine W_seq_gen fun N hN => ?_); simp (disch := first | omega | (simp only [List.length_cons, List.length_nil, List.length_append, u8s_len]; omega)) only [go_sem, ↓reduceIte, true_and, Nat.reduceLeDiff, Nat.reduceEqDiff, Nat.reduceAdd, Nat.reduceBEq, Int.reduceEq, H.cv_3_5, H.cv_5_3]
  intro o1 h1
  refine hN _ ?_; clear hN N; refine W_ob (hO.new h1) fun hc hO => ?_
  have hg : SG 4 (.bs true 4 [] (some 0)) [] := SG.bs
  have happ := fun (t : Nat → AV) (h : Heap) => hg.app (t := t) (h := h) (ys := es) (bytes := 56) (by simp; omega)
  have hg2 := hg.cat es
  rw [List.nil_append] at hg2
  generalize catV 4 es (.bs true 4 [] (some 0)) = w at happ hg2
  simp (disch := first | omega | (simp only [List.length_cons, List.length_nil, List.length_append, u8s_len]; omega)) only [go_sem, ↓reduceIte, true_and, Nat.reduceLeDiff, Nat.reduceEqDiff, Nat.reduceAdd, Nat.reduceBEq, Int.reduceEq, H.cv_3_5, H.cv_5_3, hO.get0, hv.dd, hv.dis.elems, happ, hg2.sl.dis.cells, hg2.sl.ddisc, sl_tu hg2.sl.dis]
  exact ⟨⟨_, rfl, hg2.sl.df⟩, hO.st0.keep⟩
theorem awake_ok (h : Heap) : AWF P ann 0 11 [] h fun r h' => r = .sc (.bool true) ∧ h' = h := by
  refine AWF.fnc H.f0_11 rfl ?_
  (refine W_seq_gen fun N hN => ?_); simp (disch := first | omega | (simp only [List.length_cons, List.length_nil, List.length_append, u8s_len]; omega)) only [go_sem, ↓reduceIte, true_and, Nat.reduceLeDiff, Nat.reduceEqDiff, Nat.reduceAdd, Nat.reduceBEq, Int.reduceEq, H.cv_3_5, H.cv_5_3]
  refine hN _ ?_; clear hN N
  (refine W_seq_gen fun N hN => ?_); simp (disch := first | omega | (simp only [List.length_cons, List.length_nil, List.length_append, u8s_len]; omega)) only [go_sem, ↓reduceIte, true_and, Nat.reduceLeDiff, Nat.reduceEqDiff, Nat.reduceAdd, Nat.reduceBEq, Int.reduceEq, H.cv_3_5, H.cv_5_3]
  refine (num_ok H (-1) _).mono ?_
  rintro _ _ ⟨rfl, hh⟩; subst hh
  rw [contK_some]; simp (disch := first | omega | (simp only [List.length_cons, List.length_nil, List.length_append, u8s_len]; omega)) only [go_sem, ↓reduceIte, true_and, Nat.reduceLeDiff, Nat.reduceEqDiff, Nat.reduceAdd, Nat.reduceBEq, Int.reduceEq, H.cv_3_5, H.cv_5_3]
  refine (text_ok H ⟨#[97]⟩ _).mono ?_
  rintro _ _ ⟨rfl, hh⟩; subst hh
  rw [contK_some]; simp (disch := first | omega | (simp only [List.length_cons, List.length_nil, List.length_append, u8s_len]; omega)) only [go_sem, ↓reduceIte, true_and, Nat.reduceLeDiff, Nat.reduceEqDiff, Nat.reduceAdd, Nat.reduceBEq, Int.reduceEq, H.cv_3_5, H.cv_5_3]
  refine (list_ok H (es := [[.sc (.int .i64 ((1 : Nat) : Int)), .sc (.int .i64 (-1)), .sc (.string noS), .sc (.slice none 0 0)], [.sc (.int .i64 ((2 : Nat) : Int)), .sc (.int .i64 ((0 : Nat) : Int)), .sc (.string ⟨#[97]⟩), .sc (.slice none 0 0)]]) (.inr ⟨_, _, rfl⟩) (by simp) _).mono ?_
  rintro _ _ ⟨⟨v', rfl, hv'⟩, hh⟩; subst hh
  rw [contK_some]; simp (disch := first | omega | (simp only [List.length_cons, List.length_nil, List.length_append, u8s_len]; omega)) only [go_sem, ↓reduceIte, true_and, Nat.reduceLeDiff, Nat.reduceEqDiff, Nat.reduceAdd, Nat.reduceBEq, Int.reduceEq, H.cv_3_5, H.cv_5_3, hv'.same, hv'.disc]
  have c1 : CE [.sc (.int .i64 ((1 : Nat) : Int)), .sc (.int .i64 (-1)), .sc (.string noS), .sc (.slice none 0 0)] (.mk 1 (-1) noS []) :=
    CE.in (fits_small (by omega) (by omega) (by decide) (by decide)) SF.nil RR.nil
  have c2 : CE [.sc (.int .i64 ((2 : Nat) : Int)), .sc (.int .i64 ((0 : Nat) : Int)), .sc (.string ⟨#[97]⟩), .sc (.slice none 0 0)] (.mk 2 0 ⟨#[97]⟩ []) :=
    CE.in (fits_small (by omega) (by omega) (by decide) (by decide)) SF.nil RR.nil
  have cw : CE [.sc (.int .i64 ((3 : Nat) : Int)), .sc (.int .i64 ((0 : Nat) : Int)), .sc (.string noS), v'] wakeC :=
    CE.in (fits_small (by omega) (by omega) (by decide) (by decide)) hv' ⟨c1, c2, trivial⟩
  refine (encode_ok H cw _).mono ?_
  rintro _ _ ⟨⟨w, rfl, hw⟩, hh⟩; subst hh
  rw [wake_encE, if_pos rfl, wake_encB] at hw
  rw [wake_encE]
  rw [contK_some]; simp (disch := first | omega | (simp only [List.length_cons, List.length_nil, List.length_append, u8s_len]; omega)) only [go_sem, ↓reduceIte, true_and, Nat.reduceLeDiff, Nat.reduceEqDiff, Nat.reduceAdd, Nat.reduceBEq, Int.reduceEq, H.cv_3_5, H.cv_5_3, errN, hw.same, hw.disc]
  refine hN _ ?_; clear hN N
  have e1 : decide (str [3, 2, 1, 1, 2, 1, 97] = ⟨#[3, 2, 1, 1, 2, 1, 97]⟩) = true := by decide
  simp (disch := first | omega | (simp only [List.length_cons, List.length_nil, List.length_append, u8s_len]; omega)) only [go_sem, ↓reduceIte, true_and, Nat.reduceLeDiff, Nat.reduceEqDiff, Nat.reduceAdd, Nat.reduceBEq, Int.reduceEq, H.cv_3_5, H.cv_5_3, hw.same, hw.sl.b2s, e1]
end Go.Proofs.Ytjebhcflpibkkaa
