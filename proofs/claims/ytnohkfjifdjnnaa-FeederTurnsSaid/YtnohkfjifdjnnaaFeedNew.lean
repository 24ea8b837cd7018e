/- A new feeder. -/
import Derived.Test.YtnohkfjifdjnnaaFeedCode
import Derived.Test.YtnohkfjifdjnnaaAmRow
set_option linter.unusedVariables false
set_option linter.unusedSimpArgs false
namespace Go.Proofs.Ytnohkfjifdjnnaa
open Go.Am
abbrev noS : ByteArray := ⟨#[]⟩
def ints (l : List Int) : List (List AV) := l.map fun x => [.sc (.int .i64 x)]
theorem ints_len {l : List Int} : (ints l).length = l.length := by simp [ints]
theorem ints_get {l : List Int} {i : Nat} (h : i < l.length) : (ints l)[i]? = some [.sc (.int .i64 l[i])] := by simp [ints, h]
theorem isnil_bs {own sz es lim neg} {t : Nat → AV} {h : Heap} : aexIsnil 0 neg t h (.bs own sz es lim) = some (.val (.sc (.bool neg)) t h) := rfl
theorem isnil_nil {neg} {t : Nat → AV} {h : Heap} : aexIsnil 0 neg t h (.sc (.slice none 0 0)) = some (.val (.sc (.bool !neg)) t h) := rfl
theorem isnil_op {o c neg} {t : Nat → AV} {h : Heap} : aexIsnil 1 neg t h (.op o c) = some (.val (.sc (.bool neg)) t h) := rfl
theorem setR4 {a b c d e x : AV} {l} : setRange (a :: b :: c :: d :: e :: l) 4 [x] = a :: b :: c :: d :: x :: l := by simp [setRange]
theorem setR5 {a b c d e f x : AV} {l} : setRange (a :: b :: c :: d :: e :: f :: l) 5 [x] = a :: b :: c :: d :: e :: x :: l := by simp [setRange]
theorem setR6 {a b c d e f g x : AV} {l} : setRange (a :: b :: c :: d :: e :: f :: g :: l) 6 [x] = a :: b :: c :: d :: e :: f :: x :: l := by simp [setRange]
theorem setR7 {a b c d e f g h x : AV} {l} : setRange (a :: b :: c :: d :: e :: f :: g :: h :: l) 7 [x] = a :: b :: c :: d :: e :: f :: g :: x :: l := by simp [setRange]
theorem setR8 {a b c d e f g h i x : AV} {l} : setRange (a :: b :: c :: d :: e :: f :: g :: h :: i :: l) 8 [x] = a :: b :: c :: d :: e :: f :: g :: h :: x :: l := by simp [setRange]
theorem setR9 {a b c d e f g h i j x : AV} {l} : setRange (a :: b :: c :: d :: e :: f :: g :: h :: i :: j :: l) 9 [x] = a :: b :: c :: d :: e :: f :: g :: h :: i :: x :: l := by simp [setRange]
theorem setR10 {a b c d e f g h i j k x : AV} {l} : setRange (a :: b :: c :: d :: e :: f :: g :: h :: i :: j :: k :: l) 10 [x] = a :: b :: c :: d :: e :: f :: g :: h :: i :: j :: x :: l := by simp [setRange]
theorem setRA6 {a0 a1 a2 a3 a4 a5 b0 b1 b2 b3 b4 b5 : AV} : setRange [a0, a1, a2, a3, a4, a5] 0 [b0, b1, b2, b3, b4, b5] = [b0, b1, b2, b3, b4, b5] := rfl
theorem setRA11 {a0 a1 a2 a3 a4 a5 a6 a7 a8 a9 a10 b0 b1 b2 b3 b4 b5 b6 b7 b8 b9 b10 : AV} : setRange [a0, a1, a2, a3, a4, a5, a6, a7, a8, a9, a10] 0 [b0, b1, b2, b3, b4, b5, b6, b7, b8, b9, b10] = [b0, b1, b2, b3, b4, b5, b6, b7, b8, b9, b10] := rfl
theorem setRA12 {a0 a1 a2 a3 a4 a5 a6 a7 a8 a9 a10 a11 b0 b1 b2 b3 b4 b5 b6 b7 b8 b9 b10 b11 : AV} : setRange [a0, a1, a2, a3, a4, a5, a6, a7, a8, a9, a10, a11] 0 [b0, b1, b2, b3, b4, b5, b6, b7, b8, b9, b10, b11] = [b0, b1, b2, b3, b4, b5, b6, b7, b8, b9, b10, b11] := rfl
theorem cells_mp {o} : (AV.mp o).cells = [.mp o] := rfl
theorem cells_op {o c} : (AV.op o c).cells = [.op o c] := rfl
theorem isTu_mp {o} : (AV.mp o).isTu = false := rfl
theorem disc_mp {o} : (AV.mp o).disc = .mp o := rfl
theorem disc_op {o c} : (AV.op o c).disc = .op o c := rfl
attribute [go_sem] setRA6 setRA11 setRA12 cells_mp cells_op isTu_mp disc_mp disc_op
theorem setRange_all {cs ys : List AV} (h : ys.length = cs.length) : setRange cs 0 ys = ys := by simp [setRange, h]
attribute [go_sem] setR4 setR5 setR6 setR7 setR8 setR9 setR10
def IdxR (b : Bool) (r : AV) : Prop := ∃ z : Int, r = .sc (.int .i64 z) ∧ decide (z ≥ ((0 : Nat) : Int)) = b
theorem aex_mkm {P : Program} {t : Nat → AV} {h : Heap} : aex P .mkm ⟨t, h⟩ = some (.new .mp (.map []) t) := rfl
variable {P : Program} (H : Has P)
include H
theorem index_ok {v : AV} {l : List Int} {x : Int} (hv : SF 1 v (ints l)) (hl : l.length < 2 ^ 40) (h : Heap) : AWF P ann 0 72 [v, .sc (.int .i64 x)] h fun r h' => IdxR (decide (x ∈ l)) r ∧ h' = h := by
  refine AWF.fnc H.f0_72 rfl ?_
  have e1 := @ints_len l
  (refine W_seq_gen fun N hN => ?_); simp (disch := first | omega | (simp only [List.length_cons, List.length_nil, List.length_append, u8s_len]; omega)) only [go_sem, ↓reduceIte, true_and, Nat.reduceLeDiff, Nat.reduceEqDiff, Nat.reduceAdd, Nat.reduceBEq, Int.reduceEq]
  refine hN _ ?_; clear hN N
  (refine W_seq_gen fun M hM => ?_)
  simp (disch := first | omega | (simp only [List.length_cons, List.length_nil, List.length_append, u8s_len]; omega)) only [go_sem, ↓reduceIte, true_and, Nat.reduceLeDiff, Nat.reduceEqDiff, Nat.reduceAdd, Nat.reduceBEq, Int.reduceEq, hv.same, hv.disc, hv.sl.len, e1]
  refine AW_loopN (fun m t h' => h' = h ∧ ∃ i, m = l.length - i ∧ i ≤ l.length ∧ t 0 = v ∧ t 1 = .sc (.int .i64 x) ∧ t 7 = .sc (.int .i64 (l.length : Nat)) ∧ t 8 = .sc (.int .i64 (i : Nat)) ∧ ∀ (j : Nat) (hj : j < l.length), j < i → l[j] ≠ x)
    (n := l.length) ⟨rfl, 0, rfl, Nat.zero_le _, rfl, rfl, rfl, rfl, fun j hj h => by omega⟩ ?_
  rintro m t h' ⟨rfl, i, rfl, hi, t0, t1, t7, t8, hno⟩
  rcases Nat.lt_or_ge i l.length with hlt | hge
  · have g0 := ints_get hlt
    (refine W_seq_gen fun N hN => ?_); simp (disch := first | omega | (simp only [List.length_cons, List.length_nil, List.length_append, u8s_len]; omega)) only [go_sem, ↓reduceIte, true_and, Nat.reduceLeDiff, Nat.reduceEqDiff, Nat.reduceAdd, Nat.reduceBEq, Int.reduceEq, t7, t8, hlt]
    refine hN _ ?_; clear hN N
    (refine W_seq_gen fun N hN => ?_); simp (disch := first | omega | (simp only [List.length_cons, List.length_nil, List.length_append, u8s_len]; omega)) only [go_sem, ↓reduceIte, true_and, Nat.reduceLeDiff, Nat.reduceEqDiff, Nat.reduceAdd, Nat.reduceBEq, Int.reduceEq]
    refine hN _ ?_; clear hN N
    (refine W_seq_gen fun N hN => ?_)
    rw [W_block]
    (refine W_seq_gen fun N hN => ?_); simp (disch := first | omega | (simp only [List.length_cons, List.length_nil, List.length_append, u8s_len]; omega)) only [go_sem, ↓reduceIte, true_and, Nat.reduceLeDiff, Nat.reduceEqDiff, Nat.reduceAdd, Nat.reduceBEq, Int.reduceEq, t8]
    refine hN _ ?_; clear hN N
    by_cases c : x = l[i]
    · have d : (x == l[i]) = true := by simp [c]
      simp (disch := first | omega | (simp only [List.length_cons, List.length_nil, List.length_append, u8s_len]; omega)) only [go_sem, ↓reduceIte, true_and, Nat.reduceLeDiff, Nat.reduceEqDiff, Nat.reduceAdd, Nat.reduceBEq, Int.reduceEq, t0, t1, hv.same, hv.disc, hv.sl.ia, g0, d]
      exact ⟨_, rfl, by rw [c]; simp⟩
    · have d : (x == l[i]) = false := by simp [c]
      simp (disch := first | omega | (simp only [List.length_cons, List.length_nil, List.length_append, u8s_len]; omega)) only [go_sem, ↓reduceIte, true_and, Nat.reduceLeDiff, Nat.reduceEqDiff, Nat.reduceAdd, Nat.reduceBEq, Int.reduceEq, t0, t1, hv.same, hv.disc, hv.sl.ia, g0, d]
      refine hN _ ?_; clear hN N
      simp (disch := first | omega | (simp only [List.length_cons, List.length_nil, List.length_append, u8s_len]; omega)) only [go_sem, ↓reduceIte, true_and, Nat.reduceLeDiff, Nat.reduceEqDiff, Nat.reduceAdd, Nat.reduceBEq, Int.reduceEq, t8, nat_add]
      exact ⟨l.length - (i + 1), by omega, i + 1, rfl, by omega, by simp [upd_at, t0], by simp [upd_at, t1], by simp [upd_at, t7], by simp [upd_at], fun j hj hlt' => by
        rcases Nat.lt_or_ge j i with q | q
        · exact hno j hj q
        · obtain rfl : j = i := by omega
          exact fun e => c e.symm⟩
  · obtain rfl : i = l.length := by omega
    (refine W_seq_gen fun N hN => ?_); simp (disch := first | omega | (simp only [List.length_cons, List.length_nil, List.length_append, u8s_len]; omega)) only [go_sem, ↓reduceIte, true_and, Nat.reduceLeDiff, Nat.reduceEqDiff, Nat.reduceAdd, Nat.reduceBEq, Int.reduceEq, t7, t8, Nat.lt_irrefl]
    refine hN _ ?_; clear hN N
    (refine W_seq_gen fun N hN => ?_); simp (disch := first | omega | (simp only [List.length_cons, List.length_nil, List.length_append, u8s_len]; omega)) only [go_sem, ↓reduceIte, true_and, Nat.reduceLeDiff, Nat.reduceEqDiff, Nat.reduceAdd, Nat.reduceBEq, Int.reduceEq]
    refine hM _ ?_; clear hN N hM M
    have hf : x ∉ l := fun hm => by
      obtain ⟨j, hj, e⟩ := List.getElem_of_mem hm
      exact hno j hj hj e
    simp (disch := first | omega | (simp only [List.length_cons, List.length_nil, List.length_append, u8s_len]; omega)) only [go_sem, ↓reduceIte, true_and, Nat.reduceLeDiff, Nat.reduceEqDiff, Nat.reduceAdd, Nat.reduceBEq, Int.reduceEq]
    exact ⟨_, rfl, by simp [hf]⟩
theorem contains_ok {v : AV} {l : List Int} {x : Int} (hv : SF 1 v (ints l)) (hl : l.length < 2 ^ 40) (h : Heap) : AWF P ann 0 59 [v, .sc (.int .i64 x)] h fun r h' => r = .sc (.bool (decide (x ∈ l))) ∧ h' = h := by
  refine AWF.fnc H.f0_59 rfl ?_
  (refine W_seq_gen fun N hN => ?_); simp (disch := first | omega | (simp only [List.length_cons, List.length_nil, List.length_append, u8s_len]; omega)) only [go_sem, ↓reduceIte, true_and, Nat.reduceLeDiff, Nat.reduceEqDiff, Nat.reduceAdd, Nat.reduceBEq, Int.reduceEq]
  refine hN _ ?_; clear hN N
  simp (disch := first | omega | (simp only [List.length_cons, List.length_nil, List.length_append, u8s_len]; omega)) only [go_sem, ↓reduceIte, true_and, Nat.reduceLeDiff, Nat.reduceEqDiff, Nat.reduceAdd, Nat.reduceBEq, Int.reduceEq, hv.same, hv.disc]
  refine (index_ok H hv hl _).mono ?_
  rintro _ h1 ⟨⟨z, rfl, hz⟩, rfl⟩
  have hz2 : scalarBin P .geq 3 (.int .i64 z) (.int .i64 ((0 : Nat) : Int)) = some (.bool (decide (x ∈ l))) := by rw [sb_geq, ← hz]
  rw [contK_some]; simp (disch := first | omega | (simp only [List.length_cons, List.length_nil, List.length_append, u8s_len]; omega)) only [go_sem, ↓reduceIte, true_and, Nat.reduceLeDiff, Nat.reduceEqDiff, Nat.reduceAdd, Nat.reduceBEq, Int.reduceEq, hz2]
omit H in
theorem v101 : ints [101] = [[.sc (.int .i64 ((101 : Nat) : Int))]] := rfl
theorem clone_ok {v : AV} {es : List (List AV)} (hv : SF 1 v es) (hl : es.length < 2 ^ 40) (h : Heap) : AWF P ann 0 61 [v] h fun r h' => SL 1 r es ∧ h' = h := by
  refine AWF.fnc H.f0_61 rfl ?_
  (refine W_seq_gen fun N hN => ?_); simp (disch := first | omega | (simp only [List.length_cons, List.length_nil, List.length_append, u8s_len]; omega)) only [go_sem, ↓reduceIte, true_and, Nat.reduceLeDiff, Nat.reduceEqDiff, Nat.reduceAdd, Nat.reduceBEq, Int.reduceEq]
  refine hN _ ?_; clear hN N
  refine W_forget (fun t => t 0 = v ∧ True) (by simp [upd_at, *] <;> (first | rfl | exact ⟨rfl, rfl⟩ | exact ⟨rfl, rfl, rfl⟩ | exact ⟨rfl, rfl, rfl, rfl⟩ | exact ⟨rfl, rfl, rfl, rfl, rfl⟩)) ?_; rintro t ⟨t0, -⟩
  rcases id hv with ⟨rfl, rfl⟩ | ⟨lim, rfl⟩
  · simp (disch := first | omega | (simp only [List.length_cons, List.length_nil, List.length_append, u8s_len]; omega)) only [go_sem, ↓reduceIte, true_and, Nat.reduceLeDiff, Nat.reduceEqDiff, Nat.reduceAdd, Nat.reduceBEq, Int.reduceEq, t0, isnil_nil, Bool.not_false]
    exact SL.nil
  · have happ := fun (t : Nat → AV) (h : Heap) => (SG.bs (sz := 1) (es := []) (lim := some 0)).app (t := t) (h := h) (ys := es) (bytes := 8) (by simp; omega)
    have hc := (SG.bs (sz := 1) (es := []) (lim := some 0)).cat es
    rw [List.nil_append] at hc
    generalize catV 1 es (.bs true 1 [] (some 0)) = w at happ hc
    simp (disch := first | omega | (simp only [List.length_cons, List.length_nil, List.length_append, u8s_len]; omega)) only [go_sem, ↓reduceIte, true_and, Nat.reduceLeDiff, Nat.reduceEqDiff, Nat.reduceAdd, Nat.reduceBEq, Int.reduceEq, t0, isnil_bs, hv.sl.elems, happ]
    exact hc.sl
theorem peers_ok {v : AV} (hv : SF 1 v (ints [101])) (h : Heap) : AWF P ann 0 85 [.sc (.int .i64 ((101 : Nat) : Int)), v] h fun r h' => r = .sc (.bool true) ∧ h' = h := by
  refine AWF.fnc H.f0_85 rfl ?_
  have e1 : (ints [101]).length = 1 := rfl
  have g0 : (ints [101])[0]? = some [.sc (.int .i64 ((101 : Nat) : Int))] := rfl
  (refine W_seq_gen fun N hN => ?_); simp (disch := first | omega | (simp only [List.length_cons, List.length_nil, List.length_append, u8s_len]; omega)) only [go_sem, ↓reduceIte, true_and, Nat.reduceLeDiff, Nat.reduceEqDiff, Nat.reduceAdd, Nat.reduceBEq, Int.reduceEq]
  refine hN _ ?_; clear hN N
  (refine W_seq_gen fun M hM => ?_)
  simp (disch := first | omega | (simp only [List.length_cons, List.length_nil, List.length_append, u8s_len]; omega)) only [go_sem, ↓reduceIte, true_and, Nat.reduceLeDiff, Nat.reduceEqDiff, Nat.reduceAdd, Nat.reduceBEq, Int.reduceEq, hv.same, hv.disc, hv.sl.len, e1]
  refine AW_loopN (fun m t h' => h' = h ∧ ∃ i, m = 1 - i ∧ i ≤ 1 ∧ t 0 = .sc (.int .i64 ((101 : Nat) : Int)) ∧ t 1 = v ∧ t 7 = v ∧ t 8 = .sc (.int .i64 ((1 : Nat) : Int)) ∧ t 9 = .sc (.int .i64 (i : Nat)))
    (n := 1) ⟨rfl, 0, rfl, Nat.zero_le _, rfl, rfl, rfl, rfl, rfl⟩ ?_
  rintro m t h' ⟨rfl, i, rfl, hi, t0, t1, t7, t8, t9⟩
  rcases Nat.lt_or_ge i 1 with hlt | hge
  · obtain rfl : i = 0 := by omega
    have d0 : decide ((0 : Nat) < 1) = true := rfl
    (refine W_seq_gen fun N hN => ?_); simp (disch := first | omega | (simp only [List.length_cons, List.length_nil, List.length_append, u8s_len]; omega)) only [go_sem, ↓reduceIte, true_and, Nat.reduceLeDiff, Nat.reduceEqDiff, Nat.reduceAdd, Nat.reduceBEq, Int.reduceEq, t8, t9]
    refine hN _ ?_; clear hN N
    (refine W_seq_gen fun N hN => ?_); simp (disch := first | omega | (simp only [List.length_cons, List.length_nil, List.length_append, u8s_len]; omega)) only [go_sem, ↓reduceIte, true_and, Nat.reduceLeDiff, Nat.reduceEqDiff, Nat.reduceAdd, Nat.reduceBEq, Int.reduceEq, d0]
    refine hN _ ?_; clear hN N
    (refine W_seq_gen fun N hN => ?_)
    rw [W_block]
    have d2 : decide ((101 : Nat) < 1) = false := rfl
    have d3 : decide ((999 : Nat) < 101) = false := rfl
    have d4 : decide ((0 : Nat) < 0) = false := rfl
    simp (disch := first | omega | (simp only [List.length_cons, List.length_nil, List.length_append, u8s_len]; omega)) only [go_sem, ↓reduceIte, true_and, Nat.reduceLeDiff, Nat.reduceEqDiff, Nat.reduceAdd, Nat.reduceBEq, Int.reduceEq, t7, t9, hv.same, hv.disc, hv.sl.ia, g0, d2, d3, d4]
    refine hN _ ?_; clear hN N
    simp (disch := first | omega | (simp only [List.length_cons, List.length_nil, List.length_append, u8s_len]; omega)) only [go_sem, ↓reduceIte, true_and, Nat.reduceLeDiff, Nat.reduceEqDiff, Nat.reduceAdd, Nat.reduceBEq, Int.reduceEq, t9]
    exact ⟨0, by omega, 1, rfl, by omega, by simp [upd_at, t0], by simp [upd_at, t1], by simp [upd_at, t7], by simp [upd_at, t8], by simp [upd_at]⟩
  · obtain rfl : i = 1 := by omega
    have d1 : decide ((1 : Nat) < 1) = false := rfl
    (refine W_seq_gen fun N hN => ?_); simp (disch := first | omega | (simp only [List.length_cons, List.length_nil, List.length_append, u8s_len]; omega)) only [go_sem, ↓reduceIte, true_and, Nat.reduceLeDiff, Nat.reduceEqDiff, Nat.reduceAdd, Nat.reduceBEq, Int.reduceEq, t8, t9]
    refine hN _ ?_; clear hN N
    (refine W_seq_gen fun N hN => ?_); simp (disch := first | omega | (simp only [List.length_cons, List.length_nil, List.length_append, u8s_len]; omega)) only [go_sem, ↓reduceIte, true_and, Nat.reduceLeDiff, Nat.reduceEqDiff, Nat.reduceAdd, Nat.reduceBEq, Int.reduceEq, d1]
    refine hM _ ?_; clear hN N hM M
    simp (disch := first | omega | (simp only [List.length_cons, List.length_nil, List.length_append, u8s_len]; omega)) only [go_sem, ↓reduceIte, true_and, Nat.reduceLeDiff, Nat.reduceEqDiff, Nat.reduceAdd, Nat.reduceBEq, Int.reduceEq, t0, t1, hv.same, hv.disc, hv.sl.len, e1]
    refine (contains_ok H hv (by simp) _).mono ?_
    rintro _ _ ⟨rfl, hh⟩; subst hh
    rw [contK_some]; simp (disch := first | omega | (simp only [List.length_cons, List.length_nil, List.length_append, u8s_len]; omega)) only [go_sem, ↓reduceIte, true_and, Nat.reduceLeDiff, Nat.reduceEqDiff, Nat.reduceAdd, Nat.reduceBEq, Int.reduceEq]
    rfl
theorem clog_nil (h : Heap) : AWF P ann 0 90 [.sc (.slice none 0 0)] h fun r h' => r = .sc (.slice none 0 0) ∧ h' = h := by
  refine AWF.fnc H.f0_90 rfl ?_
  (refine W_seq_gen fun N hN => ?_); simp (disch := first | omega | (simp only [List.length_cons, List.length_nil, List.length_append, u8s_len]; omega)) only [go_sem, ↓reduceIte, true_and, Nat.reduceLeDiff, Nat.reduceEqDiff, Nat.reduceAdd, Nat.reduceBEq, Int.reduceEq]
  refine hN _ ?_; clear hN N
  simp (disch := first | omega | (simp only [List.length_cons, List.length_nil, List.length_append, u8s_len]; omega)) only [go_sem, ↓reduceIte, true_and, Nat.reduceLeDiff, Nat.reduceEqDiff, Nat.reduceAdd, Nat.reduceBEq, Int.reduceEq, isnil_nil, Bool.not_false]
theorem records_nil (h : Heap) : AWF P ann 0 86 [.sc (.slice none 0 0)] h fun r h' => r = .sc (.slice none 0 0) ∧ h' = h := by
  refine AWF.fnc H.f0_86 rfl ?_
  (refine W_seq_gen fun N hN => ?_); simp (disch := first | omega | (simp only [List.length_cons, List.length_nil, List.length_append, u8s_len]; omega)) only [go_sem, ↓reduceIte, true_and, Nat.reduceLeDiff, Nat.reduceEqDiff, Nat.reduceAdd, Nat.reduceBEq, Int.reduceEq]
  refine hN _ ?_; clear hN N
  (refine W_seq_gen fun N hN => ?_); simp (disch := first | omega | (simp only [List.length_cons, List.length_nil, List.length_append, u8s_len]; omega)) only [go_sem, ↓reduceIte, true_and, Nat.reduceLeDiff, Nat.reduceEqDiff, Nat.reduceAdd, Nat.reduceBEq, Int.reduceEq]
  refine (clog_nil H _).mono ?_
  rintro _ h ⟨rfl, rfl⟩
  rw [contK_some]; simp (disch := first | omega | (simp only [List.length_cons, List.length_nil, List.length_append, u8s_len]; omega)) only [go_sem, ↓reduceIte, true_and, Nat.reduceLeDiff, Nat.reduceEqDiff, Nat.reduceAdd, Nat.reduceBEq, Int.reduceEq]
  refine hN _ ?_; clear hN N
  refine W_forget (fun t => t 0 = .sc (.slice none 0 0) ∧ True) (by simp [upd_at, *] <;> (first | rfl | exact ⟨rfl, rfl⟩ | exact ⟨rfl, rfl, rfl⟩ | exact ⟨rfl, rfl, rfl, rfl⟩ | exact ⟨rfl, rfl, rfl, rfl, rfl⟩)) ?_; rintro t ⟨t0, -⟩
  (refine W_seq_gen fun M hM => ?_)
  have nl : ∀ (t : Nat → AV) (h : Heap), aexLen 0 t h (.sc (.slice none 0 0)) = some (.val (.sc (.int .i64 ((0 : Nat) : Int))) t h) := fun t h => rfl
  simp (disch := first | omega | (simp only [List.length_cons, List.length_nil, List.length_append, u8s_len]; omega)) only [go_sem, ↓reduceIte, true_and, Nat.reduceLeDiff, Nat.reduceEqDiff, Nat.reduceAdd, Nat.reduceBEq, Int.reduceEq, t0, nl]
  refine AW_loopN (fun m t h' => h' = h ∧ t 0 = .sc (.slice none 0 0) ∧ t 8 = .sc (.int .i64 ((0 : Nat) : Int)) ∧ t 9 = .sc (.int .i64 ((0 : Nat) : Int))) (n := 0) ⟨rfl, by simp [upd_at, t0], by simp [upd_at], by simp [upd_at]⟩ ?_
  clear t0 t
  rintro m t h' ⟨rfl, t0, t8, t9⟩
  have d0 : decide ((0 : Nat) < 0) = false := rfl
  (refine W_seq_gen fun N hN => ?_); simp (disch := first | omega | (simp only [List.length_cons, List.length_nil, List.length_append, u8s_len]; omega)) only [go_sem, ↓reduceIte, true_and, Nat.reduceLeDiff, Nat.reduceEqDiff, Nat.reduceAdd, Nat.reduceBEq, Int.reduceEq, t8, t9]
  refine hN _ ?_; clear hN N
  (refine W_seq_gen fun N hN => ?_); simp (disch := first | omega | (simp only [List.length_cons, List.length_nil, List.length_append, u8s_len]; omega)) only [go_sem, ↓reduceIte, true_and, Nat.reduceLeDiff, Nat.reduceEqDiff, Nat.reduceAdd, Nat.reduceBEq, Int.reduceEq, d0]
  refine hM _ ?_; clear hN N hM M
  simp (disch := first | omega | (simp only [List.length_cons, List.length_nil, List.length_append, u8s_len]; omega)) only [go_sem, ↓reduceIte, true_and, Nat.reduceLeDiff, Nat.reduceEqDiff, Nat.reduceAdd, Nat.reduceBEq, Int.reduceEq, t0]
def balV (w : AV) : List AV := [.sc (.int .i64 ((101 : Nat) : Int)), w, .sc (.int .i64 ((0 : Nat) : Int)), .sc (.int .i64 ((0 : Nat) : Int)), .sc (.slice none 0 0), .sc (.int .i64 ((0 : Nat) : Int)), .sc (.int .i64 ((1 : Nat) : Int)), .sc (.int .i64 ((0 : Nat) : Int)), .sc (.slice none 0 0), .sc (.int .i64 ((0 : Nat) : Int)), .sc (.slice none 0 0), .sc (.slice none 0 0)]
def ResR (r : AV) : Prop := ∃ w, r = .tu [.ag (balV w), .sc (.int .i64 ((0 : Nat) : Int))] ∧ SF 1 w (ints [101])
theorem restore_ok {v : AV} (hv : SF 1 v (ints [101])) (h : Heap) : AWF P ann 0 73 [.sc (.int .i64 ((101 : Nat) : Int)), v, .sc (.int .i64 ((0 : Nat) : Int)), .sc (.int .i64 ((0 : Nat) : Int)), .sc (.slice none 0 0)] h fun r h' => ResR r ∧ h' = h := by
  refine AWF.fnPurec H.f0_73 rfl ?_
  have hO := OB.nil (h := h)
  (refine W_seq_gen fun N hN => ?_); simp (disch := first | omega | (simp only [List.length_cons, List.length_nil, List.length_append, u8s_len]; omega)) only [go_sem, ↓reduceIte, true_and, Nat.reduceLeDiff, Nat.reduceEqDiff, Nat.reduceAdd, Nat.reduceBEq, Int.reduceEq]
  intro o10 h10
  refine hN _ ?_; clear hN N; refine W_ob (hO.new h10) fun hc hO => ?_
  refine W_forget (fun t => t 0 = .sc (.int .i64 ((101 : Nat) : Int)) ∧ t 1 = v ∧ t 2 = .sc (.int .i64 ((0 : Nat) : Int)) ∧ t 3 = .sc (.int .i64 ((0 : Nat) : Int)) ∧ t 4 = .sc (.slice none 0 0) ∧ t 10 = .op o10 0 ∧ True) (by simp [upd_at, *] <;> (first | rfl | exact ⟨rfl, rfl⟩ | exact ⟨rfl, rfl, rfl⟩ | exact ⟨rfl, rfl, rfl, rfl⟩ | exact ⟨rfl, rfl, rfl, rfl, rfl⟩)) ?_; rintro t ⟨t0, t1, t2, t3, t4, t10, -⟩
  have d0 : decide ((0 : Nat) < 0) = false := rfl
  have d1 : decide ((2147483647 : Nat) < 0) = false := rfl
  have d2 : decide ((512 : Nat) < 0) = false := rfl
  have n0 : (((0 : Nat) : Int) != ((0 : Nat) : Int)) = false := rfl
  have nl : ∀ (t : Nat → AV) (h : Heap), aexLen 0 t h (.sc (.slice none 0 0)) = some (.val (.sc (.int .i64 ((0 : Nat) : Int))) t h) := fun t h => rfl
  (refine W_seq_gen fun N hN => ?_); simp (disch := first | omega | (simp only [List.length_cons, List.length_nil, List.length_append, u8s_len]; omega)) only [go_sem, ↓reduceIte, true_and, Nat.reduceLeDiff, Nat.reduceEqDiff, Nat.reduceAdd, Nat.reduceBEq, Int.reduceEq, t0, t1, hv.same, hv.disc]
  refine (peers_ok H hv _).mono ?_
  rintro _ hc ⟨rfl, rfl⟩
  rw [contK_some]; simp (disch := first | omega | (simp only [List.length_cons, List.length_nil, List.length_append, u8s_len]; omega)) only [go_sem, ↓reduceIte, true_and, Nat.reduceLeDiff, Nat.reduceEqDiff, Nat.reduceAdd, Nat.reduceBEq, Int.reduceEq, t2, t3, t4, d0, d1, d2, n0, nl]
  refine hN _ ?_; clear hN N
  refine W_forget (fun t => t 0 = .sc (.int .i64 ((101 : Nat) : Int)) ∧ t 1 = v ∧ t 2 = .sc (.int .i64 ((0 : Nat) : Int)) ∧ t 3 = .sc (.int .i64 ((0 : Nat) : Int)) ∧ t 4 = .sc (.slice none 0 0) ∧ t 10 = .op o10 0 ∧ t 12 = .sc (.bool false) ∧ True) (by simp [upd_at, *] <;> (first | rfl | exact ⟨rfl, rfl⟩ | exact ⟨rfl, rfl, rfl⟩ | exact ⟨rfl, rfl, rfl, rfl⟩ | exact ⟨rfl, rfl, rfl, rfl, rfl⟩)) ?_; rintro t ⟨t0, t1, t2, t3, t4, t10, t12, -⟩
  (refine W_seq_gen fun M hM => ?_)
  simp (disch := first | omega | (simp only [List.length_cons, List.length_nil, List.length_append, u8s_len]; omega)) only [go_sem, ↓reduceIte, true_and, Nat.reduceLeDiff, Nat.reduceEqDiff, Nat.reduceAdd, Nat.reduceBEq, Int.reduceEq, t4, nl]
  refine AW_loopN (fun m t h' => h' = hc ∧ t 0 = .sc (.int .i64 ((101 : Nat) : Int)) ∧ t 1 = v ∧ t 2 = .sc (.int .i64 ((0 : Nat) : Int)) ∧ t 3 = .sc (.int .i64 ((0 : Nat) : Int)) ∧ t 4 = .sc (.slice none 0 0) ∧ t 10 = .op o10 0 ∧ t 12 = .sc (.bool false) ∧ t 43 = .sc (.int .i64 ((0 : Nat) : Int)) ∧ t 44 = .sc (.int .i64 ((0 : Nat) : Int))) (n := 0)
    ⟨rfl, by simp [upd_at, t0], by simp [upd_at, t1], by simp [upd_at, t2], by simp [upd_at, t3], by simp [upd_at, t4], by simp [upd_at, t10], by simp [upd_at, t12], by simp [upd_at], by simp [upd_at]⟩ ?_
  clear t0 t1 t2 t3 t4 t10 t12
  rintro m t h' ⟨rfl, t0, t1, t2, t3, t4, t10, t12, t43, t44⟩
  (refine W_seq_gen fun N hN => ?_); simp (disch := first | omega | (simp only [List.length_cons, List.length_nil, List.length_append, u8s_len]; omega)) only [go_sem, ↓reduceIte, true_and, Nat.reduceLeDiff, Nat.reduceEqDiff, Nat.reduceAdd, Nat.reduceBEq, Int.reduceEq, t43, t44]
  refine hN _ ?_; clear hN N
  (refine W_seq_gen fun N hN => ?_); simp (disch := first | omega | (simp only [List.length_cons, List.length_nil, List.length_append, u8s_len]; omega)) only [go_sem, ↓reduceIte, true_and, Nat.reduceLeDiff, Nat.reduceEqDiff, Nat.reduceAdd, Nat.reduceBEq, Int.reduceEq, d0]
  refine hM _ ?_; clear hN N hM M
  (refine W_seq_gen fun N hN => ?_); simp (disch := first | omega | (simp only [List.length_cons, List.length_nil, List.length_append, u8s_len]; omega)) only [go_sem, ↓reduceIte, true_and, Nat.reduceLeDiff, Nat.reduceEqDiff, Nat.reduceAdd, Nat.reduceBEq, Int.reduceEq, t12]
  refine hN _ ?_; clear hN N
  simp (disch := first | omega | (simp only [List.length_cons, List.length_nil, List.length_append, u8s_len]; omega)) only [go_sem, ↓reduceIte, true_and, Nat.reduceLeDiff, Nat.reduceEqDiff, Nat.reduceAdd, Nat.reduceBEq, Int.reduceEq, t0, t1, hv.same, hv.disc]
  refine (clone_ok H hv (by simp [ints]) _).mono ?_
  rintro w hc ⟨hw, rfl⟩
  rw [contK_some]; simp (disch := first | omega | (simp only [List.length_cons, List.length_nil, List.length_append, u8s_len]; omega)) only [go_sem, ↓reduceIte, true_and, Nat.reduceLeDiff, Nat.reduceEqDiff, Nat.reduceAdd, Nat.reduceBEq, Int.reduceEq, t2, t3, t4]
  refine (records_nil H _).mono ?_
  rintro _ hc ⟨rfl, rfl⟩
  have wc : w.dis.cells = [w.dis] := hw.dis.cells
  have wt : w.dis.isTu = false := by rcases hw with ⟨rfl, _⟩ | ⟨_, _, rfl⟩ <;> rfl
  rw [contK_some]; simp (disch := first | omega | (simp only [List.length_cons, List.length_nil, List.length_append, u8s_len]; omega)) only [go_sem, ↓reduceIte, true_and, Nat.reduceLeDiff, Nat.reduceEqDiff, Nat.reduceAdd, Nat.reduceBEq, Int.reduceEq, wc, wt, hw.dd, hw.disc, hw.ddisc, t10, hO.get0]
  exact ⟨⟨_, rfl, hw.df⟩, hO.st0.keep⟩
theorem bnew_ok {v : AV} (hv : SF 1 v (ints [101])) (h : Heap) : AWF P ann 0 60 [.sc (.int .i64 ((101 : Nat) : Int)), v] h fun r h' => ResR r ∧ h' = h := by
  refine AWF.fnPurec H.f0_60 rfl ?_
  have hO := OB.nil (h := h)
  (refine W_seq_gen fun N hN => ?_); simp (disch := first | omega | (simp only [List.length_cons, List.length_nil, List.length_append, u8s_len]; omega)) only [go_sem, ↓reduceIte, true_and, Nat.reduceLeDiff, Nat.reduceEqDiff, Nat.reduceAdd, Nat.reduceBEq, Int.reduceEq]
  intro o4 h4
  refine hN _ ?_; clear hN N; refine W_ob (hO.new h4) fun hc hO => ?_
  refine W_forget (fun t => t 0 = .sc (.int .i64 ((101 : Nat) : Int)) ∧ t 1 = v ∧ t 4 = .op o4 0 ∧ True) (by simp [upd_at, *] <;> (first | rfl | exact ⟨rfl, rfl⟩ | exact ⟨rfl, rfl, rfl⟩ | exact ⟨rfl, rfl, rfl, rfl⟩ | exact ⟨rfl, rfl, rfl, rfl, rfl⟩)) ?_; rintro t ⟨t0, t1, t4, -⟩
  (refine W_seq_gen fun N hN => ?_); simp (disch := first | omega | (simp only [List.length_cons, List.length_nil, List.length_append, u8s_len]; omega)) only [go_sem, ↓reduceIte, true_and, Nat.reduceLeDiff, Nat.reduceEqDiff, Nat.reduceAdd, Nat.reduceBEq, Int.reduceEq, t0, t1, hv.same, hv.disc]
  refine (restore_ok H hv _).mono ?_
  rintro _ hc ⟨⟨w, rfl, hw⟩, rfl⟩
  rw [contK_some]; simp (disch := first | omega | (simp only [List.length_cons, List.length_nil, List.length_append, u8s_len]; omega)) only [go_sem, ↓reduceIte, true_and, Nat.reduceLeDiff, Nat.reduceEqDiff, Nat.reduceAdd, Nat.reduceBEq, Int.reduceEq, balV, t4, hO.get0, hw.same, hw.disc]
  refine hN _ ?_; clear hN N
  simp (disch := first | omega | (simp only [List.length_cons, List.length_nil, List.length_append, u8s_len]; omega)) only [go_sem, ↓reduceIte, true_and, Nat.reduceLeDiff, Nat.reduceEqDiff, Nat.reduceAdd, Nat.reduceBEq, Int.reduceEq, t4, hO.get0, hw.same, hw.disc]
  exact ⟨⟨_, rfl, hw⟩, hO.st0.keep⟩
/-- A pointer to a new object. -/
def PtrR (h h' : Heap) (r : AV) : Prop := ∃ o, r = .tu [.op o 0, .sc (.int .i64 ((0 : Nat) : Int))] ∧ OB h [] h'
theorem reel_ok (h : Heap) : AWF P ann 0 58 [.sc (.int .i64 ((1000 : Nat) : Int))] h fun r h' => PtrR h h' r := by
  refine AWF.fnc H.f0_58 rfl ?_
  have hO := OB.nil (h := h)
  (refine W_seq_gen fun N hN => ?_); simp (disch := first | omega | (simp only [List.length_cons, List.length_nil, List.length_append, u8s_len]; omega)) only [go_sem, ↓reduceIte, true_and, Nat.reduceLeDiff, Nat.reduceEqDiff, Nat.reduceAdd, Nat.reduceBEq, Int.reduceEq]
  refine hN _ ?_; clear hN N
  have d0 : decide ((1000 : Nat) < 0) = false := rfl
  have d1 : decide ((1048576 : Nat) < 1000) = false := rfl
  (refine W_seq_gen fun N hN => ?_); simp (disch := first | omega | (simp only [List.length_cons, List.length_nil, List.length_append, u8s_len]; omega)) only [go_sem, ↓reduceIte, true_and, Nat.reduceLeDiff, Nat.reduceEqDiff, Nat.reduceAdd, Nat.reduceBEq, Int.reduceEq, d0, d1]
  refine hN _ ?_; clear hN N
  (refine W_seq_gen fun N hN => ?_); simp (disch := first | omega | (simp only [List.length_cons, List.length_nil, List.length_append, u8s_len]; omega)) only [go_sem, ↓reduceIte, true_and, Nat.reduceLeDiff, Nat.reduceEqDiff, Nat.reduceAdd, Nat.reduceBEq, Int.reduceEq, aex_mkm]
  intro b hb b1 hb1 b2 hb2
  refine hN _ ?_; clear hN N
  simp (disch := first | omega | (simp only [List.length_cons, List.length_nil, List.length_append, u8s_len]; omega)) only [go_sem, ↓reduceIte, true_and, Nat.reduceLeDiff, Nat.reduceEqDiff, Nat.reduceAdd, Nat.reduceBEq, Int.reduceEq]
  exact ⟨_, rfl, (((hO.new hb).new hb1).new hb2).tail.tail.tail⟩
theorem snew_ok {v : AV} (hv : SF 1 v (ints [101])) (h : Heap) : AWF P ann 0 35 [.sc (.int .i64 ((1 : Nat) : Int)), v, .sc (.int .i64 ((1000 : Nat) : Int))] h fun r h' => PtrR h h' r := by
  refine AWF.fnc H.f0_35 rfl ?_
  have e1 : (ints [101]).length = 1 := rfl
  have g0 : (ints [101])[0]? = some [.sc (.int .i64 ((101 : Nat) : Int))] := rfl
  (refine W_seq_gen fun N hN => ?_); simp (disch := first | omega | (simp only [List.length_cons, List.length_nil, List.length_append, u8s_len]; omega)) only [go_sem, ↓reduceIte, true_and, Nat.reduceLeDiff, Nat.reduceEqDiff, Nat.reduceAdd, Nat.reduceBEq, Int.reduceEq]
  refine hN _ ?_; clear hN N
  refine W_forget (fun t => t 0 = .sc (.int .i64 ((1 : Nat) : Int)) ∧ t 1 = v ∧ t 2 = .sc (.int .i64 ((1000 : Nat) : Int)) ∧ True) (by simp [upd_at, *] <;> (first | rfl | exact ⟨rfl, rfl⟩ | exact ⟨rfl, rfl, rfl⟩ | exact ⟨rfl, rfl, rfl, rfl⟩ | exact ⟨rfl, rfl, rfl, rfl, rfl⟩)) ?_; rintro t ⟨t0, t1, t2, -⟩
  (refine W_seq_gen fun N hN => ?_); simp (disch := first | omega | (simp only [List.length_cons, List.length_nil, List.length_append, u8s_len]; omega)) only [go_sem, ↓reduceIte, true_and, Nat.reduceLeDiff, Nat.reduceEqDiff, Nat.reduceAdd, Nat.reduceBEq, Int.reduceEq, t2]
  refine (reel_ok H _).mono ?_
  rintro _ h1 ⟨o, rfl, hO⟩
  rw [contK_some]; simp (disch := first | omega | (simp only [List.length_cons, List.length_nil, List.length_append, u8s_len]; omega)) only [go_sem, ↓reduceIte, true_and, Nat.reduceLeDiff, Nat.reduceEqDiff, Nat.reduceAdd, Nat.reduceBEq, Int.reduceEq]
  refine hN _ ?_; clear hN N
  refine W_forget (fun t => t 0 = .sc (.int .i64 ((1 : Nat) : Int)) ∧ t 1 = v ∧ t 2 = .sc (.int .i64 ((1000 : Nat) : Int)) ∧ t 9 = .sc (.int .i64 ((0 : Nat) : Int)) ∧ True) (by simp [upd_at, *] <;> (first | rfl | exact ⟨rfl, rfl⟩ | exact ⟨rfl, rfl, rfl⟩ | exact ⟨rfl, rfl, rfl, rfl⟩ | exact ⟨rfl, rfl, rfl, rfl, rfl⟩)) ?_; rintro t ⟨t0, t1, t2, t9, -⟩
  have d0 : decide ((1 : Nat) < 1) = false := rfl
  have d1 : decide ((99 : Nat) < 1) = false := rfl
  have d2 : (((1 : Nat) : Int) == ((0 : Nat) : Int)) = false := rfl
  have d3 : (((0 : Nat) : Int) != ((0 : Nat) : Int)) = false := rfl
  have d4 : decide ((1 : Nat) = 0) = false := rfl
  (refine W_seq_gen fun N hN => ?_); simp (disch := first | omega | (simp only [List.length_cons, List.length_nil, List.length_append, u8s_len]; omega)) only [go_sem, ↓reduceIte, true_and, Nat.reduceLeDiff, Nat.reduceEqDiff, Nat.reduceAdd, Nat.reduceBEq, Int.reduceEq, t0, t1, t9, hv.same, hv.disc, hv.sl.len, e1, d0, d1, d2, d3, d4]
  refine (contains_ok H hv (by simp) _).mono ?_
  rintro _ h1 ⟨rfl, rfl⟩
  have d5 : decide (((1 : Nat) : Int) = (101 : Int)) = false := rfl
  rw [contK_some]; simp (disch := first | omega | (simp only [List.length_cons, List.length_nil, List.length_append, u8s_len]; omega)) only [go_sem, ↓reduceIte, true_and, Nat.reduceLeDiff, Nat.reduceEqDiff, Nat.reduceAdd, Nat.reduceBEq, Int.reduceEq, d5]
  refine hN _ ?_; clear hN N
  refine W_forget (fun t => t 0 = .sc (.int .i64 ((1 : Nat) : Int)) ∧ t 1 = v ∧ t 2 = .sc (.int .i64 ((1000 : Nat) : Int)) ∧ True) (by simp [upd_at, *] <;> (first | rfl | exact ⟨rfl, rfl⟩ | exact ⟨rfl, rfl, rfl⟩ | exact ⟨rfl, rfl, rfl, rfl⟩ | exact ⟨rfl, rfl, rfl, rfl, rfl⟩)) ?_; rintro t ⟨t0, t1, t2, -⟩
  (refine W_seq_gen fun N hN => ?_); simp (disch := first | omega | (simp only [List.length_cons, List.length_nil, List.length_append, u8s_len]; omega)) only [go_sem, ↓reduceIte, true_and, Nat.reduceLeDiff, Nat.reduceEqDiff, Nat.reduceAdd, Nat.reduceBEq, Int.reduceEq, t1, hv.same, hv.disc, hv.sl.ia, g0]
  refine (bnew_ok H hv _).mono ?_
  rintro _ h1 ⟨⟨w, rfl, hw⟩, rfl⟩
  rw [contK_some]; simp (disch := first | omega | (simp only [List.length_cons, List.length_nil, List.length_append, u8s_len]; omega)) only [go_sem, ↓reduceIte, true_and, Nat.reduceLeDiff, Nat.reduceEqDiff, Nat.reduceAdd, Nat.reduceBEq, Int.reduceEq, balV, hw.same, hw.disc]
  intro o10 h10
  refine hN _ ?_; clear hN N; refine W_ob (hO.new h10) fun hc hO => ?_
  refine W_forget (fun t => t 0 = .sc (.int .i64 ((1 : Nat) : Int)) ∧ t 1 = v ∧ t 2 = .sc (.int .i64 ((1000 : Nat) : Int)) ∧ t 11 = .sc (.int .i64 ((0 : Nat) : Int)) ∧ True) (by simp [upd_at, *] <;> (first | rfl | exact ⟨rfl, rfl⟩ | exact ⟨rfl, rfl, rfl⟩ | exact ⟨rfl, rfl, rfl, rfl⟩ | exact ⟨rfl, rfl, rfl, rfl, rfl⟩)) ?_; rintro t ⟨t0, t1, t2, t11, -⟩
  simp (disch := first | omega | (simp only [List.length_cons, List.length_nil, List.length_append, u8s_len]; omega)) only [go_sem, ↓reduceIte, true_and, Nat.reduceLeDiff, Nat.reduceEqDiff, Nat.reduceAdd, Nat.reduceBEq, Int.reduceEq, t0, t1, t11, d3, hv.same, hv.disc]
  refine (clone_ok H hv (by simp [ints]) _).mono ?_
  rintro x h1 ⟨hx, rfl⟩
  have wc : x.dis.cells = [x.dis] := hx.dis.cells
  have wt : x.dis.isTu = false := by rcases hx with ⟨rfl, _⟩ | ⟨_, _, rfl⟩ <;> rfl
  rw [contK_some]; simp (disch := first | omega | (simp only [List.length_cons, List.length_nil, List.length_append, u8s_len]; omega)) only [go_sem, ↓reduceIte, true_and, Nat.reduceLeDiff, Nat.reduceEqDiff, Nat.reduceAdd, Nat.reduceBEq, Int.reduceEq, t2, wc, wt, hx.dd, hx.disc, hx.ddisc]
  intro b hb
  exact ⟨b, rfl, (hO.new hb).tail.tail⟩
theorem fnew_ok {v : AV} (hv : SL 1 v (ints [101])) (h : Heap) : AWF P ann 0 19 [.sc (.int .i64 ((1 : Nat) : Int)), v, .sc (.int .i64 ((1000 : Nat) : Int))] h fun r h' => PtrR h h' r := by
  refine AWF.fnc H.f0_19 rfl ?_
  (refine W_seq_gen fun N hN => ?_); simp (disch := first | omega | (simp only [List.length_cons, List.length_nil, List.length_append, u8s_len]; omega)) only [go_sem, ↓reduceIte, true_and, Nat.reduceLeDiff, Nat.reduceEqDiff, Nat.reduceAdd, Nat.reduceBEq, Int.reduceEq]
  refine hN _ ?_; clear hN N
  refine W_forget (fun t => t 0 = .sc (.int .i64 ((1 : Nat) : Int)) ∧ t 1 = v ∧ t 2 = .sc (.int .i64 ((1000 : Nat) : Int)) ∧ True) (by simp [upd_at, *] <;> (first | rfl | exact ⟨rfl, rfl⟩ | exact ⟨rfl, rfl, rfl⟩ | exact ⟨rfl, rfl, rfl, rfl⟩ | exact ⟨rfl, rfl, rfl, rfl, rfl⟩)) ?_; rintro t ⟨t0, t1, t2, -⟩
  (refine W_seq_gen fun N hN => ?_); simp (disch := first | omega | (simp only [List.length_cons, List.length_nil, List.length_append, u8s_len]; omega)) only [go_sem, ↓reduceIte, true_and, Nat.reduceLeDiff, Nat.reduceEqDiff, Nat.reduceAdd, Nat.reduceBEq, Int.reduceEq, t0, t1, t2, hv.dd, hv.disc, hv.ddisc]
  refine (snew_ok H hv.df _).mono ?_
  rintro _ h1 ⟨o, rfl, hO⟩
  have d3 : (((0 : Nat) : Int) != ((0 : Nat) : Int)) = false := rfl
  rw [contK_some]; simp (disch := first | omega | (simp only [List.length_cons, List.length_nil, List.length_append, u8s_len]; omega)) only [go_sem, ↓reduceIte, true_and, Nat.reduceLeDiff, Nat.reduceEqDiff, Nat.reduceAdd, Nat.reduceBEq, Int.reduceEq]
  refine hN _ ?_; clear hN N
  refine W_forget (fun t => t 8 = .op o 0 ∧ t 9 = .sc (.int .i64 ((0 : Nat) : Int)) ∧ True) (by simp [upd_at, *] <;> (first | rfl | exact ⟨rfl, rfl⟩ | exact ⟨rfl, rfl, rfl⟩ | exact ⟨rfl, rfl, rfl, rfl⟩ | exact ⟨rfl, rfl, rfl, rfl, rfl⟩)) ?_; rintro t ⟨t8, t9, -⟩
  (refine W_seq_gen fun N hN => ?_); simp (disch := first | omega | (simp only [List.length_cons, List.length_nil, List.length_append, u8s_len]; omega)) only [go_sem, ↓reduceIte, true_and, Nat.reduceLeDiff, Nat.reduceEqDiff, Nat.reduceAdd, Nat.reduceBEq, Int.reduceEq, t9, d3]
  refine hN _ ?_; clear hN N
  simp (disch := first | omega | (simp only [List.length_cons, List.length_nil, List.length_append, u8s_len]; omega)) only [go_sem, ↓reduceIte, true_and, Nat.reduceLeDiff, Nat.reduceEqDiff, Nat.reduceAdd, Nat.reduceBEq, Int.reduceEq, t8, aex_mkm]
  intro b hb b1 hb1
  exact ⟨b1, rfl, ((hO.new hb).new hb1).tail.tail⟩
end Go.Proofs.Ytnohkfjifdjnnaa
