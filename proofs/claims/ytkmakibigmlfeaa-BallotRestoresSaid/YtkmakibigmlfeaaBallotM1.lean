/- Clones, records, a step. -/
import Derived.Test.YtkmakibigmlfeaaBallotCode
import Derived.Test.YtkmakibigmlfeaaAmRow
import Derived.Test.YtkmakibigmlfeaaAmTabC
section
set_option linter.unusedVariables false
set_option linter.unusedSimpArgs false
namespace Go.Proofs.Ytkmakibigmlfeaa
open Go.Am
abbrev noS : ByteArray := ⟨#[]⟩
def ints (l : List Int) : List (List AV) := l.map fun x => [.sc (.int .i64 x)]
theorem ints_len {l : List Int} : (ints l).length = l.length := by simp [ints]
theorem ints_get {l : List Int} {i : Nat} (h : i < l.length) : (ints l)[i]? = some [.sc (.int .i64 l[i])] := by simp [ints, h]
theorem isnil_bs {own sz es lim neg} {t : Nat → AV} {h : Heap} : aexIsnil 0 neg t h (.bs own sz es lim) = some (.val (.sc (.bool neg)) t h) := rfl
theorem isnil_nil {neg} {t : Nat → AV} {h : Heap} : aexIsnil 0 neg t h (.sc (.slice none 0 0)) = some (.val (.sc (.bool !neg)) t h) := rfl
theorem setR2 {a b c x : AV} {l} : setRange (a :: b :: c :: l) 2 [x] = a :: b :: x :: l := by simp [setRange]
theorem setR3 {a b c d x : AV} {l} : setRange (a :: b :: c :: d :: l) 3 [x] = a :: b :: c :: x :: l := by simp [setRange]
theorem setR4 {a b c d e x : AV} {l} : setRange (a :: b :: c :: d :: e :: l) 4 [x] = a :: b :: c :: d :: x :: l := by simp [setRange]
theorem setR5 {a b c d e f x : AV} {l} : setRange (a :: b :: c :: d :: e :: f :: l) 5 [x] = a :: b :: c :: d :: e :: x :: l := by simp [setRange]
theorem setR6 {a b c d e f g x : AV} {l} : setRange (a :: b :: c :: d :: e :: f :: g :: l) 6 [x] = a :: b :: c :: d :: e :: f :: x :: l := by simp [setRange]
theorem setR7 {a b c d e f g h x : AV} {l} : setRange (a :: b :: c :: d :: e :: f :: g :: h :: l) 7 [x] = a :: b :: c :: d :: e :: f :: g :: x :: l := by simp [setRange]
theorem setR8 {a b c d e f g h i x : AV} {l} : setRange (a :: b :: c :: d :: e :: f :: g :: h :: i :: l) 8 [x] = a :: b :: c :: d :: e :: f :: g :: h :: x :: l := by simp [setRange]
theorem setR9 {a b c d e f g h i j x : AV} {l} : setRange (a :: b :: c :: d :: e :: f :: g :: h :: i :: j :: l) 9 [x] = a :: b :: c :: d :: e :: f :: g :: h :: i :: x :: l := by simp [setRange]
theorem setR10 {a b c d e f g h i j k x : AV} {l} : setRange (a :: b :: c :: d :: e :: f :: g :: h :: i :: j :: k :: l) 10 [x] = a :: b :: c :: d :: e :: f :: g :: h :: i :: j :: x :: l := by simp [setRange]
theorem setR11 {a b c d e f g h i j k m x : AV} {l} : setRange (a :: b :: c :: d :: e :: f :: g :: h :: i :: j :: k :: m :: l) 11 [x] = a :: b :: c :: d :: e :: f :: g :: h :: i :: j :: k :: x :: l := by simp [setRange]
theorem setRA12 {a0 a1 a2 a3 a4 a5 a6 a7 a8 a9 a10 a11 b0 b1 b2 b3 b4 b5 b6 b7 b8 b9 b10 b11 : AV} : setRange [a0, a1, a2, a3, a4, a5, a6, a7, a8, a9, a10, a11] 0 [b0, b1, b2, b3, b4, b5, b6, b7, b8, b9, b10, b11] = [b0, b1, b2, b3, b4, b5, b6, b7, b8, b9, b10, b11] := rfl
theorem setRange_all {cs ys : List AV} (h : ys.length = cs.length) : setRange cs 0 ys = ys := by simp [setRange, h]
attribute [go_sem] setR2 setR3 setR4 setR5 setR6 setR7 setR8 setR9 setR10 setR11 setRA12
/-- Not to grow. -/
def frz : AV → AV
  | .bs _ sz es _ => .bs false sz es none
  | v => v
theorem frz_sf {sz : Nat} {v : AV} {es : List (List AV)} (hv : SF sz v es) : SF sz (frz v) es := by
  rcases hv with ⟨rfl, rfl⟩ | ⟨lim, rfl⟩
  · exact .inl ⟨rfl, rfl⟩
  · exact .inr ⟨_, rfl⟩
def logD : List AV → List AV
  | [t, c] => [t, frz c]
  | e => e
/-- A record: its term and its command. -/
def LgR (e : List AV) (x : Int × List UInt8) : Prop := ∃ w, e = [.sc (.int .i64 x.1), w] ∧ SF 1 w (u8s x.2)
theorem lgr_D : ∀ {es : List (List AV)} {l : List (Int × List UInt8)}, RR LgR es l → RR LgR (es.map logD) l
  | [], [], h => trivial
  | e :: es, x :: l, ⟨⟨w, h1, h2⟩, h3⟩ => ⟨⟨frz w, by rw [h1]; rfl, frz_sf h2⟩, lgr_D h3⟩
theorem catV_own {sz : Nat} {es : List (List AV)} : ∃ lim, catV sz es (.bs true sz [] (some 0)) = .bs true sz es lim := by
  have hc := (SG.bs (sz := sz) (es := []) (lim := some 0)).cat es
  rw [List.nil_append] at hc
  rcases hc with ⟨e, _⟩ | h
  · exfalso
    unfold catV at e
    split at e <;> first | cases e | (split at e <;> cases e)
  · exact h
variable {P : Program} (H : Has P)
include H
theorem clone25_ok {v : AV} {es : List (List AV)} (hv : SF 1 v es) (hl : es.length ≤ 2 ^ 40) (h : Heap) : AWF P ann 0 25 [v] h fun r h' => r = frz v ∧ h' = h := by
  refine AWF.fnPureA H.f0_25 rfl ?_
  have hO := OB.nil (h := h)
  refine A_seq_gen fun N hN => W_sound ?_
  simp (disch := first | omega | (simp only [List.length_cons, List.length_nil, List.length_append, u8s_len]; omega)) only [go_sem, ↓reduceIte, true_and, Nat.reduceLeDiff, Nat.reduceEqDiff, Nat.reduceAdd, Nat.reduceBEq, Int.reduceEq, H.cv_5_3]
  refine hN _ ?_; clear hN N
  refine A_seq_gen fun N hN => W_sound ?_
  refine W_forget (fun t => t 0 = v ∧ True) (by simp [upd_at, *] <;> (first | rfl | exact ⟨rfl, rfl⟩ | exact ⟨rfl, rfl, rfl⟩ | exact ⟨rfl, rfl, rfl, rfl⟩ | exact ⟨rfl, rfl, rfl, rfl, rfl⟩)) ?_; rintro t ⟨t0, -⟩
  rcases id hv with ⟨rfl, rfl⟩ | ⟨lim, rfl⟩
  · simp (disch := first | omega | (simp only [List.length_cons, List.length_nil, List.length_append, u8s_len]; omega)) only [go_sem, ↓reduceIte, true_and, Nat.reduceLeDiff, Nat.reduceEqDiff, Nat.reduceAdd, Nat.reduceBEq, Int.reduceEq, H.cv_5_3, t0, isnil_nil, Bool.not_false]
    first | exact rfl | exact ⟨rfl, hO.keep⟩
  · have happ := fun (t : Nat → AV) (h : Heap) => (SG.bs (sz := 1) (es := []) (lim := some 0)).app (t := t) (h := h) (ys := es) (bytes := 8) (by simp; omega)
    have hc := catV_own (sz := 1) (es := es)
    generalize catV 1 es (.bs true 1 [] (some 0)) = w at happ hc
    simp (disch := first | omega | (simp only [List.length_cons, List.length_nil, List.length_append, u8s_len]; omega)) only [go_sem, ↓reduceIte, true_and, Nat.reduceLeDiff, Nat.reduceEqDiff, Nat.reduceAdd, Nat.reduceBEq, Int.reduceEq, H.cv_5_3, t0, isnil_bs]
    refine hN _ ?_; clear hN N
    refine A_seq_gen fun N hN => W_sound ?_
    simp (disch := first | omega | (simp only [List.length_cons, List.length_nil, List.length_append, u8s_len]; omega)) only [go_sem, ↓reduceIte, true_and, Nat.reduceLeDiff, Nat.reduceEqDiff, Nat.reduceAdd, Nat.reduceBEq, Int.reduceEq, H.cv_5_3, t0, hv.sl.elems, hv.same, hv.disc, happ]
    refine hN _ ?_; clear hN N
    obtain ⟨lim2, rfl⟩ := hc
    refine .ghost (.lim (i := 2) (own := true) (sz := 1) (es := es) (lim := lim2) (by simp [upd_at])) (W_sound ?_)
    simp (disch := first | omega | (simp only [List.length_cons, List.length_nil, List.length_append, u8s_len]; omega)) only [go_sem, ↓reduceIte, true_and, Nat.reduceLeDiff, Nat.reduceEqDiff, Nat.reduceAdd, Nat.reduceBEq, Int.reduceEq, H.cv_5_3]
    first | exact rfl | exact ⟨rfl, hO.keep⟩
theorem clone43_ok {v : AV} {es : List (List AV)} (hv : SF 1 v es) (hl : es.length ≤ 2 ^ 40) (h : Heap) : AWF P ann 0 43 [v] h fun r h' => r = frz v ∧ h' = h := by
  refine AWF.fnPureA H.f0_43 rfl ?_
  have hO := OB.nil (h := h)
  refine A_seq_gen fun N hN => W_sound ?_
  simp (disch := first | omega | (simp only [List.length_cons, List.length_nil, List.length_append, u8s_len]; omega)) only [go_sem, ↓reduceIte, true_and, Nat.reduceLeDiff, Nat.reduceEqDiff, Nat.reduceAdd, Nat.reduceBEq, Int.reduceEq, H.cv_5_3]
  refine hN _ ?_; clear hN N
  refine A_seq_gen fun N hN => W_sound ?_
  refine W_forget (fun t => t 0 = v ∧ True) (by simp [upd_at, *] <;> (first | rfl | exact ⟨rfl, rfl⟩ | exact ⟨rfl, rfl, rfl⟩ | exact ⟨rfl, rfl, rfl, rfl⟩ | exact ⟨rfl, rfl, rfl, rfl, rfl⟩)) ?_; rintro t ⟨t0, -⟩
  rcases id hv with ⟨rfl, rfl⟩ | ⟨lim, rfl⟩
  · simp (disch := first | omega | (simp only [List.length_cons, List.length_nil, List.length_append, u8s_len]; omega)) only [go_sem, ↓reduceIte, true_and, Nat.reduceLeDiff, Nat.reduceEqDiff, Nat.reduceAdd, Nat.reduceBEq, Int.reduceEq, H.cv_5_3, t0, isnil_nil, Bool.not_false]
    first | exact rfl | exact ⟨rfl, hO.keep⟩
  · have happ := fun (t : Nat → AV) (h : Heap) => (SG.bs (sz := 1) (es := []) (lim := some 0)).app (t := t) (h := h) (ys := es) (bytes := 1) (by simp; omega)
    have hc := catV_own (sz := 1) (es := es)
    generalize catV 1 es (.bs true 1 [] (some 0)) = w at happ hc
    simp (disch := first | omega | (simp only [List.length_cons, List.length_nil, List.length_append, u8s_len]; omega)) only [go_sem, ↓reduceIte, true_and, Nat.reduceLeDiff, Nat.reduceEqDiff, Nat.reduceAdd, Nat.reduceBEq, Int.reduceEq, H.cv_5_3, t0, isnil_bs]
    refine hN _ ?_; clear hN N
    refine A_seq_gen fun N hN => W_sound ?_
    simp (disch := first | omega | (simp only [List.length_cons, List.length_nil, List.length_append, u8s_len]; omega)) only [go_sem, ↓reduceIte, true_and, Nat.reduceLeDiff, Nat.reduceEqDiff, Nat.reduceAdd, Nat.reduceBEq, Int.reduceEq, H.cv_5_3, t0, hv.sl.elems, hv.same, hv.disc, happ]
    refine hN _ ?_; clear hN N
    obtain ⟨lim2, rfl⟩ := hc
    refine .ghost (.lim (i := 2) (own := true) (sz := 1) (es := es) (lim := lim2) (by simp [upd_at])) (W_sound ?_)
    simp (disch := first | omega | (simp only [List.length_cons, List.length_nil, List.length_append, u8s_len]; omega)) only [go_sem, ↓reduceIte, true_and, Nat.reduceLeDiff, Nat.reduceEqDiff, Nat.reduceAdd, Nat.reduceBEq, Int.reduceEq, H.cv_5_3]
    first | exact rfl | exact ⟨rfl, hO.keep⟩
end Go.Proofs.Ytkmakibigmlfeaa
end

section
set_option linter.unusedVariables false
set_option linter.unusedSimpArgs false
namespace Go.Proofs.Ytkmakibigmlfeaa
open Go.Am
theorem rows_at {A z : List AV} {e : List AV} {B : List (List AV)} {n sz : Nat} (hA : A.length = n) (he : e.length = sz) : ((A ++ (e :: B).flatten ++ z).drop n).take sz = e := by
  subst hA; subst he
  rw [List.append_assoc, List.drop_left, List.flatten_cons, List.append_assoc, List.take_left]
theorem set_one {l : List AV} {n : Nat} {x : AV} (h : n < l.length) : setRange l n [x] = l.set n x := by
  unfold setRange
  rw [List.set_eq_take_append_cons_drop, if_pos h]
  simp
theorem rows_set {A z : List AV} {e e' : List AV} {B : List (List AV)} {n k : Nat} {x : AV} (hA : A.length = n) (hk : k < e.length) (he : e.set k x = e') : setRange (A ++ (e :: B).flatten ++ z) (n + k) [x] = A ++ e' ++ B.flatten ++ z := by
  subst hA; subst he
  rw [set_one (by simp; omega), List.append_assoc, List.flatten_cons, List.append_assoc, List.set_append_right _ _ (by omega), Nat.add_sub_cancel_left, List.set_append_left _ _ hk]
  simp
/-- A clone, as an object. -/
def CloR (sz : Nat) (h h' : Heap) (v : AV) (es : List (List AV)) (r : AV) : Prop :=
  (v = .sc (.slice none 0 0) ∧ r = .sc (.slice none 0 0) ∧ es = [] ∧ h' = h) ∨ ((∃ lim, v = .bs false sz [] lim) ∧ r = .bs true sz [] (some 0) ∧ es = [] ∧ h' = h) ∨
    ∃ lim, v = .bs false sz es lim ∧ es ≠ [] ∧ ∃ o cap z, h o = none ∧ r = .rs o 0 sz es.length (some cap) ∧ es.length ≤ cap ∧ z.length = (cap - es.length) * sz ∧ h' = upd h o (some (.arr (es.flatten ++ z)))
theorem appO_new {own : Bool} {sz bytes : Nat} {z : List AV} {t : Nat → AV} {h : Heap} {ys : List (List AV)} (h0 : 0 < ys.length) (hb : ys.length * bytes ≤ 2 ^ 47) :
    aexAppO sz bytes z t h ys (.bs own sz [] (some 0)) = some (.newc ys.length (fun o c => .rs o 0 sz ys.length (some c)) (fun c => .arr (ys.flatten.map AV.disc ++ (List.replicate (c - ys.length) z).flatten)) t) := by
  have h1 : ¬ ys.length = 0 := by omega
  have h2 : ¬ (0 + ys.length) * bytes > 2 ^ 47 := by rw [Nat.zero_add]; omega
  simp [aexAppO, h1, h0, grownO]
  omega
theorem appO_none {own : Bool} {sz bytes : Nat} {z : List AV} {t : Nat → AV} {h : Heap} : aexAppO sz bytes z t h [] (.bs own sz [] (some 0)) = some (.val (.bs own sz [] (some 0)) t h) := by
  simp [aexAppO]
/-- Records of their own memory, as an object. -/
def RcR (h h' : Heap) (v : AV) (es : List (List AV)) (r : AV) : Prop :=
  (v = .sc (.slice none 0 0) ∧ r = .sc (.slice none 0 0) ∧ es = [] ∧ h' = h) ∨ ((∃ lim, v = .bs false 2 [] lim) ∧ r = .bs true 2 [] (some 0) ∧ es = [] ∧ h' = h) ∨
    ∃ lim, v = .bs false 2 es lim ∧ es ≠ [] ∧ ∃ o cap z, h o = none ∧ r = .rs o 0 2 es.length (some cap) ∧ es.length ≤ cap ∧ z.length = (cap - es.length) * 2 ∧ (∀ x, h x ≠ none → h' x = h x) ∧ h' o = some (.arr ((es.map logD).flatten ++ z))
theorem lgr_ge {es : List (List AV)} {l : List (Int × List UInt8)} (hL : RR LgR es l) : GE 2 es := fun e he => by
  obtain ⟨i, hi, rfl⟩ := List.getElem_of_mem he
  obtain ⟨e', h1, w, h2, hw⟩ := hL.lt (i := i) (by rw [← hL.len]; exact hi)
  rw [List.getElem?_eq_getElem hi] at h1
  cases h1
  rw [h2]
  exact ⟨rfl, by simp only [List.map_cons, List.map_nil, disc_sc, hw.disc]⟩
variable {P : Program} (H : Has P)
include H
theorem clone45_ok {v : AV} {es : List (List AV)} (hv : SF 2 v es) (hg : GE 2 es) (hl : es.length ≤ 2 ^ 40) (h : Heap) : AWF P ann 1 45 [v] h fun r h' => CloR 2 h h' v es r := by
  refine AWF.fnc H.f1_45 rfl ?_
  (refine W_seq_gen fun N hN => ?_); simp (disch := first | omega | (simp only [List.length_cons, List.length_nil, List.length_append, u8s_len]; omega)) only [go_sem, ↓reduceIte, true_and, Nat.reduceLeDiff, Nat.reduceEqDiff, Nat.reduceAdd, Nat.reduceBEq, Int.reduceEq, H.cv_5_3]
  refine hN _ ?_; clear hN N
  refine W_forget (fun t => t 0 = v ∧ True) (by simp [upd_at, *] <;> (first | rfl | exact ⟨rfl, rfl⟩ | exact ⟨rfl, rfl, rfl⟩ | exact ⟨rfl, rfl, rfl, rfl⟩ | exact ⟨rfl, rfl, rfl, rfl, rfl⟩)) ?_; rintro t ⟨t0, -⟩
  rcases id hv with ⟨rfl, rfl⟩ | ⟨lim, rfl⟩
  · simp (disch := first | omega | (simp only [List.length_cons, List.length_nil, List.length_append, u8s_len]; omega)) only [go_sem, ↓reduceIte, true_and, Nat.reduceLeDiff, Nat.reduceEqDiff, Nat.reduceAdd, Nat.reduceBEq, Int.reduceEq, H.cv_5_3, t0, isnil_nil, Bool.not_false]
    exact .inl ⟨rfl, rfl, rfl, rfl⟩
  · by_cases c : es.length = 0
    · obtain rfl : es = [] := List.eq_nil_of_length_eq_zero c
      simp (disch := first | omega | (simp only [List.length_cons, List.length_nil, List.length_append, u8s_len]; omega)) only [go_sem, ↓reduceIte, true_and, Nat.reduceLeDiff, Nat.reduceEqDiff, Nat.reduceAdd, Nat.reduceBEq, Int.reduceEq, H.cv_5_3, t0, isnil_bs, hv.sl.elems, appO_none]
      exact .inr (.inl ⟨⟨lim, rfl⟩, rfl, rfl, rfl⟩)
    · have happ := fun (t : Nat → AV) (h : Heap) (z : List AV) => appO_new (own := true) (sz := 2) (bytes := 32) (z := z) (t := t) (h := h) (ys := es) (by omega) (by omega)
      rw [hg.disc] at happ
      simp (disch := first | omega | (simp only [List.length_cons, List.length_nil, List.length_append, u8s_len]; omega)) only [go_sem, ↓reduceIte, true_and, Nat.reduceLeDiff, Nat.reduceEqDiff, Nat.reduceAdd, Nat.reduceBEq, Int.reduceEq, H.cv_5_3, t0, isnil_bs, hv.sl.elems, happ]
      intro o cap ho hle
      exact .inr (.inr ⟨lim, rfl, fun e => c (by rw [e]; rfl), o, cap, _, ho, rfl, hle, by rw [rep_flat]; rfl, rfl⟩)
theorem records_ok {v : AV} {es : List (List AV)} {l : List (Int × List UInt8)} (hv : SF 2 v es) (hL : RR LgR es l) (hl : l.length ≤ 2 ^ 20) (hs : ∀ x ∈ l, x.2.length ≤ 2 ^ 30) (h : Heap) : AWF P ann 0 26 [v] h fun r h' => RcR h h' v es r := by
  refine AWF.fnc H.f0_26 rfl ?_
  have e1 := hL.len
  have hg := lgr_ge hL
  (refine W_seq_gen fun N hN => ?_); simp (disch := first | omega | (simp only [List.length_cons, List.length_nil, List.length_append, u8s_len]; omega)) only [go_sem, ↓reduceIte, true_and, Nat.reduceLeDiff, Nat.reduceEqDiff, Nat.reduceAdd, Nat.reduceBEq, Int.reduceEq, H.cv_5_3]
  refine hN _ ?_; clear hN N
  (refine W_seq_gen fun N hN => ?_)
  refine W_forget (fun t => t 0 = v ∧ True) (by simp [upd_at, *] <;> (first | rfl | exact ⟨rfl, rfl⟩ | exact ⟨rfl, rfl, rfl⟩ | exact ⟨rfl, rfl, rfl, rfl⟩ | exact ⟨rfl, rfl, rfl, rfl, rfl⟩)) ?_; rintro t ⟨t0, -⟩
  simp (disch := first | omega | (simp only [List.length_cons, List.length_nil, List.length_append, u8s_len]; omega)) only [go_sem, ↓reduceIte, true_and, Nat.reduceLeDiff, Nat.reduceEqDiff, Nat.reduceAdd, Nat.reduceBEq, Int.reduceEq, H.cv_5_3, t0, hv.same, hv.disc]
  refine (clone45_ok H hv hg (by omega) _).mono ?_
  have d0 : decide ((0 : Nat) < 0) = false := rfl
  rintro r h1 (⟨rfl, rfl, rfl, rfl⟩ | ⟨⟨lim, rfl⟩, rfl, rfl, rfl⟩ | ⟨lim, rfl, hne, o, cap, z, ho, rfl, hle, hz, rfl⟩)
  · rw [contK_some]; simp (disch := first | omega | (simp only [List.length_cons, List.length_nil, List.length_append, u8s_len]; omega)) only [go_sem, ↓reduceIte, true_and, Nat.reduceLeDiff, Nat.reduceEqDiff, Nat.reduceAdd, Nat.reduceBEq, Int.reduceEq, H.cv_5_3]
    refine hN _ ?_; clear hN N
    (refine W_seq_gen fun M hM => ?_)
    refine W_forget (fun t => t 0 = .sc (.slice none 0 0) ∧ True) (by simp [upd_at, *] <;> (first | rfl | exact ⟨rfl, rfl⟩ | exact ⟨rfl, rfl, rfl⟩ | exact ⟨rfl, rfl, rfl, rfl⟩ | exact ⟨rfl, rfl, rfl, rfl, rfl⟩)) ?_; rintro t ⟨t0, -⟩
    have nl : ∀ (t : Nat → AV) (h : Heap), aexLen 0 t h (.sc (.slice none 0 0)) = some (.val (.sc (.int .i64 ((0 : Nat) : Int))) t h) := fun t h => rfl
    simp (disch := first | omega | (simp only [List.length_cons, List.length_nil, List.length_append, u8s_len]; omega)) only [go_sem, ↓reduceIte, true_and, Nat.reduceLeDiff, Nat.reduceEqDiff, Nat.reduceAdd, Nat.reduceBEq, Int.reduceEq, H.cv_5_3, t0, nl]
    refine AW_loopN (fun m t h' => h' = h1 ∧ t 0 = .sc (.slice none 0 0) ∧ t 8 = .sc (.int .i64 ((0 : Nat) : Int)) ∧ t 9 = .sc (.int .i64 ((0 : Nat) : Int))) (n := 0) ⟨rfl, by simp [upd_at, t0], by simp [upd_at], by simp [upd_at]⟩ ?_
    clear t0 t
    rintro m t h' ⟨rfl, t0, t8, t9⟩
    (refine W_seq_gen fun N hN => ?_); simp (disch := first | omega | (simp only [List.length_cons, List.length_nil, List.length_append, u8s_len]; omega)) only [go_sem, ↓reduceIte, true_and, Nat.reduceLeDiff, Nat.reduceEqDiff, Nat.reduceAdd, Nat.reduceBEq, Int.reduceEq, H.cv_5_3, t8, t9]
    refine hN _ ?_; clear hN N
    (refine W_seq_gen fun N hN => ?_); simp (disch := first | omega | (simp only [List.length_cons, List.length_nil, List.length_append, u8s_len]; omega)) only [go_sem, ↓reduceIte, true_and, Nat.reduceLeDiff, Nat.reduceEqDiff, Nat.reduceAdd, Nat.reduceBEq, Int.reduceEq, H.cv_5_3, d0]
    refine hM _ ?_; clear hN N hM M
    simp (disch := first | omega | (simp only [List.length_cons, List.length_nil, List.length_append, u8s_len]; omega)) only [go_sem, ↓reduceIte, true_and, Nat.reduceLeDiff, Nat.reduceEqDiff, Nat.reduceAdd, Nat.reduceBEq, Int.reduceEq, H.cv_5_3, t0]
    exact .inl ⟨rfl, rfl, rfl, rfl⟩
  · rw [contK_some]; simp (disch := first | omega | (simp only [List.length_cons, List.length_nil, List.length_append, u8s_len]; omega)) only [go_sem, ↓reduceIte, true_and, Nat.reduceLeDiff, Nat.reduceEqDiff, Nat.reduceAdd, Nat.reduceBEq, Int.reduceEq, H.cv_5_3]
    refine hN _ ?_; clear hN N
    (refine W_seq_gen fun M hM => ?_)
    refine W_forget (fun t => t 0 = .bs true 2 [] (some 0) ∧ True) (by simp [upd_at, *] <;> (first | rfl | exact ⟨rfl, rfl⟩ | exact ⟨rfl, rfl, rfl⟩ | exact ⟨rfl, rfl, rfl, rfl⟩ | exact ⟨rfl, rfl, rfl, rfl, rfl⟩)) ?_; rintro t ⟨t0, -⟩
    have nl : ∀ (t : Nat → AV) (h : Heap), aexLen 0 t h (.bs false 2 [] (some 0)) = some (.val (.sc (.int .i64 ((0 : Nat) : Int))) t h) := fun t h => rfl
    simp (disch := first | omega | (simp only [List.length_cons, List.length_nil, List.length_append, u8s_len]; omega)) only [go_sem, ↓reduceIte, true_and, Nat.reduceLeDiff, Nat.reduceEqDiff, Nat.reduceAdd, Nat.reduceBEq, Int.reduceEq, H.cv_5_3, t0, nl]
    refine AW_loopN (fun m t h' => h' = h1 ∧ t 0 = .bs true 2 [] (some 0) ∧ t 8 = .sc (.int .i64 ((0 : Nat) : Int)) ∧ t 9 = .sc (.int .i64 ((0 : Nat) : Int))) (n := 0) ⟨rfl, by simp [upd_at, t0], by simp [upd_at], by simp [upd_at]⟩ ?_
    clear t0 t
    rintro m t h' ⟨rfl, t0, t8, t9⟩
    (refine W_seq_gen fun N hN => ?_); simp (disch := first | omega | (simp only [List.length_cons, List.length_nil, List.length_append, u8s_len]; omega)) only [go_sem, ↓reduceIte, true_and, Nat.reduceLeDiff, Nat.reduceEqDiff, Nat.reduceAdd, Nat.reduceBEq, Int.reduceEq, H.cv_5_3, t8, t9]
    refine hN _ ?_; clear hN N
    (refine W_seq_gen fun N hN => ?_); simp (disch := first | omega | (simp only [List.length_cons, List.length_nil, List.length_append, u8s_len]; omega)) only [go_sem, ↓reduceIte, true_and, Nat.reduceLeDiff, Nat.reduceEqDiff, Nat.reduceAdd, Nat.reduceBEq, Int.reduceEq, H.cv_5_3, d0]
    refine hM _ ?_; clear hN N hM M
    simp (disch := first | omega | (simp only [List.length_cons, List.length_nil, List.length_append, u8s_len]; omega)) only [go_sem, ↓reduceIte, true_and, Nat.reduceLeDiff, Nat.reduceEqDiff, Nat.reduceAdd, Nat.reduceBEq, Int.reduceEq, H.cv_5_3, t0]
    exact .inr (.inl ⟨⟨_, rfl⟩, rfl, rfl, rfl⟩)
  · rw [contK_some]; simp (disch := first | omega | (simp only [List.length_cons, List.length_nil, List.length_append, u8s_len]; omega)) only [go_sem, ↓reduceIte, true_and, Nat.reduceLeDiff, Nat.reduceEqDiff, Nat.reduceAdd, Nat.reduceBEq, Int.reduceEq, H.cv_5_3]
    refine hN _ ?_; clear hN N
    (refine W_seq_gen fun M hM => ?_)
    refine W_forget (fun t => t 0 = .rs o 0 2 es.length (some cap) ∧ True) (by simp [upd_at, *] <;> (first | rfl | exact ⟨rfl, rfl⟩ | exact ⟨rfl, rfl, rfl⟩ | exact ⟨rfl, rfl, rfl, rfl⟩ | exact ⟨rfl, rfl, rfl, rfl, rfl⟩)) ?_; rintro t ⟨t0, -⟩
    have nl : ∀ (t : Nat → AV) (h : Heap), aexLen 0 t h (.rs o 0 2 es.length (some cap)) = some (.val (.sc (.int .i64 (es.length : Nat))) t h) := fun t h => rfl
    simp (disch := first | omega | (simp only [List.length_cons, List.length_nil, List.length_append, u8s_len]; omega)) only [go_sem, ↓reduceIte, true_and, Nat.reduceLeDiff, Nat.reduceEqDiff, Nat.reduceAdd, Nat.reduceBEq, Int.reduceEq, H.cv_5_3, t0, nl]
    have gO : ∀ e ∈ es, (logD e).length = 2 := fun e he => by
      obtain ⟨i, hi, rfl⟩ := List.getElem_of_mem he
      obtain ⟨e', h1, w, h2, hw⟩ := hL.lt (i := i) (by omega)
      rw [List.getElem?_eq_getElem hi] at h1
      cases h1
      rw [h2]
      rfl
    have flen : ∀ i, i ≤ es.length → ((es.take i).map logD).flatten.length = i * 2 := fun i hi => by
      have : ∀ q : List (List AV), (∀ e ∈ q, (logD e).length = 2) → (q.map logD).flatten.length = q.length * 2 := fun q hq => by
        induction q with
        | nil => rfl
        | cons e q ih => rw [List.map_cons, List.flatten_cons, List.length_append, ih (fun x hx => hq x (by simp [hx])), hq e (by simp), List.length_cons]; omega
      rw [this _ (fun e he => gO e (List.mem_of_mem_take he)), List.length_take, Nat.min_eq_left hi]
    refine AW_loopN (fun m t h' => ∃ i, m = es.length - i ∧ i ≤ es.length ∧ t 0 = .rs o 0 2 es.length (some cap) ∧ t 7 = .rs o 0 2 es.length (some cap) ∧ t 8 = .sc (.int .i64 (es.length : Nat)) ∧ t 9 = .sc (.int .i64 (i : Nat)) ∧
        (∀ x, h x ≠ none → h' x = h x) ∧ h' o = some (.arr (((es.take i).map logD).flatten ++ (es.drop i).flatten ++ z))) (n := es.length)
      ⟨0, rfl, Nat.zero_le _, by simp [upd_at, t0], by simp [upd_at, t0], by simp [upd_at], by simp [upd_at], fun x hx => by
        have : x ≠ o := fun e => hx (by rw [e]; exact ho)
        simp [upd, this], by simp [upd]⟩ ?_
    clear t0 t
    rintro m t h' ⟨i, rfl, hi, t0, t7, t8, t9, hk, ho'⟩
    rcases Nat.lt_or_ge i es.length with hlt | hge
    · obtain ⟨e, g0, w, he, hw⟩ := hL.lt (i := i) (by omega)
      have hge : es[i] = e := by rw [List.getElem?_eq_getElem hlt] at g0; exact Option.some.inj g0
      have hdr : es.drop i = e :: es.drop (i + 1) := by rw [List.drop_eq_getElem_cons hlt, hge]
      have htk : es.take (i + 1) = es.take i ++ [e] := by rw [List.take_add_one, g0]; rfl
      have fl := flen i (by omega)
      rw [hdr] at ho'
      have iad : ∀ t (h : Heap), aexIad 2 ((i : Nat) : Int) t h (.rs o 0 2 es.length (some cap)) = some (.val (.op o (i * 2)) t h) := fun t h => by
        have : (2 = 2 ∧ (0 : Int) ≤ (i : Int) ∧ (i : Int) < es.length) := ⟨rfl, by omega, by omega⟩
        simp only [aexIad, this, and_self, if_true, Int.toNat_natCast, Nat.zero_add]
      have el : e.length = 2 := by rw [he]; rfl
      have hat := rows_at (z := z) (B := es.drop (i + 1)) fl el
      have hset := rows_set (z := z) (B := es.drop (i + 1)) (k := 1) (x := frz w) (e' := logD e) fl (by rw [el]; decide) (by rw [he]; rfl)
      have hlen : i * 2 + 2 ≤ (((es.take i).map logD).flatten ++ (e :: es.drop (i + 1)).flatten ++ z).length := by
        rw [List.length_append, List.length_append, fl, List.flatten_cons, List.length_append, el]; omega
      have hlen1 : i * 2 + 1 + 1 ≤ (((es.take i).map logD).flatten ++ (e :: es.drop (i + 1)).flatten ++ z).length := by omega
      generalize ((es.take i).map logD).flatten ++ (e :: es.drop (i + 1)).flatten ++ z = cs at ho' hat hset hlen hlen1
      rw [he] at hat
      have hcl := (frz_sf hw).sl
      have cc : (frz w).cellsD = [frz w] := by rcases hcl with ⟨q, _⟩ | ⟨_, _, q⟩ <;> rw [q] <;> rfl
      have ct : (frz w).isTu = false := by rcases hcl with ⟨q, _⟩ | ⟨_, _, q⟩ <;> rw [q] <;> rfl
      have hbw := hs _ (List.getElem_mem (show i < l.length by omega))
      (refine W_seq_gen fun N hN => ?_); simp (disch := first | omega | (simp only [List.length_cons, List.length_nil, List.length_append, u8s_len]; omega)) only [go_sem, ↓reduceIte, true_and, Nat.reduceLeDiff, Nat.reduceEqDiff, Nat.reduceAdd, Nat.reduceBEq, Int.reduceEq, H.cv_5_3, t8, t9, hlt]
      refine hN _ ?_; clear hN N
      (refine W_seq_gen fun N hN => ?_); simp (disch := first | omega | (simp only [List.length_cons, List.length_nil, List.length_append, u8s_len]; omega)) only [go_sem, ↓reduceIte, true_and, Nat.reduceLeDiff, Nat.reduceEqDiff, Nat.reduceAdd, Nat.reduceBEq, Int.reduceEq, H.cv_5_3]
      refine hN _ ?_; clear hN N
      (refine W_seq_gen fun N hN => ?_)
      rw [W_block]
      (refine W_seq_gen fun N hN => ?_); simp (disch := first | omega | (simp only [List.length_cons, List.length_nil, List.length_append, u8s_len]; omega)) only [go_sem, ↓reduceIte, true_and, Nat.reduceLeDiff, Nat.reduceEqDiff, Nat.reduceAdd, Nat.reduceBEq, Int.reduceEq, H.cv_5_3, t7, t9, iad, ho', hlen, hat, hw.disc, hw.same]
      intro o4 h4
      have hO := OB.nil (h := h')
      refine hN _ ?_; clear hN N; refine W_ob (hO.new h4) fun hc hO => ?_
      refine W_forget (fun t => t 0 = .rs o 0 2 es.length (some cap) ∧ t 3 = .sc (.int .i64 (i : Nat)) ∧ t 4 = .op o4 0 ∧ t 7 = .rs o 0 2 es.length (some cap) ∧ t 8 = .sc (.int .i64 (es.length : Nat)) ∧ t 9 = .sc (.int .i64 (i : Nat)) ∧ True) (by simp [upd_at, *] <;> (first | rfl | exact ⟨rfl, rfl⟩ | exact ⟨rfl, rfl, rfl⟩ | exact ⟨rfl, rfl, rfl, rfl⟩ | exact ⟨rfl, rfl, rfl, rfl, rfl⟩)) ?_; rintro t ⟨t0, t3, t4, t7, t8, t9, -⟩
      simp (disch := first | omega | (simp only [List.length_cons, List.length_nil, List.length_append, u8s_len]; omega)) only [go_sem, ↓reduceIte, true_and, Nat.reduceLeDiff, Nat.reduceEqDiff, Nat.reduceAdd, Nat.reduceBEq, Int.reduceEq, H.cv_5_3, t4, hO.get0, hw.disc, hw.same]
      refine (clone43_ok H hw (by rw [u8s_len]; omega) _).mono ?_
      rintro _ hc ⟨rfl, rfl⟩
      have hoc := hO.live ho'
      rw [contK_some]; simp (disch := first | omega | (simp only [List.length_cons, List.length_nil, List.length_append, u8s_len]; omega)) only [go_sem, ↓reduceIte, true_and, Nat.reduceLeDiff, Nat.reduceEqDiff, Nat.reduceAdd, Nat.reduceBEq, Int.reduceEq, H.cv_5_3, t0, t3, iad, hoc, hlen1, cc, ct, hset]
      refine hN _ ?_; clear hN N
      simp (disch := first | omega | (simp only [List.length_cons, List.length_nil, List.length_append, u8s_len]; omega)) only [go_sem, ↓reduceIte, true_and, Nat.reduceLeDiff, Nat.reduceEqDiff, Nat.reduceAdd, Nat.reduceBEq, Int.reduceEq, H.cv_5_3, t9, nat_add]
      refine ⟨es.length - (i + 1), by omega, i + 1, rfl, by omega, by simp [upd_at, t0], by simp [upd_at, t7], by simp [upd_at, t8], by simp [upd_at], fun x hx => ?_, ?_⟩
      · have : x ≠ o := fun e => hx (by rw [e]; exact ho)
        have h2 := hO.keep x (by rw [hk x hx]; exact hx)
        simp only [if_neg this]
        rw [h2, hk x hx]
      · rw [htk, List.map_append, List.flatten_append]
        simp
    · obtain rfl : i = es.length := by omega
      (refine W_seq_gen fun N hN => ?_); simp (disch := first | omega | (simp only [List.length_cons, List.length_nil, List.length_append, u8s_len]; omega)) only [go_sem, ↓reduceIte, true_and, Nat.reduceLeDiff, Nat.reduceEqDiff, Nat.reduceAdd, Nat.reduceBEq, Int.reduceEq, H.cv_5_3, t8, t9, Nat.lt_irrefl]
      refine hN _ ?_; clear hN N
      (refine W_seq_gen fun N hN => ?_); simp (disch := first | omega | (simp only [List.length_cons, List.length_nil, List.length_append, u8s_len]; omega)) only [go_sem, ↓reduceIte, true_and, Nat.reduceLeDiff, Nat.reduceEqDiff, Nat.reduceAdd, Nat.reduceBEq, Int.reduceEq, H.cv_5_3]
      refine hM _ ?_; clear hN N hM M
      rw [List.take_length, List.drop_length] at ho'
      simp (disch := first | omega | (simp only [List.length_cons, List.length_nil, List.length_append, u8s_len]; omega)) only [go_sem, ↓reduceIte, true_and, Nat.reduceLeDiff, Nat.reduceEqDiff, Nat.reduceAdd, Nat.reduceBEq, Int.reduceEq, H.cv_5_3, t0]
      exact .inr (.inr ⟨_, rfl, hne, o, cap, z, ho, rfl, hle, hz, hk, by rw [ho']; simp⟩)
end Go.Proofs.Ytkmakibigmlfeaa
end

section
set_option linter.unusedVariables false
set_option linter.unusedSimpArgs false
namespace Go.Proofs.Ytkmakibigmlfeaa
open Go.Am
theorem upd2 {α : Type} {f : Nat → α} {a : Nat} {x y : α} : upd (upd f a x) a y = upd f a y := by
  funext k
  simp only [upd]
  split <;> rfl
theorem upd_self {α : Type} {f : Nat → α} {a : Nat} {x : α} (h : f a = x) : upd f a x = f := by
  funext k
  simp only [upd]
  split
  · rename_i e; rw [e, h]
  · rfl
theorem setRA1312 {a0 a1 a2 a3 a4 a5 a6 a7 a8 a9 a10 a11 a12 b0 b1 b2 b3 b4 b5 b6 b7 b8 b9 b10 b11 : AV} : setRange [a0, a1, a2, a3, a4, a5, a6, a7, a8, a9, a10, a11, a12] 0 [b0, b1, b2, b3, b4, b5, b6, b7, b8, b9, b10, b11] = [b0, b1, b2, b3, b4, b5, b6, b7, b8, b9, b10, b11, a12] := rfl
/-- A row of records of a step: nil, or an object of its own. -/
def LGo (h0 h : Heap) (o : Nat) (lg : AV) (L : List (List AV)) : Prop :=
  (lg = .sc (.slice none 0 0) ∧ L = []) ∨ ∃ q cap z, h0 q = none ∧ q ≠ o ∧ lg = .rs q 0 2 L.length (some cap) ∧ L.length ≤ cap ∧ z.length = (cap - L.length) * 2 ∧ h q = some (.arr (L.flatten ++ z))
def BegC (h : Heap) (o : Nat) (L : List (List AV)) (r : AV) (h2 : Heap) : Prop := (∀ x, h x ≠ none → h2 x = h x) ∧ LGo h h2 o r L ∧ (L = [] → r = .sc (.slice none 0 0))
theorem LGo.same {h0 h : Heap} {o : Nat} {lg : AV} {L : List (List AV)} (H : LGo h0 h o lg L) : lg.dis = lg ∧ lg.disc = lg ∧ lg.cellsD = [lg] ∧ lg.isTu = false ∧ lg.isOwn = false := by
  rcases H with ⟨rfl, _⟩ | ⟨_, _, _, _, _, rfl, _⟩ <;> exact ⟨rfl, rfl, rfl, rfl, rfl⟩
theorem BegC.cells {h h2 : Heap} {o : Nat} {r : AV} {L : List (List AV)} (H : BegC h o L r h2) : r.cellsD = [r] := H.2.1.same.2.2.1
theorem BegC.tu {h h2 : Heap} {o : Nat} {r : AV} {L : List (List AV)} (H : BegC h o L r h2) : r.isTu = false := H.2.1.same.2.2.2.1
theorem RcR.keep {h h' : Heap} {v r : AV} {es : List (List AV)} (H : RcR h h' v es r) : ∀ x, h x ≠ none → h' x = h x := by
  rcases H with ⟨_, _, _, rfl⟩ | ⟨_, _, _, rfl⟩ | ⟨_, _, _, _, _, _, _, _, _, _, hk, _⟩
  · exact fun _ _ => rfl
  · exact fun _ _ => rfl
  · exact hk
theorem beg_c {h h' : Heap} {o1 : Nat} {X : Option AObj} {v r : AV} {es : List (List AV)} (H : RcR (upd h o1 X) h' v es r) (ho : h o1 = none) (hne : v = .sc (.slice none 0 0) ∨ es ≠ []) (hX : X ≠ none := by simp) : BegC h o1 (es.map logD) r h' := by
  refine ⟨fun x hx => ?_, ?_⟩
  · have hxo : x ≠ o1 := fun e => hx (by rw [e]; exact ho)
    have := H.keep x (by rw [upd_ne _ _ hxo]; exact hx)
    rw [this, upd_ne _ _ hxo]
  · rcases H with ⟨_, rfl, rfl, _⟩ | ⟨⟨_, rfl⟩, _, rfl, _⟩ | ⟨lim, rfl, h1, q, cap, z, h2, rfl, h3, h4, _, h5⟩
    · exact ⟨.inl ⟨rfl, rfl⟩, fun _ => rfl⟩
    · rcases hne with h | h
      · cases h
      · exact (h rfl).elim
    · have hqo : q ≠ o1 := fun e => by rw [e, upd_same] at h2; exact hX h2
      rw [upd_ne _ _ hqo] at h2
      exact ⟨.inr ⟨q, cap, z, h2, hqo, by rw [List.length_map], by rw [List.length_map]; exact h3, by rw [List.length_map]; exact h4, h5⟩, fun e => absurd (List.map_eq_nil_iff.1 e) h1⟩
/-- A step: its object, and its row of records, behind the memory h0. -/
def ST (h0 h : Heap) (o : Nat) (lg : AV) (L : List (List AV)) (cells : List AV) : Prop := h0 o = none ∧ h o = some (.arr cells) ∧ (∀ x, h0 x ≠ none → h x = h0 x) ∧ LGo h0 h o lg L
variable {P : Program} (H : Has P)
include H
theorem begin_ok {pv lv yv nv mv : AV} {id term vote com role lead clock : Int} {pe es ye ne me : List (List AV)} {l : List (Int × List UInt8)} (hpv : SF 1 pv pe) (hlv : SF 2 lv es) (hyv : SF 1 yv ye) (hnv : SF 1 nv ne) (hmv : SF 1 mv me)
    (hL : RR LgR es l) (hl : l.length ≤ 2 ^ 20) (hs0 : ∀ x ∈ l, x.2.length ≤ 2 ^ 30) (hpl : pe.length ≤ 2 ^ 30) (hyl : ye.length ≤ 2 ^ 30) (hnl : ne.length ≤ 2 ^ 30) (hml : me.length ≤ 2 ^ 30) (hne : lv = .sc (.slice none 0 0) ∨ es ≠ []) (h : Heap) :
    AWF P ann 0 18 [.ag [.sc (.int .i64 id), pv, .sc (.int .i64 term), .sc (.int .i64 vote), lv, .sc (.int .i64 com), .sc (.int .i64 role), .sc (.int .i64 lead), yv, .sc (.int .i64 clock), nv, mv]] h fun r h' =>
      ∃ o lg, r = .op o 0 ∧ (es = [] → lg = .sc (.slice none 0 0)) ∧ ST h h' o lg (es.map logD) [.sc (.int .i64 id), frz pv, .sc (.int .i64 term), .sc (.int .i64 vote), lg, .sc (.int .i64 com), .sc (.int .i64 role), .sc (.int .i64 lead), frz yv, .sc (.int .i64 clock), frz nv, frz mv, .sc (.slice none 0 0)] := by
  refine AWF.fnc H.f0_18 rfl ?_
  have hfp := frz_sf hpv
  have hfy := frz_sf hyv
  have hfn := frz_sf hnv
  have hfm := frz_sf hmv
  have cel : ∀ {sz : Nat} {v : AV} {es : List (List AV)}, SF sz v es → v.cellsD = [v] ∧ v.isTu = false := fun hv => by rcases hv with ⟨rfl, _⟩ | ⟨_, rfl⟩ <;> exact ⟨rfl, rfl⟩
  obtain ⟨cpv, tpv⟩ := cel hfp
  obtain ⟨cyv, tyv⟩ := cel hfy
  obtain ⟨cnv, tnv⟩ := cel hfn
  obtain ⟨cmv, tmv⟩ := cel hfm
  (refine W_seq_gen fun N hN => ?_); simp (disch := first | omega | (simp only [List.length_cons, List.length_nil, List.length_append, u8s_len]; omega)) only [go_sem, ↓reduceIte, true_and, Nat.reduceLeDiff, Nat.reduceEqDiff, Nat.reduceAdd, Nat.reduceBEq, Int.reduceEq, H.cv_5_3, hpv.disc, hlv.disc, hyv.disc, hnv.disc, hmv.disc, hpv.same, hlv.same, hyv.same, hnv.same, hmv.same]
  intro o1 ho1
  refine hN _ ?_; clear hN N
  refine W_forget (fun t => t 1 = .op o1 0 ∧ True) (by simp [upd_at, *] <;> (first | rfl | exact ⟨rfl, rfl⟩ | exact ⟨rfl, rfl, rfl⟩ | exact ⟨rfl, rfl, rfl, rfl⟩ | exact ⟨rfl, rfl, rfl, rfl, rfl⟩)) ?_; rintro t ⟨t1, -⟩
  (refine W_seq_gen fun N hN => ?_)
  refine W_tabC (α := AV × Heap) rfl rfl (fun c l => l 5 = true → BegC h o1 (es.map logD) c.1 c.2) (fun c i => match i with | 0 => .op o1 1 | 1 => pv | 2 => frz pv | 3 => .op o1 4 | 4 => lv | 5 => c.1 | 6 => .op o1 8 | 7 => yv | 8 => frz yv | 9 => .op o1 1 | 10 => .undef | 11 => .op o1 4 | 12 => .undef | 13 => .op o1 8 | 14 => .undef | _ => .undef) (fun c l => upd (if l 5 then c.2 else h) o1 (some (.arr [.sc (.int .i64 id), if l 10 then frz pv else pv, .sc (.int .i64 term), .sc (.int .i64 vote), if l 12 then c.1 else lv, .sc (.int .i64 com), .sc (.int .i64 role), .sc (.int .i64 lead), if l 14 then frz yv else yv, .sc (.int .i64 clock), nv, mv]))) (.undef, h) (fun q => by cases q) (by simp) ⟨fun c l t' hC hcl hi hp hk hs => ?_, fun c l t' hC hcl hi hp hk hs => ?_, fun c l t' hC hcl hi hp hk hs => ?_, fun c l t' hC hcl hi hp hk hs => ?_, fun c l t' hC hcl hi hp hk hs => ?_, fun c l t' hC hcl hi hp hk hs => ?_, fun c l t' hC hcl hi hp hk hs => ?_, fun c l t' hC hcl hi hp hk hs => ?_, fun c l t' hC hcl hi hp hk hs => ?_, fun c l t' hC hcl hi hp hk hs => ?_, fun c l t' hC hcl hi hp hk hs => ?_, fun c l t' hC hcl hi hp hk hs => ?_, fun c l t' hC hcl hi hp hk hs => ?_, fun c l t' hC hcl hi hp hk hs => ?_, fun c l t' hC hcl hi hp hk hs => ?_, trivial⟩ ?_
  · have u1 : t' 1 = .op o1 0 := (hk 1 rfl).trans t1
    refine stepC_val rfl ?_ (hC)
    simp (disch := first | omega | (simp only [List.length_cons, List.length_nil, List.length_append, u8s_len]; omega)) only [go_sem, ↓reduceIte, true_and, Nat.reduceLeDiff, Nat.reduceEqDiff, Nat.reduceAdd, Nat.reduceBEq, Int.reduceEq, H.cv_5_3, u1, upd_same, upd2]
  · have u3 : t' 3 = .op o1 1 := hs 0 (by decide) _ rfl _ rfl
    have n2 : l 2 = false := clo_not hcl hi (by decide)
    have n10 : l 10 = false := clo_not hcl n2 (by decide)
    refine stepC_val rfl ?_ hC
    simp (disch := first | omega | (simp only [List.length_cons, List.length_nil, List.length_append, u8s_len]; omega)) only [go_sem, ↓reduceIte, true_and, Nat.reduceLeDiff, Nat.reduceEqDiff, Nat.reduceAdd, Nat.reduceBEq, Int.reduceEq, H.cv_5_3, u3, upd_same, upd2, n10, Bool.false_eq_true, hpv.same, hpv.disc, hpv.sl.ddisc]
  · have u4 : t' 4 = pv := hs 1 (by decide) _ rfl _ rfl
    refine stepC_pure (args := [pv]) (by simp [Opd.ev, u4]) (by rcases hpv with ⟨rfl, _⟩ | ⟨_, rfl⟩ <;> rfl) (by simpa using hpv.same) ?_ hC
    exact clone25_ok H hpv (by omega) _
  · have u1 : t' 1 = .op o1 0 := (hk 1 rfl).trans t1
    refine stepC_val rfl ?_ (hC)
    simp (disch := first | omega | (simp only [List.length_cons, List.length_nil, List.length_append, u8s_len]; omega)) only [go_sem, ↓reduceIte, true_and, Nat.reduceLeDiff, Nat.reduceEqDiff, Nat.reduceAdd, Nat.reduceBEq, Int.reduceEq, H.cv_5_3, u1, upd_same, upd2]
  · have u6 : t' 6 = .op o1 4 := hs 3 (by decide) _ rfl _ rfl
    have n5 : l 5 = false := clo_not hcl hi (by decide)
    have n12 : l 12 = false := clo_not hcl n5 (by decide)
    refine stepC_val rfl ?_ hC
    simp (disch := first | omega | (simp only [List.length_cons, List.length_nil, List.length_append, u8s_len]; omega)) only [go_sem, ↓reduceIte, true_and, Nat.reduceLeDiff, Nat.reduceEqDiff, Nat.reduceAdd, Nat.reduceBEq, Int.reduceEq, H.cv_5_3, u6, upd_same, upd2, n12, Bool.false_eq_true, hlv.same, hlv.disc, hlv.sl.ddisc]
  · have u7 : t' 7 = lv := hs 4 (by decide) _ rfl _ rfl
    have n12 : l 12 = false := clo_not hcl hi (by decide)
    refine stepC_call (args := [lv]) (by simp [Opd.ev, u7]) (by rcases hlv with ⟨rfl, _⟩ | ⟨_, rfl⟩ <;> rfl) (by simpa using hlv.same) ?_
    refine (records_ok H hlv hL (by omega) hs0 _).mono ?_
    intro r h' hr
    refine ⟨(r, h'), fun _ => ?_, ?_, rfl, fun j hj => match j, hj with | 5, q => (by rw [hi] at q; cases q) | 0, _ => rfl | 1, _ => rfl | 2, _ => rfl | 3, _ => rfl | 4, _ => rfl | 6, _ => rfl | 7, _ => rfl | 8, _ => rfl | 9, _ => rfl | 10, _ => rfl | 11, _ => rfl | 12, _ => rfl | 13, _ => rfl | 14, _ => rfl | n + 15, _ => rfl⟩
    · simp only [hi, Bool.false_eq_true, if_false] at hr
      exact beg_c hr ho1 hne
    · exact (upd_self (by rw [hr.keep _ (by rw [upd_same]; simp), upd_same]; simp [upd, n12])).symm
  · have u1 : t' 1 = .op o1 0 := (hk 1 rfl).trans t1
    refine stepC_val rfl ?_ (hC)
    simp (disch := first | omega | (simp only [List.length_cons, List.length_nil, List.length_append, u8s_len]; omega)) only [go_sem, ↓reduceIte, true_and, Nat.reduceLeDiff, Nat.reduceEqDiff, Nat.reduceAdd, Nat.reduceBEq, Int.reduceEq, H.cv_5_3, u1, upd_same, upd2]
  · have u9 : t' 9 = .op o1 8 := hs 6 (by decide) _ rfl _ rfl
    have n8 : l 8 = false := clo_not hcl hi (by decide)
    have n14 : l 14 = false := clo_not hcl n8 (by decide)
    refine stepC_val rfl ?_ hC
    simp (disch := first | omega | (simp only [List.length_cons, List.length_nil, List.length_append, u8s_len]; omega)) only [go_sem, ↓reduceIte, true_and, Nat.reduceLeDiff, Nat.reduceEqDiff, Nat.reduceAdd, Nat.reduceBEq, Int.reduceEq, H.cv_5_3, u9, upd_same, upd2, n14, Bool.false_eq_true, hyv.same, hyv.disc, hyv.sl.ddisc]
  · have u10 : t' 10 = yv := hs 7 (by decide) _ rfl _ rfl
    refine stepC_pure (args := [yv]) (by simp [Opd.ev, u10]) (by rcases hyv with ⟨rfl, _⟩ | ⟨_, rfl⟩ <;> rfl) (by simpa using hyv.same) ?_ hC
    exact clone25_ok H hyv (by omega) _
  · have u1 : t' 1 = .op o1 0 := (hk 1 rfl).trans t1
    refine stepC_val rfl ?_ (hC)
    simp (disch := first | omega | (simp only [List.length_cons, List.length_nil, List.length_append, u8s_len]; omega)) only [go_sem, ↓reduceIte, true_and, Nat.reduceLeDiff, Nat.reduceEqDiff, Nat.reduceAdd, Nat.reduceBEq, Int.reduceEq, H.cv_5_3, u1, upd_same, upd2]
  · have u5 : t' 5 = frz pv := hs 2 (by decide) _ rfl _ rfl
    have u12 : t' 12 = .op o1 1 := hs 9 (by decide) _ rfl _ rfl
    have e5 : upd t' 5 (frz pv).dis = t' := upd_self (by rw [u5]; exact hfp.same.symm)
    refine stepC_val rfl ?_ hC
    simp (disch := first | omega | (simp only [List.length_cons, List.length_nil, List.length_append, u8s_len]; omega)) only [go_sem, ↓reduceIte, true_and, Nat.reduceLeDiff, Nat.reduceEqDiff, Nat.reduceAdd, Nat.reduceBEq, Int.reduceEq, H.cv_5_3, u5, u12, upd_same, upd2, hi, Bool.false_eq_true, cpv, tpv, e5]
  · have u1 : t' 1 = .op o1 0 := (hk 1 rfl).trans t1
    refine stepC_val rfl ?_ (hC)
    simp (disch := first | omega | (simp only [List.length_cons, List.length_nil, List.length_append, u8s_len]; omega)) only [go_sem, ↓reduceIte, true_and, Nat.reduceLeDiff, Nat.reduceEqDiff, Nat.reduceAdd, Nat.reduceBEq, Int.reduceEq, H.cv_5_3, u1, upd_same, upd2]
  · have u8 : t' 8 = c.1 := hs 5 (by decide) _ rfl _ rfl
    have u13 : t' 13 = .op o1 4 := hs 11 (by decide) _ rfl _ rfl
    have hb := hC (hp 5 (by decide))
    have c1 : c.1.cellsD = [c.1] := hb.cells
    have c2 : c.1.isTu = false := hb.tu
    have e8 : upd t' 8 c.1.dis = t' := upd_self (by rw [u8]; exact hb.2.1.same.1.symm)
    refine stepC_val rfl ?_ hC
    simp (disch := first | omega | (simp only [List.length_cons, List.length_nil, List.length_append, u8s_len]; omega)) only [go_sem, ↓reduceIte, true_and, Nat.reduceLeDiff, Nat.reduceEqDiff, Nat.reduceAdd, Nat.reduceBEq, Int.reduceEq, H.cv_5_3, u8, u13, upd_same, upd2, hi, Bool.false_eq_true, c1, c2, e8]
  · have u1 : t' 1 = .op o1 0 := (hk 1 rfl).trans t1
    refine stepC_val rfl ?_ (hC)
    simp (disch := first | omega | (simp only [List.length_cons, List.length_nil, List.length_append, u8s_len]; omega)) only [go_sem, ↓reduceIte, true_and, Nat.reduceLeDiff, Nat.reduceEqDiff, Nat.reduceAdd, Nat.reduceBEq, Int.reduceEq, H.cv_5_3, u1, upd_same, upd2]
  · have u11 : t' 11 = frz yv := hs 8 (by decide) _ rfl _ rfl
    have u14 : t' 14 = .op o1 8 := hs 13 (by decide) _ rfl _ rfl
    have e11 : upd t' 11 (frz yv).dis = t' := upd_self (by rw [u11]; exact hfy.same.symm)
    refine stepC_val rfl ?_ hC
    simp (disch := first | omega | (simp only [List.length_cons, List.length_nil, List.length_append, u8s_len]; omega)) only [go_sem, ↓reduceIte, true_and, Nat.reduceLeDiff, Nat.reduceEqDiff, Nat.reduceAdd, Nat.reduceBEq, Int.reduceEq, H.cv_5_3, u11, u14, upd_same, upd2, hi, Bool.false_eq_true, cyv, tyv, e11]
  intro c l t' hC hl hk hd
  have t1' : t' 1 = .op o1 0 := (hk 1 rfl).trans t1
  have hb := hC (hl 5 (by decide))
  simp only [hl 5 (by decide), hl 10 (by decide), hl 12 (by decide), hl 14 (by decide), if_true]
  obtain ⟨lg, hq⟩ := c
  simp only at hb ⊢
  clear hC hk hd hl
  refine hN _ ?_; clear hN N
  refine W_forget (fun t => t 1 = .op o1 0 ∧ True) (by simp [upd_at, *] <;> (first | rfl | exact ⟨rfl, rfl⟩ | exact ⟨rfl, rfl, rfl⟩ | exact ⟨rfl, rfl, rfl, rfl⟩ | exact ⟨rfl, rfl, rfl, rfl, rfl⟩)) ?_; rintro t ⟨t1, -⟩
  (refine W_seq_gen fun N hN => ?_)
  simp (disch := first | omega | (simp only [List.length_cons, List.length_nil, List.length_append, u8s_len]; omega)) only [go_sem, ↓reduceIte, true_and, Nat.reduceLeDiff, Nat.reduceEqDiff, Nat.reduceAdd, Nat.reduceBEq, Int.reduceEq, H.cv_5_3, t1, upd_same, upd2, hnv.same, hnv.disc, hnv.sl.ddisc, hmv.same, hmv.disc]
  refine ⟨_, fun h' => clone25_ok H hnv (by omega) h', ?_⟩
  rw [contK_some]; simp (disch := first | omega | (simp only [List.length_cons, List.length_nil, List.length_append, u8s_len]; omega)) only [go_sem, ↓reduceIte, true_and, Nat.reduceLeDiff, Nat.reduceEqDiff, Nat.reduceAdd, Nat.reduceBEq, Int.reduceEq, H.cv_5_3, t1, hmv.same, hmv.disc]
  refine ⟨_, fun h' => clone25_ok H hmv (by omega) h', ?_⟩
  rw [contK_some]; simp (disch := first | omega | (simp only [List.length_cons, List.length_nil, List.length_append, u8s_len]; omega)) only [go_sem, ↓reduceIte, true_and, Nat.reduceLeDiff, Nat.reduceEqDiff, Nat.reduceAdd, Nat.reduceBEq, Int.reduceEq, H.cv_5_3, t1, upd_same, upd2, cnv, tnv, cmv, tmv]
  refine hN _ ?_; clear hN N
  obtain ⟨d1, d2, _, _, _⟩ := hb.2.1.same
  simp (disch := first | omega | (simp only [List.length_cons, List.length_nil, List.length_append, u8s_len]; omega)) only [go_sem, ↓reduceIte, true_and, Nat.reduceLeDiff, Nat.reduceEqDiff, Nat.reduceAdd, Nat.reduceBEq, Int.reduceEq, H.cv_5_3, t1, upd_same, upd2, hfp.same, hfp.disc, hfy.same, hfy.disc, hfn.same, hfn.disc, hfm.same, hfm.disc, d1, d2]
  intro o ho
  have hoo : o ≠ o1 := fun e => by rw [e] at ho; simp at ho
  simp only [if_neg hoo] at ho
  have hno : h o = none := by
    cases hq' : h o with
    | none => rfl
    | some X => have := hb.1 o (by rw [hq']; simp); rw [ho, hq'] at this; cases this
  simp (disch := first | omega | (simp only [List.length_cons, List.length_nil, List.length_append, u8s_len]; omega)) only [go_sem, ↓reduceIte, true_and, Nat.reduceLeDiff, Nat.reduceEqDiff, Nat.reduceAdd, Nat.reduceBEq, Int.reduceEq, H.cv_5_3, setRA1312, hfp.same, hfp.disc, hfy.same, hfy.disc, hfn.same, hfn.disc, hfm.same, hfm.disc, d1, d2]
  refine ⟨o, lg, rfl, fun e => hb.2.2 (by rw [e]; rfl), hno, by rw [upd_same], fun x hx => ?_, ?_⟩
  · have e1 : x ≠ o := fun e => hx (by rw [e]; exact hno)
    have e2 : x ≠ o1 := fun e => hx (by rw [e]; exact ho1)
    rw [upd_ne _ _ e1, upd_ne _ _ e2, hb.1 x hx]
  · rcases hb.2.1 with ⟨q1, q2⟩ | ⟨q, cap, z, q1, q2, q3, q4, q5, q6⟩
    · exact .inl ⟨q1, q2⟩
    · have e1 : q ≠ o := fun e => by rw [e, ho] at q6; cases q6
      exact .inr ⟨q, cap, z, q1, e1, q3, q4, q5, by rw [upd_ne _ _ e1, upd_ne _ _ q2]; exact q6⟩
end Go.Proofs.Ytkmakibigmlfeaa
end

section
set_option linter.unusedVariables false
set_option linter.unusedSimpArgs false
namespace Go.Proofs.Ytkmakibigmlfeaa
open Go.Am
/-- The row of records of a step, as an object. -/
def LQ (h : Heap) (q : Nat) (z : List AV) (L : List (List AV)) : Prop := h q = some (.arr (L.flatten ++ z)) ∧ GE 2 L
theorem LQ.iad {h : Heap} {q : Nat} {z : List AV} {L : List (List AV)} {lim : Option Nat} {n i : Nat} (hi : i < n) (t : Nat → AV) : aexIad 2 ((i : Nat) : Int) t h (.rs q 0 2 n lim) = some (.val (.op q (i * 2)) t h) := by
  have : (2 = 2 ∧ (0 : Int) ≤ (i : Int) ∧ (i : Int) < n) := ⟨rfl, by omega, by omega⟩
  simp only [aexIad, this, and_self, if_true, Int.toNat_natCast, Nat.zero_add]
theorem LQ.ld {h : Heap} {q : Nat} {z : List AV} {L : List (List AV)} {T : Int} {w : AV} (H : LQ h q z (L ++ [[.sc (.int .i64 T), w]])) (t : Nat → AV) : aexLd false false 1 t h (.op q (L.length * 2)) = some (.val (.sc (.int .i64 T)) t h) := by
  have hg : GE 2 L := fun e he => H.2 e (List.mem_append_left _ he)
  rw [aexLd_op, H.1]
  have hl : L.flatten.length = L.length * 2 := hg.len
  have hlen : L.length * 2 + 1 ≤ ((L ++ [[.sc (.int .i64 T), w]]).flatten ++ z).length := by simp [hl]
  have hd : ((L ++ [[.sc (.int .i64 T), w]]).flatten ++ z).drop (L.length * 2) = .sc (.int .i64 T) :: w :: z := by
    rw [List.flatten_append, List.append_assoc, ← hl, List.drop_left]
    rfl
  simp only [if_pos hlen, hd]
  rfl
theorem nat_pred {n : Nat} (h : 1 ≤ n) (h2 : n < 2 ^ 40) : IntKind.wrap .i64 (((n : Nat) : Int) - ((1 : Nat) : Int)) = ((n - 1 : Nat) : Int) := by
  have : ((n : Nat) : Int) - ((1 : Nat) : Int) = ((n - 1 : Nat) : Int) := by omega
  rw [this]
  exact wrap_i64u (by omega) (by omega)
variable {P : Program} (H : Has P)
include H
theorem follow_ok {h : Heap} {o : Nat} {id term vote com role lead clock T ld : Int} {pv lg yv nv mv out : AV} (hT : term < T)
    (ho : h o = some (.arr [.sc (.int .i64 id), pv, .sc (.int .i64 term), .sc (.int .i64 vote), lg, .sc (.int .i64 com), .sc (.int .i64 role), .sc (.int .i64 lead), yv, .sc (.int .i64 clock), nv, mv, out])) :
    AWF P ann 0 40 [.op o 0, .sc (.int .i64 T), .sc (.int .i64 ld)] h fun r h' => h' = upd h o (some (.arr [.sc (.int .i64 id), pv, .sc (.int .i64 T), .sc (.int .i64 ((0 : Nat) : Int)), lg, .sc (.int .i64 com), .sc (.int .i64 ((1 : Nat) : Int)), .sc (.int .i64 ld), .sc (.slice none 0 0), .sc (.int .i64 clock), .sc (.slice none 0 0), .sc (.slice none 0 0), out])) := by
  refine AWF.fnc H.f0_40 rfl ?_
  have d : decide (T > term) = true := by simpa using hT
  have d' : decide (term < T) = true := by simpa using hT
  (refine W_seq_gen fun N hN => ?_); simp (disch := first | omega | (simp only [List.length_cons, List.length_nil, List.length_append, u8s_len]; omega)) only [go_sem, ↓reduceIte, true_and, Nat.reduceLeDiff, Nat.reduceEqDiff, Nat.reduceAdd, Nat.reduceBEq, Int.reduceEq, H.cv_5_3, ho, upd_same, upd2]
  refine hN _ ?_; clear hN N
  refine W_forget (fun t => t 0 = .op o 0 ∧ t 1 = .sc (.int .i64 T) ∧ True) (by simp [upd_at, *] <;> (first | rfl | exact ⟨rfl, rfl⟩ | exact ⟨rfl, rfl, rfl⟩ | exact ⟨rfl, rfl, rfl, rfl⟩ | exact ⟨rfl, rfl, rfl, rfl, rfl⟩)) ?_; rintro t ⟨t0, t1, -⟩
  (refine W_seq_gen fun N hN => ?_); simp (disch := first | omega | (simp only [List.length_cons, List.length_nil, List.length_append, u8s_len]; omega)) only [go_sem, ↓reduceIte, true_and, Nat.reduceLeDiff, Nat.reduceEqDiff, Nat.reduceAdd, Nat.reduceBEq, Int.reduceEq, H.cv_5_3, t0, t1, upd_same]
  refine hN _ ?_; clear hN N
  simp (disch := first | omega | (simp only [List.length_cons, List.length_nil, List.length_append, u8s_len]; omega)) only [go_sem, ↓reduceIte, true_and, Nat.reduceLeDiff, Nat.reduceEqDiff, Nat.reduceAdd, Nat.reduceBEq, Int.reduceEq, H.cv_5_3, t0, t1, upd_same, upd2, d, d']
  exact ⟨_, rfl⟩
theorem half_ok {h : Heap} {o : Nat} {id term vote com role lead clock : Int} {pv lg yv nv mv out : AV} {pe : List (List AV)} (hpv : SF 1 pv pe) (hp : pe.length = 1)
    (ho : h o = some (.arr [.sc (.int .i64 id), pv, .sc (.int .i64 term), .sc (.int .i64 vote), lg, .sc (.int .i64 com), .sc (.int .i64 role), .sc (.int .i64 lead), yv, .sc (.int .i64 clock), nv, mv, out])) :
    AWF P ann 0 41 [.op o 0, .sc (.int .i64 ((1 : Nat) : Int))] h fun r h' => r = .sc (.bool true) ∧ h' = h := by
  refine AWF.fnc H.f0_41 rfl ?_
  (refine W_seq_gen fun N hN => ?_); simp (disch := first | omega | (simp only [List.length_cons, List.length_nil, List.length_append, u8s_len]; omega)) only [go_sem, ↓reduceIte, true_and, Nat.reduceLeDiff, Nat.reduceEqDiff, Nat.reduceAdd, Nat.reduceBEq, Int.reduceEq, H.cv_5_3]
  refine hN _ ?_; clear hN N
  have e2 : IntKind.wrap .i64 (((2 : Nat) : Int) * ((1 : Nat) : Int)) = ((2 : Nat) : Int) := rfl
  simp (disch := first | omega | (simp only [List.length_cons, List.length_nil, List.length_append, u8s_len]; omega)) only [go_sem, ↓reduceIte, true_and, Nat.reduceLeDiff, Nat.reduceEqDiff, Nat.reduceAdd, Nat.reduceBEq, Int.reduceEq, H.cv_5_3, ho, hpv.same, hpv.disc, hpv.sl.len, hp, e2]
  decide
theorem term_ok {h : Heap} {o q : Nat} {id term vote com role lead clock T : Int} {pv yv nv mv out w : AV} {z : List AV} {L : List (List AV)} {n : Nat} {lim : Option Nat} (hn : n = L.length + 1) (hl : n < 2 ^ 40) (hq : LQ h q z (L ++ [[.sc (.int .i64 T), w]]))
    (ho : h o = some (.arr [.sc (.int .i64 id), pv, .sc (.int .i64 term), .sc (.int .i64 vote), .rs q 0 2 n lim, .sc (.int .i64 com), .sc (.int .i64 role), .sc (.int .i64 lead), yv, .sc (.int .i64 clock), nv, mv, out])) :
    AWF P ann 0 39 [.op o 0, .sc (.int .i64 (n : Nat))] h fun r h' => r = .sc (.int .i64 T) ∧ h' = h := by
  refine AWF.fnc H.f0_39 rfl ?_
  have nl : ∀ (t : Nat → AV) (h : Heap), aexLen 0 t h (.rs q 0 2 n lim) = some (.val (.sc (.int .i64 (n : Nat))) t h) := fun t h => rfl
  have d1 : decide (n < 1) = false := by simp; omega
  have d2 : decide (n < n) = false := by simp
  have e1 : n - 1 = L.length := by omega
  have ia := fun t => LQ.iad (h := h) (q := q) (z := z) (L := L) (lim := lim) (n := n) (i := L.length) (by omega) t
  have hp := nat_pred (n := n) (by omega) hl
  rw [e1] at hp
  (refine W_seq_gen fun N hN => ?_); simp (disch := first | omega | (simp only [List.length_cons, List.length_nil, List.length_append, u8s_len]; omega)) only [go_sem, ↓reduceIte, true_and, Nat.reduceLeDiff, Nat.reduceEqDiff, Nat.reduceAdd, Nat.reduceBEq, Int.reduceEq, H.cv_5_3]
  refine hN _ ?_; clear hN N
  (refine W_seq_gen fun N hN => ?_)
  simp (disch := first | omega | (simp only [List.length_cons, List.length_nil, List.length_append, u8s_len]; omega)) only [go_sem, ↓reduceIte, true_and, Nat.reduceLeDiff, Nat.reduceEqDiff, Nat.reduceAdd, Nat.reduceBEq, Int.reduceEq, H.cv_5_3, ho, nl, d1, d2]
  refine hN _ ?_; clear hN N
  simp (disch := first | omega | (simp only [List.length_cons, List.length_nil, List.length_append, u8s_len]; omega)) only [go_sem, ↓reduceIte, true_and, Nat.reduceLeDiff, Nat.reduceEqDiff, Nat.reduceAdd, Nat.reduceBEq, Int.reduceEq, H.cv_5_3, ho, nl, hp, ia, Nat.add_zero, LQ.ld hq]
theorem push_ok {h : Heap} {o : Nat} {id term vote com role lead clock : Int} {pv lg yv nv mv out : AV} (hpv : SF 1 pv (ints [id]))
    (ho : h o = some (.arr [.sc (.int .i64 id), pv, .sc (.int .i64 term), .sc (.int .i64 vote), lg, .sc (.int .i64 com), .sc (.int .i64 role), .sc (.int .i64 lead), yv, .sc (.int .i64 clock), nv, mv, out])) :
    AWF P ann 0 19 [.op o 0] h fun r h' => h' = h := by
  refine AWF.fnc H.f0_19 rfl ?_
  have e1 : (ints [id]).length = 1 := rfl
  have g0 : (ints [id])[0]? = some [.sc (.int .i64 id)] := rfl
  (refine W_seq_gen fun M hM => ?_)
  simp (disch := first | omega | (simp only [List.length_cons, List.length_nil, List.length_append, u8s_len]; omega)) only [go_sem, ↓reduceIte, true_and, Nat.reduceLeDiff, Nat.reduceEqDiff, Nat.reduceAdd, Nat.reduceBEq, Int.reduceEq, H.cv_5_3, ho, hpv.same, hpv.disc, hpv.sl.len, e1]
  refine hM _ ?_; clear hM M
  refine AW_loopN (fun m t h' => h' = h ∧ ∃ i, m = 1 - i ∧ i ≤ 1 ∧ t 0 = .op o 0 ∧ t 10 = pv ∧ t 11 = .sc (.int .i64 ((1 : Nat) : Int)) ∧ t 12 = .sc (.int .i64 (i : Nat))) (n := 1)
    ⟨rfl, 0, rfl, Nat.zero_le _, rfl, rfl, rfl, rfl⟩ ?_
  rintro m t h' ⟨rfl, i, rfl, hi, t0, t10, t11, t12⟩
  rcases Nat.lt_or_ge i 1 with hlt | hge
  · obtain rfl : i = 0 := by omega
    have d0 : decide ((0 : Nat) < 1) = true := rfl
    have d3 : (id == id) = true := by simp
    (refine W_seq_gen fun N hN => ?_); simp (disch := first | omega | (simp only [List.length_cons, List.length_nil, List.length_append, u8s_len]; omega)) only [go_sem, ↓reduceIte, true_and, Nat.reduceLeDiff, Nat.reduceEqDiff, Nat.reduceAdd, Nat.reduceBEq, Int.reduceEq, H.cv_5_3, t11, t12]
    refine hN _ ?_; clear hN N
    (refine W_seq_gen fun N hN => ?_); simp (disch := first | omega | (simp only [List.length_cons, List.length_nil, List.length_append, u8s_len]; omega)) only [go_sem, ↓reduceIte, true_and, Nat.reduceLeDiff, Nat.reduceEqDiff, Nat.reduceAdd, Nat.reduceBEq, Int.reduceEq, H.cv_5_3, d0]
    refine hN _ ?_; clear hN N
    (refine W_seq_gen fun R hR => ?_)
    rw [W_block]
    (refine W_seq_gen fun N hN => ?_); simp (disch := first | omega | (simp only [List.length_cons, List.length_nil, List.length_append, u8s_len]; omega)) only [go_sem, ↓reduceIte, true_and, Nat.reduceLeDiff, Nat.reduceEqDiff, Nat.reduceAdd, Nat.reduceBEq, Int.reduceEq, H.cv_5_3, t10, t12, hpv.same, hpv.disc, hpv.sl.ia, g0]
    refine hN _ ?_; clear hN N
    refine W_forget (fun t => t 0 = .op o 0 ∧ t 2 = .sc (.int .i64 ((0 : Nat) : Int)) ∧ t 3 = .sc (.int .i64 id) ∧ t 10 = pv ∧ t 11 = .sc (.int .i64 ((1 : Nat) : Int)) ∧ t 12 = .sc (.int .i64 ((0 : Nat) : Int)) ∧ True) (by simp [upd_at, *] <;> (first | rfl | exact ⟨rfl, rfl⟩ | exact ⟨rfl, rfl, rfl⟩ | exact ⟨rfl, rfl, rfl, rfl⟩ | exact ⟨rfl, rfl, rfl, rfl, rfl⟩)) ?_; rintro t ⟨t0, t2, t3, t10, t11, t12, -⟩
    (refine W_seq_gen fun N hN => ?_); simp (disch := first | omega | (simp only [List.length_cons, List.length_nil, List.length_append, u8s_len]; omega)) only [go_sem, ↓reduceIte, true_and, Nat.reduceLeDiff, Nat.reduceEqDiff, Nat.reduceAdd, Nat.reduceBEq, Int.reduceEq, H.cv_5_3, t0, t3, ho, d3]
    clear hN N
    refine hR _ ?_; clear hR R
    simp (disch := first | omega | (simp only [List.length_cons, List.length_nil, List.length_append, u8s_len]; omega)) only [go_sem, ↓reduceIte, true_and, Nat.reduceLeDiff, Nat.reduceEqDiff, Nat.reduceAdd, Nat.reduceBEq, Int.reduceEq, H.cv_5_3, t12]
    exact ⟨0, by omega, 1, rfl, by omega, by simp [upd_at, t0], by simp [upd_at, t10], by simp [upd_at, t11], by simp [upd_at]⟩
  · obtain rfl : i = 1 := by omega
    have d1 : decide ((1 : Nat) < 1) = false := rfl
    (refine W_seq_gen fun N hN => ?_); simp (disch := first | omega | (simp only [List.length_cons, List.length_nil, List.length_append, u8s_len]; omega)) only [go_sem, ↓reduceIte, true_and, Nat.reduceLeDiff, Nat.reduceEqDiff, Nat.reduceAdd, Nat.reduceBEq, Int.reduceEq, H.cv_5_3, t11, t12]
    refine hN _ ?_; clear hN N
    simp (disch := first | omega | (simp only [List.length_cons, List.length_nil, List.length_append, u8s_len]; omega)) only [go_sem, ↓reduceIte, true_and, Nat.reduceLeDiff, Nat.reduceEqDiff, Nat.reduceAdd, Nat.reduceBEq, Int.reduceEq, H.cv_5_3, d1]
    exact ⟨_, rfl⟩
theorem count_ok {h : Heap} {o q c : Nat} {id vote role lead clock T : Int} {pv yv nv mv out w : AV} {z : List AV} {L : List (List AV)} {n : Nat} {lim : Option Nat} (hpv : SF 1 pv (ints [id])) (hn : n = L.length + 1) (hl : n < 2 ^ 40) (hc : c < n) (hq : LQ h q z (L ++ [[.sc (.int .i64 T), w]]))
    (ho : h o = some (.arr [.sc (.int .i64 id), pv, .sc (.int .i64 T), .sc (.int .i64 vote), .rs q 0 2 n lim, .sc (.int .i64 (c : Nat)), .sc (.int .i64 role), .sc (.int .i64 lead), yv, .sc (.int .i64 clock), nv, mv, out])) :
    AWF P ann 0 44 [.op o 0] h fun r h' => h' = upd h o (some (.arr [.sc (.int .i64 id), pv, .sc (.int .i64 T), .sc (.int .i64 vote), .rs q 0 2 n lim, .sc (.int .i64 (n : Nat)), .sc (.int .i64 role), .sc (.int .i64 lead), yv, .sc (.int .i64 clock), nv, mv, out])) := by
  refine AWF.fnc H.f0_44 rfl ?_
  have nl : ∀ (t : Nat → AV) (h : Heap), aexLen 0 t h (.rs q 0 2 n lim) = some (.val (.sc (.int .i64 (n : Nat))) t h) := fun t h => rfl
  (refine W_seq_gen fun M hM => ?_)
  simp (disch := first | omega | (simp only [List.length_cons, List.length_nil, List.length_append, u8s_len]; omega)) only [go_sem, ↓reduceIte, true_and, Nat.reduceLeDiff, Nat.reduceEqDiff, Nat.reduceAdd, Nat.reduceBEq, Int.reduceEq, H.cv_5_3, ho, nl]
  refine hM _ ?_; clear hM M
  refine AW_loopN (fun m t h' => m = 0 ∧ h' = h ∧ t 0 = .op o 0 ∧ t 2 = .sc (.int .i64 (n : Nat))) (n := 0) ⟨rfl, rfl, rfl, rfl⟩ ?_
  rintro m t h1 ⟨rfl, rfl, t0, t2⟩
  have e1 : (ints [id]).length = 1 := rfl
  have g0 : (ints [id])[0]? = some [.sc (.int .i64 id)] := rfl
  have dc : decide (max 0 c < n) = true := by simp; omega
  have dL : decide ((0 : Nat) < 1) = true := rfl
  have dM : decide ((1 : Nat) < 1) = false := rfl
  have d3 : (id == id) = true := by simp
  have d4 : (T == T) = true := by simp
  have d3n : (id != id) = false := by simp
  (refine W_seq_gen fun N hN => ?_); simp (disch := first | omega | (simp only [List.length_cons, List.length_nil, List.length_append, u8s_len]; omega)) only [go_sem, ↓reduceIte, true_and, Nat.reduceLeDiff, Nat.reduceEqDiff, Nat.reduceAdd, Nat.reduceBEq, Int.reduceEq, H.cv_5_3, t0, t2, ho, dc]
  refine hN _ ?_; clear hN N
  (refine W_seq_gen fun R hR => ?_)
  rw [W_block]
  (refine W_seq_gen fun N hN => ?_); simp (disch := first | omega | (simp only [List.length_cons, List.length_nil, List.length_append, u8s_len]; omega)) only [go_sem, ↓reduceIte, true_and, Nat.reduceLeDiff, Nat.reduceEqDiff, Nat.reduceAdd, Nat.reduceBEq, Int.reduceEq, H.cv_5_3]
  refine hN _ ?_; clear hN N
  (refine W_seq_gen fun M hM => ?_)
  simp (disch := first | omega | (simp only [List.length_cons, List.length_nil, List.length_append, u8s_len]; omega)) only [go_sem, ↓reduceIte, true_and, Nat.reduceLeDiff, Nat.reduceEqDiff, Nat.reduceAdd, Nat.reduceBEq, Int.reduceEq, H.cv_5_3, t0, ho, hpv.same, hpv.disc, hpv.sl.len, e1]
  refine AW_loopN (fun m t h' => h' = h1 ∧ ∃ i, m = 1 - i ∧ i ≤ 1 ∧ t 0 = .op o 0 ∧ t 2 = .sc (.int .i64 (n : Nat)) ∧ t 3 = .sc (.int .i64 ((1 : Nat) : Int)) ∧ t 26 = pv ∧ t 27 = .sc (.int .i64 ((1 : Nat) : Int)) ∧ t 28 = .sc (.int .i64 (i : Nat))) (n := 1)
    ⟨rfl, 0, rfl, Nat.zero_le _, by simp [upd_at, t0], by simp [upd_at, t2], by simp [upd_at], by simp [upd_at], by simp [upd_at], by simp [upd_at]⟩ ?_
  clear t0 t2 t
  rintro m t h' ⟨rfl, i, rfl, hi, t0, t2, t3, t26, t27, t28⟩
  rcases Nat.lt_or_ge i 1 with hlt | hge
  · obtain rfl : i = 0 := by omega
    (refine W_seq_gen fun N hN => ?_); simp (disch := first | omega | (simp only [List.length_cons, List.length_nil, List.length_append, u8s_len]; omega)) only [go_sem, ↓reduceIte, true_and, Nat.reduceLeDiff, Nat.reduceEqDiff, Nat.reduceAdd, Nat.reduceBEq, Int.reduceEq, H.cv_5_3, t27, t28]
    refine hN _ ?_; clear hN N
    (refine W_seq_gen fun N hN => ?_); simp (disch := first | omega | (simp only [List.length_cons, List.length_nil, List.length_append, u8s_len]; omega)) only [go_sem, ↓reduceIte, true_and, Nat.reduceLeDiff, Nat.reduceEqDiff, Nat.reduceAdd, Nat.reduceBEq, Int.reduceEq, H.cv_5_3, dL]
    refine hN _ ?_; clear hN N
    (refine W_seq_gen fun S hS => ?_)
    rw [W_block]
    (refine W_seq_gen fun N hN => ?_); simp (disch := first | omega | (simp only [List.length_cons, List.length_nil, List.length_append, u8s_len]; omega)) only [go_sem, ↓reduceIte, true_and, Nat.reduceLeDiff, Nat.reduceEqDiff, Nat.reduceAdd, Nat.reduceBEq, Int.reduceEq, H.cv_5_3, t26, t28, hpv.same, hpv.disc, hpv.sl.ia, g0]
    refine hN _ ?_; clear hN N
    refine W_forget (fun t => t 0 = .op o 0 ∧ t 2 = .sc (.int .i64 (n : Nat)) ∧ t 3 = .sc (.int .i64 ((1 : Nat) : Int)) ∧ t 4 = .sc (.int .i64 ((0 : Nat) : Int)) ∧ t 5 = .sc (.int .i64 id) ∧ t 26 = pv ∧ t 27 = .sc (.int .i64 ((1 : Nat) : Int)) ∧ t 28 = .sc (.int .i64 ((0 : Nat) : Int)) ∧ True) (by simp [upd_at, *] <;> (first | rfl | exact ⟨rfl, rfl⟩ | exact ⟨rfl, rfl, rfl⟩ | exact ⟨rfl, rfl, rfl, rfl⟩ | exact ⟨rfl, rfl, rfl, rfl, rfl⟩)) ?_; rintro t ⟨t0, t2, t3, t4, t5, t26, t27, t28, -⟩
    (refine W_seq_gen fun N hN => ?_); simp (disch := first | omega | (simp only [List.length_cons, List.length_nil, List.length_append, u8s_len]; omega)) only [go_sem, ↓reduceIte, true_and, Nat.reduceLeDiff, Nat.reduceEqDiff, Nat.reduceAdd, Nat.reduceBEq, Int.reduceEq, H.cv_5_3, t0, t5, ho, d3n]
    refine hN _ ?_; clear hN N
    simp (disch := first | omega | (simp only [List.length_cons, List.length_nil, List.length_append, u8s_len]; omega)) only [go_sem, ↓reduceIte, true_and, Nat.reduceLeDiff, Nat.reduceEqDiff, Nat.reduceAdd, Nat.reduceBEq, Int.reduceEq, H.cv_5_3]
    refine hS _ ?_; clear hS S
    simp (disch := first | omega | (simp only [List.length_cons, List.length_nil, List.length_append, u8s_len]; omega)) only [go_sem, ↓reduceIte, true_and, Nat.reduceLeDiff, Nat.reduceEqDiff, Nat.reduceAdd, Nat.reduceBEq, Int.reduceEq, H.cv_5_3, t28]
    exact ⟨0, by omega, 1, rfl, by omega, by simp [upd_at, t0], by simp [upd_at, t2], by simp [upd_at, t3], by simp [upd_at, t26], by simp [upd_at, t27], by simp [upd_at]⟩
  · obtain rfl : i = 1 := by omega
    (refine W_seq_gen fun N hN => ?_); simp (disch := first | omega | (simp only [List.length_cons, List.length_nil, List.length_append, u8s_len]; omega)) only [go_sem, ↓reduceIte, true_and, Nat.reduceLeDiff, Nat.reduceEqDiff, Nat.reduceAdd, Nat.reduceBEq, Int.reduceEq, H.cv_5_3, t27, t28]
    refine hN _ ?_; clear hN N
    simp (disch := first | omega | (simp only [List.length_cons, List.length_nil, List.length_append, u8s_len]; omega)) only [go_sem, ↓reduceIte, true_and, Nat.reduceLeDiff, Nat.reduceEqDiff, Nat.reduceAdd, Nat.reduceBEq, Int.reduceEq, H.cv_5_3, dM]
    refine hM _ ?_; clear hM M
    (refine W_seq_gen fun N hN => ?_); simp (disch := first | omega | (simp only [List.length_cons, List.length_nil, List.length_append, u8s_len]; omega)) only [go_sem, ↓reduceIte, true_and, Nat.reduceLeDiff, Nat.reduceEqDiff, Nat.reduceAdd, Nat.reduceBEq, Int.reduceEq, H.cv_5_3, t0, t3]
    refine ⟨_, half_ok H hpv e1 ho, ?_⟩
    rw [contK_some]; simp (disch := first | omega | (simp only [List.length_cons, List.length_nil, List.length_append, u8s_len]; omega)) only [go_sem, ↓reduceIte, true_and, Nat.reduceLeDiff, Nat.reduceEqDiff, Nat.reduceAdd, Nat.reduceBEq, Int.reduceEq, H.cv_5_3, t0, t2]
    refine ⟨_, term_ok H hn hl hq ho, ?_⟩
    rw [contK_some]; simp (disch := first | omega | (simp only [List.length_cons, List.length_nil, List.length_append, u8s_len]; omega)) only [go_sem, ↓reduceIte, true_and, Nat.reduceLeDiff, Nat.reduceEqDiff, Nat.reduceAdd, Nat.reduceBEq, Int.reduceEq, H.cv_5_3, t0, ho, d4]
    refine hN _ ?_; clear hN N
    simp (disch := first | omega | (simp only [List.length_cons, List.length_nil, List.length_append, u8s_len]; omega)) only [go_sem, ↓reduceIte, true_and, Nat.reduceLeDiff, Nat.reduceEqDiff, Nat.reduceAdd, Nat.reduceBEq, Int.reduceEq, H.cv_5_3, t0, t2, ho, upd_same]
    exact ⟨_, rfl⟩
end Go.Proofs.Ytkmakibigmlfeaa
end
