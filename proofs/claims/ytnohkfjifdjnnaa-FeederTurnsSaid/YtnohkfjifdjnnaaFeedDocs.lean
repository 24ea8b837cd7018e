/- Documents and changes of their own memory. -/
import Derived.Test.YtnohkfjifdjnnaaFeedFn
import Derived.Test.YtnohkfjifdjnnaaFeedNew
set_option linter.unusedVariables false
set_option linter.unusedSimpArgs false
namespace Go.Proofs.Ytnohkfjifdjnnaa
open Go.Am
theorem setRange_all4 {a b c d x y z w : AV} : setRange [a, b, c, d] 0 [x, y, z, w] = [x, y, z, w] := rfl
attribute [go_sem] setRange_all4
def clo : AV → AV
  | .bs _ sz es lim => catV sz es (.bs true sz [] (some 0))
  | v => v
theorem clo_ok {sz : Nat} {v : AV} {es : List (List AV)} (hv : SF sz v es) : SL sz (clo v) es := by
  rcases hv with ⟨rfl, rfl⟩ | ⟨lim, rfl⟩
  · exact SL.nil
  · have := (SG.bs (sz := sz) (es := []) (lim := some 0)).cat es
    rw [List.nil_append] at this
    exact this.sl
def docO : List AV → List AV
  | [k, v] => [k, clo v]
  | e => e
def docD (e : List AV) : List AV := (docO e).map AV.disc
def newO : List AV → List AV
  | [a, b, c, v] => [a, b, c, clo v]
  | e => e
def newD (e : List AV) : List AV := (newO e).map AV.disc
def ownV (g : List AV → List AV) : AV → AV
  | .bs _ sz es _ => .bs false sz (es.map g) none
  | v => v
theorem rows_at {A z : List AV} {e : List AV} {B : List (List AV)} {n sz : Nat} (hA : A.length = n) (he : e.length = sz) : ((A ++ (e :: B).flatten ++ z).drop n).take sz = e := by
  subst hA; subst he
  rw [List.append_assoc, List.drop_left, List.flatten_cons, List.append_assoc, List.take_left]
theorem set_one {l : List AV} {n : Nat} {x : AV} (h : n < l.length) : setRange l n [x] = l.set n x := by
  unfold setRange
  rw [List.set_eq_take_append_cons_drop, if_pos h]
  simp
theorem rows_set {A z : List AV} {e e' : List AV} {B : List (List AV)} {n k : Nat} {x : AV} (hA : A.length = n) (hk : k < e.length) (he : e.set k x = e') : setRange (A ++ (e :: B).flatten ++ z) (n + k) [x] = A ++ e' ++ B.flatten ++ z := by
  subst hA; subst he
  rw [set_one (by simp; omega), List.append_assoc, List.flatten_cons, List.append_assoc, List.set_append_right _ _ (by omega), Nat.add_sub_cancel_left, List.set_append_left _ _ hk]
  simp
/-- A clone, as an object. -/
def CloR (sz : Nat) (h h' : Heap) (v : AV) (es : List (List AV)) (r : AV) : Prop :=
  (v = .sc (.slice none 0 0) ∧ r = .sc (.slice none 0 0) ∧ es = [] ∧ h' = h) ∨ ((∃ lim, v = .bs false sz [] lim) ∧ r = .bs true sz [] (some 0) ∧ es = [] ∧ h' = h) ∨
    ∃ lim, v = .bs false sz es lim ∧ ∃ o cap z, h o = none ∧ r = .rs o 0 sz es.length (some cap) ∧ es.length ≤ cap ∧ h' = upd h o (some (.arr (es.flatten ++ z)))
theorem appO_new {own : Bool} {sz bytes : Nat} {z : List AV} {t : Nat → AV} {h : Heap} {ys : List (List AV)} (h0 : 0 < ys.length) (hb : ys.length * bytes ≤ 2 ^ 47) :
    aexAppO sz bytes z t h ys (.bs own sz [] (some 0)) = some (.newc ys.length (fun o c => .rs o 0 sz ys.length (some c)) (fun c => .arr (ys.flatten.map AV.disc ++ (List.replicate (c - ys.length) z).flatten)) t) := by
  have h1 : ¬ ys.length = 0 := by omega
  have h2 : ¬ (0 + ys.length) * bytes > 2 ^ 47 := by rw [Nat.zero_add]; omega
  simp [aexAppO, h1, h0, grownO]
  omega
theorem appO_none {own : Bool} {sz bytes : Nat} {z : List AV} {t : Nat → AV} {h : Heap} : aexAppO sz bytes z t h [] (.bs own sz [] (some 0)) = some (.val (.bs own sz [] (some 0)) t h) := by
  simp [aexAppO]
variable {P : Program} (H : Has P)
include H
theorem cdoc_ok {v : AV} {es : List (List AV)} (hv : SF 6 v es) (hl : es.length ≤ 2 ^ 40) (h : Heap) : AWF P ann 0 37 [v] h fun r h' => r = clo v ∧ h' = h := by
  refine AWF.fnc H.f0_37 rfl ?_
  (refine W_seq_gen fun N hN => ?_); simp (disch := first | omega | (simp only [List.length_cons, List.length_nil, List.length_append, u8s_len]; omega)) only [go_sem, ↓reduceIte, true_and, Nat.reduceLeDiff, Nat.reduceEqDiff, Nat.reduceAdd, Nat.reduceBEq, Int.reduceEq]
  refine hN _ ?_; clear hN N
  refine W_forget (fun t => t 0 = v ∧ True) (by simp [upd_at, *] <;> (first | rfl | exact ⟨rfl, rfl⟩ | exact ⟨rfl, rfl, rfl⟩ | exact ⟨rfl, rfl, rfl, rfl⟩ | exact ⟨rfl, rfl, rfl, rfl, rfl⟩)) ?_; rintro t ⟨t0, -⟩
  rcases id hv with ⟨rfl, rfl⟩ | ⟨lim, rfl⟩
  · simp (disch := first | omega | (simp only [List.length_cons, List.length_nil, List.length_append, u8s_len]; omega)) only [go_sem, ↓reduceIte, true_and, Nat.reduceLeDiff, Nat.reduceEqDiff, Nat.reduceAdd, Nat.reduceBEq, Int.reduceEq, t0, isnil_nil, Bool.not_false]
    rfl
  · have happ := fun (t : Nat → AV) (h : Heap) => (SG.bs (sz := 6) (es := []) (lim := some 0)).app (t := t) (h := h) (ys := es) (bytes := 64) (by simp; omega)
    have hc := (SG.bs (sz := 6) (es := []) (lim := some 0)).cat es
    rw [show catV 6 es (.bs true 6 [] (some 0)) = clo (.bs false 6 es lim) from rfl] at happ hc
    generalize clo (.bs false 6 es lim) = w at happ hc ⊢
    simp (disch := first | omega | (simp only [List.length_cons, List.length_nil, List.length_append, u8s_len]; omega)) only [go_sem, ↓reduceIte, true_and, Nat.reduceLeDiff, Nat.reduceEqDiff, Nat.reduceAdd, Nat.reduceBEq, Int.reduceEq, t0, isnil_bs, hv.sl.elems, happ]
theorem clone36_ok {v : AV} {es : List (List AV)} (hv : SF 2 v es) (hg : GE 2 es) (hl : es.length ≤ 2 ^ 40) (h : Heap) : AWF P ann 1 36 [v] h fun r h' => CloR 2 h h' v es r := by
  refine AWF.fnc H.f1_36 rfl ?_
  (refine W_seq_gen fun N hN => ?_); simp (disch := first | omega | (simp only [List.length_cons, List.length_nil, List.length_append, u8s_len]; omega)) only [go_sem, ↓reduceIte, true_and, Nat.reduceLeDiff, Nat.reduceEqDiff, Nat.reduceAdd, Nat.reduceBEq, Int.reduceEq]
  refine hN _ ?_; clear hN N
  refine W_forget (fun t => t 0 = v ∧ True) (by simp [upd_at, *] <;> (first | rfl | exact ⟨rfl, rfl⟩ | exact ⟨rfl, rfl, rfl⟩ | exact ⟨rfl, rfl, rfl, rfl⟩ | exact ⟨rfl, rfl, rfl, rfl, rfl⟩)) ?_; rintro t ⟨t0, -⟩
  rcases id hv with ⟨rfl, rfl⟩ | ⟨lim, rfl⟩
  · simp (disch := first | omega | (simp only [List.length_cons, List.length_nil, List.length_append, u8s_len]; omega)) only [go_sem, ↓reduceIte, true_and, Nat.reduceLeDiff, Nat.reduceEqDiff, Nat.reduceAdd, Nat.reduceBEq, Int.reduceEq, t0, isnil_nil, Bool.not_false]
    exact .inl ⟨rfl, rfl, rfl, rfl⟩
  · by_cases c : es.length = 0
    · obtain rfl : es = [] := List.eq_nil_of_length_eq_zero c
      simp (disch := first | omega | (simp only [List.length_cons, List.length_nil, List.length_append, u8s_len]; omega)) only [go_sem, ↓reduceIte, true_and, Nat.reduceLeDiff, Nat.reduceEqDiff, Nat.reduceAdd, Nat.reduceBEq, Int.reduceEq, t0, isnil_bs, hv.sl.elems, appO_none]
      exact .inr (.inl ⟨⟨lim, rfl⟩, rfl, rfl, rfl⟩)
    · have happ := fun (t : Nat → AV) (h : Heap) (z : List AV) => appO_new (own := true) (sz := 2) (bytes := 40) (z := z) (t := t) (h := h) (ys := es) (by omega) (by omega)
      rw [hg.disc] at happ
      simp (disch := first | omega | (simp only [List.length_cons, List.length_nil, List.length_append, u8s_len]; omega)) only [go_sem, ↓reduceIte, true_and, Nat.reduceLeDiff, Nat.reduceEqDiff, Nat.reduceAdd, Nat.reduceBEq, Int.reduceEq, t0, isnil_bs, hv.sl.elems, happ]
      intro o cap ho hle
      exact .inr (.inr ⟨lim, rfl, o, cap, _, ho, rfl, hle, rfl⟩)
theorem clone38_ok {v : AV} {es : List (List AV)} (hv : SF 4 v es) (hg : GE 4 es) (hl : es.length ≤ 2 ^ 40) (h : Heap) : AWF P ann 1 38 [v] h fun r h' => CloR 4 h h' v es r := by
  refine AWF.fnc H.f1_38 rfl ?_
  (refine W_seq_gen fun N hN => ?_); simp (disch := first | omega | (simp only [List.length_cons, List.length_nil, List.length_append, u8s_len]; omega)) only [go_sem, ↓reduceIte, true_and, Nat.reduceLeDiff, Nat.reduceEqDiff, Nat.reduceAdd, Nat.reduceBEq, Int.reduceEq]
  refine hN _ ?_; clear hN N
  refine W_forget (fun t => t 0 = v ∧ True) (by simp [upd_at, *] <;> (first | rfl | exact ⟨rfl, rfl⟩ | exact ⟨rfl, rfl, rfl⟩ | exact ⟨rfl, rfl, rfl, rfl⟩ | exact ⟨rfl, rfl, rfl, rfl, rfl⟩)) ?_; rintro t ⟨t0, -⟩
  rcases id hv with ⟨rfl, rfl⟩ | ⟨lim, rfl⟩
  · simp (disch := first | omega | (simp only [List.length_cons, List.length_nil, List.length_append, u8s_len]; omega)) only [go_sem, ↓reduceIte, true_and, Nat.reduceLeDiff, Nat.reduceEqDiff, Nat.reduceAdd, Nat.reduceBEq, Int.reduceEq, t0, isnil_nil, Bool.not_false]
    exact .inl ⟨rfl, rfl, rfl, rfl⟩
  · by_cases c : es.length = 0
    · obtain rfl : es = [] := List.eq_nil_of_length_eq_zero c
      simp (disch := first | omega | (simp only [List.length_cons, List.length_nil, List.length_append, u8s_len]; omega)) only [go_sem, ↓reduceIte, true_and, Nat.reduceLeDiff, Nat.reduceEqDiff, Nat.reduceAdd, Nat.reduceBEq, Int.reduceEq, t0, isnil_bs, hv.sl.elems, appO_none]
      exact .inr (.inl ⟨⟨lim, rfl⟩, rfl, rfl, rfl⟩)
    · have happ := fun (t : Nat → AV) (h : Heap) (z : List AV) => appO_new (own := true) (sz := 4) (bytes := 56) (z := z) (t := t) (h := h) (ys := es) (by omega) (by omega)
      rw [hg.disc] at happ
      simp (disch := first | omega | (simp only [List.length_cons, List.length_nil, List.length_append, u8s_len]; omega)) only [go_sem, ↓reduceIte, true_and, Nat.reduceLeDiff, Nat.reduceEqDiff, Nat.reduceAdd, Nat.reduceBEq, Int.reduceEq, t0, isnil_bs, hv.sl.elems, happ]
      intro o cap ho hle
      exact .inr (.inr ⟨lim, rfl, o, cap, _, ho, rfl, hle, rfl⟩)
end Go.Proofs.Ytnohkfjifdjnnaa
