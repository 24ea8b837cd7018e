/- Clones, rows as objects, an own ether. -/
import Derived.Test.YtomfknocpijmbaaEtherM1
import Derived.Test.YtomfknocpijmbaaAmThaw
import Derived.Test.YtomfknocpijmbaaAmExt
import Derived.Test.YtomfknocpijmbaaAmTabC
section
set_option linter.unusedVariables false
set_option linter.unusedSimpArgs false
namespace Go.Proofs.Ytomfknocpijmbaa
open Go.Am
def frz : AV → AV
 | .bs _ sz es _ => .bs false sz es none
 | v => v
theorem frz_sf {sz : Nat} {v : AV} {es : List (List AV)} (hv : SF sz v es) : SF sz (frz v) es := by
 rcases hv with ⟨rfl, rfl⟩ | ⟨lim, rfl⟩
 ·exact .inl ⟨rfl, rfl⟩
 ·exact .inr ⟨_, rfl⟩
theorem catV_own {sz : Nat} {es : List (List AV)} : ∃ lim, catV sz es (.bs true sz [] (some 0)) = .bs true sz es lim := by
 have hc := (SG.bs (sz := sz) (es := []) (lim := some 0)).cat es
 rw [List.nil_append] at hc
 rcases hc with ⟨e, _⟩ | h
 ·exfalso
  unfold catV at e
  split at e <;> first | cases e | (split at e <;> cases e)
 ·exact h
theorem isnil_bs {own sz es lim neg} {t : Nat → AV} {h : Heap} : aexIsnil 0 neg t h (.bs own sz es lim) = some (.val (.sc (.bool neg)) t h) := rfl
theorem isnil_nil {neg} {t : Nat → AV} {h : Heap} : aexIsnil 0 neg t h (.sc (.slice none 0 0)) = some (.val (.sc (.bool !neg)) t h) := rfl
theorem appO_new {own : Bool} {sz bytes : Nat} {z : List AV} {t : Nat → AV} {h : Heap} {ys : List (List AV)} (h0 : 0 < ys.length) (hb : ys.length * bytes ≤ 2 ^ 47) :
  aexAppO sz bytes z t h ys (.bs own sz [] (some 0)) = some (.newc ys.length (fun o c => .rs o 0 sz ys.length (some c)) (fun c => .arr (ys.flatten.map AV.disc ++ (List.replicate (c - ys.length) z).flatten)) t) := by
 have h1 : ¬ ys.length = 0 := by omega
 have h2 : ¬ (0 + ys.length) * bytes > 2 ^ 47 := by rw [Nat.zero_add]; omega
 simp [aexAppO, h1, h0, grownO]
 omega
theorem appO_none {own : Bool} {sz bytes : Nat} {z : List AV} {t : Nat → AV} {h : Heap} : aexAppO sz bytes z t h [] (.bs own sz [] (some 0)) = some (.val (.bs own sz [] (some 0)) t h) := by
 simp [aexAppO]
def Row (h0 h : Heap) (sz : Nat) (r : AV) (es : List (List AV)) : Prop :=
 (r = .sc (.slice none 0 0) ∧ es = []) ∨ ((∃ own, r = .bs own sz [] (some 0)) ∧ es = []) ∨ ∃ o cap z, h0 o = none ∧ r = .rs o 0 sz es.length (some cap) ∧ 0 < cap ∧ es.length ≤ cap ∧ z.length = (cap - es.length) * sz ∧ h o = some (.arr (es.flatten ++ z))
def CE (sz : Nat) (es : List (List AV)) (r : AV) (e : Option (Nat × AObj)) : Prop :=
 (e = none ∧ es = [] ∧ (r = .sc (.slice none 0 0) ∨ r = .bs false sz [] (some 0))) ∨ ∃ o cap z, e = some (o, .arr (es.flatten ++ z)) ∧ r = .rs o 0 sz es.length (some cap) ∧ es ≠ [] ∧ es.length ≤ cap ∧ z.length = (cap - es.length) * sz
def frE (h : Heap) (e : Option (Nat × AObj)) : Prop := ∀ o X, e = some (o, X) → h o = none
def Clo (sz : Nat) (h h' : Heap) (es : List (List AV)) (r : AV) : Prop := ∃ e, CE sz es r e ∧ frE h e ∧ h' = apE e h
theorem CE.same {sz : Nat} {es : List (List AV)} {r : AV} {e : Option (Nat × AObj)} (H : CE sz es r e) : r.dis = r ∧ r.disc = r ∧ r.cellsD = [r] ∧ r.isTu = false ∧ r.isOwn = false := by
 rcases H with ⟨_, _, rfl | rfl⟩ | ⟨_, _, _, _, rfl, _⟩ <;> exact ⟨rfl, rfl, rfl, rfl, rfl⟩
theorem ap_keep {h : Heap} {e : Option (Nat × AObj)} (hf : frE h e) : ∀ x, h x ≠ none → apE e h x = h x := by
 intro x hx
 cases e with
 | none => rfl
 | some p =>
  obtain ⟨o, X⟩ := p
  have : x ≠ o := fun q => hx (by rw [q]; exact hf o X rfl)
  exact upd_ne _ _ this
variable {P : Program} (H : Has P)
include H
theorem clonev_ok {v : AV} {es : List (List AV)} (hv : SF 1 v es) (hl : es.length ≤ 2 ^ 40) (h : Heap) : AWF P ann 0 30 [v] h fun r h' => r = frz v ∧ h' = h := by
 refine AWF.fnPureA H.f0_30 rfl ?_
 have hO := OB.nil (h := h)
 refine A_seq_gen fun N hN => W_sound ?_
 simp (disch := omega) only [go_sem, ↓reduceIte, Nat.reduceEqDiff, Nat.reduceLeDiff]
 refine hN _ ?_; clear hN N
 refine A_seq_gen fun N hN => W_sound ?_
 refine W_f (fun t => t 0 = v ∧ True) ?_; rintro t ⟨t0, -⟩
 rcases id hv with ⟨rfl, rfl⟩ | ⟨lim, rfl⟩
 ·simp (disch := omega) only [go_sem, ↓reduceIte, Nat.reduceEqDiff, Nat.reduceLeDiff, t0, isnil_nil, Bool.not_false]
  first | exact rfl | exact ⟨rfl, hO.keep⟩
 ·have happ := fun (t : Nat → AV) (h : Heap) => (SG.bs (sz := 1) (es := []) (lim := some 0)).app (t := t) (h := h) (ys := es) (bytes := 1) (by simp; omega)
  have hc := catV_own (sz := 1) (es := es)
  generalize catV 1 es (.bs true 1 [] (some 0)) = w at happ hc
  simp (disch := omega) only [go_sem, ↓reduceIte, Nat.reduceEqDiff, Nat.reduceLeDiff, t0, isnil_bs]
  refine hN _ ?_; clear hN N
  refine A_seq_gen fun N hN => W_sound ?_
  simp (disch := omega) only [go_sem, ↓reduceIte, Nat.reduceEqDiff, Nat.reduceLeDiff, t0, hv.sl.elems, hv.same, hv.disc, happ]
  refine hN _ ?_; clear hN N
  obtain ⟨lim2, rfl⟩ := hc
  refine .ghost (.lim (i := 2) (own := true) (sz := 1) (es := es) (lim := lim2) (by simp [upd_at])) (W_sound ?_)
  simp (disch := omega) only [go_sem, ↓reduceIte, Nat.reduceEqDiff, Nat.reduceLeDiff]
  first | exact rfl | exact ⟨rfl, hO.keep⟩
theorem cloB_ok {v : AV} {es : List (List AV)} (hv : SF 3 v es) (hg : GE 3 es) (hl : es.length ≤ 2 ^ 40) (h : Heap) : AWF P ann 1 50 [v] h fun r h' => Clo 3 h h' es r := by
 refine AWF.disR (R := fun r h' => Clo 3 h h' es r.dis) ?_ fun _ _ hr => hr
 refine AWF.fnc H.f1_50 rfl ?_
 (refine W_seq_gen fun N hN => ?_); simp (disch := omega) only [go_sem, ↓reduceIte, Nat.reduceEqDiff, Nat.reduceLeDiff]
 refine hN _ ?_; clear hN N
 refine W_f (fun t => t 0 = v ∧ True) ?_; rintro t ⟨t0, -⟩
 rcases id hv with ⟨rfl, rfl⟩ | ⟨lim, rfl⟩
 ·simp (disch := omega) only [go_sem, ↓reduceIte, Nat.reduceEqDiff, Nat.reduceLeDiff, t0, isnil_nil, Bool.not_false]
  exact ⟨none, .inl ⟨rfl, rfl, .inl rfl⟩, fun _ _ q => (by cases q), rfl⟩
 ·by_cases c : es.length = 0
  ·obtain rfl : es = [] := List.eq_nil_of_length_eq_zero c
   simp (disch := omega) only [go_sem, ↓reduceIte, Nat.reduceEqDiff, Nat.reduceLeDiff, t0, isnil_bs, hv.sl.elems, appO_none]
   exact ⟨none, .inl ⟨rfl, rfl, .inr rfl⟩, fun _ _ q => (by cases q), rfl⟩
  ·have happ := fun (t : Nat → AV) (h : Heap) (z : List AV) => appO_new (own := true) (sz := 3) (bytes := 40) (z := z) (t := t) (h := h) (ys := es) (by omega) (by omega)
   rw [hg.disc] at happ
   simp (disch := omega) only [go_sem, ↓reduceIte, Nat.reduceEqDiff, Nat.reduceLeDiff, t0, isnil_bs, hv.sl.elems, happ]
   intro o cap ho hle
   refine ⟨some (o, _), .inr ⟨o, cap, _, rfl, rfl, fun e => c (by rw [e]; rfl), hle, ?_⟩, fun o' X q => (by cases q; exact ho), rfl⟩
   rw [rep_flat]; rfl
theorem cloC_ok {v : AV} {es : List (List AV)} (hv : SF 2 v es) (hg : GE 2 es) (hl : es.length ≤ 2 ^ 40) (h : Heap) : AWF P ann 1 51 [v] h fun r h' => Clo 2 h h' es r := by
 refine AWF.disR (R := fun r h' => Clo 2 h h' es r.dis) ?_ fun _ _ hr => hr
 refine AWF.fnc H.f1_51 rfl ?_
 (refine W_seq_gen fun N hN => ?_); simp (disch := omega) only [go_sem, ↓reduceIte, Nat.reduceEqDiff, Nat.reduceLeDiff]
 refine hN _ ?_; clear hN N
 refine W_f (fun t => t 0 = v ∧ True) ?_; rintro t ⟨t0, -⟩
 rcases id hv with ⟨rfl, rfl⟩ | ⟨lim, rfl⟩
 ·simp (disch := omega) only [go_sem, ↓reduceIte, Nat.reduceEqDiff, Nat.reduceLeDiff, t0, isnil_nil, Bool.not_false]
  exact ⟨none, .inl ⟨rfl, rfl, .inl rfl⟩, fun _ _ q => (by cases q), rfl⟩
 ·by_cases c : es.length = 0
  ·obtain rfl : es = [] := List.eq_nil_of_length_eq_zero c
   simp (disch := omega) only [go_sem, ↓reduceIte, Nat.reduceEqDiff, Nat.reduceLeDiff, t0, isnil_bs, hv.sl.elems, appO_none]
   exact ⟨none, .inl ⟨rfl, rfl, .inr rfl⟩, fun _ _ q => (by cases q), rfl⟩
  ·have happ := fun (t : Nat → AV) (h : Heap) (z : List AV) => appO_new (own := true) (sz := 2) (bytes := 16) (z := z) (t := t) (h := h) (ys := es) (by omega) (by omega)
   rw [hg.disc] at happ
   simp (disch := omega) only [go_sem, ↓reduceIte, Nat.reduceEqDiff, Nat.reduceLeDiff, t0, isnil_bs, hv.sl.elems, happ]
   intro o cap ho hle
   refine ⟨some (o, _), .inr ⟨o, cap, _, rfl, rfl, fun e => c (by rw [e]; rfl), hle, ?_⟩, fun o' X q => (by cases q; exact ho), rfl⟩
   rw [rep_flat]; rfl
theorem cloP_ok {v : AV} {es : List (List AV)} (hv : SF 2 v es) (hg : GE 2 es) (hl : es.length ≤ 2 ^ 40) (h : Heap) : AWF P ann 1 52 [v] h fun r h' => Clo 2 h h' es r := by
 refine AWF.disR (R := fun r h' => Clo 2 h h' es r.dis) ?_ fun _ _ hr => hr
 refine AWF.fnc H.f1_52 rfl ?_
 (refine W_seq_gen fun N hN => ?_); simp (disch := omega) only [go_sem, ↓reduceIte, Nat.reduceEqDiff, Nat.reduceLeDiff]
 refine hN _ ?_; clear hN N
 refine W_f (fun t => t 0 = v ∧ True) ?_; rintro t ⟨t0, -⟩
 rcases id hv with ⟨rfl, rfl⟩ | ⟨lim, rfl⟩
 ·simp (disch := omega) only [go_sem, ↓reduceIte, Nat.reduceEqDiff, Nat.reduceLeDiff, t0, isnil_nil, Bool.not_false]
  exact ⟨none, .inl ⟨rfl, rfl, .inl rfl⟩, fun _ _ q => (by cases q), rfl⟩
 ·by_cases c : es.length = 0
  ·obtain rfl : es = [] := List.eq_nil_of_length_eq_zero c
   simp (disch := omega) only [go_sem, ↓reduceIte, Nat.reduceEqDiff, Nat.reduceLeDiff, t0, isnil_bs, hv.sl.elems, appO_none]
   exact ⟨none, .inl ⟨rfl, rfl, .inr rfl⟩, fun _ _ q => (by cases q), rfl⟩
  ·have happ := fun (t : Nat → AV) (h : Heap) (z : List AV) => appO_new (own := true) (sz := 2) (bytes := 32) (z := z) (t := t) (h := h) (ys := es) (by omega) (by omega)
   rw [hg.disc] at happ
   simp (disch := omega) only [go_sem, ↓reduceIte, Nat.reduceEqDiff, Nat.reduceLeDiff, t0, isnil_bs, hv.sl.elems, happ]
   intro o cap ho hle
   refine ⟨some (o, _), .inr ⟨o, cap, _, rfl, rfl, fun e => c (by rw [e]; rfl), hle, ?_⟩, fun o' X q => (by cases q; exact ho), rfl⟩
   rw [rep_flat]; rfl
theorem cloY_ok {v : AV} {es : List (List AV)} (hv : SF 1 v es) (hg : GE 1 es) (hl : es.length ≤ 2 ^ 40) (h : Heap) : AWF P ann 1 30 [v] h fun r h' => Clo 1 h h' es r := by
 refine AWF.disR (R := fun r h' => Clo 1 h h' es r.dis) ?_ fun _ _ hr => hr
 refine AWF.fnc H.f1_30 rfl ?_
 (refine W_seq_gen fun N hN => ?_); simp (disch := omega) only [go_sem, ↓reduceIte, Nat.reduceEqDiff, Nat.reduceLeDiff]
 refine hN _ ?_; clear hN N
 refine W_f (fun t => t 0 = v ∧ True) ?_; rintro t ⟨t0, -⟩
 rcases id hv with ⟨rfl, rfl⟩ | ⟨lim, rfl⟩
 ·simp (disch := omega) only [go_sem, ↓reduceIte, Nat.reduceEqDiff, Nat.reduceLeDiff, t0, isnil_nil, Bool.not_false]
  exact ⟨none, .inl ⟨rfl, rfl, .inl rfl⟩, fun _ _ q => (by cases q), rfl⟩
 ·by_cases c : es.length = 0
  ·obtain rfl : es = [] := List.eq_nil_of_length_eq_zero c
   simp (disch := omega) only [go_sem, ↓reduceIte, Nat.reduceEqDiff, Nat.reduceLeDiff, t0, isnil_bs, hv.sl.elems, appO_none]
   exact ⟨none, .inl ⟨rfl, rfl, .inr rfl⟩, fun _ _ q => (by cases q), rfl⟩
  ·have happ := fun (t : Nat → AV) (h : Heap) (z : List AV) => appO_new (own := true) (sz := 1) (bytes := 1) (z := z) (t := t) (h := h) (ys := es) (by omega) (by omega)
   rw [hg.disc] at happ
   simp (disch := omega) only [go_sem, ↓reduceIte, Nat.reduceEqDiff, Nat.reduceLeDiff, t0, isnil_bs, hv.sl.elems, happ]
   intro o cap ho hle
   refine ⟨some (o, _), .inr ⟨o, cap, _, rfl, rfl, fun e => c (by rw [e]; rfl), hle, ?_⟩, fun o' X q => (by cases q; exact ho), rfl⟩
   rw [rep_flat]; rfl
end Go.Proofs.Ytomfknocpijmbaa
end
section
set_option linter.unusedVariables false
set_option linter.unusedSimpArgs false
namespace Go.Proofs.Ytomfknocpijmbaa
open Go.Am
def oid : AV → Option Nat
 | .rs o _ _ _ _ => some o
 | _ => none
def Only (h h' : Heap) (v : AV) : Prop := ∀ x, h x ≠ none → oid v ≠ some x → h' x = h x
def OidR (h : Heap) (v r : AV) : Prop := oid r = oid v ∨ ∀ o, oid r = some o → h o = none
def minus (h : Heap) (v : AV) : Heap := fun x => if oid v = some x then none else h x
theorem minus_none {h : Heap} {v : AV} {o : Nat} (hn : minus h v o = none) : oid v = some o ∨ h o = none := by
 unfold minus at hn
 split at hn
 ·rename_i e; exact .inl e
 ·exact .inr hn
theorem minus_keep {h h2 : Heap} {v : AV} (H : ∀ x, minus h v x ≠ none → h2 x = minus h v x) : Only h h2 v := fun x hx ho => by
 have : minus h v x = h x := by unfold minus; rw [if_neg ho]
 rw [← this]
 exact H x (by rw [this]; exact hx)
theorem upd2h {f : Heap} {a : Nat} {x y : Option AObj} : upd (upd f a x) a y = upd f a y := by
 funext k
 simp only [upd]
 split <;> rfl
theorem fl_drop {sz : Nat} {es : List (List AV)} {z : List AV} {i : Nat} (hg : GE sz es) (hi : i ≤ es.length) : (es.flatten ++ z).drop (i * sz) = (es.drop i).flatten ++ z := by
 have h1 : (es.take i).flatten.length = i * sz := by
  have : GE sz (es.take i) := fun e he => hg e (List.mem_of_mem_take he)
  rw [this.len, List.length_take, Nat.min_eq_left hi]
 have h2 : es.flatten = (es.take i).flatten ++ (es.drop i).flatten := by rw [← List.flatten_append, List.take_append_drop]
 rw [h2, List.append_assoc, List.drop_left' h1]
theorem chunks_more {sz : Nat} : ∀ {es : List (List AV)} (r : List AV) (k : Nat), GE sz es → (chunks sz (es.length + k) (es.flatten ++ r)).take es.length = es
 | [], _, _, _ => rfl
 | e :: es, r, k, h => by
  have hl := (h e (by simp)).1
  rw [List.flatten_cons, List.length_cons, show es.length + 1 + k = (es.length + k) + 1 by omega, chunks, List.append_assoc, List.take_left' hl, List.drop_left' hl, List.take_succ_cons, chunks_more r k h.tail]
theorem GE.take {sz : Nat} {es : List (List AV)} (h : GE sz es) (i : Nat) : GE sz (es.take i) := fun e he => h e (List.mem_of_mem_take he)
theorem GE.drop {sz : Nat} {es : List (List AV)} (h : GE sz es) (i : Nat) : GE sz (es.drop i) := fun e he => h e (List.mem_of_mem_drop he)
theorem fl_len {sz : Nat} {es : List (List AV)} {i : Nat} (hg : GE sz es) (hi : i ≤ es.length) : (es.take i).flatten.length = i * sz := by
 rw [(GE.take hg i).len, List.length_take, Nat.min_eq_left hi]
theorem fl_split {es : List (List AV)} {z : List AV} (i : Nat) : es.flatten ++ z = (es.take i).flatten ++ ((es.drop i).flatten ++ z) := by
 rw [← List.append_assoc, ← List.flatten_append, List.take_append_drop]
theorem elems_rs {h : Heap} {o sz n : Nat} {lim : Option Nat} {es : List (List AV)} {z : List AV} (hg : GE sz es) (ho : h o = some (.arr (es.flatten ++ z))) {i : Nat} (hi : i ≤ es.length) (hn : n = es.length - i) : elemsOf h sz (.rs o (i * sz) sz n lim) = some (es.drop i) := by
 subst hn
 have hl : (es.flatten ++ z).length = es.length * sz + z.length := by rw [List.length_append, hg.len]
 have h1 : i * sz + (es.length - i) * sz ≤ (es.flatten ++ z).length := by
  rw [hl, ← Nat.add_mul]
  have : i + (es.length - i) = es.length := by omega
  rw [this]
  omega
 have hd := GE.drop hg i
 simp only [elemsOf, if_true, ho, if_pos h1, fl_drop hg hi, List.map_append, hd.disc]
 rw [show es.length - i = (es.drop i).length by simp, hd.chunks]
theorem elems_more {h : Heap} {o sz n : Nat} {lim : Option Nat} {es : List (List AV)} {z : List AV} (hg : GE sz es) (ho : h o = some (.arr (es.flatten ++ z))) {i k : Nat} (hi : i ≤ es.length) (hn : n = es.length - i + k) (hz : k * sz ≤ z.length) :
  ∃ ys, elemsOf h sz (.rs o (i * sz) sz n lim) = some ys ∧ ys.take (es.length - i) = es.drop i ∧ ys.length = n := by
 subst hn
 have hl : (es.flatten ++ z).length = es.length * sz + z.length := by rw [List.length_append, hg.len]
 have h1 : i * sz + (es.length - i + k) * sz ≤ (es.flatten ++ z).length := by
  rw [hl, ← Nat.add_mul]
  have : i + (es.length - i + k) = es.length + k := by omega
  rw [this, Nat.add_mul]
  omega
 have hd := GE.drop hg i
 refine ⟨chunks sz (es.length - i + k) ((es.drop i).flatten ++ z.map AV.disc), by simp only [elemsOf, if_true, ho, if_pos h1, fl_drop hg hi, List.map_append, hd.disc], ?_, chunks_len _ _ _⟩
 have := chunks_more (z.map AV.disc) k hd
 rw [List.length_drop] at this
 exact this
theorem set_fl {sz : Nat} {es : List (List AV)} {r y : List AV} {i n : Nat} (hg : GE sz es) (hi : i = es.length) (hn : n = i * sz) : setRange (es.flatten ++ r) n y = es.flatten ++ (y ++ r.drop y.length) := by
 subst hn hi
 exact setRange_at hg.len.symm
theorem slc_rs {sz : Nat} {t : Nat → AV} {h : Heap} {o c n cap l u : Nat} {lo hi : Option AV} (hl : (lo = none ∧ l = 0) ∨ ∃ k, lo = some (.sc (.int k l))) (hu : (hi = none ∧ u = n) ∨ ∃ k, hi = some (.sc (.int k u))) (h1 : l ≤ u) (h2 : u ≤ cap) :
  aexSlc sz t h lo hi none (.rs o c sz n (some cap)) = some (.val (.rs o (c + l * sz) sz (u - l) (some (cap - l))) t h) := by
 have e1 : bHiC n cap hi = some u := by
  rcases hu with ⟨rfl, rfl⟩ | ⟨k, rfl⟩
  ·rfl
  ·simp [bHiC, bHi, asI, h2]
 have e2 : bLo u lo = some l := by
  rcases hl with ⟨rfl, rfl⟩ | ⟨k, rfl⟩
  ·rfl
  ·simp [bLo, asI, h1]
 simp [aexSlc, boundsC, e1, e2]
theorem cpy_rs {sz o c n o2 c2 s2 n2 : Nat} {lim l2 : Option Nat} {t : Nat → AV} {h : Heap} {ys : List (List AV)} {cs : List AV} (ho : h o = some (.arr cs)) (hle : c + n * sz ≤ cs.length) :
  aexCpy sz t h ys (.rs o c sz n lim) (.rs o2 c2 s2 n2 l2) = some (.val (.sc (.int .i64 (min ys.length n : Nat))) t (upd h o (some (.arr (setRange cs c ((ys.take n).flatten.map AV.disc)))))) := by
 simp [aexCpy, ho, hle]
theorem row_app {P : Program} {ann : Ann} {dst : Option Nat} {Q : St → Prop} {h0 h : Heap} {sz : Nat} {v : AV} {es ys : List (List AV)} {bytes : Nat} {z : List AV} {t : Nat → AV} (hR : Row h0 h sz v es) (hk : ∀ x, h0 x ≠ none → h x ≠ none) (hg : GE sz es) (hy : GE sz ys) (hy0 : ys ≠ [])
  (hz : z.length = sz) (hb : (es.length + ys.length) * bytes ≤ 2 ^ 47)
  (hQ : ∀ x h2, Row h0 h2 sz x (es ++ ys) → Only h h2 v → OidR h v x → Q ⟨putd t dst x, h2⟩) : after P ann dst h Q (aexAppO sz bytes z t h ys v) := by
 have hne : es ++ ys ≠ [] := by simp [hy0]
 have fin : ∀ x h2, RW (minus h v) h2 sz x (es ++ ys) → Q ⟨putd t dst x, h2⟩ := by
  intro x h2 hRW
  have hon := minus_keep hRW.1
  rcases hRW.2 with ⟨_, e⟩ | ⟨o, cap, z', h1, rfl, h3, h4, h5⟩
  ·exact absurd e hne
  ·refine hQ _ _ (.inr (.inr ⟨o, cap, z', ?_, rfl, Nat.lt_of_lt_of_le (List.length_pos_iff.2 hne) h3, h3, h4, h5⟩)) hon ?_
   ·cases hq : h0 o with
    | none => rfl
    | some X =>
     exfalso
     have h6 := hk o (by rw [hq]; simp)
     rcases minus_none h1 with h7 | h7
     ·rcases hR with ⟨rfl, _⟩ | ⟨⟨_, rfl⟩, _⟩ | ⟨o', _, _, h8, rfl, _⟩
      ·cases h7
      ·cases h7
      ·cases h7
       rw [hq] at h8
       cases h8
     ·exact h6 h7
   ·rcases minus_none h1 with h7 | h7
    ·exact .inl h7.symm
    ·exact .inr fun o' ho' => by cases ho'; exact h7
 rcases id hR with ⟨rfl, rfl⟩ | ⟨⟨own, rfl⟩, rfl⟩ | ⟨o, cap, z', h1, rfl, h2, h3, h4, h5⟩
 ·exact after_row (h0 := minus h (.sc (.slice none 0 0))) (es := []) ⟨fun x hx => by simp [minus, oid], .inl ⟨rfl, rfl⟩⟩ hg hy hz hb fun x h2 hRW => fin x h2 hRW
 ·have hy1 : 0 < ys.length := List.length_pos_iff.2 hy0
  rw [appO_new hy1 (by simpa using hb), hy.disc]
  intro b c hbn hle
  refine fin _ _ ⟨fun x hx => ?_, .inr ⟨b, c, (List.replicate (c - ys.length) z).flatten, by simp [minus, oid, hbn], rfl, hle, by rw [rep_flat, hz]; rfl, by rw [upd_same]; rfl⟩⟩
  have hx' : h x ≠ none := by simpa [minus, oid] using hx
  have : x ≠ b := fun e => hx' (by rw [e]; exact hbn)
  rw [upd_ne _ _ this]
  simp [minus, oid]
 ·refine after_row (h0 := minus h (.rs o 0 sz es.length (some cap))) ⟨fun x hx => ?_, .inr ⟨o, cap, z', by simp [minus, oid], rfl, h3, h4, h5⟩⟩ hg hy hz hb fun x h2 hRW => fin x h2 hRW
  have : ¬ oid (.rs o 0 sz es.length (some cap)) = some x := fun e => hx (by unfold minus; rw [if_pos e])
  unfold minus
  rw [if_neg this]
variable {P : Program} (H : Has P)
include H
set_option maxHeartbeats 1000000 in
theorem insB_ok {h0 h : Heap} {v : AV} {es : List (List AV)} {e : List AV} {i oV : Nat} (hR : Row h0 h 3 v es) (hk : ∀ x, h0 x ≠ none → h x ≠ none) (hg : GE 3 es) (he : e.length = 3 ∧ e.map AV.disc = e) (hi : i ≤ es.length) (hl : es.length ≤ 2 ^ 30)
  (hoV : h oV = some (.arr e)) (hne : oid v ≠ some oV) (hE : ∀ {o1 c1 s1 n1 o2 c2 s2 n2 : Nat} {l1 l2 : Option Nat} {cs1 cs2 : List AV} {h : Heap}, h o1 = some (.arr cs1) → h o2 = some (.arr cs2) → o1 ≠ o2 → cs2 ≠ [] → AWF P ann 0 55 [.rs o1 c1 s1 n1 l1, .rs o2 c2 s2 n2 l2] h fun v h' => v = .sc (.bool false) ∧ h' = h) :
  AWF P ann 1 29 [v, .sc (.int .i64 (i : Nat)), .rs oV 0 3 1 (some 1)] h fun r h' => Row h0 h' 3 r (es.take i ++ e :: es.drop i) ∧ Only h h' v ∧ OidR h v r := by
 refine AWF.fnc H.f1_29 rfl ?_
 have hge : GE 3 [e] := fun x hx => by rw [List.mem_singleton] at hx; subst hx; exact he
 have hev : elemsOf h 3 (.rs oV 0 3 1 (some 1)) = some [e] := by
  simp [elemsOf, hoV, chunks, he.1, he.2]
  rw [← he.1, List.take_length]
 have hlen : ∀ (t : Nat → AV) (h : Heap), aexLen 0 t h v = some (.val (.sc (.int .i64 (es.length : Nat))) t h) := fun t h => by
  rcases hR with ⟨rfl, rfl⟩ | ⟨⟨_, rfl⟩, rfl⟩ | ⟨_, _, _, _, rfl, _⟩ <;> rfl
 have hdis : v.dis.dis = v.dis := by rcases hR with ⟨rfl, rfl⟩ | ⟨⟨_, rfl⟩, rfl⟩ | ⟨_, _, _, _, rfl, _⟩ <;> rfl
 have hlenD : ∀ (t : Nat → AV) (h : Heap), aexLen 0 t h v.dis = some (.val (.sc (.int .i64 (es.length : Nat))) t h) := fun t h => by
  rcases hR with ⟨rfl, rfl⟩ | ⟨⟨_, rfl⟩, rfl⟩ | ⟨_, _, _, _, rfl, _⟩ <;> rfl
 have hsl : ∃ w, ∀ (t : Nat → AV) (h : Heap), aexSlc 3 t h (some (.sc (.int .i64 (i : Nat)))) none none v.dis = some (.val w t h) := by
  rcases hR with ⟨rfl, rfl⟩ | ⟨⟨own, rfl⟩, rfl⟩ | ⟨o, cap, z, _, rfl, _, hc, _⟩
  ·obtain rfl : i = 0 := by simpa using hi
   exact ⟨_, fun t h => rfl⟩
  ·obtain rfl : i = 0 := by simpa using hi
   exact ⟨_, fun t h => rfl⟩
  ·exact ⟨_, fun t h => slc_rs (.inr ⟨_, rfl⟩) (.inl ⟨rfl, rfl⟩) hi hc⟩
 obtain ⟨w, hsl⟩ := hsl
 have nl : ∀ (t : Nat → AV) (h : Heap), aexLen 0 t h (.rs oV 0 3 1 (some 1)) = some (.val (.sc (.int .i64 ((1 : Nat) : Int))) t h) := fun t h => rfl
 (refine W_seq_gen fun N hN => ?_); simp (disch := omega) only [go_sem, ↓reduceIte, Nat.reduceEqDiff, Nat.reduceLeDiff]
 refine hN _ ?_; clear hN N
 refine W_f (fun t => t 0 = v ∧ t 1 = .sc (.int .i64 (i : Nat)) ∧ t 2 = .rs oV 0 3 1 (some 1) ∧ True) ?_; rintro t ⟨t0, t1, t2, -⟩
 (refine W_seq_gen fun N hN => ?_); simp (disch := omega) only [go_sem, ↓reduceIte, Nat.reduceEqDiff, Nat.reduceLeDiff, t0, t1, hsl]
 refine hN _ ?_; clear hN N
 refine W_f (fun t => t 0 = v ∧ t 1 = .sc (.int .i64 (i : Nat)) ∧ t 2 = .rs oV 0 3 1 (some 1) ∧ True) ?_; rintro t ⟨t0, t1, t2, -⟩
 (refine W_seq_gen fun N hN => ?_); simp (disch := omega) only [go_sem, ↓reduceIte, Nat.reduceEqDiff, Nat.reduceLeDiff, t2, nl]
 refine hN _ ?_; clear hN N
 refine W_f (fun t => t 0 = v ∧ t 1 = .sc (.int .i64 (i : Nat)) ∧ t 2 = .rs oV 0 3 1 (some 1) ∧ t 7 = .sc (.int .i64 ((1 : Nat) : Int)) ∧ True) ?_; rintro t ⟨t0, t1, t2, t7, -⟩
 have d10 : decide ((1 : Nat) = 0) = false := rfl
 (refine W_seq_gen fun N hN => ?_); simp (disch := omega) only [go_sem, ↓reduceIte, Nat.reduceEqDiff, Nat.reduceLeDiff, t7, d10]
 refine hN _ ?_; clear hN N
 refine W_f (fun t => t 0 = v ∧ t 1 = .sc (.int .i64 (i : Nat)) ∧ t 2 = .rs oV 0 3 1 (some 1) ∧ t 7 = .sc (.int .i64 ((1 : Nat) : Int)) ∧ True) ?_; rintro t ⟨t0, t1, t2, t7, -⟩
 (refine W_seq_gen fun N hN => ?_); simp (disch := omega) only [go_sem, ↓reduceIte, Nat.reduceEqDiff, Nat.reduceLeDiff, t0, hlenD]
 refine hN _ ?_; clear hN N
 refine W_f (fun t => t 0 = v ∧ t 1 = .sc (.int .i64 (i : Nat)) ∧ t 2 = .rs oV 0 3 1 (some 1) ∧ t 7 = .sc (.int .i64 ((1 : Nat) : Int)) ∧ t 8 = .sc (.int .i64 (es.length : Nat)) ∧ True) ?_; rintro t ⟨t0, t1, t2, t7, t8, -⟩
 by_cases cn : i = es.length
 ·have d1 : decide (i = es.length) = true := by simpa using cn
  simp (disch := omega) only [go_sem, ↓reduceIte, Nat.reduceEqDiff, Nat.reduceLeDiff, t0, t1, t2, t8, d1, hev]
  refine row_app hR hk hg hge (by simp) rfl (by simp; omega) fun x h2 a1 a2 a3 => ?_
  simp (disch := omega) only [go_sem, ↓reduceIte, Nat.reduceEqDiff, Nat.reduceLeDiff]
  refine ⟨?_, a2, ?_⟩
  ·have e1 : es.take i = es := by rw [cn, List.take_length]
   have e2 : es.drop i = [] := by rw [cn, List.drop_length]
   rw [e1, e2]
   exact a1
  ·exact a3
 ·have d1 : decide (i = es.length) = false := by simpa using cn
  have hil : i < es.length := by omega
  rcases id hR with ⟨rfl, rfl⟩ | ⟨⟨own, rfl⟩, rfl⟩ | ⟨o, cap, z, f1, rfl, f2, f3, f4, f5⟩
  ·simp at hil
  ·simp at hil
  have hoo : o ≠ oV := fun e => hne (by rw [e]; rfl)
  have hm1 := IntKind.wrap_i64
  (refine W_seq_gen fun N hN => ?_); simp (disch := omega) only [go_sem, ↓reduceIte, Nat.reduceEqDiff, Nat.reduceLeDiff, t1, t8, d1]
  refine hN _ ?_; clear hN N
  (refine W_seq_gen fun R hR => ?_)
  have hcap : ∀ (t : Nat → AV) (h : Heap), aexCap t h (.rs o 0 3 es.length (some cap)) = some (.val (.sc (.int .i64 (cap : Nat))) t h) := fun t h => rfl
  (refine W_seq_gen fun N hN => ?_); simp (disch := omega) only [go_sem, ↓reduceIte, Nat.reduceEqDiff, Nat.reduceLeDiff, t0, t7, t8, hcap, nat_add]
  refine hN _ ?_; clear hN N
  by_cases cc : cap = es.length
  ·
   have d2 : decide (cap < es.length + 1) = true := by simp; omega
   refine W_f (fun t => t 0 = .rs o 0 3 es.length (some cap) ∧ t 1 = .sc (.int .i64 (i : Nat)) ∧ t 2 = .rs oV 0 3 1 (some 1) ∧ t 7 = .sc (.int .i64 ((1 : Nat) : Int)) ∧ t 8 = .sc (.int .i64 (es.length : Nat)) ∧ t 31 = .sc (.bool (decide (cap < es.length + 1))) ∧ True) ?_; rintro t ⟨t0, t1, t2, t7, t8, t31, -⟩
   rw [d2] at t31
   refine ⟨true, t31, fun _ => ?_, fun h => Bool.noConfusion h⟩
   have hs1 : ((es.length + 1 : Nat) : Int) - ((i : Nat) : Int) = ((es.length + 1 - i : Nat) : Int) := by omega
   have hsa : ∀ (t : Nat → AV) (h : Heap), aexSlc 3 t h none (some (.sc (.int .i64 (i : Nat)))) none (.rs o 0 3 es.length (some cap)) = some (.val (.rs o 0 3 i (some cap)) t h) := fun t h => by
    rw [slc_rs (.inl ⟨rfl, rfl⟩) (.inr ⟨_, rfl⟩) (Nat.zero_le _) (by omega)]
    simp
   have hz0 : (([AV.sc (.int .i64 ((0 : Nat) : Int)), AV.sc (.int .i64 ((0 : Nat) : Int)), AV.sc (.slice none 0 0)] : List AV) : List AV).length = 3 := rfl
   have hgz : GE 3 (List.replicate (es.length + 1 - i) ([AV.sc (.int .i64 ((0 : Nat) : Int)), AV.sc (.int .i64 ((0 : Nat) : Int)), AV.sc (.slice none 0 0)] : List AV)) := fun x hx => by
    obtain ⟨_, rfl⟩ := List.mem_replicate.1 hx
    exact ⟨rfl, rfl⟩
   have happ : ∀ (t : Nat → AV), aexApzO 3 40 ([AV.sc (.int .i64 ((0 : Nat) : Int)), AV.sc (.int .i64 ((0 : Nat) : Int)), AV.sc (.slice none 0 0)] : List AV) t h (.rs o 0 3 i (some cap)) ((es.length + 1 - i : Nat) : Int) = some (grownO 3 ([AV.sc (.int .i64 ((0 : Nat) : Int)), AV.sc (.int .i64 ((0 : Nat) : Int)), AV.sc (.slice none 0 0)] : List AV) ((es.take i).flatten ++ (List.replicate (es.length + 1 - i) ([AV.sc (.int .i64 ((0 : Nat) : Int)), AV.sc (.int .i64 ((0 : Nat) : Int)), AV.sc (.slice none 0 0)] : List AV)).flatten) (es.length + 1) t) := fun t => by
    have q1 : ((0 : Int) ≤ ((es.length + 1 - i : Nat) : Int) ∧ ((es.length + 1 - i : Nat) : Int) * ((40 : Nat) : Int) ≤ 2 ^ 47) := ⟨by omega, by omega⟩
    have q2 : ¬ (List.replicate (es.length + 1 - i) (([AV.sc (.int .i64 ((0 : Nat) : Int)), AV.sc (.int .i64 ((0 : Nat) : Int)), AV.sc (.slice none 0 0)] : List AV) : List AV)).length = 0 := by simp; omega
    have q3 : 0 + cap * 3 ≤ (es.flatten ++ z).length ∧ i ≤ cap := by
     rw [List.length_append, hg.len, f4, ← Nat.add_mul]
     have : es.length + (cap - es.length) = cap := by omega
     rw [this]
     omega
    have q4 : ¬ i + (List.replicate (es.length + 1 - i) (([AV.sc (.int .i64 ((0 : Nat) : Int)), AV.sc (.int .i64 ((0 : Nat) : Int)), AV.sc (.slice none 0 0)] : List AV) : List AV)).length ≤ cap := by simp; omega
    have q5 : ¬ (i + (List.replicate (es.length + 1 - i) (([AV.sc (.int .i64 ((0 : Nat) : Int)), AV.sc (.int .i64 ((0 : Nat) : Int)), AV.sc (.slice none 0 0)] : List AV) : List AV)).length) * 40 > 2 ^ 47 := by simp; omega
    have q6 : ((es.flatten ++ z).drop 0).take (i * 3) = (es.take i).flatten := by
     rw [List.drop_zero, fl_split i, List.take_left' (fl_len hg (by omega))]
    have q7 : i + (List.replicate (es.length + 1 - i) (([AV.sc (.int .i64 ((0 : Nat) : Int)), AV.sc (.int .i64 ((0 : Nat) : Int)), AV.sc (.slice none 0 0)] : List AV) : List AV)).length = es.length + 1 := by simp; omega
    have q8 : ¬ es.length + 1 ≤ cap := by omega
    have q9 : ¬ (es.length + 1) * 40 > 2 ^ 47 := by omega
    unfold aexApzO
    rw [if_pos q1]
    simp only [aexAppO, Int.toNat_natCast, ne_eq, not_true_eq_false, if_false, if_neg q2, f5, if_pos q3, q6, q7, if_neg q8, if_neg q9]
   have hgz2 : GE 3 (es.take i ++ List.replicate (es.length + 1 - i) ([AV.sc (.int .i64 ((0 : Nat) : Int)), AV.sc (.int .i64 ((0 : Nat) : Int)), AV.sc (.slice none 0 0)] : List AV)) := (GE.take hg i).app hgz
   have hrep : (List.replicate (es.length + 1 - i) (([AV.sc (.int .i64 ((0 : Nat) : Int)), AV.sc (.int .i64 ((0 : Nat) : Int)), AV.sc (.slice none 0 0)] : List AV) : List AV)).flatten = ([AV.sc (.int .i64 ((0 : Nat) : Int)), AV.sc (.int .i64 ((0 : Nat) : Int)), AV.sc (.slice none 0 0)] : List AV) ++ (List.replicate (es.length - i) ([AV.sc (.int .i64 ((0 : Nat) : Int)), AV.sc (.int .i64 ((0 : Nat) : Int)), AV.sc (.slice none 0 0)] : List AV)).flatten := by
    rw [show es.length + 1 - i = (es.length - i) + 1 by omega, List.replicate_succ, List.flatten_cons]
   have hdisc : ((es.take i).flatten ++ (List.replicate (es.length + 1 - i) (([AV.sc (.int .i64 ((0 : Nat) : Int)), AV.sc (.int .i64 ((0 : Nat) : Int)), AV.sc (.slice none 0 0)] : List AV) : List AV)).flatten).map AV.disc = (es.take i).flatten ++ (([AV.sc (.int .i64 ((0 : Nat) : Int)), AV.sc (.int .i64 ((0 : Nat) : Int)), AV.sc (.slice none 0 0)] : List AV) ++ (List.replicate (es.length - i) ([AV.sc (.int .i64 ((0 : Nat) : Int)), AV.sc (.int .i64 ((0 : Nat) : Int)), AV.sc (.slice none 0 0)] : List AV)).flatten) := by
    rw [← List.flatten_append, hgz2.disc, List.flatten_append, hrep]
   (refine W_seq_gen fun N hN => ?_); simp (disch := omega) only [go_sem, ↓reduceIte, Nat.reduceEqDiff, Nat.reduceLeDiff, t0, t1, t2, t7, t8, nat_add, hs1, hsa, happ]
   rw [hdisc]
   obtain ⟨zr2, hzr2⟩ : ∃ zr2, zr2 = (List.replicate (es.length - i) (([AV.sc (.int .i64 ((0 : Nat) : Int)), AV.sc (.int .i64 ((0 : Nat) : Int)), AV.sc (.slice none 0 0)] : List AV) : List AV)).flatten := ⟨_, rfl⟩
   have hz2l : zr2.length = (es.length - i) * 3 := by rw [hzr2, rep_flat]; rfl
   rw [← hzr2]
   obtain ⟨zr, hzr⟩ : ∃ zr, zr = ([AV.sc (.int .i64 ((0 : Nat) : Int)), AV.sc (.int .i64 ((0 : Nat) : Int)), AV.sc (.slice none 0 0)] : List AV) ++ zr2 := ⟨_, rfl⟩
   have hzl : zr.length = (es.length + 1 - i) * 3 := by
    rw [hzr, List.length_append, hz2l, show es.length + 1 - i = (es.length - i) + 1 by omega, Nat.succ_mul, Nat.add_comm]
    rfl
   have hzd : zr.drop 3 = zr2 := by rw [hzr, List.drop_left' (show (([AV.sc (.int .i64 ((0 : Nat) : Int)), AV.sc (.int .i64 ((0 : Nat) : Int)), AV.sc (.slice none 0 0)] : List AV) : List AV).length = 3 from rfl)]
   rw [← hzr]
   clear hzr hzr2 hdisc hrep
   intro b c2 hb hle
   have hob : o ≠ b := fun e => by rw [e, hb] at f5; cases f5
   have hVb : oV ≠ b := fun e => by rw [e, hb] at hoV; cases hoV
   generalize hsp : (List.replicate (c2 - (es.length + 1)) (([AV.sc (.int .i64 ((0 : Nat) : Int)), AV.sc (.int .i64 ((0 : Nat) : Int)), AV.sc (.slice none 0 0)] : List AV) : List AV)).flatten = sp
   have hspl : sp.length = (c2 - (es.length + 1)) * 3 := by rw [← hsp, rep_flat]; rfl
   clear hsp
   refine hN _ ?_; clear hN N
   refine W_f (fun t => t 0 = .rs o 0 3 es.length (some cap) ∧ t 1 = .sc (.int .i64 (i : Nat)) ∧ t 2 = .rs oV 0 3 1 (some 1) ∧ t 7 = .sc (.int .i64 ((1 : Nat) : Int)) ∧ t 9 = .rs b 0 3 (es.length + 1) (some c2) ∧ True) ?_; rintro t ⟨t0, t1, t2, t7, t9, -⟩
   have hcl : ((es.take i).flatten ++ zr ++ sp).length = c2 * 3 := by
    rw [List.length_append, List.length_append, fl_len hg hi, hzl, hspl, ← Nat.add_mul, ← Nat.add_mul]
    congr 1
    omega
   have hti : (es.take i).length = i := by rw [List.length_take, Nat.min_eq_left (by omega)]
   have hset1 : setRange ((es.take i).flatten ++ zr ++ sp) (i * 3) e = (es.take i ++ [e]).flatten ++ (zr2 ++ sp) := by
    rw [List.append_assoc, set_fl (GE.take hg i) hti.symm rfl, List.flatten_append, List.append_assoc, he.1, List.drop_append_of_le_length (by rw [hzl]; exact Nat.le_mul_of_pos_left _ (by omega)), hzd]
    simp
   have hslb1 : ∀ (t : Nat → AV) (h : Heap), aexSlc 3 t h (some (.sc (.int .i64 (i : Nat)))) none none (.rs b 0 3 (es.length + 1) (some c2)) = some (.val (.rs b (i * 3) 3 (es.length + 1 - i) (some (c2 - i))) t h) := fun t h => by
    rw [slc_rs (.inr ⟨_, rfl⟩) (.inl ⟨rfl, rfl⟩) (by omega) hle, Nat.zero_add]
   have hq1 : i * 3 + (es.length + 1 - i) * 3 ≤ ((es.take i).flatten ++ zr ++ sp).length := by
    rw [hcl, ← Nat.add_mul]
    exact Nat.mul_le_mul_right _ (by omega)
   have hq2 : ([e].take (es.length + 1 - i)).flatten.map AV.disc = e := by
    rw [List.take_of_length_le (by simp; omega)]
    simp [he.2]
   have hVV : ∀ X, elemsOf (upd h b X) 3 (.rs oV 0 3 1 (some 1)) = some [e] := fun X => by
    rw [← hev]
    simp only [elemsOf, upd_ne _ _ hVb]
   have hcp1 := fun (t : Nat → AV) => cpy_rs (t := t) (lim := some (c2 - i)) (ys := [e]) (o2 := oV) (c2 := 0) (s2 := 3) (n2 := 1) (l2 := some 1) (upd_same h b (some (.arr ((es.take i).flatten ++ zr ++ sp)))) hq1
   rw [hq2, hset1] at hcp1
   (refine W_seq_gen fun N hN => ?_); simp (disch := omega) only [go_sem, ↓reduceIte, Nat.reduceEqDiff, Nat.reduceLeDiff, t1, t2, t9, hslb1, hVV, hcp1, upd2h]
   refine hN _ ?_; clear hN N
   refine W_f (fun t => t 0 = .rs o 0 3 es.length (some cap) ∧ t 1 = .sc (.int .i64 (i : Nat)) ∧ t 7 = .sc (.int .i64 ((1 : Nat) : Int)) ∧ t 9 = .rs b 0 3 (es.length + 1) (some c2) ∧ True) ?_; rintro t ⟨t0, t1, t7, t9, -⟩
   (refine W_seq_gen fun N hN => ?_)
   refine ln29_46 ?_
   have hslb2 : ∀ (t : Nat → AV) (h : Heap), aexSlc 3 t h (some (.sc (.int .i64 ((i + 1 : Nat) : Int)))) none none (.rs b 0 3 (es.length + 1) (some c2)) = some (.val (.rs b ((i + 1) * 3) 3 (es.length - i) (some (c2 - (i + 1)))) t h) := fun t h => by
    rw [slc_rs (.inr ⟨_, rfl⟩) (.inl ⟨rfl, rfl⟩) (by omega) hle, Nat.zero_add, show es.length + 1 - (i + 1) = es.length - i by omega]
   have hslo : ∀ (t : Nat → AV) (h : Heap), aexSlc 3 t h (some (.sc (.int .i64 (i : Nat)))) none none (.rs o 0 3 es.length (some cap)) = some (.val (.rs o (i * 3) 3 (es.length - i) (some (cap - i))) t h) := fun t h => by
    rw [slc_rs (.inr ⟨_, rfl⟩) (.inl ⟨rfl, rfl⟩) (by omega) f3, Nat.zero_add]
   have hOO : ∀ X, elemsOf (upd h b X) 3 (.rs o (i * 3) 3 (es.length - i) (some (cap - i))) = some (es.drop i) := fun X => elems_rs hg (by rw [upd_ne _ _ hob]; exact f5) hi rfl
   have hgt1 : GE 3 (es.take i ++ [e]) := (GE.take hg i).app hge
   have hq3 : (i + 1) * 3 + (es.length - i) * 3 ≤ ((es.take i ++ [e]).flatten ++ (zr2 ++ sp)).length := by
    rw [List.length_append, hgt1.len, List.length_append, hti, List.length_singleton, List.length_append, hz2l]
    omega
   have hset2 : setRange ((es.take i ++ [e]).flatten ++ (zr2 ++ sp)) ((i + 1) * 3) (((es.drop i).take (es.length - i)).flatten.map AV.disc) = (es.take i ++ e :: es.drop i).flatten ++ sp := by
    have a1 : (es.drop i).take (es.length - i) = es.drop i := List.take_of_length_le (by simp)
    have a2 : (es.drop i).flatten.length = zr2.length := by rw [(GE.drop hg i).len, List.length_drop, hz2l]
    rw [a1, (GE.drop hg i).disc, set_fl hgt1 (by rw [List.length_append, hti, List.length_singleton]) rfl, a2, List.drop_left]
    simp
   have hcp2 := fun (t : Nat → AV) => cpy_rs (t := t) (lim := some (c2 - (i + 1))) (ys := es.drop i) (o2 := o) (c2 := i * 3) (s2 := 3) (n2 := es.length - i) (l2 := some (cap - i)) (upd_same h b (some (.arr ((es.take i ++ [e]).flatten ++ (zr2 ++ sp))))) hq3
   rw [hset2] at hcp2
   simp (disch := omega) only [go_sem, ↓reduceIte, Nat.reduceEqDiff, Nat.reduceLeDiff, t0, t1, t7, t9, nat_add, hslb2, hslo, hOO, hcp2, upd2h]
   refine hN _ ?_; clear hN N
   simp (disch := omega) only [go_sem, ↓reduceIte, Nat.reduceEqDiff, Nat.reduceLeDiff, t9]
   have hnl : (es.take i ++ e :: es.drop i).length = es.length + 1 := by simp; omega
   refine ⟨.inr (.inr ⟨b, c2, sp, ?_, by rw [hnl], by omega, by rw [hnl]; exact hle, by rw [hnl]; exact hspl, by simp [upd]⟩), fun x hx _ => ?_, .inr fun o' ho' => by cases ho'; exact hb⟩
   ·cases hq : h0 b with
    | none => rfl
    | some X => exact absurd hb (hk b (by rw [hq]; simp))
   ·have : x ≠ b := fun e => hx (by rw [e]; exact hb)
    simp [upd, this]
  ·
   have hcl : es.length < cap := by omega
   have d2 : decide (cap < es.length + 1) = false := by simp; omega
   refine W_f (fun t => t 0 = .rs o 0 3 es.length (some cap) ∧ t 1 = .sc (.int .i64 (i : Nat)) ∧ t 2 = .rs oV 0 3 1 (some 1) ∧ t 7 = .sc (.int .i64 ((1 : Nat) : Int)) ∧ t 8 = .sc (.int .i64 (es.length : Nat)) ∧ t 31 = .sc (.bool (decide (cap < es.length + 1))) ∧ True) ?_; rintro t ⟨t0, t1, t2, t7, t8, t31, -⟩
   rw [d2] at t31
   refine ⟨false, t31, fun h => Bool.noConfusion h, fun _ => ?_⟩
   refine hR _ ?_; clear hR R
   have hsx : ∀ (t : Nat → AV) (h : Heap), aexSlc 3 t h none (some (.sc (.int .i64 ((es.length + 1 : Nat) : Int)))) none (.rs o 0 3 es.length (some cap)) = some (.val (.rs o 0 3 (es.length + 1) (some cap)) t h) := fun t h => by
    rw [slc_rs (.inl ⟨rfl, rfl⟩) (.inr ⟨_, rfl⟩) (Nat.zero_le _) (by omega)]
    simp
   (refine W_seq_gen fun N hN => ?_); simp (disch := omega) only [go_sem, ↓reduceIte, Nat.reduceEqDiff, Nat.reduceLeDiff, t0, t7, t8, nat_add, hsx]
   refine hN _ ?_; clear hN N
   refine W_f (fun t => t 0 = .rs o 0 3 (es.length + 1) (some cap) ∧ t 1 = .sc (.int .i64 (i : Nat)) ∧ t 2 = .rs oV 0 3 1 (some 1) ∧ t 7 = .sc (.int .i64 ((1 : Nat) : Int)) ∧ True) ?_; rintro t ⟨t0, t1, t2, t7, -⟩
   have hs1 : ∀ (t : Nat → AV) (h : Heap), aexSlc 3 t h (some (.sc (.int .i64 ((i + 1 : Nat) : Int)))) none none (.rs o 0 3 (es.length + 1) (some cap)) = some (.val (.rs o ((i + 1) * 3) 3 (es.length - i) (some (cap - (i + 1)))) t h) := fun t h => by
    rw [slc_rs (.inr ⟨_, rfl⟩) (.inl ⟨rfl, rfl⟩) (by omega) (by omega), Nat.zero_add, show es.length + 1 - (i + 1) = es.length - i by omega]
   have hs0 : ∀ (t : Nat → AV) (h : Heap), aexSlc 3 t h (some (.sc (.int .i64 (i : Nat)))) none none (.rs o 0 3 (es.length + 1) (some cap)) = some (.val (.rs o (i * 3) 3 (es.length + 1 - i) (some (cap - i))) t h) := fun t h => by
    rw [slc_rs (.inr ⟨_, rfl⟩) (.inl ⟨rfl, rfl⟩) (by omega) (by omega), Nat.zero_add]
   (refine W_seq_gen fun R hR => ?_)
   (refine W_seq_gen fun N hN => ?_); simp (disch := omega) only [go_sem, ↓reduceIte, Nat.reduceEqDiff, Nat.reduceLeDiff, t0, t1, t2, t7, nat_add, hs1]
   refine (hE hoV f5 hoo.symm (fun q => by have := congrArg List.length q; rw [List.length_append, hg.len, List.length_nil] at this; omega)).to ?_
   rw [contK_some]; simp (disch := omega) only [go_sem, ↓reduceIte, Nat.reduceEqDiff, Nat.reduceLeDiff]
   refine hN _ ?_; clear hN N
   refine W_f (fun t => t 0 = .rs o 0 3 (es.length + 1) (some cap) ∧ t 1 = .sc (.int .i64 (i : Nat)) ∧ t 2 = .rs oV 0 3 1 (some 1) ∧ t 7 = .sc (.int .i64 ((1 : Nat) : Int)) ∧ t 68 = .sc (.bool true) ∧ True) ?_; rintro t ⟨t0, t1, t2, t7, t68, -⟩
   refine ⟨true, t68, fun _ => ?_, fun h => Bool.noConfusion h⟩
   obtain ⟨ys, y1, y2, y3⟩ := elems_more (lim := some (cap - i)) hg f5 (i := i) (k := 1) (n := es.length + 1 - i) hi (by omega) (by rw [f4, Nat.one_mul]; exact Nat.le_mul_of_pos_left _ (by omega))
   have hzz : 3 ≤ z.length := by rw [f4]; exact Nat.le_mul_of_pos_left _ (by omega)
   have hfl : (es.flatten ++ z).length = cap * 3 := by
    rw [List.length_append, hg.len, f4, ← Nat.add_mul]
    congr 1
    omega
   have hq1 : (i + 1) * 3 + (es.length - i) * 3 ≤ (es.flatten ++ z).length := by
    rw [hfl, ← Nat.add_mul]
    exact Nat.mul_le_mul_right _ (by omega)
   have hset1 : setRange (es.flatten ++ z) ((i + 1) * 3) ((ys.take (es.length - i)).flatten.map AV.disc) = (es.take (i + 1) ++ es.drop i).flatten ++ z.drop 3 := by
    have hgd := GE.drop hg i
    have a1 : (es.take (i + 1)).length = i + 1 := by rw [List.length_take, Nat.min_eq_left (by omega)]
    have a3 : ((es.drop (i + 1)).flatten ++ z).drop (es.drop i).flatten.length = z.drop 3 := by
     have b1 : (es.drop (i + 1)).flatten.length = (es.length - (i + 1)) * 3 := by rw [(GE.drop hg (i + 1)).len, List.length_drop]
     have b2 : (es.drop i).flatten.length = (es.drop (i + 1)).flatten.length + 3 := by
      rw [hgd.len, List.length_drop, b1, show es.length - i = (es.length - (i + 1)) + 1 by omega, Nat.succ_mul]
     rw [b2, ← List.drop_drop, List.drop_left]
    rw [y2, hgd.disc, fl_split (i + 1), set_fl (GE.take hg (i + 1)) a1.symm rfl, a3]
    simp
   have hcp1 := fun (t : Nat → AV) => cpy_rs (t := t) (lim := some (cap - (i + 1))) (ys := ys) (o2 := o) (c2 := i * 3) (s2 := 3) (n2 := es.length + 1 - i) (l2 := some (cap - i)) f5 hq1
   rw [hset1] at hcp1
   (refine W_seq_gen fun N hN => ?_)
   refine ln29_69 ?_
   simp (disch := omega) only [go_sem, ↓reduceIte, Nat.reduceEqDiff, Nat.reduceLeDiff, t0, t1, t7, nat_add, hs1, hs0, y1, hcp1]
   refine hN _ ?_; clear hN N
   refine W_f (fun t => t 0 = .rs o 0 3 (es.length + 1) (some cap) ∧ t 1 = .sc (.int .i64 (i : Nat)) ∧ t 2 = .rs oV 0 3 1 (some 1) ∧ True) ?_; rintro t ⟨t0, t1, t2, -⟩
   have htk : es.take (i + 1) = es.take i ++ [es[i]] := by rw [List.take_add_one, List.getElem?_eq_getElem hil]; rfl
   have hei : es[i].length = 3 := (hg _ (List.getElem_mem hil)).1
   have hti : (es.take i).length = i := by rw [List.length_take, Nat.min_eq_left (by omega)]
   have hset2 : setRange ((es.take (i + 1) ++ es.drop i).flatten ++ z.drop 3) (i * 3) (([e].take (es.length + 1 - i)).flatten.map AV.disc) = (es.take i ++ e :: es.drop i).flatten ++ z.drop 3 := by
    have a0 : ([e].take (es.length + 1 - i)).flatten.map AV.disc = e := by
     rw [List.take_of_length_le (by simp; omega)]
     simp [he.2]
    have a1 : (es.take (i + 1) ++ es.drop i).flatten ++ z.drop 3 = (es.take i).flatten ++ (es[i] ++ ((es.drop i).flatten ++ z.drop 3)) := by
     rw [htk]
     simp only [List.flatten_append, List.flatten_cons, List.flatten_nil, List.append_nil, List.append_assoc]
    rw [a0, a1, set_fl (GE.take hg i) hti.symm rfl, he.1, ← hei, List.drop_left]
    simp
   have hq2 : i * 3 + (es.length + 1 - i) * 3 ≤ ((es.take (i + 1) ++ es.drop i).flatten ++ z.drop 3).length := by
    rw [List.length_append, List.length_drop, ((GE.take hg (i + 1)).app (GE.drop hg i)).len, List.length_append, List.length_take, Nat.min_eq_left (by omega), List.length_drop, ← Nat.add_mul, f4]
    have : i + (es.length + 1 - i) = (i + 1 + (es.length - i)) := by omega
    rw [this]
    exact Nat.le_add_right _ _
   have hVV : ∀ X, elemsOf (upd h o X) 3 (.rs oV 0 3 1 (some 1)) = some [e] := fun X => by
    rw [← hev]
    simp only [elemsOf, upd_ne _ _ hoo.symm]
   have hcp2 := fun (t : Nat → AV) => cpy_rs (t := t) (lim := some (cap - i)) (ys := [e]) (o2 := oV) (c2 := 0) (s2 := 3) (n2 := 1) (l2 := some 1) (upd_same h o (some (.arr ((es.take (i + 1) ++ es.drop i).flatten ++ z.drop 3)))) hq2
   rw [hset2] at hcp2
   simp (disch := omega) only [go_sem, ↓reduceIte, Nat.reduceEqDiff, Nat.reduceLeDiff, t0, t1, t2, hs0, hVV, hcp2, upd2h]
   have hnl : (es.take i ++ e :: es.drop i).length = es.length + 1 := by simp; omega
   refine ⟨.inr (.inr ⟨o, cap, z.drop 3, f1, by rw [hnl], by omega, by rw [hnl]; omega, ?_, by simp [upd]⟩), fun x hx hx2 => ?_, .inl rfl⟩
   ·rw [hnl, List.length_drop, f4, show cap - es.length = (cap - (es.length + 1)) + 1 by omega, Nat.succ_mul, Nat.add_sub_cancel]
   ·have : x ≠ o := fun e => hx2 (by rw [e]; rfl)
    simp [upd, this]
set_option maxHeartbeats 1000000 in
theorem insC_ok {h0 h : Heap} {v : AV} {es : List (List AV)} {e : List AV} {i oV : Nat} (hR : Row h0 h 2 v es) (hk : ∀ x, h0 x ≠ none → h x ≠ none) (hg : GE 2 es) (he : e.length = 2 ∧ e.map AV.disc = e) (hi : i ≤ es.length) (hl : es.length ≤ 2 ^ 30)
  (hoV : h oV = some (.arr e)) (hne : oid v ≠ some oV) (hE : ∀ {o1 c1 s1 n1 o2 c2 s2 n2 : Nat} {l1 l2 : Option Nat} {cs1 cs2 : List AV} {h : Heap}, h o1 = some (.arr cs1) → h o2 = some (.arr cs2) → o1 ≠ o2 → cs2 ≠ [] → AWF P ann 0 57 [.rs o1 c1 s1 n1 l1, .rs o2 c2 s2 n2 l2] h fun v h' => v = .sc (.bool false) ∧ h' = h) :
  AWF P ann 1 37 [v, .sc (.int .i64 (i : Nat)), .rs oV 0 2 1 (some 1)] h fun r h' => Row h0 h' 2 r (es.take i ++ e :: es.drop i) ∧ Only h h' v ∧ OidR h v r := by
 refine AWF.fnc H.f1_37 rfl ?_
 have hge : GE 2 [e] := fun x hx => by rw [List.mem_singleton] at hx; subst hx; exact he
 have hev : elemsOf h 2 (.rs oV 0 2 1 (some 1)) = some [e] := by
  simp [elemsOf, hoV, chunks, he.1, he.2]
  rw [← he.1, List.take_length]
 have hlen : ∀ (t : Nat → AV) (h : Heap), aexLen 0 t h v = some (.val (.sc (.int .i64 (es.length : Nat))) t h) := fun t h => by
  rcases hR with ⟨rfl, rfl⟩ | ⟨⟨_, rfl⟩, rfl⟩ | ⟨_, _, _, _, rfl, _⟩ <;> rfl
 have hdis : v.dis.dis = v.dis := by rcases hR with ⟨rfl, rfl⟩ | ⟨⟨_, rfl⟩, rfl⟩ | ⟨_, _, _, _, rfl, _⟩ <;> rfl
 have hlenD : ∀ (t : Nat → AV) (h : Heap), aexLen 0 t h v.dis = some (.val (.sc (.int .i64 (es.length : Nat))) t h) := fun t h => by
  rcases hR with ⟨rfl, rfl⟩ | ⟨⟨_, rfl⟩, rfl⟩ | ⟨_, _, _, _, rfl, _⟩ <;> rfl
 have hsl : ∃ w, ∀ (t : Nat → AV) (h : Heap), aexSlc 2 t h (some (.sc (.int .i64 (i : Nat)))) none none v.dis = some (.val w t h) := by
  rcases hR with ⟨rfl, rfl⟩ | ⟨⟨own, rfl⟩, rfl⟩ | ⟨o, cap, z, _, rfl, _, hc, _⟩
  ·obtain rfl : i = 0 := by simpa using hi
   exact ⟨_, fun t h => rfl⟩
  ·obtain rfl : i = 0 := by simpa using hi
   exact ⟨_, fun t h => rfl⟩
  ·exact ⟨_, fun t h => slc_rs (.inr ⟨_, rfl⟩) (.inl ⟨rfl, rfl⟩) hi hc⟩
 obtain ⟨w, hsl⟩ := hsl
 have nl : ∀ (t : Nat → AV) (h : Heap), aexLen 0 t h (.rs oV 0 2 1 (some 1)) = some (.val (.sc (.int .i64 ((1 : Nat) : Int))) t h) := fun t h => rfl
 (refine W_seq_gen fun N hN => ?_); simp (disch := omega) only [go_sem, ↓reduceIte, Nat.reduceEqDiff, Nat.reduceLeDiff]
 refine hN _ ?_; clear hN N
 refine W_f (fun t => t 0 = v ∧ t 1 = .sc (.int .i64 (i : Nat)) ∧ t 2 = .rs oV 0 2 1 (some 1) ∧ True) ?_; rintro t ⟨t0, t1, t2, -⟩
 (refine W_seq_gen fun N hN => ?_); simp (disch := omega) only [go_sem, ↓reduceIte, Nat.reduceEqDiff, Nat.reduceLeDiff, t0, t1, hsl]
 refine hN _ ?_; clear hN N
 refine W_f (fun t => t 0 = v ∧ t 1 = .sc (.int .i64 (i : Nat)) ∧ t 2 = .rs oV 0 2 1 (some 1) ∧ True) ?_; rintro t ⟨t0, t1, t2, -⟩
 (refine W_seq_gen fun N hN => ?_); simp (disch := omega) only [go_sem, ↓reduceIte, Nat.reduceEqDiff, Nat.reduceLeDiff, t2, nl]
 refine hN _ ?_; clear hN N
 refine W_f (fun t => t 0 = v ∧ t 1 = .sc (.int .i64 (i : Nat)) ∧ t 2 = .rs oV 0 2 1 (some 1) ∧ t 7 = .sc (.int .i64 ((1 : Nat) : Int)) ∧ True) ?_; rintro t ⟨t0, t1, t2, t7, -⟩
 have d10 : decide ((1 : Nat) = 0) = false := rfl
 (refine W_seq_gen fun N hN => ?_); simp (disch := omega) only [go_sem, ↓reduceIte, Nat.reduceEqDiff, Nat.reduceLeDiff, t7, d10]
 refine hN _ ?_; clear hN N
 refine W_f (fun t => t 0 = v ∧ t 1 = .sc (.int .i64 (i : Nat)) ∧ t 2 = .rs oV 0 2 1 (some 1) ∧ t 7 = .sc (.int .i64 ((1 : Nat) : Int)) ∧ True) ?_; rintro t ⟨t0, t1, t2, t7, -⟩
 (refine W_seq_gen fun N hN => ?_); simp (disch := omega) only [go_sem, ↓reduceIte, Nat.reduceEqDiff, Nat.reduceLeDiff, t0, hlenD]
 refine hN _ ?_; clear hN N
 refine W_f (fun t => t 0 = v ∧ t 1 = .sc (.int .i64 (i : Nat)) ∧ t 2 = .rs oV 0 2 1 (some 1) ∧ t 7 = .sc (.int .i64 ((1 : Nat) : Int)) ∧ t 8 = .sc (.int .i64 (es.length : Nat)) ∧ True) ?_; rintro t ⟨t0, t1, t2, t7, t8, -⟩
 by_cases cn : i = es.length
 ·have d1 : decide (i = es.length) = true := by simpa using cn
  simp (disch := omega) only [go_sem, ↓reduceIte, Nat.reduceEqDiff, Nat.reduceLeDiff, t0, t1, t2, t8, d1, hev]
  refine row_app hR hk hg hge (by simp) rfl (by simp; omega) fun x h2 a1 a2 a3 => ?_
  simp (disch := omega) only [go_sem, ↓reduceIte, Nat.reduceEqDiff, Nat.reduceLeDiff]
  refine ⟨?_, a2, ?_⟩
  ·have e1 : es.take i = es := by rw [cn, List.take_length]
   have e2 : es.drop i = [] := by rw [cn, List.drop_length]
   rw [e1, e2]
   exact a1
  ·exact a3
 ·have d1 : decide (i = es.length) = false := by simpa using cn
  have hil : i < es.length := by omega
  rcases id hR with ⟨rfl, rfl⟩ | ⟨⟨own, rfl⟩, rfl⟩ | ⟨o, cap, z, f1, rfl, f2, f3, f4, f5⟩
  ·simp at hil
  ·simp at hil
  have hoo : o ≠ oV := fun e => hne (by rw [e]; rfl)
  have hm1 := IntKind.wrap_i64
  (refine W_seq_gen fun N hN => ?_); simp (disch := omega) only [go_sem, ↓reduceIte, Nat.reduceEqDiff, Nat.reduceLeDiff, t1, t8, d1]
  refine hN _ ?_; clear hN N
  (refine W_seq_gen fun R hR => ?_)
  have hcap : ∀ (t : Nat → AV) (h : Heap), aexCap t h (.rs o 0 2 es.length (some cap)) = some (.val (.sc (.int .i64 (cap : Nat))) t h) := fun t h => rfl
  (refine W_seq_gen fun N hN => ?_); simp (disch := omega) only [go_sem, ↓reduceIte, Nat.reduceEqDiff, Nat.reduceLeDiff, t0, t7, t8, hcap, nat_add]
  refine hN _ ?_; clear hN N
  by_cases cc : cap = es.length
  ·
   have d2 : decide (cap < es.length + 1) = true := by simp; omega
   refine W_f (fun t => t 0 = .rs o 0 2 es.length (some cap) ∧ t 1 = .sc (.int .i64 (i : Nat)) ∧ t 2 = .rs oV 0 2 1 (some 1) ∧ t 7 = .sc (.int .i64 ((1 : Nat) : Int)) ∧ t 8 = .sc (.int .i64 (es.length : Nat)) ∧ t 31 = .sc (.bool (decide (cap < es.length + 1))) ∧ True) ?_; rintro t ⟨t0, t1, t2, t7, t8, t31, -⟩
   rw [d2] at t31
   refine ⟨true, t31, fun _ => ?_, fun h => Bool.noConfusion h⟩
   have hs1 : ((es.length + 1 : Nat) : Int) - ((i : Nat) : Int) = ((es.length + 1 - i : Nat) : Int) := by omega
   have hsa : ∀ (t : Nat → AV) (h : Heap), aexSlc 2 t h none (some (.sc (.int .i64 (i : Nat)))) none (.rs o 0 2 es.length (some cap)) = some (.val (.rs o 0 2 i (some cap)) t h) := fun t h => by
    rw [slc_rs (.inl ⟨rfl, rfl⟩) (.inr ⟨_, rfl⟩) (Nat.zero_le _) (by omega)]
    simp
   have hz0 : (([AV.sc (.int .i64 ((0 : Nat) : Int)), AV.sc (.int .i64 ((0 : Nat) : Int))] : List AV) : List AV).length = 2 := rfl
   have hgz : GE 2 (List.replicate (es.length + 1 - i) ([AV.sc (.int .i64 ((0 : Nat) : Int)), AV.sc (.int .i64 ((0 : Nat) : Int))] : List AV)) := fun x hx => by
    obtain ⟨_, rfl⟩ := List.mem_replicate.1 hx
    exact ⟨rfl, rfl⟩
   have happ : ∀ (t : Nat → AV), aexApzO 2 16 ([AV.sc (.int .i64 ((0 : Nat) : Int)), AV.sc (.int .i64 ((0 : Nat) : Int))] : List AV) t h (.rs o 0 2 i (some cap)) ((es.length + 1 - i : Nat) : Int) = some (grownO 2 ([AV.sc (.int .i64 ((0 : Nat) : Int)), AV.sc (.int .i64 ((0 : Nat) : Int))] : List AV) ((es.take i).flatten ++ (List.replicate (es.length + 1 - i) ([AV.sc (.int .i64 ((0 : Nat) : Int)), AV.sc (.int .i64 ((0 : Nat) : Int))] : List AV)).flatten) (es.length + 1) t) := fun t => by
    have q1 : ((0 : Int) ≤ ((es.length + 1 - i : Nat) : Int) ∧ ((es.length + 1 - i : Nat) : Int) * ((16 : Nat) : Int) ≤ 2 ^ 47) := ⟨by omega, by omega⟩
    have q2 : ¬ (List.replicate (es.length + 1 - i) (([AV.sc (.int .i64 ((0 : Nat) : Int)), AV.sc (.int .i64 ((0 : Nat) : Int))] : List AV) : List AV)).length = 0 := by simp; omega
    have q3 : 0 + cap * 2 ≤ (es.flatten ++ z).length ∧ i ≤ cap := by
     rw [List.length_append, hg.len, f4, ← Nat.add_mul]
     have : es.length + (cap - es.length) = cap := by omega
     rw [this]
     omega
    have q4 : ¬ i + (List.replicate (es.length + 1 - i) (([AV.sc (.int .i64 ((0 : Nat) : Int)), AV.sc (.int .i64 ((0 : Nat) : Int))] : List AV) : List AV)).length ≤ cap := by simp; omega
    have q5 : ¬ (i + (List.replicate (es.length + 1 - i) (([AV.sc (.int .i64 ((0 : Nat) : Int)), AV.sc (.int .i64 ((0 : Nat) : Int))] : List AV) : List AV)).length) * 16 > 2 ^ 47 := by simp; omega
    have q6 : ((es.flatten ++ z).drop 0).take (i * 2) = (es.take i).flatten := by
     rw [List.drop_zero, fl_split i, List.take_left' (fl_len hg (by omega))]
    have q7 : i + (List.replicate (es.length + 1 - i) (([AV.sc (.int .i64 ((0 : Nat) : Int)), AV.sc (.int .i64 ((0 : Nat) : Int))] : List AV) : List AV)).length = es.length + 1 := by simp; omega
    have q8 : ¬ es.length + 1 ≤ cap := by omega
    have q9 : ¬ (es.length + 1) * 16 > 2 ^ 47 := by omega
    unfold aexApzO
    rw [if_pos q1]
    simp only [aexAppO, Int.toNat_natCast, ne_eq, not_true_eq_false, if_false, if_neg q2, f5, if_pos q3, q6, q7, if_neg q8, if_neg q9]
   have hgz2 : GE 2 (es.take i ++ List.replicate (es.length + 1 - i) ([AV.sc (.int .i64 ((0 : Nat) : Int)), AV.sc (.int .i64 ((0 : Nat) : Int))] : List AV)) := (GE.take hg i).app hgz
   have hrep : (List.replicate (es.length + 1 - i) (([AV.sc (.int .i64 ((0 : Nat) : Int)), AV.sc (.int .i64 ((0 : Nat) : Int))] : List AV) : List AV)).flatten = ([AV.sc (.int .i64 ((0 : Nat) : Int)), AV.sc (.int .i64 ((0 : Nat) : Int))] : List AV) ++ (List.replicate (es.length - i) ([AV.sc (.int .i64 ((0 : Nat) : Int)), AV.sc (.int .i64 ((0 : Nat) : Int))] : List AV)).flatten := by
    rw [show es.length + 1 - i = (es.length - i) + 1 by omega, List.replicate_succ, List.flatten_cons]
   have hdisc : ((es.take i).flatten ++ (List.replicate (es.length + 1 - i) (([AV.sc (.int .i64 ((0 : Nat) : Int)), AV.sc (.int .i64 ((0 : Nat) : Int))] : List AV) : List AV)).flatten).map AV.disc = (es.take i).flatten ++ (([AV.sc (.int .i64 ((0 : Nat) : Int)), AV.sc (.int .i64 ((0 : Nat) : Int))] : List AV) ++ (List.replicate (es.length - i) ([AV.sc (.int .i64 ((0 : Nat) : Int)), AV.sc (.int .i64 ((0 : Nat) : Int))] : List AV)).flatten) := by
    rw [← List.flatten_append, hgz2.disc, List.flatten_append, hrep]
   (refine W_seq_gen fun N hN => ?_); simp (disch := omega) only [go_sem, ↓reduceIte, Nat.reduceEqDiff, Nat.reduceLeDiff, t0, t1, t2, t7, t8, nat_add, hs1, hsa, happ]
   rw [hdisc]
   obtain ⟨zr2, hzr2⟩ : ∃ zr2, zr2 = (List.replicate (es.length - i) (([AV.sc (.int .i64 ((0 : Nat) : Int)), AV.sc (.int .i64 ((0 : Nat) : Int))] : List AV) : List AV)).flatten := ⟨_, rfl⟩
   have hz2l : zr2.length = (es.length - i) * 2 := by rw [hzr2, rep_flat]; rfl
   rw [← hzr2]
   obtain ⟨zr, hzr⟩ : ∃ zr, zr = ([AV.sc (.int .i64 ((0 : Nat) : Int)), AV.sc (.int .i64 ((0 : Nat) : Int))] : List AV) ++ zr2 := ⟨_, rfl⟩
   have hzl : zr.length = (es.length + 1 - i) * 2 := by
    rw [hzr, List.length_append, hz2l, show es.length + 1 - i = (es.length - i) + 1 by omega, Nat.succ_mul, Nat.add_comm]
    rfl
   have hzd : zr.drop 2 = zr2 := by rw [hzr, List.drop_left' (show (([AV.sc (.int .i64 ((0 : Nat) : Int)), AV.sc (.int .i64 ((0 : Nat) : Int))] : List AV) : List AV).length = 2 from rfl)]
   rw [← hzr]
   clear hzr hzr2 hdisc hrep
   intro b c2 hb hle
   have hob : o ≠ b := fun e => by rw [e, hb] at f5; cases f5
   have hVb : oV ≠ b := fun e => by rw [e, hb] at hoV; cases hoV
   generalize hsp : (List.replicate (c2 - (es.length + 1)) (([AV.sc (.int .i64 ((0 : Nat) : Int)), AV.sc (.int .i64 ((0 : Nat) : Int))] : List AV) : List AV)).flatten = sp
   have hspl : sp.length = (c2 - (es.length + 1)) * 2 := by rw [← hsp, rep_flat]; rfl
   clear hsp
   refine hN _ ?_; clear hN N
   refine W_f (fun t => t 0 = .rs o 0 2 es.length (some cap) ∧ t 1 = .sc (.int .i64 (i : Nat)) ∧ t 2 = .rs oV 0 2 1 (some 1) ∧ t 7 = .sc (.int .i64 ((1 : Nat) : Int)) ∧ t 9 = .rs b 0 2 (es.length + 1) (some c2) ∧ True) ?_; rintro t ⟨t0, t1, t2, t7, t9, -⟩
   have hcl : ((es.take i).flatten ++ zr ++ sp).length = c2 * 2 := by
    rw [List.length_append, List.length_append, fl_len hg hi, hzl, hspl, ← Nat.add_mul, ← Nat.add_mul]
    congr 1
    omega
   have hti : (es.take i).length = i := by rw [List.length_take, Nat.min_eq_left (by omega)]
   have hset1 : setRange ((es.take i).flatten ++ zr ++ sp) (i * 2) e = (es.take i ++ [e]).flatten ++ (zr2 ++ sp) := by
    rw [List.append_assoc, set_fl (GE.take hg i) hti.symm rfl, List.flatten_append, List.append_assoc, he.1, List.drop_append_of_le_length (by rw [hzl]; exact Nat.le_mul_of_pos_left _ (by omega)), hzd]
    simp
   have hslb1 : ∀ (t : Nat → AV) (h : Heap), aexSlc 2 t h (some (.sc (.int .i64 (i : Nat)))) none none (.rs b 0 2 (es.length + 1) (some c2)) = some (.val (.rs b (i * 2) 2 (es.length + 1 - i) (some (c2 - i))) t h) := fun t h => by
    rw [slc_rs (.inr ⟨_, rfl⟩) (.inl ⟨rfl, rfl⟩) (by omega) hle, Nat.zero_add]
   have hq1 : i * 2 + (es.length + 1 - i) * 2 ≤ ((es.take i).flatten ++ zr ++ sp).length := by
    rw [hcl, ← Nat.add_mul]
    exact Nat.mul_le_mul_right _ (by omega)
   have hq2 : ([e].take (es.length + 1 - i)).flatten.map AV.disc = e := by
    rw [List.take_of_length_le (by simp; omega)]
    simp [he.2]
   have hVV : ∀ X, elemsOf (upd h b X) 2 (.rs oV 0 2 1 (some 1)) = some [e] := fun X => by
    rw [← hev]
    simp only [elemsOf, upd_ne _ _ hVb]
   have hcp1 := fun (t : Nat → AV) => cpy_rs (t := t) (lim := some (c2 - i)) (ys := [e]) (o2 := oV) (c2 := 0) (s2 := 2) (n2 := 1) (l2 := some 1) (upd_same h b (some (.arr ((es.take i).flatten ++ zr ++ sp)))) hq1
   rw [hq2, hset1] at hcp1
   (refine W_seq_gen fun N hN => ?_); simp (disch := omega) only [go_sem, ↓reduceIte, Nat.reduceEqDiff, Nat.reduceLeDiff, t1, t2, t9, hslb1, hVV, hcp1, upd2h]
   refine hN _ ?_; clear hN N
   refine W_f (fun t => t 0 = .rs o 0 2 es.length (some cap) ∧ t 1 = .sc (.int .i64 (i : Nat)) ∧ t 7 = .sc (.int .i64 ((1 : Nat) : Int)) ∧ t 9 = .rs b 0 2 (es.length + 1) (some c2) ∧ True) ?_; rintro t ⟨t0, t1, t7, t9, -⟩
   (refine W_seq_gen fun N hN => ?_)
   refine ln37_46 ?_
   have hslb2 : ∀ (t : Nat → AV) (h : Heap), aexSlc 2 t h (some (.sc (.int .i64 ((i + 1 : Nat) : Int)))) none none (.rs b 0 2 (es.length + 1) (some c2)) = some (.val (.rs b ((i + 1) * 2) 2 (es.length - i) (some (c2 - (i + 1)))) t h) := fun t h => by
    rw [slc_rs (.inr ⟨_, rfl⟩) (.inl ⟨rfl, rfl⟩) (by omega) hle, Nat.zero_add, show es.length + 1 - (i + 1) = es.length - i by omega]
   have hslo : ∀ (t : Nat → AV) (h : Heap), aexSlc 2 t h (some (.sc (.int .i64 (i : Nat)))) none none (.rs o 0 2 es.length (some cap)) = some (.val (.rs o (i * 2) 2 (es.length - i) (some (cap - i))) t h) := fun t h => by
    rw [slc_rs (.inr ⟨_, rfl⟩) (.inl ⟨rfl, rfl⟩) (by omega) f3, Nat.zero_add]
   have hOO : ∀ X, elemsOf (upd h b X) 2 (.rs o (i * 2) 2 (es.length - i) (some (cap - i))) = some (es.drop i) := fun X => elems_rs hg (by rw [upd_ne _ _ hob]; exact f5) hi rfl
   have hgt1 : GE 2 (es.take i ++ [e]) := (GE.take hg i).app hge
   have hq3 : (i + 1) * 2 + (es.length - i) * 2 ≤ ((es.take i ++ [e]).flatten ++ (zr2 ++ sp)).length := by
    rw [List.length_append, hgt1.len, List.length_append, hti, List.length_singleton, List.length_append, hz2l]
    omega
   have hset2 : setRange ((es.take i ++ [e]).flatten ++ (zr2 ++ sp)) ((i + 1) * 2) (((es.drop i).take (es.length - i)).flatten.map AV.disc) = (es.take i ++ e :: es.drop i).flatten ++ sp := by
    have a1 : (es.drop i).take (es.length - i) = es.drop i := List.take_of_length_le (by simp)
    have a2 : (es.drop i).flatten.length = zr2.length := by rw [(GE.drop hg i).len, List.length_drop, hz2l]
    rw [a1, (GE.drop hg i).disc, set_fl hgt1 (by rw [List.length_append, hti, List.length_singleton]) rfl, a2, List.drop_left]
    simp
   have hcp2 := fun (t : Nat → AV) => cpy_rs (t := t) (lim := some (c2 - (i + 1))) (ys := es.drop i) (o2 := o) (c2 := i * 2) (s2 := 2) (n2 := es.length - i) (l2 := some (cap - i)) (upd_same h b (some (.arr ((es.take i ++ [e]).flatten ++ (zr2 ++ sp))))) hq3
   rw [hset2] at hcp2
   simp (disch := omega) only [go_sem, ↓reduceIte, Nat.reduceEqDiff, Nat.reduceLeDiff, t0, t1, t7, t9, nat_add, hslb2, hslo, hOO, hcp2, upd2h]
   refine hN _ ?_; clear hN N
   simp (disch := omega) only [go_sem, ↓reduceIte, Nat.reduceEqDiff, Nat.reduceLeDiff, t9]
   have hnl : (es.take i ++ e :: es.drop i).length = es.length + 1 := by simp; omega
   refine ⟨.inr (.inr ⟨b, c2, sp, ?_, by rw [hnl], by omega, by rw [hnl]; exact hle, by rw [hnl]; exact hspl, by simp [upd]⟩), fun x hx _ => ?_, .inr fun o' ho' => by cases ho'; exact hb⟩
   ·cases hq : h0 b with
    | none => rfl
    | some X => exact absurd hb (hk b (by rw [hq]; simp))
   ·have : x ≠ b := fun e => hx (by rw [e]; exact hb)
    simp [upd, this]
  ·
   have hcl : es.length < cap := by omega
   have d2 : decide (cap < es.length + 1) = false := by simp; omega
   refine W_f (fun t => t 0 = .rs o 0 2 es.length (some cap) ∧ t 1 = .sc (.int .i64 (i : Nat)) ∧ t 2 = .rs oV 0 2 1 (some 1) ∧ t 7 = .sc (.int .i64 ((1 : Nat) : Int)) ∧ t 8 = .sc (.int .i64 (es.length : Nat)) ∧ t 31 = .sc (.bool (decide (cap < es.length + 1))) ∧ True) ?_; rintro t ⟨t0, t1, t2, t7, t8, t31, -⟩
   rw [d2] at t31
   refine ⟨false, t31, fun h => Bool.noConfusion h, fun _ => ?_⟩
   refine hR _ ?_; clear hR R
   have hsx : ∀ (t : Nat → AV) (h : Heap), aexSlc 2 t h none (some (.sc (.int .i64 ((es.length + 1 : Nat) : Int)))) none (.rs o 0 2 es.length (some cap)) = some (.val (.rs o 0 2 (es.length + 1) (some cap)) t h) := fun t h => by
    rw [slc_rs (.inl ⟨rfl, rfl⟩) (.inr ⟨_, rfl⟩) (Nat.zero_le _) (by omega)]
    simp
   (refine W_seq_gen fun N hN => ?_); simp (disch := omega) only [go_sem, ↓reduceIte, Nat.reduceEqDiff, Nat.reduceLeDiff, t0, t7, t8, nat_add, hsx]
   refine hN _ ?_; clear hN N
   refine W_f (fun t => t 0 = .rs o 0 2 (es.length + 1) (some cap) ∧ t 1 = .sc (.int .i64 (i : Nat)) ∧ t 2 = .rs oV 0 2 1 (some 1) ∧ t 7 = .sc (.int .i64 ((1 : Nat) : Int)) ∧ True) ?_; rintro t ⟨t0, t1, t2, t7, -⟩
   have hs1 : ∀ (t : Nat → AV) (h : Heap), aexSlc 2 t h (some (.sc (.int .i64 ((i + 1 : Nat) : Int)))) none none (.rs o 0 2 (es.length + 1) (some cap)) = some (.val (.rs o ((i + 1) * 2) 2 (es.length - i) (some (cap - (i + 1)))) t h) := fun t h => by
    rw [slc_rs (.inr ⟨_, rfl⟩) (.inl ⟨rfl, rfl⟩) (by omega) (by omega), Nat.zero_add, show es.length + 1 - (i + 1) = es.length - i by omega]
   have hs0 : ∀ (t : Nat → AV) (h : Heap), aexSlc 2 t h (some (.sc (.int .i64 (i : Nat)))) none none (.rs o 0 2 (es.length + 1) (some cap)) = some (.val (.rs o (i * 2) 2 (es.length + 1 - i) (some (cap - i))) t h) := fun t h => by
    rw [slc_rs (.inr ⟨_, rfl⟩) (.inl ⟨rfl, rfl⟩) (by omega) (by omega), Nat.zero_add]
   (refine W_seq_gen fun R hR => ?_)
   (refine W_seq_gen fun N hN => ?_); simp (disch := omega) only [go_sem, ↓reduceIte, Nat.reduceEqDiff, Nat.reduceLeDiff, t0, t1, t2, t7, nat_add, hs1]
   refine (hE hoV f5 hoo.symm (fun q => by have := congrArg List.length q; rw [List.length_append, hg.len, List.length_nil] at this; omega)).to ?_
   rw [contK_some]; simp (disch := omega) only [go_sem, ↓reduceIte, Nat.reduceEqDiff, Nat.reduceLeDiff]
   refine hN _ ?_; clear hN N
   refine W_f (fun t => t 0 = .rs o 0 2 (es.length + 1) (some cap) ∧ t 1 = .sc (.int .i64 (i : Nat)) ∧ t 2 = .rs oV 0 2 1 (some 1) ∧ t 7 = .sc (.int .i64 ((1 : Nat) : Int)) ∧ t 68 = .sc (.bool true) ∧ True) ?_; rintro t ⟨t0, t1, t2, t7, t68, -⟩
   refine ⟨true, t68, fun _ => ?_, fun h => Bool.noConfusion h⟩
   obtain ⟨ys, y1, y2, y3⟩ := elems_more (lim := some (cap - i)) hg f5 (i := i) (k := 1) (n := es.length + 1 - i) hi (by omega) (by rw [f4, Nat.one_mul]; exact Nat.le_mul_of_pos_left _ (by omega))
   have hzz : 2 ≤ z.length := by rw [f4]; exact Nat.le_mul_of_pos_left _ (by omega)
   have hfl : (es.flatten ++ z).length = cap * 2 := by
    rw [List.length_append, hg.len, f4, ← Nat.add_mul]
    congr 1
    omega
   have hq1 : (i + 1) * 2 + (es.length - i) * 2 ≤ (es.flatten ++ z).length := by
    rw [hfl, ← Nat.add_mul]
    exact Nat.mul_le_mul_right _ (by omega)
   have hset1 : setRange (es.flatten ++ z) ((i + 1) * 2) ((ys.take (es.length - i)).flatten.map AV.disc) = (es.take (i + 1) ++ es.drop i).flatten ++ z.drop 2 := by
    have hgd := GE.drop hg i
    have a1 : (es.take (i + 1)).length = i + 1 := by rw [List.length_take, Nat.min_eq_left (by omega)]
    have a3 : ((es.drop (i + 1)).flatten ++ z).drop (es.drop i).flatten.length = z.drop 2 := by
     have b1 : (es.drop (i + 1)).flatten.length = (es.length - (i + 1)) * 2 := by rw [(GE.drop hg (i + 1)).len, List.length_drop]
     have b2 : (es.drop i).flatten.length = (es.drop (i + 1)).flatten.length + 2 := by
      rw [hgd.len, List.length_drop, b1, show es.length - i = (es.length - (i + 1)) + 1 by omega, Nat.succ_mul]
     rw [b2, ← List.drop_drop, List.drop_left]
    rw [y2, hgd.disc, fl_split (i + 1), set_fl (GE.take hg (i + 1)) a1.symm rfl, a3]
    simp
   have hcp1 := fun (t : Nat → AV) => cpy_rs (t := t) (lim := some (cap - (i + 1))) (ys := ys) (o2 := o) (c2 := i * 2) (s2 := 2) (n2 := es.length + 1 - i) (l2 := some (cap - i)) f5 hq1
   rw [hset1] at hcp1
   (refine W_seq_gen fun N hN => ?_)
   refine ln37_69 ?_
   simp (disch := omega) only [go_sem, ↓reduceIte, Nat.reduceEqDiff, Nat.reduceLeDiff, t0, t1, t7, nat_add, hs1, hs0, y1, hcp1]
   refine hN _ ?_; clear hN N
   refine W_f (fun t => t 0 = .rs o 0 2 (es.length + 1) (some cap) ∧ t 1 = .sc (.int .i64 (i : Nat)) ∧ t 2 = .rs oV 0 2 1 (some 1) ∧ True) ?_; rintro t ⟨t0, t1, t2, -⟩
   have htk : es.take (i + 1) = es.take i ++ [es[i]] := by rw [List.take_add_one, List.getElem?_eq_getElem hil]; rfl
   have hei : es[i].length = 2 := (hg _ (List.getElem_mem hil)).1
   have hti : (es.take i).length = i := by rw [List.length_take, Nat.min_eq_left (by omega)]
   have hset2 : setRange ((es.take (i + 1) ++ es.drop i).flatten ++ z.drop 2) (i * 2) (([e].take (es.length + 1 - i)).flatten.map AV.disc) = (es.take i ++ e :: es.drop i).flatten ++ z.drop 2 := by
    have a0 : ([e].take (es.length + 1 - i)).flatten.map AV.disc = e := by
     rw [List.take_of_length_le (by simp; omega)]
     simp [he.2]
    have a1 : (es.take (i + 1) ++ es.drop i).flatten ++ z.drop 2 = (es.take i).flatten ++ (es[i] ++ ((es.drop i).flatten ++ z.drop 2)) := by
     rw [htk]
     simp only [List.flatten_append, List.flatten_cons, List.flatten_nil, List.append_nil, List.append_assoc]
    rw [a0, a1, set_fl (GE.take hg i) hti.symm rfl, he.1, ← hei, List.drop_left]
    simp
   have hq2 : i * 2 + (es.length + 1 - i) * 2 ≤ ((es.take (i + 1) ++ es.drop i).flatten ++ z.drop 2).length := by
    rw [List.length_append, List.length_drop, ((GE.take hg (i + 1)).app (GE.drop hg i)).len, List.length_append, List.length_take, Nat.min_eq_left (by omega), List.length_drop, ← Nat.add_mul, f4]
    have : i + (es.length + 1 - i) = (i + 1 + (es.length - i)) := by omega
    rw [this]
    exact Nat.le_add_right _ _
   have hVV : ∀ X, elemsOf (upd h o X) 2 (.rs oV 0 2 1 (some 1)) = some [e] := fun X => by
    rw [← hev]
    simp only [elemsOf, upd_ne _ _ hoo.symm]
   have hcp2 := fun (t : Nat → AV) => cpy_rs (t := t) (lim := some (cap - i)) (ys := [e]) (o2 := oV) (c2 := 0) (s2 := 2) (n2 := 1) (l2 := some 1) (upd_same h o (some (.arr ((es.take (i + 1) ++ es.drop i).flatten ++ z.drop 2)))) hq2
   rw [hset2] at hcp2
   simp (disch := omega) only [go_sem, ↓reduceIte, Nat.reduceEqDiff, Nat.reduceLeDiff, t0, t1, t2, hs0, hVV, hcp2, upd2h]
   have hnl : (es.take i ++ e :: es.drop i).length = es.length + 1 := by simp; omega
   refine ⟨.inr (.inr ⟨o, cap, z.drop 2, f1, by rw [hnl], by omega, by rw [hnl]; omega, ?_, by simp [upd]⟩), fun x hx hx2 => ?_, .inl rfl⟩
   ·rw [hnl, List.length_drop, f4, show cap - es.length = (cap - (es.length + 1)) + 1 by omega, Nat.succ_mul, Nat.add_sub_cancel]
   ·have : x ≠ o := fun e => hx2 (by rw [e]; rfl)
    simp [upd, this]
theorem delP_ok {h0 h : Heap} {v : AV} {es : List (List AV)} {i : Nat} (hR : Row h0 h 2 v es) (hg : GE 2 es) (hi : i < es.length) (hl : es.length ≤ 2 ^ 30) :
  AWF P ann 1 40 [v, .sc (.int .i64 (i : Nat)), .sc (.int .i64 ((i + 1 : Nat) : Int))] h fun r h' => Row h0 h' 2 r (es.eraseIdx i) ∧ Only h h' v ∧ oid r = oid v := by
 refine AWF.fnc H.f1_40 rfl ?_
 rcases id hR with ⟨rfl, rfl⟩ | ⟨⟨own, rfl⟩, rfl⟩ | ⟨o, cap, z, f1, rfl, f2, f3, f4, f5⟩
 ·simp at hi
 ·simp at hi
 have nl : ∀ (n : Nat) (t : Nat → AV) (h : Heap), aexLen 0 t h (.rs o 0 2 n (some cap)) = some (.val (.sc (.int .i64 (n : Nat))) t h) := fun n t h => rfl
 obtain ⟨w, hw3⟩ : ∃ w, ∀ (t : Nat → AV) (h : Heap), aexSlc 2 t h (some (.sc (.int .i64 (i : Nat)))) (some (.sc (.int .i64 ((i + 1 : Nat) : Int)))) (some (.sc (.int .i64 (es.length : Nat)))) (.rs o 0 2 es.length (some cap)) = some (.val w t h) :=
  ⟨.rs o (0 + i * 2) 2 (i + 1 - i) (some (es.length - i)), fun t h => by
   have e1 : bHiC es.length cap (some (.sc (.int .i64 ((i + 1 : Nat) : Int)))) = some (i + 1) := by
    have q1 : (0 : Int) ≤ ((i + 1 : Nat) : Int) ∧ ((i + 1 : Nat) : Int) ≤ cap := by omega
    simp only [bHiC, bHi, asI, Option.bind_some, if_pos q1, Int.toNat_natCast]
   have e2 : bLo (i + 1) (some (.sc (.int .i64 (i : Nat)))) = some i := by
    have q1 : (0 : Int) ≤ ((i : Nat) : Int) ∧ ((i : Nat) : Int) ≤ ((i + 1 : Nat) : Int) := by omega
    simp only [bLo, asI, Option.bind_some, if_pos q1, Int.toNat_natCast]
   have q3 : ((i + 1 : Nat) : Int) ≤ (es.length : Nat) ∧ ((es.length : Nat) : Int) ≤ (es.length : Nat) := by omega
   simp only [aexSlc, ne_eq, not_true_eq_false, if_false, boundsC, Option.getD_some, e1, Option.bind_some, e2, asI, if_pos q3, Int.toNat_natCast]⟩
 have hdis : (AV.rs o 0 2 es.length (some cap)).dis = .rs o 0 2 es.length (some cap) := rfl
 have di : decide (i = i + 1) = false := by simp
 (refine W_seq_gen fun N hN => ?_); simp (disch := omega) only [go_sem, ↓reduceIte, Nat.reduceEqDiff, Nat.reduceLeDiff]
 refine hN _ ?_; clear hN N
 refine W_f (fun t => t 0 = .rs o 0 2 es.length (some cap) ∧ t 1 = .sc (.int .i64 (i : Nat)) ∧ t 2 = .sc (.int .i64 ((i + 1 : Nat) : Int)) ∧ True) ?_; rintro t ⟨t0, t1, t2, -⟩
 (refine W_seq_gen fun N hN => ?_); simp (disch := omega) only [go_sem, ↓reduceIte, Nat.reduceEqDiff, Nat.reduceLeDiff, t0, t1, t2, nl, hw3]
 refine hN _ ?_; clear hN N
 refine W_f (fun t => t 0 = .rs o 0 2 es.length (some cap) ∧ t 1 = .sc (.int .i64 (i : Nat)) ∧ t 2 = .sc (.int .i64 ((i + 1 : Nat) : Int)) ∧ True) ?_; rintro t ⟨t0, t1, t2, -⟩
 (refine W_seq_gen fun N hN => ?_); simp (disch := omega) only [go_sem, ↓reduceIte, Nat.reduceEqDiff, Nat.reduceLeDiff, t1, t2, di]
 refine hN _ ?_; clear hN N
 refine W_f (fun t => t 0 = .rs o 0 2 es.length (some cap) ∧ t 1 = .sc (.int .i64 (i : Nat)) ∧ t 2 = .sc (.int .i64 ((i + 1 : Nat) : Int)) ∧ True) ?_; rintro t ⟨t0, t1, t2, -⟩
 (refine W_seq_gen fun N hN => ?_); simp (disch := omega) only [go_sem, ↓reduceIte, Nat.reduceEqDiff, Nat.reduceLeDiff, t0, nl]
 refine hN _ ?_; clear hN N
 refine W_f (fun t => t 0 = .rs o 0 2 es.length (some cap) ∧ t 1 = .sc (.int .i64 (i : Nat)) ∧ t 2 = .sc (.int .i64 ((i + 1 : Nat) : Int)) ∧ t 7 = .sc (.int .i64 (es.length : Nat)) ∧ True) ?_; rintro t ⟨t0, t1, t2, t7, -⟩
 have hsa : ∀ (t : Nat → AV) (h : Heap), aexSlc 2 t h none (some (.sc (.int .i64 (i : Nat)))) none (.rs o 0 2 es.length (some cap)) = some (.val (.rs o 0 2 i (some cap)) t h) := fun t h => by
  rw [slc_rs (.inl ⟨rfl, rfl⟩) (.inr ⟨_, rfl⟩) (Nat.zero_le _) (by omega)]
  simp
 have hsb : ∀ (t : Nat → AV) (h : Heap), aexSlc 2 t h (some (.sc (.int .i64 ((i + 1 : Nat) : Int)))) none none (.rs o 0 2 es.length (some cap)) = some (.val (.rs o ((i + 1) * 2) 2 (es.length - (i + 1)) (some (cap - (i + 1)))) t h) := fun t h => by
  rw [slc_rs (.inr ⟨_, rfl⟩) (.inl ⟨rfl, rfl⟩) (by omega) f3, Nat.zero_add]
 have hel := elems_rs (lim := some (cap - (i + 1))) hg f5 (i := i + 1) (n := es.length - (i + 1)) (by omega) rfl
 have hgd := GE.drop hg (i + 1)
 have hge : GE 2 (es.eraseIdx i) := fun x hx => hg x (List.mem_of_mem_eraseIdx hx)
 have hle : (es.eraseIdx i).length = es.length - 1 := by rw [List.length_eraseIdx]; simp [hi]
 have her : es.eraseIdx i = es.take i ++ es.drop (i + 1) := List.eraseIdx_eq_take_drop_succ es i
 obtain ⟨z2, hz2l, hz2⟩ : ∃ z2, z2.length = (cap - (es.length - 1)) * 2 ∧ setRange (es.flatten ++ z) (0 + i * 2) ((es.drop (i + 1)).flatten.map AV.disc) = (es.eraseIdx i).flatten ++ z2 := by
  refine ⟨((es.drop i).flatten ++ z).drop (es.drop (i + 1)).flatten.length, ?_, ?_⟩
  ·rw [List.length_drop, List.length_append, (GE.drop hg i).len, hgd.len, f4, List.length_drop, List.length_drop, ← Nat.add_mul, ← Nat.sub_mul]
   congr 1
   omega
  ·rw [hgd.disc, fl_split i, set_fl (GE.take hg i) (by rw [List.length_take, Nat.min_eq_left (by omega)]) (by omega), her]
   simp
 have hfl : (es.flatten ++ z).length = cap * 2 := by
  rw [List.length_append, hg.len, f4, ← Nat.add_mul]
  congr 1
  omega
 obtain ⟨hB, hkB, hoB, happ⟩ : ∃ hB : Heap, (∀ x, x ≠ o → hB x = h x) ∧ hB o = some (.arr ((es.eraseIdx i).flatten ++ z2)) ∧ ∀ (t : Nat → AV), aexAppO 2 32 ([AV.sc (.slice none 0 0), AV.sc (.bool false)] : List AV) t h (es.drop (i + 1)) (.rs o 0 2 i (some cap)) = some (.val (.rs o 0 2 (es.length - 1) (some cap)) t hB) := by
  refine ⟨upd h o (some (.arr ((es.eraseIdx i).flatten ++ z2))), fun x hx => upd_ne _ _ hx, upd_same _ _ _, fun t => ?_⟩
  have q3 : 0 + cap * 2 ≤ (es.flatten ++ z).length ∧ i ≤ cap := ⟨by rw [hfl]; omega, by omega⟩
  by_cases c0 : (es.drop (i + 1)).length = 0
  ·have hd0 : es.drop (i + 1) = [] := List.eq_nil_of_length_eq_zero c0
   have hil : i = es.length - 1 := by rw [List.length_drop] at c0; omega
   have : upd h o (some (.arr ((es.eraseIdx i).flatten ++ z2))) = h := by
    have hq := hz2
    rw [hd0] at hq
    have : setRange (es.flatten ++ z) (0 + i * 2) ((([] : List (List AV)).flatten).map AV.disc) = es.flatten ++ z := by simp [setRange]
    rw [this] at hq
    rw [← hq]
    funext k
    simp only [upd]
    split
    ·rename_i e; rw [e, f5]
    ·rfl
   rw [this, hd0]
   simp only [aexAppO, List.length_nil, if_true, ne_eq, not_true_eq_false, if_false]
   rw [← hil]
  ·have q4 : i + (es.drop (i + 1)).length ≤ cap := by rw [List.length_drop]; omega
   have q5 : i + (es.drop (i + 1)).length = es.length - 1 := by rw [List.length_drop]; omega
   have q6 : es.length - 1 ≤ cap := by omega
   simp only [aexAppO, ne_eq, not_true_eq_false, if_false, if_neg c0, f5, if_pos q3, hz2, q5, if_pos q6]
 (refine W_seq_gen fun N hN => ?_)
 refine ln40_20 ?_
 simp (disch := omega) only [go_sem, ↓reduceIte, Nat.reduceEqDiff, Nat.reduceLeDiff, t0, t1, t2, hsa, hsb, hel, happ]
 refine hN _ ?_; clear hN N
 refine W_f (fun t => t 0 = .rs o 0 2 (es.length - 1) (some cap) ∧ t 7 = .sc (.int .i64 (es.length : Nat)) ∧ True) ?_; rintro t ⟨t0, t7, -⟩
 have hsc : ∀ (t : Nat → AV) (h : Heap), aexSlc 2 t h (some (.sc (.int .i64 ((es.length - 1 : Nat) : Int)))) (some (.sc (.int .i64 (es.length : Nat)))) none (.rs o 0 2 (es.length - 1) (some cap)) = some (.val (.rs o ((es.length - 1) * 2) 2 1 (some (cap - (es.length - 1)))) t h) := fun t h => by
  rw [slc_rs (.inr ⟨_, rfl⟩) (.inr ⟨_, rfl⟩) (by omega) f3, Nat.zero_add, show es.length - (es.length - 1) = 1 by omega]
 obtain ⟨z3, hz3l, hz3⟩ : ∃ z3, z3.length = (cap - (es.length - 1)) * 2 ∧ setRange ((es.eraseIdx i).flatten ++ z2) ((es.length - 1) * 2) (List.replicate 1 ([AV.sc (.slice none 0 0), AV.sc (.bool false)] : List AV)).flatten = (es.eraseIdx i).flatten ++ z3 := by
  refine ⟨(List.replicate 1 ([AV.sc (.slice none 0 0), AV.sc (.bool false)] : List AV)).flatten ++ z2.drop (List.replicate 1 (([AV.sc (.slice none 0 0), AV.sc (.bool false)] : List AV) : List AV)).flatten.length, ?_, set_fl hge hle.symm rfl⟩
  have : (List.replicate 1 (([AV.sc (.slice none 0 0), AV.sc (.bool false)] : List AV) : List AV)).flatten.length = 2 := rfl
  rw [List.length_append, List.length_drop, this, hz2l]
  have : 2 ≤ (cap - (es.length - 1)) * 2 := Nat.le_mul_of_pos_left _ (by omega)
  omega
 have hq1 : (es.length - 1) * 2 + 1 * 2 ≤ ((es.eraseIdx i).flatten ++ z2).length := by
  rw [List.length_append, hge.len, hle, hz2l, ← Nat.add_mul, ← Nat.add_mul]
  exact Nat.mul_le_mul_right _ (by omega)
 have hclr : ∀ (t : Nat → AV), aexClr 2 ([AV.sc (.slice none 0 0), AV.sc (.bool false)] : List AV) t hB (.rs o ((es.length - 1) * 2) 2 1 (some (cap - (es.length - 1)))) = some (.val (.tu []) t (upd hB o (some (.arr ((es.eraseIdx i).flatten ++ z3))))) := fun t => by
  simp only [aexClr, hoB, true_and, if_pos hq1, hz3]
 simp (disch := omega) only [go_sem, ↓reduceIte, Nat.reduceEqDiff, Nat.reduceLeDiff, t0, t7, nl, hsc, hclr]
 refine ⟨.inr (.inr ⟨o, cap, z3, f1, by rw [hle], f2, by rw [hle]; omega, by rw [hle]; exact hz3l, by simp [upd]⟩), fun x hx hx2 => ?_, rfl⟩
 have : x ≠ o := fun e => hx2 (by rw [e]; rfl)
 simp [upd, this, hkB x this]
theorem delB_ok {h0 h : Heap} {v : AV} {es : List (List AV)} {i : Nat} (hR : Row h0 h 3 v es) (hg : GE 3 es) (hi : i < es.length) (hl : es.length ≤ 2 ^ 30) :
  AWF P ann 1 41 [v, .sc (.int .i64 (i : Nat)), .sc (.int .i64 ((i + 1 : Nat) : Int))] h fun r h' => Row h0 h' 3 r (es.eraseIdx i) ∧ Only h h' v ∧ oid r = oid v := by
 refine AWF.fnc H.f1_41 rfl ?_
 rcases id hR with ⟨rfl, rfl⟩ | ⟨⟨own, rfl⟩, rfl⟩ | ⟨o, cap, z, f1, rfl, f2, f3, f4, f5⟩
 ·simp at hi
 ·simp at hi
 have nl : ∀ (n : Nat) (t : Nat → AV) (h : Heap), aexLen 0 t h (.rs o 0 3 n (some cap)) = some (.val (.sc (.int .i64 (n : Nat))) t h) := fun n t h => rfl
 obtain ⟨w, hw3⟩ : ∃ w, ∀ (t : Nat → AV) (h : Heap), aexSlc 3 t h (some (.sc (.int .i64 (i : Nat)))) (some (.sc (.int .i64 ((i + 1 : Nat) : Int)))) (some (.sc (.int .i64 (es.length : Nat)))) (.rs o 0 3 es.length (some cap)) = some (.val w t h) :=
  ⟨.rs o (0 + i * 3) 3 (i + 1 - i) (some (es.length - i)), fun t h => by
   have e1 : bHiC es.length cap (some (.sc (.int .i64 ((i + 1 : Nat) : Int)))) = some (i + 1) := by
    have q1 : (0 : Int) ≤ ((i + 1 : Nat) : Int) ∧ ((i + 1 : Nat) : Int) ≤ cap := by omega
    simp only [bHiC, bHi, asI, Option.bind_some, if_pos q1, Int.toNat_natCast]
   have e2 : bLo (i + 1) (some (.sc (.int .i64 (i : Nat)))) = some i := by
    have q1 : (0 : Int) ≤ ((i : Nat) : Int) ∧ ((i : Nat) : Int) ≤ ((i + 1 : Nat) : Int) := by omega
    simp only [bLo, asI, Option.bind_some, if_pos q1, Int.toNat_natCast]
   have q3 : ((i + 1 : Nat) : Int) ≤ (es.length : Nat) ∧ ((es.length : Nat) : Int) ≤ (es.length : Nat) := by omega
   simp only [aexSlc, ne_eq, not_true_eq_false, if_false, boundsC, Option.getD_some, e1, Option.bind_some, e2, asI, if_pos q3, Int.toNat_natCast]⟩
 have hdis : (AV.rs o 0 3 es.length (some cap)).dis = .rs o 0 3 es.length (some cap) := rfl
 have di : decide (i = i + 1) = false := by simp
 (refine W_seq_gen fun N hN => ?_); simp (disch := omega) only [go_sem, ↓reduceIte, Nat.reduceEqDiff, Nat.reduceLeDiff]
 refine hN _ ?_; clear hN N
 refine W_f (fun t => t 0 = .rs o 0 3 es.length (some cap) ∧ t 1 = .sc (.int .i64 (i : Nat)) ∧ t 2 = .sc (.int .i64 ((i + 1 : Nat) : Int)) ∧ True) ?_; rintro t ⟨t0, t1, t2, -⟩
 (refine W_seq_gen fun N hN => ?_); simp (disch := omega) only [go_sem, ↓reduceIte, Nat.reduceEqDiff, Nat.reduceLeDiff, t0, t1, t2, nl, hw3]
 refine hN _ ?_; clear hN N
 refine W_f (fun t => t 0 = .rs o 0 3 es.length (some cap) ∧ t 1 = .sc (.int .i64 (i : Nat)) ∧ t 2 = .sc (.int .i64 ((i + 1 : Nat) : Int)) ∧ True) ?_; rintro t ⟨t0, t1, t2, -⟩
 (refine W_seq_gen fun N hN => ?_); simp (disch := omega) only [go_sem, ↓reduceIte, Nat.reduceEqDiff, Nat.reduceLeDiff, t1, t2, di]
 refine hN _ ?_; clear hN N
 refine W_f (fun t => t 0 = .rs o 0 3 es.length (some cap) ∧ t 1 = .sc (.int .i64 (i : Nat)) ∧ t 2 = .sc (.int .i64 ((i + 1 : Nat) : Int)) ∧ True) ?_; rintro t ⟨t0, t1, t2, -⟩
 (refine W_seq_gen fun N hN => ?_); simp (disch := omega) only [go_sem, ↓reduceIte, Nat.reduceEqDiff, Nat.reduceLeDiff, t0, nl]
 refine hN _ ?_; clear hN N
 refine W_f (fun t => t 0 = .rs o 0 3 es.length (some cap) ∧ t 1 = .sc (.int .i64 (i : Nat)) ∧ t 2 = .sc (.int .i64 ((i + 1 : Nat) : Int)) ∧ t 7 = .sc (.int .i64 (es.length : Nat)) ∧ True) ?_; rintro t ⟨t0, t1, t2, t7, -⟩
 have hsa : ∀ (t : Nat → AV) (h : Heap), aexSlc 3 t h none (some (.sc (.int .i64 (i : Nat)))) none (.rs o 0 3 es.length (some cap)) = some (.val (.rs o 0 3 i (some cap)) t h) := fun t h => by
  rw [slc_rs (.inl ⟨rfl, rfl⟩) (.inr ⟨_, rfl⟩) (Nat.zero_le _) (by omega)]
  simp
 have hsb : ∀ (t : Nat → AV) (h : Heap), aexSlc 3 t h (some (.sc (.int .i64 ((i + 1 : Nat) : Int)))) none none (.rs o 0 3 es.length (some cap)) = some (.val (.rs o ((i + 1) * 3) 3 (es.length - (i + 1)) (some (cap - (i + 1)))) t h) := fun t h => by
  rw [slc_rs (.inr ⟨_, rfl⟩) (.inl ⟨rfl, rfl⟩) (by omega) f3, Nat.zero_add]
 have hel := elems_rs (lim := some (cap - (i + 1))) hg f5 (i := i + 1) (n := es.length - (i + 1)) (by omega) rfl
 have hgd := GE.drop hg (i + 1)
 have hge : GE 3 (es.eraseIdx i) := fun x hx => hg x (List.mem_of_mem_eraseIdx hx)
 have hle : (es.eraseIdx i).length = es.length - 1 := by rw [List.length_eraseIdx]; simp [hi]
 have her : es.eraseIdx i = es.take i ++ es.drop (i + 1) := List.eraseIdx_eq_take_drop_succ es i
 obtain ⟨z2, hz2l, hz2⟩ : ∃ z2, z2.length = (cap - (es.length - 1)) * 3 ∧ setRange (es.flatten ++ z) (0 + i * 3) ((es.drop (i + 1)).flatten.map AV.disc) = (es.eraseIdx i).flatten ++ z2 := by
  refine ⟨((es.drop i).flatten ++ z).drop (es.drop (i + 1)).flatten.length, ?_, ?_⟩
  ·rw [List.length_drop, List.length_append, (GE.drop hg i).len, hgd.len, f4, List.length_drop, List.length_drop, ← Nat.add_mul, ← Nat.sub_mul]
   congr 1
   omega
  ·rw [hgd.disc, fl_split i, set_fl (GE.take hg i) (by rw [List.length_take, Nat.min_eq_left (by omega)]) (by omega), her]
   simp
 have hfl : (es.flatten ++ z).length = cap * 3 := by
  rw [List.length_append, hg.len, f4, ← Nat.add_mul]
  congr 1
  omega
 obtain ⟨hB, hkB, hoB, happ⟩ : ∃ hB : Heap, (∀ x, x ≠ o → hB x = h x) ∧ hB o = some (.arr ((es.eraseIdx i).flatten ++ z2)) ∧ ∀ (t : Nat → AV), aexAppO 3 40 ([AV.sc (.int .i64 ((0 : Nat) : Int)), AV.sc (.int .i64 ((0 : Nat) : Int)), AV.sc (.slice none 0 0)] : List AV) t h (es.drop (i + 1)) (.rs o 0 3 i (some cap)) = some (.val (.rs o 0 3 (es.length - 1) (some cap)) t hB) := by
  refine ⟨upd h o (some (.arr ((es.eraseIdx i).flatten ++ z2))), fun x hx => upd_ne _ _ hx, upd_same _ _ _, fun t => ?_⟩
  have q3 : 0 + cap * 3 ≤ (es.flatten ++ z).length ∧ i ≤ cap := ⟨by rw [hfl]; omega, by omega⟩
  by_cases c0 : (es.drop (i + 1)).length = 0
  ·have hd0 : es.drop (i + 1) = [] := List.eq_nil_of_length_eq_zero c0
   have hil : i = es.length - 1 := by rw [List.length_drop] at c0; omega
   have : upd h o (some (.arr ((es.eraseIdx i).flatten ++ z2))) = h := by
    have hq := hz2
    rw [hd0] at hq
    have : setRange (es.flatten ++ z) (0 + i * 3) ((([] : List (List AV)).flatten).map AV.disc) = es.flatten ++ z := by simp [setRange]
    rw [this] at hq
    rw [← hq]
    funext k
    simp only [upd]
    split
    ·rename_i e; rw [e, f5]
    ·rfl
   rw [this, hd0]
   simp only [aexAppO, List.length_nil, if_true, ne_eq, not_true_eq_false, if_false]
   rw [← hil]
  ·have q4 : i + (es.drop (i + 1)).length ≤ cap := by rw [List.length_drop]; omega
   have q5 : i + (es.drop (i + 1)).length = es.length - 1 := by rw [List.length_drop]; omega
   have q6 : es.length - 1 ≤ cap := by omega
   simp only [aexAppO, ne_eq, not_true_eq_false, if_false, if_neg c0, f5, if_pos q3, hz2, q5, if_pos q6]
 (refine W_seq_gen fun N hN => ?_)
 refine ln41_20 ?_
 simp (disch := omega) only [go_sem, ↓reduceIte, Nat.reduceEqDiff, Nat.reduceLeDiff, t0, t1, t2, hsa, hsb, hel, happ]
 refine hN _ ?_; clear hN N
 refine W_f (fun t => t 0 = .rs o 0 3 (es.length - 1) (some cap) ∧ t 7 = .sc (.int .i64 (es.length : Nat)) ∧ True) ?_; rintro t ⟨t0, t7, -⟩
 have hsc : ∀ (t : Nat → AV) (h : Heap), aexSlc 3 t h (some (.sc (.int .i64 ((es.length - 1 : Nat) : Int)))) (some (.sc (.int .i64 (es.length : Nat)))) none (.rs o 0 3 (es.length - 1) (some cap)) = some (.val (.rs o ((es.length - 1) * 3) 3 1 (some (cap - (es.length - 1)))) t h) := fun t h => by
  rw [slc_rs (.inr ⟨_, rfl⟩) (.inr ⟨_, rfl⟩) (by omega) f3, Nat.zero_add, show es.length - (es.length - 1) = 1 by omega]
 obtain ⟨z3, hz3l, hz3⟩ : ∃ z3, z3.length = (cap - (es.length - 1)) * 3 ∧ setRange ((es.eraseIdx i).flatten ++ z2) ((es.length - 1) * 3) (List.replicate 1 ([AV.sc (.int .i64 ((0 : Nat) : Int)), AV.sc (.int .i64 ((0 : Nat) : Int)), AV.sc (.slice none 0 0)] : List AV)).flatten = (es.eraseIdx i).flatten ++ z3 := by
  refine ⟨(List.replicate 1 ([AV.sc (.int .i64 ((0 : Nat) : Int)), AV.sc (.int .i64 ((0 : Nat) : Int)), AV.sc (.slice none 0 0)] : List AV)).flatten ++ z2.drop (List.replicate 1 (([AV.sc (.int .i64 ((0 : Nat) : Int)), AV.sc (.int .i64 ((0 : Nat) : Int)), AV.sc (.slice none 0 0)] : List AV) : List AV)).flatten.length, ?_, set_fl hge hle.symm rfl⟩
  have : (List.replicate 1 (([AV.sc (.int .i64 ((0 : Nat) : Int)), AV.sc (.int .i64 ((0 : Nat) : Int)), AV.sc (.slice none 0 0)] : List AV) : List AV)).flatten.length = 3 := rfl
  rw [List.length_append, List.length_drop, this, hz2l]
  have : 3 ≤ (cap - (es.length - 1)) * 3 := Nat.le_mul_of_pos_left _ (by omega)
  omega
 have hq1 : (es.length - 1) * 3 + 1 * 3 ≤ ((es.eraseIdx i).flatten ++ z2).length := by
  rw [List.length_append, hge.len, hle, hz2l, ← Nat.add_mul, ← Nat.add_mul]
  exact Nat.mul_le_mul_right _ (by omega)
 have hclr : ∀ (t : Nat → AV), aexClr 3 ([AV.sc (.int .i64 ((0 : Nat) : Int)), AV.sc (.int .i64 ((0 : Nat) : Int)), AV.sc (.slice none 0 0)] : List AV) t hB (.rs o ((es.length - 1) * 3) 3 1 (some (cap - (es.length - 1)))) = some (.val (.tu []) t (upd hB o (some (.arr ((es.eraseIdx i).flatten ++ z3))))) := fun t => by
  simp only [aexClr, hoB, true_and, if_pos hq1, hz3]
 simp (disch := omega) only [go_sem, ↓reduceIte, Nat.reduceEqDiff, Nat.reduceLeDiff, t0, t7, nl, hsc, hclr]
 refine ⟨.inr (.inr ⟨o, cap, z3, f1, by rw [hle], f2, by rw [hle]; omega, by rw [hle]; exact hz3l, by simp [upd]⟩), fun x hx hx2 => ?_, rfl⟩
 have : x ≠ o := fun e => hx2 (by rw [e]; rfl)
 simp [upd, this, hkB x this]
theorem delC_ok {h0 h : Heap} {v : AV} {es : List (List AV)} {i : Nat} (hR : Row h0 h 2 v es) (hg : GE 2 es) (hi : i < es.length) (hl : es.length ≤ 2 ^ 30) :
  AWF P ann 1 39 [v, .sc (.int .i64 (i : Nat)), .sc (.int .i64 ((i + 1 : Nat) : Int))] h fun r h' => Row h0 h' 2 r (es.eraseIdx i) ∧ Only h h' v ∧ oid r = oid v := by
 refine AWF.fnc H.f1_39 rfl ?_
 rcases id hR with ⟨rfl, rfl⟩ | ⟨⟨own, rfl⟩, rfl⟩ | ⟨o, cap, z, f1, rfl, f2, f3, f4, f5⟩
 ·simp at hi
 ·simp at hi
 have nl : ∀ (n : Nat) (t : Nat → AV) (h : Heap), aexLen 0 t h (.rs o 0 2 n (some cap)) = some (.val (.sc (.int .i64 (n : Nat))) t h) := fun n t h => rfl
 obtain ⟨w, hw3⟩ : ∃ w, ∀ (t : Nat → AV) (h : Heap), aexSlc 2 t h (some (.sc (.int .i64 (i : Nat)))) (some (.sc (.int .i64 ((i + 1 : Nat) : Int)))) (some (.sc (.int .i64 (es.length : Nat)))) (.rs o 0 2 es.length (some cap)) = some (.val w t h) :=
  ⟨.rs o (0 + i * 2) 2 (i + 1 - i) (some (es.length - i)), fun t h => by
   have e1 : bHiC es.length cap (some (.sc (.int .i64 ((i + 1 : Nat) : Int)))) = some (i + 1) := by
    have q1 : (0 : Int) ≤ ((i + 1 : Nat) : Int) ∧ ((i + 1 : Nat) : Int) ≤ cap := by omega
    simp only [bHiC, bHi, asI, Option.bind_some, if_pos q1, Int.toNat_natCast]
   have e2 : bLo (i + 1) (some (.sc (.int .i64 (i : Nat)))) = some i := by
    have q1 : (0 : Int) ≤ ((i : Nat) : Int) ∧ ((i : Nat) : Int) ≤ ((i + 1 : Nat) : Int) := by omega
    simp only [bLo, asI, Option.bind_some, if_pos q1, Int.toNat_natCast]
   have q3 : ((i + 1 : Nat) : Int) ≤ (es.length : Nat) ∧ ((es.length : Nat) : Int) ≤ (es.length : Nat) := by omega
   simp only [aexSlc, ne_eq, not_true_eq_false, if_false, boundsC, Option.getD_some, e1, Option.bind_some, e2, asI, if_pos q3, Int.toNat_natCast]⟩
 have hdis : (AV.rs o 0 2 es.length (some cap)).dis = .rs o 0 2 es.length (some cap) := rfl
 have di : decide (i = i + 1) = false := by simp
 (refine W_seq_gen fun N hN => ?_); simp (disch := omega) only [go_sem, ↓reduceIte, Nat.reduceEqDiff, Nat.reduceLeDiff]
 refine hN _ ?_; clear hN N
 refine W_f (fun t => t 0 = .rs o 0 2 es.length (some cap) ∧ t 1 = .sc (.int .i64 (i : Nat)) ∧ t 2 = .sc (.int .i64 ((i + 1 : Nat) : Int)) ∧ True) ?_; rintro t ⟨t0, t1, t2, -⟩
 (refine W_seq_gen fun N hN => ?_); simp (disch := omega) only [go_sem, ↓reduceIte, Nat.reduceEqDiff, Nat.reduceLeDiff, t0, t1, t2, nl, hw3]
 refine hN _ ?_; clear hN N
 refine W_f (fun t => t 0 = .rs o 0 2 es.length (some cap) ∧ t 1 = .sc (.int .i64 (i : Nat)) ∧ t 2 = .sc (.int .i64 ((i + 1 : Nat) : Int)) ∧ True) ?_; rintro t ⟨t0, t1, t2, -⟩
 (refine W_seq_gen fun N hN => ?_); simp (disch := omega) only [go_sem, ↓reduceIte, Nat.reduceEqDiff, Nat.reduceLeDiff, t1, t2, di]
 refine hN _ ?_; clear hN N
 refine W_f (fun t => t 0 = .rs o 0 2 es.length (some cap) ∧ t 1 = .sc (.int .i64 (i : Nat)) ∧ t 2 = .sc (.int .i64 ((i + 1 : Nat) : Int)) ∧ True) ?_; rintro t ⟨t0, t1, t2, -⟩
 (refine W_seq_gen fun N hN => ?_); simp (disch := omega) only [go_sem, ↓reduceIte, Nat.reduceEqDiff, Nat.reduceLeDiff, t0, nl]
 refine hN _ ?_; clear hN N
 refine W_f (fun t => t 0 = .rs o 0 2 es.length (some cap) ∧ t 1 = .sc (.int .i64 (i : Nat)) ∧ t 2 = .sc (.int .i64 ((i + 1 : Nat) : Int)) ∧ t 7 = .sc (.int .i64 (es.length : Nat)) ∧ True) ?_; rintro t ⟨t0, t1, t2, t7, -⟩
 have hsa : ∀ (t : Nat → AV) (h : Heap), aexSlc 2 t h none (some (.sc (.int .i64 (i : Nat)))) none (.rs o 0 2 es.length (some cap)) = some (.val (.rs o 0 2 i (some cap)) t h) := fun t h => by
  rw [slc_rs (.inl ⟨rfl, rfl⟩) (.inr ⟨_, rfl⟩) (Nat.zero_le _) (by omega)]
  simp
 have hsb : ∀ (t : Nat → AV) (h : Heap), aexSlc 2 t h (some (.sc (.int .i64 ((i + 1 : Nat) : Int)))) none none (.rs o 0 2 es.length (some cap)) = some (.val (.rs o ((i + 1) * 2) 2 (es.length - (i + 1)) (some (cap - (i + 1)))) t h) := fun t h => by
  rw [slc_rs (.inr ⟨_, rfl⟩) (.inl ⟨rfl, rfl⟩) (by omega) f3, Nat.zero_add]
 have hel := elems_rs (lim := some (cap - (i + 1))) hg f5 (i := i + 1) (n := es.length - (i + 1)) (by omega) rfl
 have hgd := GE.drop hg (i + 1)
 have hge : GE 2 (es.eraseIdx i) := fun x hx => hg x (List.mem_of_mem_eraseIdx hx)
 have hle : (es.eraseIdx i).length = es.length - 1 := by rw [List.length_eraseIdx]; simp [hi]
 have her : es.eraseIdx i = es.take i ++ es.drop (i + 1) := List.eraseIdx_eq_take_drop_succ es i
 obtain ⟨z2, hz2l, hz2⟩ : ∃ z2, z2.length = (cap - (es.length - 1)) * 2 ∧ setRange (es.flatten ++ z) (0 + i * 2) ((es.drop (i + 1)).flatten.map AV.disc) = (es.eraseIdx i).flatten ++ z2 := by
  refine ⟨((es.drop i).flatten ++ z).drop (es.drop (i + 1)).flatten.length, ?_, ?_⟩
  ·rw [List.length_drop, List.length_append, (GE.drop hg i).len, hgd.len, f4, List.length_drop, List.length_drop, ← Nat.add_mul, ← Nat.sub_mul]
   congr 1
   omega
  ·rw [hgd.disc, fl_split i, set_fl (GE.take hg i) (by rw [List.length_take, Nat.min_eq_left (by omega)]) (by omega), her]
   simp
 have hfl : (es.flatten ++ z).length = cap * 2 := by
  rw [List.length_append, hg.len, f4, ← Nat.add_mul]
  congr 1
  omega
 obtain ⟨hB, hkB, hoB, happ⟩ : ∃ hB : Heap, (∀ x, x ≠ o → hB x = h x) ∧ hB o = some (.arr ((es.eraseIdx i).flatten ++ z2)) ∧ ∀ (t : Nat → AV), aexAppO 2 16 ([AV.sc (.int .i64 ((0 : Nat) : Int)), AV.sc (.int .i64 ((0 : Nat) : Int))] : List AV) t h (es.drop (i + 1)) (.rs o 0 2 i (some cap)) = some (.val (.rs o 0 2 (es.length - 1) (some cap)) t hB) := by
  refine ⟨upd h o (some (.arr ((es.eraseIdx i).flatten ++ z2))), fun x hx => upd_ne _ _ hx, upd_same _ _ _, fun t => ?_⟩
  have q3 : 0 + cap * 2 ≤ (es.flatten ++ z).length ∧ i ≤ cap := ⟨by rw [hfl]; omega, by omega⟩
  by_cases c0 : (es.drop (i + 1)).length = 0
  ·have hd0 : es.drop (i + 1) = [] := List.eq_nil_of_length_eq_zero c0
   have hil : i = es.length - 1 := by rw [List.length_drop] at c0; omega
   have : upd h o (some (.arr ((es.eraseIdx i).flatten ++ z2))) = h := by
    have hq := hz2
    rw [hd0] at hq
    have : setRange (es.flatten ++ z) (0 + i * 2) ((([] : List (List AV)).flatten).map AV.disc) = es.flatten ++ z := by simp [setRange]
    rw [this] at hq
    rw [← hq]
    funext k
    simp only [upd]
    split
    ·rename_i e; rw [e, f5]
    ·rfl
   rw [this, hd0]
   simp only [aexAppO, List.length_nil, if_true, ne_eq, not_true_eq_false, if_false]
   rw [← hil]
  ·have q4 : i + (es.drop (i + 1)).length ≤ cap := by rw [List.length_drop]; omega
   have q5 : i + (es.drop (i + 1)).length = es.length - 1 := by rw [List.length_drop]; omega
   have q6 : es.length - 1 ≤ cap := by omega
   simp only [aexAppO, ne_eq, not_true_eq_false, if_false, if_neg c0, f5, if_pos q3, hz2, q5, if_pos q6]
 (refine W_seq_gen fun N hN => ?_)
 refine ln39_20 ?_
 simp (disch := omega) only [go_sem, ↓reduceIte, Nat.reduceEqDiff, Nat.reduceLeDiff, t0, t1, t2, hsa, hsb, hel, happ]
 refine hN _ ?_; clear hN N
 refine W_f (fun t => t 0 = .rs o 0 2 (es.length - 1) (some cap) ∧ t 7 = .sc (.int .i64 (es.length : Nat)) ∧ True) ?_; rintro t ⟨t0, t7, -⟩
 have hsc : ∀ (t : Nat → AV) (h : Heap), aexSlc 2 t h (some (.sc (.int .i64 ((es.length - 1 : Nat) : Int)))) (some (.sc (.int .i64 (es.length : Nat)))) none (.rs o 0 2 (es.length - 1) (some cap)) = some (.val (.rs o ((es.length - 1) * 2) 2 1 (some (cap - (es.length - 1)))) t h) := fun t h => by
  rw [slc_rs (.inr ⟨_, rfl⟩) (.inr ⟨_, rfl⟩) (by omega) f3, Nat.zero_add, show es.length - (es.length - 1) = 1 by omega]
 obtain ⟨z3, hz3l, hz3⟩ : ∃ z3, z3.length = (cap - (es.length - 1)) * 2 ∧ setRange ((es.eraseIdx i).flatten ++ z2) ((es.length - 1) * 2) (List.replicate 1 ([AV.sc (.int .i64 ((0 : Nat) : Int)), AV.sc (.int .i64 ((0 : Nat) : Int))] : List AV)).flatten = (es.eraseIdx i).flatten ++ z3 := by
  refine ⟨(List.replicate 1 ([AV.sc (.int .i64 ((0 : Nat) : Int)), AV.sc (.int .i64 ((0 : Nat) : Int))] : List AV)).flatten ++ z2.drop (List.replicate 1 (([AV.sc (.int .i64 ((0 : Nat) : Int)), AV.sc (.int .i64 ((0 : Nat) : Int))] : List AV) : List AV)).flatten.length, ?_, set_fl hge hle.symm rfl⟩
  have : (List.replicate 1 (([AV.sc (.int .i64 ((0 : Nat) : Int)), AV.sc (.int .i64 ((0 : Nat) : Int))] : List AV) : List AV)).flatten.length = 2 := rfl
  rw [List.length_append, List.length_drop, this, hz2l]
  have : 2 ≤ (cap - (es.length - 1)) * 2 := Nat.le_mul_of_pos_left _ (by omega)
  omega
 have hq1 : (es.length - 1) * 2 + 1 * 2 ≤ ((es.eraseIdx i).flatten ++ z2).length := by
  rw [List.length_append, hge.len, hle, hz2l, ← Nat.add_mul, ← Nat.add_mul]
  exact Nat.mul_le_mul_right _ (by omega)
 have hclr : ∀ (t : Nat → AV), aexClr 2 ([AV.sc (.int .i64 ((0 : Nat) : Int)), AV.sc (.int .i64 ((0 : Nat) : Int))] : List AV) t hB (.rs o ((es.length - 1) * 2) 2 1 (some (cap - (es.length - 1)))) = some (.val (.tu []) t (upd hB o (some (.arr ((es.eraseIdx i).flatten ++ z3))))) := fun t => by
  simp only [aexClr, hoB, true_and, if_pos hq1, hz3]
 simp (disch := omega) only [go_sem, ↓reduceIte, Nat.reduceEqDiff, Nat.reduceLeDiff, t0, t7, nl, hsc, hclr]
 refine ⟨.inr (.inr ⟨o, cap, z3, f1, by rw [hle], f2, by rw [hle]; omega, by rw [hle]; exact hz3l, by simp [upd]⟩), fun x hx hx2 => ?_, rfl⟩
 have : x ≠ o := fun e => hx2 (by rw [e]; rfl)
 simp [upd, this, hkB x this]
end Go.Proofs.Ytomfknocpijmbaa
end
section
set_option linter.unusedVariables false
set_option linter.unusedSimpArgs false
namespace Go.Proofs.Ytomfknocpijmbaa
open Go.Am
theorem upd2 {α : Type} {f : Nat → α} {a : Nat} {x y : α} : upd (upd f a x) a y = upd f a y := by
 funext k
 simp only [upd]
 split <;> rfl
theorem upd_self {α : Type} {f : Nat → α} {a : Nat} {x : α} (h : f a = x) : upd f a x = f := by
 funext k
 simp only [upd]
 split
 ·rename_i e; rw [e, h]
 ·rfl
def djE (e e' : Option (Nat × AObj)) : Prop := ∀ o X o' X', e = some (o, X) → e' = some (o', X') → o ≠ o'
theorem djE_symm {e e' : Option (Nat × AObj)} (h : djE e e') : djE e' e := fun o X o' X' h1 h2 q => h o' X' o X h2 h1 q.symm
theorem apE_comm {e e' : Option (Nat × AObj)} {h : Heap} (hd : djE e e') : apE e (apE e' h) = apE e' (apE e h) := by
 cases e with
 | none => rfl
 | some p => cases e' with
  | none => rfl
  | some q => exact upd_comm (hd p.1 p.2 q.1 q.2 rfl rfl).symm
theorem own_start {h : Heap} {o1 : Nat} {X : AObj} (h1 : h o1 = some X) : upd h o1 (some X) = h := upd_self h1
theorem own_fr {h : Heap} {o1 : Nat} {X : AObj} {e e2 : Option (Nat × AObj)} {b : Bool} (hfr : frE (apE (some (o1, X)) (apE none (apE (if b = true then e2 else none) h))) e) (h2 : b = true → frE h e2) :
  frE h e ∧ djE e (some (o1, X)) ∧ (b = true → djE e e2) := by
 have key : ∀ o Y, e = some (o, Y) → o ≠ o1 ∧ apE (if b = true then e2 else none) h o = none := by
  intro o Y he
  have := hfr o Y he
  have this : upd (apE (if b = true then e2 else none) h) o1 (some X) o = none := this
  by_cases hq : o = o1
  ·rw [hq, upd_same] at this; cases this
  ·rw [upd_ne _ _ hq] at this; exact ⟨hq, this⟩
 refine ⟨fun o Y he => ?_, fun o Y o' Y' he he' => ?_, fun hb o Y o' Y' he he' => ?_⟩
 ·obtain ⟨_, q⟩ := key o Y he
  cases b with
  | false => exact q
  | true =>
   simp only [if_true] at q
   cases e2 with
   | none => exact q
   | some p =>
    have q : upd h p.1 (some p.2) o = none := q
    by_cases hq : o = p.1
    ·rw [hq, upd_same] at q; cases q
    ·rwa [upd_ne _ _ hq] at q
 ·cases he'
  exact (key o Y he).1
 ·obtain ⟨_, q⟩ := key o Y he
  rw [if_pos hb, he'] at q
  intro hq
  have q : upd h o' (some Y') o = none := q
  rw [hq, upd_same] at q
  cases q
theorem own_fr2 {h : Heap} {o1 : Nat} {X : AObj} {e e1 : Option (Nat × AObj)} {b : Bool} (hfr : frE (apE (some (o1, X)) (apE (if b = true then e1 else none) (apE none h))) e) (h2 : b = true → frE h e1) :
  frE h e ∧ djE e (some (o1, X)) ∧ (b = true → djE e e1) := own_fr hfr h2
theorem own_dj {e e1 : Option (Nat × AObj)} {b : Bool} (h : b = true → djE e e1) : djE e (if b = true then e1 else none) := by
 cases b with
 | false => intro o X o' X' h1 h2; cases h2
 | true => exact h rfl
def dj (a b : AV) : Prop := ∀ o, oid a = some o → oid b ≠ some o
theorem bg_ge {es : List (List AV)} {l : List Bg} (hB : RR BgR es l) : GE 3 es := fun e he => by
 obtain ⟨i, hi, rfl⟩ := List.getElem_of_mem he
 obtain ⟨e', h1, lv, xs, h2, hl, _⟩ := hB.lt (i := i) (by rw [← hB.len]; exact hi)
 rw [List.getElem?_eq_getElem hi] at h1
 cases h1
 rw [h2]
 exact ⟨rfl, by simp only [List.map_cons, List.map_nil, disc_sc, hl.disc]⟩
theorem ck_ge {es : List (List AV)} {l : List (Int × Int)} (hC : RR CK es l) : GE 2 es := fun e he => by
 obtain ⟨i, hi, rfl⟩ := List.getElem_of_mem he
 obtain ⟨e', h1, h2⟩ := hC.lt (i := i) (by rw [← hC.len]; exact hi)
 rw [List.getElem?_eq_getElem hi] at h1
 cases h1
 rw [h2]
 exact ⟨rfl, by simp only [List.map_cons, List.map_nil, disc_sc]⟩
theorem pc_ge {es : List (List AV)} {l : List Pcl} (hC : RR PcR es l) : GE 2 es := fun e he => by
 obtain ⟨i, hi, rfl⟩ := List.getElem_of_mem he
 obtain ⟨e', h1, w, h2, hw⟩ := hC.lt (i := i) (by rw [← hC.len]; exact hi)
 rw [List.getElem?_eq_getElem hi] at h1
 cases h1
 rw [h2]
 exact ⟨rfl, by simp only [List.map_cons, List.map_nil, disc_sc, hw.disc]⟩
def pcD : List AV → List AV
 | [w, b] => [frz w, b]
 | e => e
theorem pc_D : ∀ {es : List (List AV)} {l : List Pcl}, RR PcR es l → RR PcR (es.map pcD) l
 | [], [], h => trivial
 | e :: es, x :: l, ⟨⟨w, h1, h2⟩, h3⟩ => ⟨⟨frz w, by rw [h1]; rfl, frz_sf h2⟩, pc_D h3⟩
 | [], _ :: _, h => h.elim
 | _ :: _, [], h => h.elim
theorem ge_pcD {es : List (List AV)} {l : List Pcl} (hg : GE 2 es) (h : RR PcR es l) : GE 2 (es.map pcD) := by
 have := pc_ge (pc_D h)
 exact this
theorem rows_at {A z : List AV} {e : List AV} {B : List (List AV)} {n sz : Nat} (hA : A.length = n) (he : e.length = sz) : ((A ++ (e :: B).flatten ++ z).drop n).take sz = e := by
 subst hA; subst he
 rw [List.append_assoc, List.drop_left, List.flatten_cons, List.append_assoc, List.take_left]
theorem setRA2 {a b x y : AV} : setRange [a, b] 0 [x, y] = [x, y] := rfl
theorem set_one {l : List AV} {n : Nat} {x : AV} (h : n < l.length) : setRange l n [x] = l.set n x := by
 unfold setRange
 rw [List.set_eq_take_append_cons_drop, if_pos h]
 simp
theorem rows_set {A z : List AV} {e e' : List AV} {B : List (List AV)} {n k : Nat} {x : AV} (hA : A.length = n) (hk : k < e.length) (he : e.set k x = e') : setRange (A ++ (e :: B).flatten ++ z) (n + k) [x] = A ++ e' ++ B.flatten ++ z := by
 subst hA; subst he
 rw [set_one (by simp; omega), List.append_assoc, List.flatten_cons, List.append_assoc, List.set_append_right _ _ (by omega), Nat.add_sub_cancel_left, List.set_append_left _ _ hk]
 simp
def Prc (h0 h : Heap) (lv : AV) (b : Bg) (live : Bool) : Prop := ∃ xs, RR PcR xs b.l ∧ if live then Row h0 h 2 lv xs else SF 2 lv xs
def Bags (h0 h : Heap) (L : List Bg) (j : Nat) (es : List (List AV)) : Prop :=
 ∀ i b, L[i]? = some b → i < es.length → ∃ lv, es[i]? = some [.sc (.int .i64 b.k.1), .sc (.int .i64 b.k.2), lv] ∧ Prc h0 h lv b (decide (i = j))
theorem row_mono {h0 h1 h2 : Heap} {sz : Nat} {v : AV} {es : List (List AV)} (H : Row h0 h1 sz v es) (hk : ∀ o X, h0 o = none → h1 o = some X → h2 o = some X) : Row h0 h2 sz v es := by
 rcases H with h | h | ⟨o, cap, z, a, b, c, d, e, f⟩
 ·exact .inl h
 ·exact .inr (.inl h)
 ·exact .inr (.inr ⟨o, cap, z, a, b, c, d, e, hk o _ a f⟩)
theorem prc_mono {h0 h1 h2 : Heap} {lv : AV} {b : Bg} {live : Bool} (H : Prc h0 h1 lv b live) (hk : ∀ o X, h0 o = none → h1 o = some X → h2 o = some X) : Prc h0 h2 lv b live := by
 obtain ⟨xs, a, c⟩ := H
 refine ⟨xs, a, ?_⟩
 cases live with
 | false => exact c
 | true => exact row_mono c hk
theorem bags_mono {h0 h1 h2 : Heap} {L : List Bg} {j : Nat} {es : List (List AV)} (H : Bags h0 h1 L j es) (hk : ∀ o X, h0 o = none → h1 o = some X → h2 o = some X) : Bags h0 h2 L j es := fun i b hb hi => by
 obtain ⟨lv, a, c⟩ := H i b hb hi
 exact ⟨lv, a, prc_mono c hk⟩
theorem bags_snoc {h0 h : Heap} {L : List Bg} {j n : Nat} {es : List (List AV)} {b : Bg} {lv : AV} (hn : es.length = n) (hb : L[n]? = some b) (H : Bags h0 h L j es) (hp : Prc h0 h lv b (decide (n = j))) : Bags h0 h L j (es ++ [[.sc (.int .i64 b.k.1), .sc (.int .i64 b.k.2), lv]]) := by
 intro i b' hb' hi
 rw [List.length_append, List.length_singleton] at hi
 rcases Nat.lt_or_ge i es.length with q | q
 ·obtain ⟨w, a, c⟩ := H i b' hb' q
  exact ⟨w, by rw [List.getElem?_append_left q]; exact a, c⟩
 ·obtain rfl : i = n := by omega
  rw [hb] at hb'
  cases hb'
  exact ⟨lv, by rw [← hn, List.getElem?_append_right (Nat.le_refl _)]; simp, hp⟩
def OwnR (h h' : Heap) (j : Nat) (Bv Cv : AV) (E : Eth) : Prop :=
 ∃ h3 es ces, (Bv.disc = Bv ∧ Cv.disc = Cv) ∧ (∀ x, h3 x ≠ none → h' x ≠ none) ∧ (∀ x, h x ≠ none → h3 x = h x) ∧ (∀ x, h x ≠ none → h' x = h x) ∧ Row h h' 3 Bv es ∧ Row h h' 2 Cv ces ∧ RR CK ces E.cuts ∧ dj Bv Cv ∧ (∀ o, oid Bv = some o → h3 o ≠ none) ∧ (∀ o, oid Cv = some o → h3 o ≠ none) ∧ es.length = E.bags.length ∧ GE 3 es ∧ Bags h3 h' E.bags j es
variable {P : Program} (H : Has P)
include H
set_option maxHeartbeats 4000000 in
theorem own_ok {bv cv : AV} {E : Eth} {bes ces : List (List AV)} (hbv : SF 3 bv bes) (hB : RR BgR bes E.bags) (hcv : SF 2 cv ces) (hC : RR CK ces E.cuts) (hl1 : E.bags.length ≤ 2 ^ 30) (hl2 : E.cuts.length ≤ 2 ^ 30)
  (hs : ∀ b ∈ E.bags, b.l.length ≤ 2 ^ 20 ∧ ∀ x ∈ b.l, x.1.length ≤ 2 ^ 30) (j : Nat) (h : Heap) : AWF P ann 0 26 [.ag [bv, cv]] h fun r h' => ∃ Bv Cv, r = .ag [Bv, Cv] ∧ OwnR h h' j Bv Cv E := by
 refine AWF.fncA H.f0_26 rfl ?_
 have eb := hB.len
 have ec := hC.len
 have hgb := bg_ge hB
 have hgc := ck_ge hC
 refine A_seq_gen fun N hN => W_sound ?_
 simp (disch := omega) only [go_sem, ↓reduceIte, Nat.reduceEqDiff, Nat.reduceLeDiff, hbv.disc, hcv.disc]
 intro o1 ho1 o2 ho2
 obtain ⟨h2, hh, f1, f2, f3⟩ := box2 ho1 ho2 (Y := some (.arr [.sc (.slice none 0 0), .sc (.slice none 0 0)]))
 have n12 : o1 ≠ o2 := fun e => by subst e; simp at ho2
 have no1 : h o1 = none := ho1
 have no2 : h o2 = none := by
  simpa [n12.symm] using ho2
 refine hN _ ?_; clear hN N
 rw [hh]
 clear hh ho1 ho2
 refine A_seq_gen fun N hN => W_sound ?_
 refine W_f (fun t => t 1 = .op o1 0 ∧ t 2 = .op o2 0 ∧ True) ?_; rintro t ⟨t1, t2, -⟩
 refine W_tabC (α := (AV × Option (Nat × AObj)) × (AV × Option (Nat × AObj))) rfl rfl (fun c l => (l 2 = true → CE 3 bes c.1.1 c.1.2 ∧ frE h2 c.1.2) ∧ (l 5 = true → CE 2 ces c.2.1 c.2.2 ∧ frE h2 c.2.2) ∧ (l 2 = true → l 5 = true → djE c.1.2 c.2.2)) (fun c i => match i with | 0 => .op o1 0 | 1 => bv | 2 => c.1.1 | 3 => .op o1 1 | 4 => cv | 5 => c.2.1 | 6 => .op o1 0 | 7 => .undef | 8 => .op o1 1 | 9 => .undef | _ => .undef) (fun c l => apE (some (o1, .arr [if l 7 then c.1.1 else bv, if l 9 then c.2.1 else cv])) (apE (if l 2 then c.1.2 else none) (apE (if l 5 then c.2.2 else none) h2))) ((.undef, none), (.undef, none)) (⟨fun q => (by cases q), fun q => (by cases q), fun q => (by cases q)⟩) (own_start f1) ⟨fun c l t' hC hcl hi hp hk hs => ?_, fun c l t' hC hcl hi hp hk hs => ?_, fun c l t' hC hcl hi hp hk hs => ?_, fun c l t' hC hcl hi hp hk hs => ?_, fun c l t' hC hcl hi hp hk hs => ?_, fun c l t' hC hcl hi hp hk hs => ?_, fun c l t' hC hcl hi hp hk hs => ?_, fun c l t' hC hcl hi hp hk hs => ?_, fun c l t' hC hcl hi hp hk hs => ?_, fun c l t' hC hcl hi hp hk hs => ?_, trivial⟩ ?_
 ·have u1 : t' 1 = .op o1 0 := (hk 1 rfl).trans t1
  refine stepC_val rfl ?_ hC
  simp (disch := omega) only [go_sem, ↓reduceIte, Nat.reduceEqDiff, Nat.reduceLeDiff, u1, apE, upd_same, upd2]
 ·have u7 : t' 7 = .op o1 0 := hs 0 (by decide) _ rfl _ rfl
  have n2 : l 2 = false := clo_not hcl hi (by decide)
  have n7 : l 7 = false := clo_not hcl n2 (by decide)
  refine stepC_val rfl ?_ hC
  simp (disch := omega) only [go_sem, ↓reduceIte, Nat.reduceEqDiff, Nat.reduceLeDiff, u7, apE, upd_same, upd2, n2, n7, Bool.false_eq_true, hbv.same, hbv.disc, hbv.sl.ddisc]
 ·have u8 : t' 8 = bv := hs 1 (by decide) _ rfl _ rfl
  have n7 : l 7 = false := clo_not hcl hi (by decide)
  refine stepC_call (args := [bv]) (by simp [Opd.ev, u8]) (by rcases hbv with ⟨rfl, _⟩ | ⟨_, rfl⟩ <;> rfl) (by simpa using hbv.same) ?_
  refine (cloB_ok H hbv hgb (by omega) _).mono ?_
  rintro r h4 ⟨e, hce, hfr, rfl⟩
  simp only [hi, n7, Bool.false_eq_true, if_false] at hfr ⊢
  obtain ⟨hf1, hf2, hf3⟩ := own_fr hfr (fun h5 => (hC.2.1 h5).2)
  refine ⟨((r, e), c.2), ⟨fun _ => ⟨hce, hf1⟩, fun h5 => hC.2.1 h5, fun _ h5 => hf3 h5⟩, ?_, rfl, fun j hj => match j, hj with | 2, q => (by rw [hi] at q; cases q) | 0, _ => rfl | 1, _ => rfl | 3, _ => rfl | 4, _ => rfl | 5, _ => rfl | 6, _ => rfl | 7, _ => rfl | 8, _ => rfl | 9, _ => rfl | n + 10, _ => rfl⟩
  rw [apE_comm hf2]
  simp [upd, n7, show ∀ h, apE none h = h from fun _ => rfl]
 ·have u1 : t' 1 = .op o1 0 := (hk 1 rfl).trans t1
  refine stepC_val rfl ?_ hC
  simp (disch := omega) only [go_sem, ↓reduceIte, Nat.reduceEqDiff, Nat.reduceLeDiff, u1, apE, upd_same, upd2]
 ·have u10 : t' 10 = .op o1 1 := hs 3 (by decide) _ rfl _ rfl
  have n5 : l 5 = false := clo_not hcl hi (by decide)
  have n9 : l 9 = false := clo_not hcl n5 (by decide)
  refine stepC_val rfl ?_ hC
  simp (disch := omega) only [go_sem, ↓reduceIte, Nat.reduceEqDiff, Nat.reduceLeDiff, u10, apE, upd_same, upd2, n5, n9, Bool.false_eq_true, hcv.same, hcv.disc, hcv.sl.ddisc]
 ·have u11 : t' 11 = cv := hs 4 (by decide) _ rfl _ rfl
  have n9 : l 9 = false := clo_not hcl hi (by decide)
  refine stepC_call (args := [cv]) (by simp [Opd.ev, u11]) (by rcases hcv with ⟨rfl, _⟩ | ⟨_, rfl⟩ <;> rfl) (by simpa using hcv.same) ?_
  refine (cloC_ok H hcv hgc (by omega) _).mono ?_
  rintro r h4 ⟨e, hce, hfr, rfl⟩
  simp only [hi, n9, Bool.false_eq_true, if_false] at hfr ⊢
  obtain ⟨hf1, hf2, hf3⟩ := own_fr2 hfr (fun h2 => (hC.1 h2).2)
  refine ⟨(c.1, (r, e)), ⟨fun h2 => hC.1 h2, fun _ => ⟨hce, hf1⟩, fun h2 _ => djE_symm (hf3 h2)⟩, ?_, rfl, fun j hj => match j, hj with | 5, q => (by rw [hi] at q; cases q) | 0, _ => rfl | 1, _ => rfl | 2, _ => rfl | 3, _ => rfl | 4, _ => rfl | 6, _ => rfl | 7, _ => rfl | 8, _ => rfl | 9, _ => rfl | n + 10, _ => rfl⟩
  rw [apE_comm hf2, apE_comm (own_dj hf3)]
  simp [upd, n9, show ∀ h, apE none h = h from fun _ => rfl]
 ·have u1 : t' 1 = .op o1 0 := (hk 1 rfl).trans t1
  refine stepC_val rfl ?_ hC
  simp (disch := omega) only [go_sem, ↓reduceIte, Nat.reduceEqDiff, Nat.reduceLeDiff, u1, apE, upd_same, upd2]
 ·have u9 : t' 9 = c.1.1 := hs 2 (by decide) _ rfl _ rfl
  have u13 : t' 13 = .op o1 0 := hs 6 (by decide) _ rfl _ rfl
  have hb := (hC.1 (hp 2 (by decide))).1
  obtain ⟨d1, d2, c1, c2, _⟩ := hb.same
  have e9 : upd t' 9 c.1.1.dis = t' := upd_self (by rw [u9]; exact d1.symm)
  refine stepC_val rfl ?_ hC
  simp (disch := omega) only [go_sem, ↓reduceIte, Nat.reduceEqDiff, Nat.reduceLeDiff, u9, u13, apE, upd_same, upd2, hi, Bool.false_eq_true, c1, c2, e9]
 ·have u1 : t' 1 = .op o1 0 := (hk 1 rfl).trans t1
  refine stepC_val rfl ?_ hC
  simp (disch := omega) only [go_sem, ↓reduceIte, Nat.reduceEqDiff, Nat.reduceLeDiff, u1, apE, upd_same, upd2]
 ·have u12 : t' 12 = c.2.1 := hs 5 (by decide) _ rfl _ rfl
  have u14 : t' 14 = .op o1 1 := hs 8 (by decide) _ rfl _ rfl
  have hb := (hC.2.1 (hp 5 (by decide))).1
  obtain ⟨d1, d2, c1, c2, _⟩ := hb.same
  have e12 : upd t' 12 c.2.1.dis = t' := upd_self (by rw [u12]; exact d1.symm)
  refine stepC_val rfl ?_ hC
  simp (disch := omega) only [go_sem, ↓reduceIte, Nat.reduceEqDiff, Nat.reduceLeDiff, u12, u14, apE, upd_same, upd2, hi, Bool.false_eq_true, c1, c2, e12]
 intro c l t' hC hl hk hd
 have t1' : t' 1 = .op o1 0 := (hk 1 rfl).trans t1
 have t2' : t' 2 = .op o2 0 := (hk 2 rfl).trans t2
 have hb1 := hC.1 (hl 2 (by decide))
 have hb2 := hC.2.1 (hl 5 (by decide))
 have hb3 := hC.2.2 (hl 2 (by decide)) (hl 5 (by decide))
 simp only [hl 2 (by decide), hl 5 (by decide), hl 7 (by decide), hl 9 (by decide), if_true]
 obtain ⟨⟨r1, e1⟩, ⟨r2, e2⟩⟩ := c
 simp only at hb1 hb2 hb3 ⊢
 clear hC hk hd hl
 refine hN _ ?_; clear hN N
 obtain ⟨g1, g2⟩ := hb1
 obtain ⟨g3, g4⟩ := hb2
 have live2 : ∀ x, h2 x ≠ none → apE e1 (apE e2 h2) x = h2 x := fun x hx => by
  have q := ap_keep g4 x hx
  have g2' : frE (apE e2 h2) e1 := fun o X he => by
   cases e2 with
   | none => exact g2 o X he
   | some p =>
    have := hb3 o X p.1 p.2 he rfl
    show upd h2 p.1 (some p.2) o = none
    rw [upd_ne _ _ this]
    exact g2 o X he
  rw [ap_keep g2' x (by rw [q]; exact hx), q]
 have at1 : ∀ o X, e1 = some (o, X) → apE e1 (apE e2 h2) o = some X := fun o X he => by rw [he]; exact upd_same _ _ _
 have at2 : ∀ o X, e2 = some (o, X) → apE e1 (apE e2 h2) o = some X := fun o X he => by rw [apE_comm hb3, he]; exact upd_same _ _ _
 have fr1 : ∀ o X, e1 = some (o, X) → h o = none ∧ o ≠ o1 := fun o X he => by
  have := g2 o X he
  refine ⟨?_, fun e => by rw [e, f1] at this; cases this⟩
  cases hq : h o with
  | none => rfl
  | some Y => rw [f3 o (by rw [hq]; simp), hq] at this; cases this
 have fr2 : ∀ o X, e2 = some (o, X) → h o = none ∧ o ≠ o1 := fun o X he => by
  have := g4 o X he
  refine ⟨?_, fun e => by rw [e, f1] at this; cases this⟩
  cases hq : h o with
  | none => rfl
  | some Y => rw [f3 o (by rw [hq]; simp), hq] at this; cases this
 obtain ⟨h3, hh3⟩ : ∃ h3, h3 = apE (some (o1, .arr [r1, r2])) (apE e1 (apE e2 h2)) := ⟨_, rfl⟩
 rw [← hh3]
 have k3 : ∀ x, h x ≠ none → h3 x = h x := fun x hx => by
  have c1 : x ≠ o1 := fun e => hx (by rw [e]; exact no1)
  have := f3 x hx
  rw [hh3]
  show upd _ o1 _ x = _
  rw [upd_ne _ _ c1, live2 x (by rw [this]; exact hx), this]
 have q1 : h3 o1 = some (.arr [r1, r2]) := by rw [hh3]; exact upd_same _ _ _
 have q2 : h3 o2 = some (.arr [.sc (.slice none 0 0), .sc (.slice none 0 0)]) := by
  rw [hh3]
  show upd _ o1 _ o2 = _
  rw [upd_ne _ _ n12.symm, live2 o2 (by rw [f2]; simp), f2]
 have q3 : ∀ o X, e1 = some (o, X) → h3 o = some X ∧ h o = none ∧ o ≠ o1 ∧ o ≠ o2 := fun o X he => by
  obtain ⟨a, b⟩ := fr1 o X he
  refine ⟨?_, a, b, fun e => by have := g2 o X he; rw [e, f2] at this; cases this⟩
  rw [hh3]
  show upd _ o1 _ o = _
  rw [upd_ne _ _ b, at1 o X he]
 have q4 : ∀ o X, e2 = some (o, X) → h3 o = some X ∧ h o = none ∧ o ≠ o1 ∧ o ≠ o2 := fun o X he => by
  obtain ⟨a, b⟩ := fr2 o X he
  refine ⟨?_, a, b, fun e => by have := g4 o X he; rw [e, f2] at this; cases this⟩
  rw [hh3]
  show upd _ o1 _ o = _
  rw [upd_ne _ _ b, at2 o X he]
 clear hh3 live2 at1 at2 fr1 fr2 f1 f2 f3 g2 g4
 obtain ⟨d1, dd1, _, _, _⟩ := g1.same
 obtain ⟨d2, dd2, _, _, _⟩ := g3.same
 have hcut : ∀ h', (∀ x, h3 x ≠ none → oid r1 ≠ some x → x ≠ o2 → h' x = h3 x) → Row h h' 2 r2 ces ∧ dj r1 r2 ∧ ∀ o, oid r2 = some o → h3 o ≠ none := fun h' hk => by
  refine ⟨?_, ?_, ?_⟩
  ·rcases id g3 with ⟨_, rfl, rfl | rfl⟩ | ⟨o, cap, z, he, rfl, b1, b2, b3⟩
   ·exact .inl ⟨rfl, rfl⟩
   ·exact .inr (.inl ⟨⟨_, rfl⟩, rfl⟩)
   ·obtain ⟨a1, a2, _, a3⟩ := q4 o _ he
    refine .inr (.inr ⟨o, cap, z, a2, rfl, Nat.lt_of_lt_of_le (List.length_pos_iff.2 b1) b2, b2, b3, ?_⟩)
    rw [hk o (by rw [a1]; simp) ?_ a3, a1]
    intro hq
    rcases id g1 with ⟨_, _, rfl | rfl⟩ | ⟨o', _, _, he', rfl, _⟩
    ·cases hq
    ·cases hq
    ·cases hq
     exact hb3 _ _ _ _ he' he rfl
  ·intro o h1 h2
   rcases id g1 with ⟨_, _, rfl | rfl⟩ | ⟨o', _, _, he', rfl, _⟩
   ·cases h1
   ·cases h1
   ·cases h1
    rcases id g3 with ⟨_, _, rfl | rfl⟩ | ⟨o', _, _, he, rfl, _⟩
    ·cases h2
    ·cases h2
    ·cases h2
     exact hb3 _ _ _ _ he' he rfl
  ·intro o ho
   rcases id g3 with ⟨_, _, rfl | rfl⟩ | ⟨o', _, _, he, rfl, _⟩
   ·cases ho
   ·cases ho
   ·cases ho
    rw [(q4 _ _ he).1]
    simp
 refine A_seq_gen fun M hM => ?_
 rcases id g1 with ⟨he1, hnil, hr1⟩ | ⟨oB, cap, z, he1, rfl, hne, hcap, hz⟩
 ·
  have eb0 : E.bags.length = 0 := by rw [← eb, hnil]; rfl
  have hl0 : ∀ (t : Nat → AV) (h : Heap), aexLen 0 t h r1 = some (.val (.sc (.int .i64 ((0 : Nat) : Int))) t h) := fun t h => by rcases hr1 with rfl | rfl <;> rfl
  have d00 : decide ((0 : Nat) < 0) = false := rfl
  refine A_seq_gen fun N hN => W_sound ?_
  refine W_f (fun t => t 1 = .op o1 0 ∧ t 2 = .op o2 0 ∧ True) ?_; rintro t ⟨t1, t2, -⟩
  simp (disch := omega) only [go_sem, ↓reduceIte, Nat.reduceEqDiff, Nat.reduceLeDiff, t1, q1, d1, hl0]
  refine hN _ ?_; clear hN N
  refine A_block ?_
  refine A_loopN (fun m t h' => h' = h3 ∧ t 1 = .op o1 0 ∧ t 2 = .op o2 0 ∧ t 17 = .sc (.int .i64 ((0 : Nat) : Int)) ∧ t 18 = .sc (.int .i64 ((0 : Nat) : Int))) (n := 0) ⟨rfl, by simp [upd_at, t1], by simp [upd_at, t2], by simp [upd_at], by simp [upd_at]⟩ ?_
  clear t1 t2 t1' t2' t t'
  rintro m t h' ⟨rfl, t1, t2, t17, t18⟩
  refine A_seq_gen fun N hN => W_sound ?_
  simp (disch := omega) only [go_sem, ↓reduceIte, Nat.reduceEqDiff, Nat.reduceLeDiff, t17, t18, d00]
  refine hN _ ?_; clear hN N
  refine A_seq_gen fun N hN => W_sound ?_
  simp (disch := omega) only [go_sem, ↓reduceIte, Nat.reduceEqDiff, Nat.reduceLeDiff]
  refine hM _ ?_; clear hM M hN N
  refine A_seq_gen fun N hN => W_sound ?_
  refine W_f (fun t => t 1 = .op o1 0 ∧ t 2 = .op o2 0 ∧ True) ?_; rintro t ⟨t1, t2, -⟩
  simp (disch := omega) only [go_sem, ↓reduceIte, Nat.reduceEqDiff, Nat.reduceLeDiff, t1, t2, q1, q2, dd1, dd2, setRA2]
  refine hN _ ?_; clear hN N
  refine W_sound ?_
  simp (disch := omega) only [go_sem, ↓reduceIte, Nat.reduceEqDiff, Nat.reduceLeDiff, t2, upd_same, dd1, dd2]
  refine ⟨r1, r2, rfl, h', [], ces, ⟨dd1, dd2⟩, (fun x hx => by by_cases c : x = o2 <;> simp [upd, c, hx]), k3, fun x hx => ?_, ?_, ?_⟩
  ·have : x ≠ o2 := fun e => hx (by rw [e]; exact no2)
   simp [upd, this, k3 x hx]
  ·rcases hr1 with rfl | rfl
   ·exact .inl ⟨rfl, rfl⟩
   ·exact .inr (.inl ⟨⟨_, rfl⟩, rfl⟩)
  ·obtain ⟨c1, c2, c3⟩ := hcut (fun x => if x = o2 then some (.arr [r1, r2]) else h' x) (fun x hx _ hx2 => by simp [hx2])
   refine ⟨c1, hC, c2, ?_, c3, eb0.symm, GE.nil, fun i b hb hi => absurd hi (by simp)⟩
   intro o ho
   rcases hr1 with rfl | rfl <;> cases ho
 ·
  obtain ⟨w1, w2, w3, w4⟩ := q3 oB _ he1
  have nB1 : oB ≠ o1 := w3
  have nB2 : oB ≠ o2 := w4
  have nl : ∀ (t : Nat → AV) (h : Heap), aexLen 0 t h (.rs oB 0 3 bes.length (some cap)) = some (.val (.sc (.int .i64 (bes.length : Nat))) t h) := fun t h => rfl
  refine A_seq_gen fun N hN => W_sound ?_
  refine W_f (fun t => t 1 = .op o1 0 ∧ t 2 = .op o2 0 ∧ True) ?_; rintro t ⟨t1, t2, -⟩
  simp (disch := omega) only [go_sem, ↓reduceIte, Nat.reduceEqDiff, Nat.reduceLeDiff, t1, q1, nl]
  refine hN _ ?_; clear hN N
  refine A_block ?_
  refine A_loopN (fun m t h' => ∃ i es, m = bes.length - i ∧ i ≤ bes.length ∧ es.length = i ∧ t 1 = .op o1 0 ∧ t 2 = .op o2 0 ∧ t 16 = .rs oB 0 3 bes.length (some cap) ∧ t 17 = .sc (.int .i64 (bes.length : Nat)) ∧ t 18 = .sc (.int .i64 (i : Nat)) ∧
    (∀ x, h3 x ≠ none → x ≠ oB → h' x = h3 x) ∧ h' oB = some (.arr (es.flatten ++ (bes.drop i).flatten ++ z)) ∧ GE 3 es ∧ Bags h3 h' E.bags j es) (n := bes.length)
   ⟨0, [], rfl, Nat.zero_le _, rfl, by simp [upd_at, t1], by simp [upd_at, t2], by simp [upd_at], by simp [upd_at], by simp [upd_at], fun x _ _ => rfl, by rw [w1]; rfl, GE.nil, fun i b _ hi => absurd hi (by simp)⟩ ?_
  clear t1 t2 t1' t2' t t'
  rintro m t h' ⟨i, es, rfl, hi, hes, t1, t2, t16, t17, t18, hk, hoB, hge, hbags⟩
  have hx1 : h' o1 = some (.arr [.rs oB 0 3 bes.length (some cap), r2]) := by rw [hk o1 (by rw [q1]; simp) nB1.symm, q1]
  have hx2 : h' o2 = some (.arr [.sc (.slice none 0 0), .sc (.slice none 0 0)]) := by rw [hk o2 (by rw [q2]; simp) nB2.symm, q2]
  rcases Nat.lt_or_ge i bes.length with hlt | hgei
  ·obtain ⟨e, g0, lv, xs, rfl, hlv, hxs⟩ := hB.lt (i := i) (by omega)
   obtain ⟨hsl, hsb⟩ := hs _ (List.getElem_mem (show i < E.bags.length by omega))
   have gdb : E.bags[i]? = some E.bags[i] := List.getElem?_eq_getElem (by omega)
   generalize E.bags[i] = b at g0 hlv hxs hsl hsb gdb
   have hgx := pc_ge hxs
   have ex := hxs.len
   have hdr : bes.drop i = [.sc (.int .i64 b.k.1), .sc (.int .i64 b.k.2), lv] :: bes.drop (i + 1) := by
    rw [List.drop_eq_getElem_cons hlt]
    rw [List.getElem?_eq_getElem hlt] at g0
    rw [Option.some.inj g0]
   have fl : es.flatten.length = i * 3 := by rw [hge.len, hes]
   rw [hdr] at hoB
   have hat := rows_at (z := z) (B := bes.drop (i + 1)) (e := [.sc (.int .i64 b.k.1), .sc (.int .i64 b.k.2), lv]) (sz := 3) fl rfl
   have hset := fun (x : AV) => rows_set (z := z) (B := bes.drop (i + 1)) (e := [.sc (.int .i64 b.k.1), .sc (.int .i64 b.k.2), lv]) (k := 2) (x := x) (e' := [.sc (.int .i64 b.k.1), .sc (.int .i64 b.k.2), x]) fl (by simp) rfl
   have hlen : i * 3 + 3 ≤ (es.flatten ++ ([.sc (.int .i64 b.k.1), .sc (.int .i64 b.k.2), lv] :: bes.drop (i + 1)).flatten ++ z).length := by
    rw [List.length_append, List.length_append, fl, List.flatten_cons, List.length_append, List.length_cons, List.length_cons, List.length_cons, List.length_nil]; omega
   have hlen1 : i * 3 + 2 + 1 ≤ (es.flatten ++ ([.sc (.int .i64 b.k.1), .sc (.int .i64 b.k.2), lv] :: bes.drop (i + 1)).flatten ++ z).length := by omega
   generalize es.flatten ++ ([.sc (.int .i64 b.k.1), .sc (.int .i64 b.k.2), lv] :: bes.drop (i + 1)).flatten ++ z = cs at hoB hat hset hlen hlen1
   have iad : ∀ t (h : Heap), aexIad 3 ((i : Nat) : Int) t h (.rs oB 0 3 bes.length (some cap)) = some (.val (.op oB (i * 3)) t h) := fun t h => by
    have : (3 = 3 ∧ (0 : Int) ≤ (i : Int) ∧ (i : Int) < bes.length) := ⟨rfl, by omega, by omega⟩
    simp only [aexIad, this, and_self, if_true, Int.toNat_natCast, Nat.zero_add]
   refine A_seq_gen fun N hN => W_sound ?_
   simp (disch := omega) only [go_sem, ↓reduceIte, Nat.reduceEqDiff, Nat.reduceLeDiff, t17, t18, hlt]
   refine hN _ ?_; clear hN N
   refine A_seq_gen fun N hN => W_sound ?_
   simp (disch := omega) only [go_sem, ↓reduceIte, Nat.reduceEqDiff, Nat.reduceLeDiff]
   refine hN _ ?_; clear hN N
   refine A_seq_gen fun R hR => ?_
   refine A_block ?_
   refine A_seq_gen fun N hN => W_sound ?_
   refine W_f (fun t => t 1 = .op o1 0 ∧ t 2 = .op o2 0 ∧ t 16 = .rs oB 0 3 bes.length (some cap) ∧ t 17 = .sc (.int .i64 (bes.length : Nat)) ∧ t 18 = .sc (.int .i64 (i : Nat)) ∧ True) ?_; rintro t ⟨t1, t2, t16, t17, t18, -⟩
   simp (disch := omega) only [go_sem, ↓reduceIte, Nat.reduceEqDiff, Nat.reduceLeDiff, t16, t18, iad, hoB, hlen, hat, hlv.disc, hlv.same]
   intro o4 h4
   refine hN _ ?_; clear hN N
   refine A_ob ((OB.nil (h := h')).new h4) fun hc hO => ?_
   have ho4 := hO.get0
   have hcB := hO.live hoB
   have hc1 := hO.live hx1
   have hc2 := hO.live hx2
   have hkc := hO.keep
   have hn4 := hO.own0
   clear hO h4
   refine A_seq_gen fun N hN => W_sound ?_
   refine W_f (fun t => t 1 = .op o1 0 ∧ t 2 = .op o2 0 ∧ t 3 = .sc (.int .i64 (i : Nat)) ∧ t 4 = .op o4 0 ∧ t 16 = .rs oB 0 3 bes.length (some cap) ∧ t 17 = .sc (.int .i64 (bes.length : Nat)) ∧ t 18 = .sc (.int .i64 (i : Nat)) ∧ True) ?_; rintro t ⟨t1, t2, t3, t4, t16, t17, t18, -⟩
   simp (disch := omega) only [go_sem, ↓reduceIte, Nat.reduceEqDiff, Nat.reduceLeDiff, t4, ho4, hlv.same, hlv.disc]
   refine (cloP_ok H hlv hgx (by omega) _).mono ?_
   rintro r _ ⟨e5, hce, hfr, rfl⟩
   obtain ⟨s1, s2, s3, s4, s5⟩ := hce.same
   rw [contK_some]; simp (disch := omega) only [go_sem, ↓reduceIte, Nat.reduceEqDiff, Nat.reduceLeDiff, s1, s5]
   refine hN _ ?_; clear hN N
   have hck : ∀ x, hc x ≠ none → apE e5 hc x = hc x := ap_keep hfr
   have f1B := (hck oB (by rw [hcB]; simp)).trans hcB
   have f11 := (hck o1 (by rw [hc1]; simp)).trans hc1
   have f12 := (hck o2 (by rw [hc2]; simp)).trans hc2
   have hat5 : ∀ o X, e5 = some (o, X) → apE e5 hc o = some X := fun o X he => by rw [he]; exact upd_same _ _ _
   have hk5 : ∀ x, h' x ≠ none → apE e5 hc x = h' x := fun x hx => by rw [hck x (by rw [hkc x hx]; exact hx), hkc x hx]
   have hf5 : ∀ o X, e5 = some (o, X) → h' o = none ∧ o ≠ oB := fun o X he => by
    have := hfr o X he
    refine ⟨?_, fun e => by rw [e, hcB] at this; cases this⟩
    cases hq : h' o with
    | none => rfl
    | some Y => rw [hkc o (by rw [hq]; simp), hq] at this; cases this
   obtain ⟨hd, hhd⟩ : ∃ hd, hd = apE e5 hc := ⟨_, rfl⟩
   rw [← hhd] at f1B f11 f12 hat5 hk5 ⊢
   clear hhd hck hfr ho4 hcB hc1 hc2 hkc hn4 hc
   refine A_seq_gen fun M2 hM2 => W_sound ?_
   refine W_f (fun t => t 1 = .op o1 0 ∧ t 2 = .op o2 0 ∧ t 3 = .sc (.int .i64 (i : Nat)) ∧ t 5 = r ∧ t 16 = .rs oB 0 3 bes.length (some cap) ∧ t 17 = .sc (.int .i64 (bes.length : Nat)) ∧ t 18 = .sc (.int .i64 (i : Nat)) ∧ True) ?_; rintro t ⟨t1, t2, t3, t5, t16, t17, t18, -⟩
   have next : ∀ (v : AV) (hf : Heap) (t : Nat → AV), t 1 = .op o1 0 → t 2 = .op o2 0 → t 3 = .sc (.int .i64 (i : Nat)) → t 5 = v → t 16 = .rs oB 0 3 bes.length (some cap) → t 17 = .sc (.int .i64 (bes.length : Nat)) → t 18 = .sc (.int .i64 (i : Nat)) →
     v.dis = v → v.disc = v → v.cellsD = [v] → v.isTu = false → hf oB = some (.arr cs) → hf o1 = some (.arr [.rs oB 0 3 bes.length (some cap), r2]) → (∀ x, h3 x ≠ none → x ≠ oB → hf x = h3 x) → Bags h3 hf E.bags j es → Prc h3 hf v b (decide (i = j)) →
     AW P ann (.reg [⟨some 42, .fad 0 (.t 1), none⟩, ⟨some 43, .ld false false 1 (.t 42), none⟩, ⟨some 44, .mov false (.t 3), none⟩, ⟨some 45, .mov false (.t 5), none⟩, ⟨some 46, .iad 3 (.t 43) (.t 44), none⟩, ⟨some 47, .fad 2 (.t 46), none⟩, ⟨none, .st 1 (.t 47) (.t 45), none⟩]) ⟨t, hf⟩ (blockQ 1 (thenQ R (thenQ (fun s' => ∃ m, m < bes.length - i ∧ ∃ i es, m = bes.length - i ∧ i ≤ bes.length ∧ es.length = i ∧ s'.t 1 = .op o1 0 ∧ s'.t 2 = .op o2 0 ∧ s'.t 16 = .rs oB 0 3 bes.length (some cap) ∧ s'.t 17 = .sc (.int .i64 (bes.length : Nat)) ∧ s'.t 18 = .sc (.int .i64 (i : Nat)) ∧
    (∀ x, h3 x ≠ none → x ≠ oB → s'.h x = h3 x) ∧ s'.h oB = some (.arr (es.flatten ++ (bes.drop i).flatten ++ z)) ∧ GE 3 es ∧ Bags h3 s'.h E.bags j es) (blockQ 0 (thenQ M fun e s => (e = .ret ∨ e = .normal) ∧ ∃ v, resA [.cell 2 true 2] s = some v ∧ ∃ Bv Cv, v = .ag [Bv, Cv] ∧ OwnR h s.h j Bv Cv E))))) := by
    intro v hf t t1 t2 t3 t5 t16 t17 t18 v1 v2 v3 v4 a1 a2 a3 a4 a5
    refine W_sound ?_
    simp (disch := omega) only [go_sem, ↓reduceIte, Nat.reduceEqDiff, Nat.reduceLeDiff, t1, t3, t5, a1, a2, iad, hlen1, v1, v3, v4, hset]
    refine hR _ ?_; clear hR
    refine W_sound ?_
    simp (disch := omega) only [go_sem, ↓reduceIte, Nat.reduceEqDiff, Nat.reduceLeDiff, t18, nat_add]
    refine ⟨bes.length - (i + 1), by omega, i + 1, es ++ [[.sc (.int .i64 b.k.1), .sc (.int .i64 b.k.2), v]], rfl, by omega, by simp [hes], t1, t2, t16, t17, rfl, fun x hx hxb => ?_, ?_, ?_, ?_⟩
    ·simp [upd, hxb, a3 x hx hxb]
    ·simp [upd]
    ·refine hge.app fun x hx => ?_
     rw [List.mem_singleton] at hx
     subst hx
     exact ⟨rfl, by simp [disc_sc, v2]⟩
    ·refine bags_snoc (hes.trans rfl) gdb ?_ ?_
     ·exact bags_mono a4 fun o X ho hX => by
       have : o ≠ oB := fun e => by
        rw [e] at ho
        rw [w1] at ho
        cases ho
       simp [upd, this, hX]
     ·exact prc_mono a5 fun o X ho hX => by
       have : o ≠ oB := fun e => by
        rw [e] at ho
        rw [w1] at ho
        cases ho
       simp [upd, this, hX]
   have hkB : ∀ x, h3 x ≠ none → x ≠ oB → hd x = h3 x := fun x hx hxb => by
    have := hk x hx hxb
    rw [hk5 x (by rw [this]; exact hx), this]
   have hmB : ∀ o X, h3 o = none → h' o = some X → hd o = some X := fun o X _ hX => by rw [hk5 o (by rw [hX]; simp), hX]
   rcases id hce with ⟨he5, hxn, hr5⟩ | ⟨oL, capL, zL, he5, rfl, hxne, hcL, hzL⟩
   ·have hl0 : ∀ (t : Nat → AV) (h : Heap), aexLen 0 t h r = some (.val (.sc (.int .i64 ((0 : Nat) : Int))) t h) := fun t h => by rcases hr5 with rfl | rfl <;> rfl
    have d00 : decide ((0 : Nat) < 0) = false := rfl
    (refine W_seq_gen fun N hN => ?_); simp (disch := omega) only [go_sem, ↓reduceIte, Nat.reduceEqDiff, Nat.reduceLeDiff, t5, s1, hl0]
    refine hN _ ?_; clear hN N
    simp (disch := omega) only [go_sem, ↓reduceIte, Nat.reduceEqDiff, Nat.reduceLeDiff]
    refine AW_loopN (fun m t h' => h' = hd ∧ t 1 = .op o1 0 ∧ t 2 = .op o2 0 ∧ t 3 = .sc (.int .i64 (i : Nat)) ∧ t 5 = r ∧ t 16 = .rs oB 0 3 bes.length (some cap) ∧ t 17 = .sc (.int .i64 (bes.length : Nat)) ∧ t 18 = .sc (.int .i64 (i : Nat)) ∧ t 27 = .sc (.int .i64 ((0 : Nat) : Int)) ∧ t 28 = .sc (.int .i64 ((0 : Nat) : Int))) (n := 0)
     ⟨rfl, by simp [upd_at, t1], by simp [upd_at, t2], by simp [upd_at, t3], by simp [upd_at, t5], by simp [upd_at, t16], by simp [upd_at, t17], by simp [upd_at, t18], by simp [upd_at], by simp [upd_at]⟩ ?_
    clear t1 t2 t3 t5 t16 t17 t18 t
    rintro m t h'' ⟨rfl, t1, t2, t3, t5, t16, t17, t18, t27, t28⟩
    (refine W_seq_gen fun N hN => ?_); simp (disch := omega) only [go_sem, ↓reduceIte, Nat.reduceEqDiff, Nat.reduceLeDiff, t27, t28, d00]
    refine hN _ ?_; clear hN N
    (refine W_seq_gen fun N hN => ?_); simp (disch := omega) only [go_sem, ↓reduceIte, Nat.reduceEqDiff, Nat.reduceLeDiff]
    refine hM2 _ ?_; clear hN N hM2 M2
    refine next r h'' _ (by simp [upd_at, t1]) (by simp [upd_at, t2]) (by simp [upd_at, t3]) (by simp [upd_at, t5]) (by simp [upd_at, t16]) (by simp [upd_at, t17]) (by simp [upd_at, t18]) s1 s2 s3 s4 f1B f11 hkB (bags_mono hbags hmB) ⟨xs, hxs, ?_⟩
    subst hxn
    cases decide (i = j) with
    | false => rcases hr5 with rfl | rfl <;> first | exact .nil | exact .bs
    | true => rcases hr5 with rfl | rfl <;> first | exact .inl ⟨rfl, rfl⟩ | exact .inr (.inl ⟨⟨_, rfl⟩, rfl⟩)
   ·have hoL := hat5 oL _ he5
    obtain ⟨hLn, hLB⟩ := hf5 oL _ he5
    have h3L : h3 oL = none := by
     cases hq : h3 oL with
     | none => rfl
     | some Y => have := hk oL (by rw [hq]; simp) hLB; rw [hLn, hq] at this; cases this
    have nlL : ∀ (t : Nat → AV) (h : Heap), aexLen 0 t h (.rs oL 0 2 xs.length (some capL)) = some (.val (.sc (.int .i64 (xs.length : Nat))) t h) := fun t h => rfl
    have flen : ∀ k, k ≤ xs.length → ((xs.take k).map pcD).flatten.length = k * 2 := fun k hk => by
     have : GE 2 ((xs.take k).map pcD) := ge_pcD (fun e he => hgx e (List.mem_of_mem_take he)) (hxs.take k)
     rw [this.len, List.length_map, List.length_take, Nat.min_eq_left hk]
    (refine W_seq_gen fun N hN => ?_); simp (disch := omega) only [go_sem, ↓reduceIte, Nat.reduceEqDiff, Nat.reduceLeDiff, t5, nlL]
    refine hN _ ?_; clear hN N
    simp (disch := omega) only [go_sem, ↓reduceIte, Nat.reduceEqDiff, Nat.reduceLeDiff]
    refine AW_loopN (fun m t hh => ∃ k, m = xs.length - k ∧ k ≤ xs.length ∧ t 1 = .op o1 0 ∧ t 2 = .op o2 0 ∧ t 3 = .sc (.int .i64 (i : Nat)) ∧ t 5 = .rs oL 0 2 xs.length (some capL) ∧ t 16 = .rs oB 0 3 bes.length (some cap) ∧ t 17 = .sc (.int .i64 (bes.length : Nat)) ∧ t 18 = .sc (.int .i64 (i : Nat)) ∧
      t 27 = .sc (.int .i64 (xs.length : Nat)) ∧ t 28 = .sc (.int .i64 (k : Nat)) ∧ (∀ x, hd x ≠ none → x ≠ oL → hh x = hd x) ∧ hh oL = some (.arr (((xs.take k).map pcD).flatten ++ (xs.drop k).flatten ++ zL))) (n := xs.length)
     ⟨0, rfl, Nat.zero_le _, by simp [upd_at, t1], by simp [upd_at, t2], by simp [upd_at, t3], by simp [upd_at, t5], by simp [upd_at, t16], by simp [upd_at, t17], by simp [upd_at, t18], by simp [upd_at], by simp [upd_at], fun x _ _ => rfl, by rw [hoL]; rfl⟩ ?_
    clear t1 t2 t3 t5 t16 t17 t18 t
    rintro m t hh ⟨k, rfl, hkx, t1, t2, t3, t5, t16, t17, t18, t27, t28, hkk, hho⟩
    rcases Nat.lt_or_ge k xs.length with hklt | hkge
    ·obtain ⟨e, g1, w, rfl, hw⟩ := hxs.lt (i := k) (by omega)
     have hdk : xs.drop k = [w, .sc (.bool (b.l[k]'(by omega)).2)] :: xs.drop (k + 1) := by
      rw [List.drop_eq_getElem_cons hklt]
      rw [List.getElem?_eq_getElem hklt] at g1
      rw [Option.some.inj g1]
     have htk : xs.take (k + 1) = xs.take k ++ [[w, .sc (.bool (b.l[k]'(by omega)).2)]] := by rw [List.take_add_one, g1]; rfl
     have flk := flen k hkx
     have hbw := hsb _ (List.getElem_mem (show k < b.l.length by omega))
     generalize (b.l[k]'(by omega)) = pp at g1 hdk htk hw hbw
     rw [hdk] at hho
     have iadL : ∀ t (h : Heap), aexIad 2 ((k : Nat) : Int) t h (.rs oL 0 2 xs.length (some capL)) = some (.val (.op oL (k * 2)) t h) := fun t h => by
      have : (2 = 2 ∧ (0 : Int) ≤ (k : Int) ∧ (k : Int) < xs.length) := ⟨rfl, by omega, by omega⟩
      simp only [aexIad, this, and_self, if_true, Int.toNat_natCast, Nat.zero_add]
     have hatk := rows_at (z := zL) (B := xs.drop (k + 1)) (e := [w, .sc (.bool pp.2)]) (sz := 2) flk rfl
     have hatw : ((((xs.take k).map pcD).flatten ++ ([w, .sc (.bool pp.2)] :: xs.drop (k + 1)).flatten ++ zL).drop (k * 2)).take 1 = [w] := by
      have := congrArg (List.take 1) hatk
      rw [List.take_take] at this
      exact this
     have hsetk := rows_set (z := zL) (B := xs.drop (k + 1)) (e := [w, .sc (.bool pp.2)]) (k := 0) (x := frz w) (e' := [frz w, .sc (.bool pp.2)]) flk (by simp) rfl
     have hlk : k * 2 + 1 ≤ (((xs.take k).map pcD).flatten ++ ([w, .sc (.bool pp.2)] :: xs.drop (k + 1)).flatten ++ zL).length := by
      rw [List.length_append, List.length_append, flk, List.flatten_cons, List.length_append, List.length_cons, List.length_cons, List.length_nil]; omega
     generalize ((xs.take k).map pcD).flatten ++ ([w, .sc (.bool pp.2)] :: xs.drop (k + 1)).flatten ++ zL = csL at hho hatw hsetk hlk
     have cw : (frz w).cellsD = [frz w] ∧ (frz w).isTu = false := by rcases (frz_sf hw) with ⟨q, _⟩ | ⟨_, q⟩ <;> rw [q] <;> exact ⟨rfl, rfl⟩
     (refine W_seq_gen fun N hN => ?_); simp (disch := omega) only [go_sem, ↓reduceIte, Nat.reduceEqDiff, Nat.reduceLeDiff, t27, t28, hklt]
     refine hN _ ?_; clear hN N
     (refine W_seq_gen fun N hN => ?_); simp (disch := omega) only [go_sem, ↓reduceIte, Nat.reduceEqDiff, Nat.reduceLeDiff]
     refine hN _ ?_; clear hN N
     (refine W_seq_gen fun R hR => ?_)
     rw [W_block]
     (refine W_seq_gen fun N hN => ?_); simp (disch := omega) only [go_sem, ↓reduceIte, Nat.reduceEqDiff, Nat.reduceLeDiff, t28]
     refine hN _ ?_; clear hN N
     refine W_f (fun t => t 1 = .op o1 0 ∧ t 2 = .op o2 0 ∧ t 3 = .sc (.int .i64 (i : Nat)) ∧ t 5 = .rs oL 0 2 xs.length (some capL) ∧ t 6 = .sc (.int .i64 (k : Nat)) ∧ t 16 = .rs oB 0 3 bes.length (some cap) ∧ t 17 = .sc (.int .i64 (bes.length : Nat)) ∧ t 18 = .sc (.int .i64 (i : Nat)) ∧ t 27 = .sc (.int .i64 (xs.length : Nat)) ∧ t 28 = .sc (.int .i64 (k : Nat)) ∧ True) ?_; rintro t ⟨t1, t2, t3, t5, t6, t16, t17, t18, t27, t28, -⟩
     rw [Nat.add_zero] at hsetk
     simp (disch := omega) only [go_sem, ↓reduceIte, Nat.reduceEqDiff, Nat.reduceLeDiff, t5, t6, iadL, Nat.add_zero, hho, hlk, hatw, hw.same, hw.disc]
     refine (clonev_ok H hw (by rw [u8s_len]; omega) _).mono ?_
     rintro _ _ ⟨rfl, rfl⟩
     rw [contK_some]; simp (disch := omega) only [go_sem, ↓reduceIte, Nat.reduceEqDiff, Nat.reduceLeDiff, t5, t6, iadL, Nat.add_zero, hho, hlk, cw.1, cw.2, hsetk]
     refine hR _ ?_; clear hR R
     simp (disch := omega) only [go_sem, ↓reduceIte, Nat.reduceEqDiff, Nat.reduceLeDiff, t28, nat_add]
     refine ⟨xs.length - (k + 1), by omega, k + 1, rfl, by omega, t1, t2, t3, t5, t16, t17, t18, t27, rfl, fun x hx hxl => ?_, ?_⟩
     ·simp [upd, hxl, hkk x hx hxl]
     ·rw [htk]
      simp [pcD]
    ·obtain rfl : k = xs.length := by omega
     (refine W_seq_gen fun N hN => ?_); simp (disch := omega) only [go_sem, ↓reduceIte, Nat.reduceEqDiff, Nat.reduceLeDiff, t27, t28, Nat.lt_irrefl]
     refine hN _ ?_; clear hN N
     (refine W_seq_gen fun N hN => ?_); simp (disch := omega) only [go_sem, ↓reduceIte, Nat.reduceEqDiff, Nat.reduceLeDiff]
     refine hM2 _ ?_; clear hN N hM2 M2
     rw [List.take_length, List.drop_length, List.flatten_nil, List.append_nil] at hho
     have hhB := (hkk oB (by rw [f1B]; simp) hLB.symm).trans f1B
     have hL1 : oL ≠ o1 := fun e => by rw [e, q1] at h3L; cases h3L
     have hh1 := (hkk o1 (by rw [f11]; simp) hL1.symm).trans f11
     have hkf : ∀ x, h3 x ≠ none → x ≠ oB → hh x = h3 x := fun x hx hxb => by
      have hxl : x ≠ oL := fun e => hx (by rw [e]; exact h3L)
      have := hkB x hx hxb
      rw [hkk x (by rw [this]; exact hx) hxl, this]
     have hbl : ∀ o X, h3 o = none → h' o = some X → hh o = some X ∧ o ≠ oL := fun o X ho hX => by
      have hxl : o ≠ oL := fun e => by rw [e, hLn] at hX; cases hX
      have := hmB o X ho hX
      exact ⟨by rw [hkk o (by rw [this]; simp) hxl, this], hxl⟩
     have hgD := ge_pcD hgx hxs
     by_cases hij : i = j
     ·refine next (.rs oL 0 2 xs.length (some capL)) hh _ (by simp [upd_at, t1]) (by simp [upd_at, t2]) (by simp [upd_at, t3]) (by simp [upd_at, t5]) (by simp [upd_at, t16]) (by simp [upd_at, t17]) (by simp [upd_at, t18]) rfl rfl rfl rfl hhB hh1 hkf (bags_mono hbags fun o X ho hX => (hbl o X ho hX).1) ⟨xs.map pcD, pc_D hxs, ?_⟩
      have : decide (i = j) = true := by simpa using hij
      rw [this]
      exact .inr (.inr ⟨oL, capL, zL, h3L, by rw [List.length_map], Nat.lt_of_lt_of_le (List.length_pos_iff.2 hxne) hcL, by rw [List.length_map]; exact hcL, by rw [List.length_map]; exact hzL, hho⟩)
     ·have hle : 0 + xs.length * 2 ≤ ((xs.map pcD).flatten ++ zL).length := by rw [List.length_append, hgD.len, List.length_map]; omega
      refine .ghost (.slot (i := 5) (o := oL) (c := 0) (sz := 2) (n := xs.length) (lim := some capL) false (by simp [upd_at, t5]) hho hle (fun q => by cases q)) ?_
      have hch : chunks 2 xs.length ((((xs.map pcD).flatten ++ zL).drop 0).map AV.disc) = xs.map pcD := by
       rw [List.drop_zero, List.map_append, hgD.disc]
       have := hgD.chunks (zL.map AV.disc)
       rwa [List.length_map] at this
      rw [hch]
      refine next (.bs false 2 (xs.map pcD) (some capL)) _ _ (by simp [upd_at, t1]) (by simp [upd_at, t2]) (by simp [upd_at, t3]) (by simp [upd_at]) (by simp [upd_at, t16]) (by simp [upd_at, t17]) (by simp [upd_at, t18]) rfl rfl rfl rfl (by simp [upd, hLB.symm, hhB]) (by simp [upd, hL1.symm, hh1]) (fun x hx hxb => ?_) (bags_mono hbags fun o X ho hX => ?_) ⟨xs.map pcD, pc_D hxs, ?_⟩
      ·have hxl : x ≠ oL := fun e => hx (by rw [e]; exact h3L)
       simp [upd, hxl, hkf x hx hxb]
      ·obtain ⟨a, b⟩ := hbl o X ho hX
       simp [upd, b, a]
      ·have : decide (i = j) = false := by simpa using hij
       rw [this]
       exact .bs
  ·obtain rfl : i = bes.length := by omega
   refine A_seq_gen fun N hN => W_sound ?_
   simp (disch := omega) only [go_sem, ↓reduceIte, Nat.reduceEqDiff, Nat.reduceLeDiff, t17, t18, Nat.lt_irrefl]
   refine hN _ ?_; clear hN N
   refine A_seq_gen fun N hN => W_sound ?_
   simp (disch := omega) only [go_sem, ↓reduceIte, Nat.reduceEqDiff, Nat.reduceLeDiff]
   refine hM _ ?_; clear hM M hN N
   have dr : (AV.rs oB 0 3 bes.length (some cap)).disc = .rs oB 0 3 bes.length (some cap) := rfl
   refine A_seq_gen fun N hN => W_sound ?_
   refine W_f (fun t => t 1 = .op o1 0 ∧ t 2 = .op o2 0 ∧ True) ?_; rintro t ⟨t1, t2, -⟩
   simp (disch := omega) only [go_sem, ↓reduceIte, Nat.reduceEqDiff, Nat.reduceLeDiff, t1, t2, hx1, hx2, dr, dd2, setRA2]
   refine hN _ ?_; clear hN N
   refine W_sound ?_
   simp (disch := omega) only [go_sem, ↓reduceIte, Nat.reduceEqDiff, Nat.reduceLeDiff, t2, upd_same, dr, dd2]
   rw [List.drop_length, List.flatten_nil, List.append_nil] at hoB
   obtain ⟨c1, c2, c3⟩ := hcut (fun x => if x = o2 then some (.arr [.rs oB 0 3 bes.length (some cap), r2]) else h' x) (fun x hx hxo hx2' => by
    have : x ≠ oB := fun e => hxo (by rw [e]; rfl)
    simp [hx2', hk x hx this])
   have hz' : ∀ x, (upd h' o2 (some (.arr [.rs oB 0 3 bes.length (some cap), r2]))) x = if x = o2 then some (.arr [.rs oB 0 3 bes.length (some cap), r2]) else h' x := fun x => rfl
   have hk3 : ∀ x, h3 x ≠ none → (upd h' o2 (some (.arr [.rs oB 0 3 bes.length (some cap), r2]))) x ≠ none := fun x hx => by
    by_cases c : x = o2
    ·simp [upd, c]
    ·by_cases c2 : x = oB
     ·subst c2
      simp [upd, c, hoB]
     ·simp [upd, c, hk x hx c2, hx]
   refine ⟨_, _, rfl, h3, es, ces, ⟨rfl, dd2⟩, hk3, k3, fun x hx => ?_, ?_, c1, hC, c2, ?_, c3, by omega, hge, ?_⟩
   ·have a : x ≠ o2 := fun e => hx (by rw [e]; exact no2)
    have a2 : x ≠ oB := fun e => hx (by rw [e]; exact w2)
    simp [upd, a, hk x (by rw [k3 x hx]; exact hx) a2, k3 x hx]
   ·refine .inr (.inr ⟨oB, cap, z, w2, by rw [hes], Nat.lt_of_lt_of_le (List.length_pos_iff.2 hne) hcap, by rw [hes]; exact hcap, by rw [hes]; exact hz, ?_⟩)
    simp [upd, nB2, hoB]
   ·intro o ho
    cases ho
    rw [w1]
    simp
   ·exact bags_mono hbags fun o X ho hX => by
     have : o ≠ o2 := fun e => by rw [e, q2] at ho; cases ho
     simp [upd, this, hX]
end Go.Proofs.Ytomfknocpijmbaa
end
section
set_option linter.unusedVariables false
set_option linter.unusedSimpArgs false
namespace Go.Proofs.Ytomfknocpijmbaa
open Go.Am
def btw (a b : Int) (k : Int × Int) : Bool := (k.1 == a && k.2 == b) || (k.1 == b && k.2 == a)
def fltE (f : Int × Int → Bool) : List (List AV) → List (Int × Int) → List (List AV)
 | e :: es, k :: l => if f k then fltE f es l else e :: fltE f es l
 | _, _ => []
theorem fltE_snoc {f : Int × Int → Bool} {e : List AV} {k : Int × Int} : ∀ {es : List (List AV)} {l : List (Int × Int)}, es.length = l.length → fltE f (es ++ [e]) (l ++ [k]) = fltE f es l ++ (if f k then [] else [e])
 | [], [], _ => by simp [fltE]
 | e' :: es, k' :: l, h => by
  have := fltE_snoc (f := f) (e := e) (k := k) (es := es) (l := l) (by simpa using h)
  simp only [List.cons_append, fltE, this]
  split <;> simp
 | [], _ :: _, h => by simp at h
 | _ :: _, [], h => by simp at h
theorem fltE_none {f : Int × Int → Bool} : ∀ {es : List (List AV)} {l : List (Int × Int)}, es.length = l.length → (∀ j (hj : j < l.length), f l[j] = false) → fltE f es l = es
 | [], [], _, _ => rfl
 | e' :: es, k' :: l, h, hn => by
  have h0 := hn 0 (by simp)
  simp only [List.getElem_cons_zero] at h0
  simp only [fltE, h0, Bool.false_eq_true, if_false]
  rw [fltE_none (by simpa using h) fun j hj => by have := hn (j + 1) (by simpa using hj); rwa [List.getElem_cons_succ] at this]
 | [], _ :: _, h, _ => by simp at h
 | _ :: _, [], h, _ => by simp at h
theorem fltE_ge {f : Int × Int → Bool} : ∀ {es : List (List AV)} {l : List (Int × Int)}, GE 3 es → GE 3 (fltE f es l)
 | [], _, _ => by simp [fltE, GE]
 | _ :: _, [], _ => by simp [fltE, GE]
 | e :: es, k :: l, h => by
  have := fltE_ge (f := f) (l := l) h.tail
  unfold fltE
  split
  ·exact this
  ·intro x hx
   rcases List.mem_cons.1 hx with rfl | hx
   ·exact h _ (by simp)
   ·exact this x hx
variable {P : Program} (H : Has P)
include H
theorem drop1_ok {a b : Int} {oa ob : Nat} {k : Int × Int} {lv : AV} {h : Heap} (hlv : lv.disc = lv) (ha : h oa = some (.arr [.sc (.int .i64 a)])) (hb : h ob = some (.arr [.sc (.int .i64 b)])) :
  AWF P ann 0 60 [.ag [.sc (.int .i64 k.1), .sc (.int .i64 k.2), lv], .op oa 0, .op ob 0] h fun r h' => r = .sc (.bool (btw a b k)) ∧ h' = h := by
 refine AWF.fnPurec H.f0_60 rfl ?_
 have hO := OB.nil (h := h)
 (refine W_seq_gen fun N hN => ?_); simp (disch := omega) only [go_sem, ↓reduceIte, Nat.reduceEqDiff, Nat.reduceLeDiff, hlv]
 intro o ho
 refine hN _ ?_; clear hN N; refine W_ob (hO.new ho) fun hc hO => ?_
 have h3 := hO.get0
 have hka := hO.live ha
 have hkb := hO.live hb
 have hk := hO.keep
 refine W_f (fun t => t 1 = .op oa 0 ∧ t 2 = .op ob 0 ∧ t 3 = .op o 0 ∧ True) ?_; rintro t ⟨t1, t2, t3, -⟩
 unfold btw
 cases c1 : (k.1 == a) <;> cases c2 : (k.2 == b) <;> cases c3 : (k.1 == b) <;> cases c4 : (k.2 == a) <;>
  (simp (disch := omega) only [go_sem, ↓reduceIte, Nat.reduceEqDiff, Nat.reduceLeDiff, t1, t2, t3, h3, hka, hkb, c1, c2, c3, c4]; exact hk)
theorem idxf_ok {v : AV} {es : List (List AV)} {l : List (Int × Int)} {a b : Int} {oa ob : Nat} {h : Heap} (hv : RD h 3 v es) (hvs : v.dis = v) (hE : RR BK es l) (hl : l.length < 2 ^ 40) (ha : h oa = some (.arr [.sc (.int .i64 a)])) (hb : h ob = some (.arr [.sc (.int .i64 b)])) :
  AWF P ann 0 66 [v, .fn 60 [] [.op oa 0, .op ob 0]] h fun r h' => r = .sc (.int .i64 (match l.findIdx? (btw a b) with | none => -1 | some i => ((i : Nat) : Int))) ∧ h' = h := by
 refine AWF.fnc H.f0_66 rfl ?_
 have e1 := hE.len
 (refine W_seq_gen fun N hN => ?_); simp (disch := omega) only [go_sem, ↓reduceIte, Nat.reduceEqDiff, Nat.reduceLeDiff]
 refine hN _ ?_; clear hN N
 (refine W_seq_gen fun M hM => ?_)
 simp (disch := omega) only [go_sem, ↓reduceIte, Nat.reduceEqDiff, Nat.reduceLeDiff, hvs, hv.len, e1]
 refine AW_loopN (fun m t h' => h' = h ∧ ∃ i, m = l.length - i ∧ i ≤ l.length ∧ t 0 = v ∧ t 1 = .fn 60 [] [.op oa 0, .op ob 0] ∧ t 7 = .sc (.int .i64 (l.length : Nat)) ∧ t 8 = .sc (.int .i64 (i : Nat)) ∧ ∀ j (hj : j < l.length), j < i → btw a b l[j] = false)
  (n := l.length) ⟨rfl, 0, rfl, Nat.zero_le _, by simp [upd_at, initT], by simp [upd_at, initT], by simp [upd_at], by simp [upd_at], fun j _ hj => by omega⟩ ?_
 rintro m t h' ⟨rfl, i, rfl, hi, t0, t1, t7, t8, hno⟩
 rcases Nat.lt_or_ge i l.length with hlt | hge
 ·obtain ⟨e, g0, lv, rfl, hlv⟩ := hE.lt hlt
  obtain ⟨p, p1, p2, p3⟩ := hv.at g0 (by simp [disc_sc, hlv]) rfl
  (refine W_seq_gen fun N hN => ?_); simp (disch := omega) only [go_sem, ↓reduceIte, Nat.reduceEqDiff, Nat.reduceLeDiff, t7, t8, hlt]
  refine hN _ ?_; clear hN N
  (refine W_seq_gen fun N hN => ?_); simp (disch := omega) only [go_sem, ↓reduceIte, Nat.reduceEqDiff, Nat.reduceLeDiff]
  refine hN _ ?_; clear hN N
  (refine W_seq_gen fun R hR => ?_)
  rw [W_block]
  (refine W_seq_gen fun N hN => ?_); simp (disch := omega) only [go_sem, ↓reduceIte, Nat.reduceEqDiff, Nat.reduceLeDiff, t8]
  refine hN _ ?_; clear hN N
  refine W_f (fun t => t 0 = v ∧ t 1 = .fn 60 [] [.op oa 0, .op ob 0] ∧ t 5 = .sc (.int .i64 (i : Nat)) ∧ t 7 = .sc (.int .i64 (l.length : Nat)) ∧ t 8 = .sc (.int .i64 (i : Nat)) ∧ True) ?_; rintro t ⟨t0, t1, t5, t7, t8, -⟩
  simp (disch := omega) only [go_sem, ↓reduceIte, Nat.reduceEqDiff, Nat.reduceLeDiff, t0, t1, t5, hvs, p1, p2, p3]
  refine (drop1_ok H (k := l[i]) hlv ha hb).to ?_
  cases c : btw a b l[i] with
  | true =>
   rw [contK_some]; simp (disch := omega) only [go_sem, ↓reduceIte, Nat.reduceEqDiff, Nat.reduceLeDiff, t5]
   have hf : l.findIdx? (btw a b) = some i := by
    rw [List.findIdx?_eq_some_iff_getElem]
    exact ⟨hlt, c, fun j hj => by simp [hno j (by omega) hj]⟩
   rw [hf]
  | false =>
   rw [contK_some]; simp (disch := omega) only [go_sem, ↓reduceIte, Nat.reduceEqDiff, Nat.reduceLeDiff]
   refine hR _ ?_; clear hR R
   simp (disch := omega) only [go_sem, ↓reduceIte, Nat.reduceEqDiff, Nat.reduceLeDiff, t8, nat_add]
   exact ⟨l.length - (i + 1), by omega, i + 1, rfl, by omega, t0, t1, t7, rfl, fun j hj hji => by
    rcases Nat.lt_or_ge j i with w | w
    ·exact hno j hj w
    ·obtain rfl : j = i := by omega
     exact c⟩
 ·obtain rfl : i = l.length := by omega
  (refine W_seq_gen fun N hN => ?_); simp (disch := omega) only [go_sem, ↓reduceIte, Nat.reduceEqDiff, Nat.reduceLeDiff, t7, t8, Nat.lt_irrefl]
  refine hN _ ?_; clear hN N
  (refine W_seq_gen fun N hN => ?_); simp (disch := omega) only [go_sem, ↓reduceIte, Nat.reduceEqDiff, Nat.reduceLeDiff]
  refine hM _ ?_; clear hN N hM M
  simp (disch := omega) only [go_sem, ↓reduceIte, Nat.reduceEqDiff, Nat.reduceLeDiff]
  have hf : l.findIdx? (btw a b) = none := by
   rw [List.findIdx?_eq_none_iff]
   intro x hx
   obtain ⟨j, hj, rfl⟩ := List.getElem_of_mem hx
   exact hno j hj hj
  rw [hf]
set_option maxHeartbeats 1000000 in
theorem delf_ok {v : AV} {es : List (List AV)} {l : List (Int × Int)} {a b : Int} {oa ob : Nat} {h0 h : Heap} (hR : Row h0 h 3 v es) (hvs : v.dis = v) (hE : RR BK es l) (hg : GE 3 es) (hl : l.length ≤ 2 ^ 30) (ha : h oa = some (.arr [.sc (.int .i64 a)])) (hb : h ob = some (.arr [.sc (.int .i64 b)]))
  (hna : oid v ≠ some oa) (hnb : oid v ≠ some ob) : AWF P ann 0 59 [v, .fn 60 [] [.op oa 0, .op ob 0]] h fun r h' => Row h0 h' 3 r (fltE (btw a b) es l) ∧ Only h h' v ∧ (oid r = oid v) := by
 refine AWF.fnc H.f0_59 rfl ?_
 have e1 := hE.len
 have hrd : RD h 3 v es := by
  rcases hR with ⟨rfl, rfl⟩ | ⟨⟨own, rfl⟩, rfl⟩ | ⟨o, cap, z, f1, rfl, f2, f3, f4, f5⟩
  ·exact SL.nil.rd
  ·exact SL.bs.rd
  ·exact rs_ge hg f5 rfl
 (refine W_seq_gen fun N hN => ?_); simp (disch := omega) only [go_sem, ↓reduceIte, Nat.reduceEqDiff, Nat.reduceLeDiff]
 refine hN _ ?_; clear hN N
 refine W_f (fun t => t 0 = v ∧ t 1 = .fn 60 [] [.op oa 0, .op ob 0] ∧ True) ?_; rintro t ⟨t0, t1, -⟩
 (refine W_seq_gen fun N hN => ?_); simp (disch := omega) only [go_sem, ↓reduceIte, Nat.reduceEqDiff, Nat.reduceLeDiff, t0, t1, hvs]
 refine (idxf_ok H hrd hvs hE (by omega) ha hb).to ?_
 cases hf : l.findIdx? (btw a b) with
 | none =>
  rw [contK_some]; simp (disch := omega) only [go_sem, ↓reduceIte, Nat.reduceEqDiff, Nat.reduceLeDiff]
  refine hN _ ?_; clear hN N
  refine W_f (fun t => t 0 = v ∧ t 1 = .fn 60 [] [.op oa 0, .op ob 0] ∧ t 5 = .sc (.int .i64 (-1)) ∧ True) ?_; rintro t ⟨t0, t1, t5, -⟩
  simp (disch := omega) only [go_sem, ↓reduceIte, Nat.reduceEqDiff, Nat.reduceLeDiff, t5, t0, hvs]
  have hfn : fltE (btw a b) es l = es := fltE_none e1 fun j hj => by
   rw [List.findIdx?_eq_none_iff] at hf
   exact hf _ (List.getElem_mem hj)
  rw [hfn]
  exact ⟨hR, fun x _ _ => rfl⟩
 | some i0 =>
  obtain ⟨hi0, hm0, hn0⟩ := List.findIdx?_eq_some_iff_getElem.1 hf
  rcases id hR with ⟨rfl, rfl⟩ | ⟨⟨own, rfl⟩, rfl⟩ | ⟨o, cap, z, f1, rfl, f2, f3, f4, f5⟩
  ·simp at e1; omega
  ·simp at e1; omega
  have hao : oa ≠ o := fun e => hna (by rw [e]; rfl)
  have hbo : ob ≠ o := fun e => hnb (by rw [e]; rfl)
  have hfi : fltE (btw a b) (es.take (i0 + 1)) (l.take (i0 + 1)) = es.take i0 := by
   have a1 : es.take (i0 + 1) = es.take i0 ++ [es[i0]'(by omega)] := by rw [List.take_add_one, List.getElem?_eq_getElem (by omega)]; rfl
   have a2 : l.take (i0 + 1) = l.take i0 ++ [l[i0]] := by rw [List.take_add_one, List.getElem?_eq_getElem hi0]; rfl
   rw [a1, a2, fltE_snoc (by simp [e1]), hm0, if_pos rfl, List.append_nil]
   exact fltE_none (by simp [e1]) fun j hj => by
    have hj' : j < i0 := by simp at hj; omega
    have := hn0 j hj'
    simpa using this
  have nl : ∀ (t : Nat → AV) (h : Heap), aexLen 0 t h (.rs o 0 3 es.length (some cap)) = some (.val (.sc (.int .i64 (l.length : Nat))) t h) := fun t h => by rw [← e1]; rfl
  rw [contK_some]; simp (disch := omega) only [go_sem, ↓reduceIte, Nat.reduceEqDiff, Nat.reduceLeDiff]
  refine hN _ ?_; clear hN N
  refine W_f (fun t => t 0 = .rs o 0 3 es.length (some cap) ∧ t 1 = .fn 60 [] [.op oa 0, .op ob 0] ∧ t 5 = .sc (.int .i64 ((i0 : Nat) : Int)) ∧ True) ?_; rintro t ⟨t0, t1, t5, -⟩
  have dm1 : (((i0 : Nat) : Int) == -1) = false := by
   have : ¬ ((i0 : Nat) : Int) = -1 := by omega
   simp
  (refine W_seq_gen fun N hN => ?_); simp (disch := omega) only [go_sem, ↓reduceIte, Nat.reduceEqDiff, Nat.reduceLeDiff, t5, dm1]
  refine hN _ ?_; clear hN N
  refine W_f (fun t => t 0 = .rs o 0 3 es.length (some cap) ∧ t 1 = .fn 60 [] [.op oa 0, .op ob 0] ∧ t 5 = .sc (.int .i64 ((i0 : Nat) : Int)) ∧ True) ?_; rintro t ⟨t0, t1, t5, -⟩
  (refine W_seq_gen fun M hM => ?_)
  (refine W_seq_gen fun N hN => ?_); simp (disch := omega) only [go_sem, ↓reduceIte, Nat.reduceEqDiff, Nat.reduceLeDiff, t5, nat_add]
  refine hN _ ?_; clear hN N
  refine W_f (fun t => t 0 = .rs o 0 3 es.length (some cap) ∧ t 1 = .fn 60 [] [.op oa 0, .op ob 0] ∧ t 5 = .sc (.int .i64 ((i0 : Nat) : Int)) ∧ t 6 = .sc (.int .i64 ((i0 + 1 : Nat) : Int)) ∧ True) ?_; rintro t ⟨t0, t1, t5, t6, -⟩
  simp (disch := omega) only [go_sem, ↓reduceIte, Nat.reduceEqDiff, Nat.reduceLeDiff]
  refine AW_loopN (fun m t h' => ∃ j A G, m = l.length - j ∧ j ≤ l.length ∧ A = fltE (btw a b) (es.take j) (l.take j) ∧ A.length < j ∧ G.length = (j - A.length) * 3 ∧ GE 3 A ∧ t 0 = .rs o 0 3 es.length (some cap) ∧ t 1 = .fn 60 [] [.op oa 0, .op ob 0] ∧ t 5 = .sc (.int .i64 (A.length : Nat)) ∧ t 6 = .sc (.int .i64 (j : Nat)) ∧
    (∀ x, h x ≠ none → x ≠ o → h' x = h x) ∧ h' o = some (.arr (A.flatten ++ (G ++ ((es.drop j).flatten ++ z))))) (n := l.length - (i0 + 1))
   ⟨i0 + 1, es.take i0, es[i0]'(by omega), rfl, by omega, hfi.symm, by simp; omega, by rw [(hg _ (List.getElem_mem (by omega))).1, List.length_take, Nat.min_eq_left (by omega)]; omega, GE.take hg i0, t0, t1, by rw [t5, List.length_take, Nat.min_eq_left (by omega)], t6, fun x _ _ => rfl, by
    rw [f5, fl_split i0, List.drop_eq_getElem_cons (show i0 < es.length by omega), List.flatten_cons, List.append_assoc]⟩ ?_
  clear t0 t1 t5 t6 t
  rintro m t h' ⟨j, A, G, rfl, hj, hA, hAj, hGl, hAg, t0, t1, t5, t6, hk, ho⟩
  have nl' : ∀ (t : Nat → AV) (h : Heap), aexLen 0 t h (.rs o 0 3 es.length (some cap)) = some (.val (.sc (.int .i64 (l.length : Nat))) t h) := nl
  rcases Nat.lt_or_ge j l.length with hlt | hge
  ·obtain ⟨e, g0, lv, rfl, hlv⟩ := hE.lt hlt
   have hje : j < es.length := by omega
   have hee : es[j] = [.sc (.int .i64 l[j].1), .sc (.int .i64 l[j].2), lv] := by rw [List.getElem?_eq_getElem hje] at g0; exact Option.some.inj g0
   have hdr : es.drop j = [.sc (.int .i64 l[j].1), .sc (.int .i64 l[j].2), lv] :: es.drop (j + 1) := by rw [List.drop_eq_getElem_cons hje, hee]
   have hAl : A.flatten.length = A.length * 3 := hAg.len
   have d0 : decide (j < l.length) = true := by simpa using hlt
   have hat : ((A.flatten ++ (G ++ ((es.drop j).flatten ++ z))).drop (j * 3)).take 3 = [.sc (.int .i64 l[j].1), .sc (.int .i64 l[j].2), lv] := by
    have : (A.flatten ++ G).length = j * 3 := by rw [List.length_append, hAl, hGl, ← Nat.add_mul]; congr 1; omega
    rw [← List.append_assoc, List.drop_left' this, hdr, List.flatten_cons, List.append_assoc]
    rfl
   have hzl : z.length = (cap - es.length) * 3 := f4
   have htot : (A.flatten ++ (G ++ ((es.drop j).flatten ++ z))).length = cap * 3 := by
    rw [List.length_append, List.length_append, List.length_append, hAl, hGl, (GE.drop hg j).len, List.length_drop, hzl, ← Nat.add_mul, ← Nat.add_mul, ← Nat.add_mul]
    congr 1
    omega
   have hlen : j * 3 + 3 ≤ (A.flatten ++ (G ++ ((es.drop j).flatten ++ z))).length := by rw [htot]; omega
   have iad : ∀ t (h : Heap), aexIad 3 ((j : Nat) : Int) t h (.rs o 0 3 es.length (some cap)) = some (.val (.op o (j * 3)) t h) := fun t h => by
    have : (3 = 3 ∧ (0 : Int) ≤ (j : Int) ∧ (j : Int) < es.length) := ⟨rfl, by omega, by omega⟩
    simp only [aexIad, this, and_self, if_true, Int.toNat_natCast, Nat.zero_add]
   (refine W_seq_gen fun N hN => ?_); simp (disch := omega) only [go_sem, ↓reduceIte, Nat.reduceEqDiff, Nat.reduceLeDiff, t0, t6, nl', d0]
   refine hN _ ?_; clear hN N
   (refine W_seq_gen fun R hR => ?_)
   rw [W_block]
   (refine W_seq_gen fun N hN => ?_); simp (disch := omega) only [go_sem, ↓reduceIte, Nat.reduceEqDiff, Nat.reduceLeDiff, t0, t6, iad, ho, hlen, hat, hlv]
   intro o7 h7
   have hO := OB.nil (h := h')
   refine hN _ ?_; clear hN N; refine W_ob (hO.new h7) fun hc hO => ?_
   have hoc := hO.live ho
   have h7c := hO.get0
   have hac := hO.live ((hk oa (by rw [ha]; simp) hao).trans ha)
   have hbc := hO.live ((hk ob (by rw [hb]; simp) hbo).trans hb)
   have hk2 : ∀ x, h x ≠ none → x ≠ o → hc x = h x := fun x hx hxo => by
    have := hk x hx hxo
    rw [hO.keep x (by rw [this]; exact hx), this]
   clear hO h7
   refine W_f (fun t => t 0 = .rs o 0 3 es.length (some cap) ∧ t 1 = .fn 60 [] [.op oa 0, .op ob 0] ∧ t 5 = .sc (.int .i64 (A.length : Nat)) ∧ t 6 = .sc (.int .i64 (j : Nat)) ∧ t 7 = .op o7 0 ∧ True) ?_; rintro t ⟨t0, t1, t5, t6, t7, -⟩
   have a1 : es.take (j + 1) = es.take j ++ [[.sc (.int .i64 l[j].1), .sc (.int .i64 l[j].2), lv]] := by rw [List.take_add_one, g0]; rfl
   have a2 : l.take (j + 1) = l.take j ++ [l[j]] := by rw [List.take_add_one, List.getElem?_eq_getElem hlt]; rfl
   have hsn := fltE_snoc (f := btw a b) (e := [.sc (.int .i64 l[j].1), .sc (.int .i64 l[j].2), lv]) (k := l[j]) (es := es.take j) (l := l.take j) (by simp [e1])
   rw [← a1, ← a2, ← hA] at hsn
   simp (disch := omega) only [go_sem, ↓reduceIte, Nat.reduceEqDiff, Nat.reduceLeDiff, t1, t7, h7c, hlv]
   refine (drop1_ok H (k := l[j]) hlv hac hbc).to ?_
   cases c : btw a b l[j] with
   | true =>
    rw [contK_some]; simp (disch := omega) only [go_sem, ↓reduceIte, Nat.reduceEqDiff, Nat.reduceLeDiff]
    refine hR _ ?_; clear hR R
    simp (disch := omega) only [go_sem, ↓reduceIte, Nat.reduceEqDiff, Nat.reduceLeDiff, t6, nat_add]
    rw [c, if_pos rfl, List.append_nil] at hsn
    refine ⟨l.length - (j + 1), by omega, j + 1, A, G ++ [.sc (.int .i64 l[j].1), .sc (.int .i64 l[j].2), lv], rfl, by omega, hsn.symm, by omega, ?_, hAg, t0, t1, t5, rfl, hk2, ?_⟩
    ·rw [List.length_append, hGl]
     simp
     omega
    ·rw [hoc, hdr]
     simp
   | false =>
    rw [c] at hsn
    simp only [Bool.false_eq_true, if_false] at hsn
    have hset : setRange (A.flatten ++ (G ++ ((es.drop j).flatten ++ z))) (A.length * 3) [.sc (.int .i64 l[j].1), .sc (.int .i64 l[j].2), lv] = (A ++ [[.sc (.int .i64 l[j].1), .sc (.int .i64 l[j].2), lv]]).flatten ++ ((G ++ [.sc (.int .i64 l[j].1), .sc (.int .i64 l[j].2), lv]).drop 3 ++ ((es.drop (j + 1)).flatten ++ z)) := by
     rw [set_fl hAg rfl rfl, hdr, List.flatten_append, List.append_assoc]
     congr 1
     rw [List.flatten_cons, List.append_assoc, ← List.append_assoc G, List.drop_append_of_le_length (by simp)]
     simp
    have iadA : ∀ t (h : Heap), aexIad 3 ((A.length : Nat) : Int) t h (.rs o 0 3 es.length (some cap)) = some (.val (.op o (A.length * 3)) t h) := fun t h => by
     have : (3 = 3 ∧ (0 : Int) ≤ (A.length : Int) ∧ (A.length : Int) < es.length) := ⟨rfl, by omega, by omega⟩
     simp only [aexIad, this, and_self, if_true, Int.toNat_natCast, Nat.zero_add]
    have hlA : A.length * 3 + 3 ≤ (A.flatten ++ (G ++ ((es.drop j).flatten ++ z))).length := by rw [htot]; omega
    have c3 : (AV.ag [.sc (.int .i64 l[j].1), .sc (.int .i64 l[j].2), lv]).cellsD = [.sc (.int .i64 l[j].1), .sc (.int .i64 l[j].2), lv] := by simp [AV.cellsD, disc_sc, hlv]
    generalize A.flatten ++ (G ++ ((es.drop j).flatten ++ z)) = cs at hoc hset hlA
    rw [contK_some]; simp (disch := omega) only [go_sem, ↓reduceIte, Nat.reduceEqDiff, Nat.reduceLeDiff, t0, t5, t7, h7c, hlv, iadA, hoc, hlA, hset, nat_add]
    refine hR _ ?_; clear hR R
    simp (disch := omega) only [go_sem, ↓reduceIte, Nat.reduceEqDiff, Nat.reduceLeDiff, t6, nat_add]
    refine ⟨l.length - (j + 1), by omega, j + 1, A ++ [[.sc (.int .i64 l[j].1), .sc (.int .i64 l[j].2), lv]], (G ++ [.sc (.int .i64 l[j].1), .sc (.int .i64 l[j].2), lv]).drop 3, rfl, by omega, hsn.symm, by rw [List.length_append, List.length_singleton]; omega, ?_, ?_, t0, t1, by simp, rfl, fun x hx hxo => by simp [upd, hxo, hk2 x hx hxo], by simp [upd]⟩
    ·rw [List.length_drop, List.length_append, hGl, List.length_append, List.length_singleton]
     simp only [List.length_cons, List.length_nil]
     omega
    ·exact hAg.app fun x hx => by
      rw [List.mem_singleton] at hx
      subst hx
      exact ⟨rfl, by simp [disc_sc, hlv]⟩
  ·obtain rfl : j = l.length := by omega
   have hAe : A = fltE (btw a b) es l := by rw [hA, List.take_length, ← e1, List.take_length]
   rw [List.drop_eq_nil_of_le (show es.length ≤ l.length by omega), List.flatten_nil, List.nil_append] at ho
   have hAl : A.flatten.length = A.length * 3 := hAg.len
   have hs1 : ∀ (t : Nat → AV) (h : Heap), aexSlc 3 t h (some (.sc (.int .i64 (A.length : Nat)))) none none (.rs o 0 3 es.length (some cap)) = some (.val (.rs o (A.length * 3) 3 (es.length - A.length) (some (cap - A.length))) t h) := fun t h => by
    rw [slc_rs (.inr ⟨_, rfl⟩) (.inl ⟨rfl, rfl⟩) (by omega) f3, Nat.zero_add]
   have hs2 : ∀ (t : Nat → AV) (h : Heap), aexSlc 3 t h none (some (.sc (.int .i64 (A.length : Nat)))) none (.rs o 0 3 es.length (some cap)) = some (.val (.rs o 0 3 A.length (some cap)) t h) := fun t h => by
    rw [slc_rs (.inl ⟨rfl, rfl⟩) (.inr ⟨_, rfl⟩) (Nat.zero_le _) (by omega)]
    simp
   obtain ⟨z3, hz3l, hz3⟩ : ∃ z3, z3.length = (cap - A.length) * 3 ∧ setRange (A.flatten ++ (G ++ z)) (A.length * 3) (List.replicate (es.length - A.length) ([AV.sc (.int .i64 ((0 : Nat) : Int)), AV.sc (.int .i64 ((0 : Nat) : Int)), AV.sc (.slice none 0 0)] : List AV)).flatten = A.flatten ++ z3 := by
    refine ⟨_, ?_, set_fl hAg rfl rfl⟩
    rw [List.length_append, List.length_drop, List.length_append, hGl, f4, rep_flat]
    simp
    omega
   have hq1 : A.length * 3 + (es.length - A.length) * 3 ≤ (A.flatten ++ (G ++ z)).length := by
    rw [List.length_append, List.length_append, hAl, hGl, f4]
    omega
   have hclr : ∀ (t : Nat → AV), aexClr 3 ([AV.sc (.int .i64 ((0 : Nat) : Int)), AV.sc (.int .i64 ((0 : Nat) : Int)), AV.sc (.slice none 0 0)] : List AV) t h' (.rs o (A.length * 3) 3 (es.length - A.length) (some (cap - A.length))) = some (.val (.tu []) t (upd h' o (some (.arr (A.flatten ++ z3))))) := fun t => by
    simp only [aexClr, ho, true_and, if_pos hq1, hz3]
   (refine W_seq_gen fun N hN => ?_); simp (disch := omega) only [go_sem, ↓reduceIte, Nat.reduceEqDiff, Nat.reduceLeDiff, t0, t6, nl', Nat.lt_irrefl]
   refine hM _ ?_; clear hN N hM M
   simp (disch := omega) only [go_sem, ↓reduceIte, Nat.reduceEqDiff, Nat.reduceLeDiff, t0, t5, hs1, hs2, hclr]
   rw [← hAe]
   refine ⟨.inr (.inr ⟨o, cap, z3, f1, rfl, f2, by omega, hz3l, by simp [upd]⟩), fun x hx hx2 => ?_, rfl⟩
   have : x ≠ o := fun e => hx2 (by rw [e]; rfl)
   simp [upd, this, hk x hx this]
end Go.Proofs.Ytomfknocpijmbaa
end
