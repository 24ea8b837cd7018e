/- Scans. -/
import Derived.Test.YtmdkgaljnoookaaSheafAt
import Derived.Test.YtmdkgaljnoookaaSheafOrd
import Derived.Test.YtmdkgaljnoookaaAmRd
import Derived.Test.YtmdkgaljnoookaaAmOb
set_option linter.unusedVariables false
set_option linter.unusedSimpArgs false
namespace Go.Proofs.Ytmdkgaljnoookaa
open Go.Am
theorem prs_disc {p : Pr} : ([.sc (.string p.1), .sc (.string p.2)] : List AV).map AV.disc = [.sc (.string p.1), .sc (.string p.2)] := rfl
theorem flatP_eq (l : List Pr) : (prs l).flatten.map AV.disc = (prs l).flatten := by
  induction l with
  | nil => rfl
  | cons p l ih => rw [show prs (p :: l) = [.sc (.string p.1), .sc (.string p.2)] :: prs l from rfl, List.flatten_cons, List.map_append, ih]; rfl
theorem flat_len (l : List Pr) : (prs l).flatten.length = l.length * 2 := by
  induction l with
  | nil => rfl
  | cons p l ih => rw [show prs (p :: l) = [.sc (.string p.1), .sc (.string p.2)] :: prs l from rfl, List.flatten_cons, List.length_append, ih, List.length_cons]; simp; omega
theorem chunks_flat (l : List Pr) (r : List AV) : chunks 2 l.length ((prs l).flatten ++ r) = prs l := by
  induction l with
  | nil => rfl
  | cons p l ih => rw [show prs (p :: l) = [.sc (.string p.1), .sc (.string p.2)] :: prs l from rfl, List.flatten_cons, List.length_cons, chunks]; simp [ih]
theorem isnil_bs {own sz es lim neg} {t : Nat → AV} {h : Heap} : aexIsnil 0 neg t h (.bs own sz es lim) = some (.val (.sc (.bool neg)) t h) := rfl
theorem isnil_nil {neg} {t : Nat → AV} {h : Heap} : aexIsnil 0 neg t h (.sc (.slice none 0 0)) = some (.val (.sc (.bool !neg)) t h) := rfl
theorem appO_new {own : Bool} {sz bytes : Nat} {z : List AV} {t : Nat → AV} {h : Heap} {ys : List (List AV)} (h0 : 0 < ys.length) (hb : ys.length * bytes ≤ 2 ^ 47) :
    aexAppO sz bytes z t h ys (.bs own sz [] (some 0)) = some (.newc ys.length (fun o c => .rs o 0 sz ys.length (some c)) (fun c => .arr (ys.flatten.map AV.disc ++ (List.replicate (c - ys.length) z).flatten)) t) := by
  have h1 : ¬ ys.length = 0 := by omega
  have h2 : ¬ (0 + ys.length) * bytes > 2 ^ 47 := by rw [Nat.zero_add]; omega
  simp [aexAppO, h1, h0, grownO]
  omega
theorem appO_none {own : Bool} {sz bytes : Nat} {z : List AV} {t : Nat → AV} {h : Heap} : aexAppO sz bytes z t h [] (.bs own sz [] (some 0)) = some (.val (.bs own sz [] (some 0)) t h) := by
  simp [aexAppO]
theorem rep_len {n : Nat} {z : List AV} : (List.replicate n z).flatten.length = n * z.length := by
  rw [List.length_flatten]; simp
/-- A row that may grow: by value when it is empty, else an object. -/
def RO (b : Bool) (h h' : Heap) (r : AV) (l : List Pr) : Prop :=
  ((r = .sc (.slice none 0 0) ∨ r = .bs b 2 [] (some 0)) ∧ l = [] ∧ h' = h) ∨ ∃ o cap z, h o = none ∧ r = .rs o 0 2 l.length (some cap) ∧ l.length ≤ cap ∧ z.length = (cap - l.length) * 2 ∧ h' = upd h o (some (.arr ((prs l).flatten ++ z)))
abbrev noS : ByteArray := ⟨#[]⟩
theorem RO.rd {b h h' r l} (H : RO b h h' r l) : RD h' 2 r (prs l) := by
  rcases H with ⟨rfl | rfl, rfl, rfl⟩ | ⟨o, cap, z, ho, rfl, hle, hz, rfl⟩
  · exact SL.nil.rd
  · exact SL.bs.rd
  · refine ⟨?_, .inr ⟨_, _, _, _, rfl⟩⟩
    have h1 : 0 + l.length * 2 ≤ ((prs l).flatten ++ z).length := by rw [List.length_append, flat_len]; omega
    simp only [elemsOf, if_true, upd_same, if_pos h1, List.drop_zero, List.map_append, flatP_eq, chunks_flat]
theorem RO.live {b h h' r l} (H : RO b h h' r l) {o : Nat} {X : AObj} (ho : h o = some X) : h' o = some X := by
  rcases H with ⟨_, rfl, rfl⟩ | ⟨o', cap, z, ho', rfl, hle, hz, rfl⟩
  · exact ho
  · have : o ≠ o' := fun e => by rw [e, ho'] at ho; cases ho
    rw [upd_ne _ _ this]; exact ho
theorem appO_nil {sz bytes : Nat} {z : List AV} {t : Nat → AV} {h : Heap} {ys : List (List AV)} (h0 : 0 < ys.length) (hb : ys.length * bytes ≤ 2 ^ 47) :
    aexAppO sz bytes z t h ys (.sc (.slice none 0 0)) = some (.newc ys.length (fun o c => .rs o 0 sz ys.length (some c)) (fun c => .arr (ys.flatten.map AV.disc ++ (List.replicate (c - ys.length) z).flatten)) t) := by
  have h1 : ¬ ys.length = 0 := by omega
  have h2 : ¬ ys.length * bytes > 2 ^ 47 := by omega
  simp [aexAppO, h1, grownO]
  omega
theorem new_rd {h : Heap} {o cap : Nat} {l : List Pr} {z : List AV} : RD (upd h o (some (.arr ((prs l).flatten ++ z)))) 2 (.rs o 0 2 l.length (some cap)) (prs l) := by
  refine ⟨?_, .inr ⟨_, _, _, _, rfl⟩⟩
  have h1 : 0 + l.length * 2 ≤ ((prs l).flatten ++ z).length := by rw [List.length_append, flat_len]; omega
  simp only [elemsOf, if_true, upd_same, if_pos h1, List.drop_zero, List.map_append, flatP_eq, chunks_flat]
theorem setRange_mid {a b c : List AV} {n : Nat} (hn : n = a.length) (hb : b.length ≤ c.length) : setRange (a ++ c) n b = a ++ (b ++ c.drop b.length) := by
  subst hn
  unfold setRange
  rw [List.take_left, List.append_assoc, ← List.drop_drop, List.drop_left]
/-- Pairs behind a row of an object. -/
theorem after_app {P : Program} {ann : Ann} {dst : Option Nat} {Q : St → Prop} {h h' : Heap} {r : AV} {l R : List Pr} {t : Nat → AV} {z : List AV} (H : RO false h h' r l) (hl : (l.length + R.length) * 32 ≤ 2 ^ 47)
    (hQ : ∀ x h2, RD h2 2 x (prs (l ++ R)) → Q ⟨putd t dst x, h2⟩) : after P ann dst h' Q (aexAppO 2 32 z t h' (prs R) r) := by
  by_cases c : R.length = 0
  · obtain rfl : R = [] := List.eq_nil_of_length_eq_zero c
    rw [List.append_nil] at hQ
    have hr := H.rd
    rcases H with ⟨rfl | rfl, rfl, rfl⟩ | ⟨o, cap, z', ho, rfl, hle, hz, rfl⟩
    · exact hQ _ _ hr
    · exact hQ _ _ hr
    · have : aexAppO 2 32 z t (upd h o (some (.arr ((prs l).flatten ++ z')))) (prs []) (.rs o 0 2 l.length (some cap)) = some (.val (.rs o 0 2 l.length (some cap)) t (upd h o (some (.arr ((prs l).flatten ++ z'))))) := rfl
      rw [this]
      exact hQ _ _ hr
  · have hR : 0 < (prs R).length := by rw [prs_len]; omega
    have hb : (prs R).length * 32 ≤ 2 ^ 47 := by rw [prs_len]; omega
    rcases H with ⟨rfl | rfl, rfl, rfl⟩ | ⟨o, cap, z', ho, rfl, hle, hz, rfl⟩
    · rw [appO_nil hR hb, flatP_eq, prs_len]
      intro b cc hb' hle
      exact hQ _ _ new_rd
    · rw [appO_new hR hb, flatP_eq, prs_len]
      intro b cc hb' hle
      exact hQ _ _ new_rd
    · have h1 : 0 + cap * 2 ≤ ((prs l).flatten ++ z').length := by rw [List.length_append, flat_len, hz]; omega
      have h2 : ¬ (prs R).length = 0 := by omega
      simp only [aexAppO, ne_eq, not_true_eq_false, if_false, if_neg h2, upd_same, if_pos (And.intro h1 hle), prs_len, flatP_eq, if_neg c]
      by_cases c2 : l.length + R.length ≤ cap
      · rw [if_pos c2]
        have e : setRange ((prs l).flatten ++ z') (0 + l.length * 2) (prs R).flatten = (prs (l ++ R)).flatten ++ z'.drop (prs R).flatten.length := by
          rw [setRange_mid (by rw [flat_len]; omega) (by rw [flat_len, hz]; omega), ← prs_app, List.flatten_append, List.append_assoc]
        simp only [after, e]
        have := fun (hh : Heap) => new_rd (h := hh) (o := o) (cap := cap) (l := l ++ R) (z := z'.drop (prs R).flatten.length)
        rw [List.length_append] at this
        exact hQ _ _ (this _)
      · rw [if_neg c2, if_neg (by omega)]
        intro b cc hb' hle'
        have e : (((prs l).flatten ++ z').drop 0).take (l.length * 2) = (prs l).flatten := by rw [List.drop_zero, List.take_left' (flat_len l)]
        have := fun (hh : Heap) (zz : List AV) => new_rd (h := hh) (o := b) (cap := cc) (l := l ++ R) (z := zz)
        rw [List.length_append] at this
        rw [e, ← List.flatten_append, prs_app, flatP_eq]
        exact hQ _ _ (this _ _)
/-- Where a scan ends at most. -/
def endS (l : List Pr) (f to : ByteArray) : Nat := max (lbk l f) (if to = noS then l.length else lbk l to)
def lenS (l : List Pr) (f to : ByteArray) (m : Nat) : Nat := min (endS l f to) (lbk l f + min m l.length) - lbk l f
def scanS (l : List Pr) (f to : ByteArray) (m : Nat) : List Pr := (l.drop (lbk l f)).take (lenS l f to m)
theorem lbk_le (l : List Pr) (k : ByteArray) : lbk l k ≤ l.length := (List.takeWhile_prefix (l := l) (fun p : Pr => sl p.1 k)).length_le
theorem endS_le (l : List Pr) (f to : ByteArray) : endS l f to ≤ l.length := by
  have a := lbk_le l f
  have b := lbk_le l to
  unfold endS
  split <;> omega
/-- What a scan comes to. -/
def ScP (ok : Bool) (h h' : Heap) (X : AV → Prop) (r : AV) : Prop := if ok then ∃ x, r = .tu [x, errN true] ∧ X x else r = .tu [.sc (.slice none 0 0), errN false] ∧ h' = h
variable {P : Program} (H : Has P) (L : Lb P)
include H
theorem same_rd (HC : HasC P) {v w : AV} {l m : List Pr} {h : Heap} (hv : RD h 2 v (prs l)) (hw : SL 2 w (prs m)) (hl : l.length < 2 ^ 60) (hm : m.length < 2 ^ 60) : AWF P ann 0 11 [v, w] h fun r h' => r = .sc (.bool (decide (l = m))) ∧ h' = h := by
  refine AWF.fnc H.f0_11 rfl ?_
  have e1 := @prs_len l
  have e2 := @prs_len m
  have vl := fun t => hv.dis.len (t := t)
  (refine W_seq_gen fun N hN => ?_); simp (disch := first | omega | (simp only [List.length_cons, List.length_nil, List.length_append, u8s_len]; omega)) only [go_sem, ↓reduceIte, true_and, Nat.reduceLeDiff, Nat.reduceEqDiff, Nat.reduceAdd, Nat.reduceBEq, Int.reduceEq, H.cv_3_57, H.cv_5_3, H.cv_57_3]
  refine hN _ ?_; clear hN N
  by_cases hlen : l.length = m.length
  · (refine W_seq_gen fun N hN => ?_); simp (disch := first | omega | (simp only [List.length_cons, List.length_nil, List.length_append, u8s_len]; omega)) only [go_sem, ↓reduceIte, true_and, Nat.reduceLeDiff, Nat.reduceEqDiff, Nat.reduceAdd, Nat.reduceBEq, Int.reduceEq, H.cv_3_57, H.cv_5_3, H.cv_57_3, vl, hw.dis.len, e1, e2, hlen]
    refine hN _ ?_; clear hN N
    (refine W_seq_gen fun M hM => ?_)
    (refine W_seq_gen fun N hN => ?_); simp (disch := first | omega | (simp only [List.length_cons, List.length_nil, List.length_append, u8s_len]; omega)) only [go_sem, ↓reduceIte, true_and, Nat.reduceLeDiff, Nat.reduceEqDiff, Nat.reduceAdd, Nat.reduceBEq, Int.reduceEq, H.cv_3_57, H.cv_5_3, H.cv_57_3]
    refine hN _ ?_; clear hN N
    simp (disch := first | omega | (simp only [List.length_cons, List.length_nil, List.length_append, u8s_len]; omega)) only [go_sem, ↓reduceIte, true_and, Nat.reduceLeDiff, Nat.reduceEqDiff, Nat.reduceAdd, Nat.reduceBEq, Int.reduceEq, H.cv_3_57, H.cv_5_3, H.cv_57_3]
    refine AW_loopN (fun n t h' => h' = h ∧ ∃ i, n = l.length - i ∧ i ≤ l.length ∧ t 0 = v ∧ t 1 = w ∧ t 5 = .sc (.int .i64 (i : Nat)) ∧ l.take i = m.take i)
      (n := l.length) ⟨rfl, 0, rfl, Nat.zero_le _, rfl, rfl, rfl, rfl⟩ ?_
    rintro n t h' ⟨rfl, i, rfl, hi, t0, t1, t5, he⟩
    rcases Nat.lt_or_ge i l.length with hlt | hge
    · have hlt2 : i < m.length := by omega
      have g1 := prs_get hlt2
      obtain ⟨p, p1, p2, p3⟩ := hv.dis.at (prs_get hlt) prs_disc rfl
      (refine W_seq_gen fun N hN => ?_); simp (disch := first | omega | (simp only [List.length_cons, List.length_nil, List.length_append, u8s_len]; omega)) only [go_sem, ↓reduceIte, true_and, Nat.reduceLeDiff, Nat.reduceEqDiff, Nat.reduceAdd, Nat.reduceBEq, Int.reduceEq, H.cv_3_57, H.cv_5_3, H.cv_57_3, t0, t1, t5, vl, e1, hlt]
      refine hN _ ?_; clear hN N
      (refine W_seq_gen fun N hN => ?_)
      rw [W_block]
      by_cases hq : l[i] = m[i]
      · have hq2 : (decide ((l[i]).1 = (m[i]).1) && decide ((l[i]).2 = (m[i]).2)) = true := by rw [hq]; simp
        (refine W_seq_gen fun N hN => ?_); simp (disch := first | omega | (simp only [List.length_cons, List.length_nil, List.length_append, u8s_len]; omega)) only [go_sem, ↓reduceIte, true_and, Nat.reduceLeDiff, Nat.reduceEqDiff, Nat.reduceAdd, Nat.reduceBEq, Int.reduceEq, H.cv_3_57, H.cv_5_3, H.cv_57_3, t0, t1, t5, p1, p2, p3, hw.dis.ia, g1, HC.ne, hq2]
        refine hN _ ?_; clear hN N
        simp (disch := first | omega | (simp only [List.length_cons, List.length_nil, List.length_append, u8s_len]; omega)) only [go_sem, ↓reduceIte, true_and, Nat.reduceLeDiff, Nat.reduceEqDiff, Nat.reduceAdd, Nat.reduceBEq, Int.reduceEq, H.cv_3_57, H.cv_5_3, H.cv_57_3]
        refine hN _ ?_; clear hN N
        simp (disch := first | omega | (simp only [List.length_cons, List.length_nil, List.length_append, u8s_len]; omega)) only [go_sem, ↓reduceIte, true_and, Nat.reduceLeDiff, Nat.reduceEqDiff, Nat.reduceAdd, Nat.reduceBEq, Int.reduceEq, H.cv_3_57, H.cv_5_3, H.cv_57_3, t5, nat_add]
        exact ⟨l.length - (i + 1), by omega, i + 1, rfl, by omega, t0, t1, rfl, by rw [List.take_add_one, List.take_add_one, he]; simp [hlt, hlt2, hq]⟩
      · have hq2 := pr_ne hq
        (refine W_seq_gen fun N hN => ?_); simp (disch := first | omega | (simp only [List.length_cons, List.length_nil, List.length_append, u8s_len]; omega)) only [go_sem, ↓reduceIte, true_and, Nat.reduceLeDiff, Nat.reduceEqDiff, Nat.reduceAdd, Nat.reduceBEq, Int.reduceEq, H.cv_3_57, H.cv_5_3, H.cv_57_3, t0, t1, t5, p1, p2, p3, hw.dis.ia, g1, HC.ne, hq2]
        refine hN _ ?_; clear hN N
        simp (disch := first | omega | (simp only [List.length_cons, List.length_nil, List.length_append, u8s_len]; omega)) only [go_sem, ↓reduceIte, true_and, Nat.reduceLeDiff, Nat.reduceEqDiff, Nat.reduceAdd, Nat.reduceBEq, Int.reduceEq, H.cv_3_57, H.cv_5_3, H.cv_57_3]
        have : l ≠ m := fun e => hq (by simp [e])
        simp [this]
    obtain rfl : i = l.length := by omega
    have : l = m := by
      rw [List.take_length] at he
      rw [he, hlen, List.take_length]
    (refine W_seq_gen fun N hN => ?_); simp (disch := first | omega | (simp only [List.length_cons, List.length_nil, List.length_append, u8s_len]; omega)) only [go_sem, ↓reduceIte, true_and, Nat.reduceLeDiff, Nat.reduceEqDiff, Nat.reduceAdd, Nat.reduceBEq, Int.reduceEq, H.cv_3_57, H.cv_5_3, H.cv_57_3, t0, t1, t5, vl, e1, Nat.lt_irrefl]
    refine hM _ ?_; clear hN N hM M
    simp (disch := first | omega | (simp only [List.length_cons, List.length_nil, List.length_append, u8s_len]; omega)) only [go_sem, ↓reduceIte, true_and, Nat.reduceLeDiff, Nat.reduceEqDiff, Nat.reduceAdd, Nat.reduceBEq, Int.reduceEq, H.cv_3_57, H.cv_5_3, H.cv_57_3]
    simp [this]
  · have : l ≠ m := fun e => hlen (by rw [e])
    (refine W_seq_gen fun N hN => ?_); simp (disch := first | omega | (simp only [List.length_cons, List.length_nil, List.length_append, u8s_len]; omega)) only [go_sem, ↓reduceIte, true_and, Nat.reduceLeDiff, Nat.reduceEqDiff, Nat.reduceAdd, Nat.reduceBEq, Int.reduceEq, H.cv_3_57, H.cv_5_3, H.cv_57_3, vl, hw.dis.len, e1, e2, hlen]
    simp [this]
theorem none_rd {v : AV} {es : List (List AV)} {n : Nat} {h : Heap} (hv : RD h 2 v es) (hl : es.length < 2 ^ 60) : AWF P ann 0 10 [v, .sc (.int .i64 (n : Nat))] h fun r h' => r = .sc (.bool (decide (n = 1) && decide (es.length = 0))) ∧ h' = h := by
  refine AWF.fnc H.f0_10 rfl ?_
  by_cases hn : n = 1
  · subst hn
    simp (disch := first | omega | (simp only [List.length_cons, List.length_nil, List.length_append, u8s_len]; omega)) only [go_sem, ↓reduceIte, true_and, Nat.reduceLeDiff, Nat.reduceEqDiff, Nat.reduceAdd, Nat.reduceBEq, Int.reduceEq, H.cv_3_57, H.cv_5_3, H.cv_57_3, hv.dis.len]
  · simp (disch := first | omega | (simp only [List.length_cons, List.length_nil, List.length_append, u8s_len]; omega)) only [go_sem, ↓reduceIte, true_and, Nat.reduceLeDiff, Nat.reduceEqDiff, Nat.reduceAdd, Nat.reduceBEq, Int.reduceEq, H.cv_3_57, H.cv_5_3, H.cv_57_3, hn]
theorem clone_ok {v : AV} {l : List Pr} (hv : SF 2 v (prs l)) (hl : l.length < 2 ^ 40) (h : Heap) : AWF P ann 0 24 [v] h fun r h' => SL 2 r (prs l) ∧ h' = h := by
  refine AWF.fnc H.f0_24 rfl ?_
  have e1 := @prs_len l
  (refine W_seq_gen fun N hN => ?_); simp (disch := first | omega | (simp only [List.length_cons, List.length_nil, List.length_append, u8s_len]; omega)) only [go_sem, ↓reduceIte, true_and, Nat.reduceLeDiff, Nat.reduceEqDiff, Nat.reduceAdd, Nat.reduceBEq, Int.reduceEq, H.cv_3_57, H.cv_5_3, H.cv_57_3]
  refine hN _ ?_; clear hN N
  refine W_forget (fun t => t 0 = v ∧ True) (by simp [upd_at, *] <;> (first | rfl | exact ⟨rfl, rfl⟩ | exact ⟨rfl, rfl, rfl⟩ | exact ⟨rfl, rfl, rfl, rfl⟩ | exact ⟨rfl, rfl, rfl, rfl, rfl⟩)) ?_; rintro t ⟨t0, -⟩
  rcases id hv with ⟨rfl, hl0⟩ | ⟨lim, rfl⟩
  · simp (disch := first | omega | (simp only [List.length_cons, List.length_nil, List.length_append, u8s_len]; omega)) only [go_sem, ↓reduceIte, true_and, Nat.reduceLeDiff, Nat.reduceEqDiff, Nat.reduceAdd, Nat.reduceBEq, Int.reduceEq, H.cv_3_57, H.cv_5_3, H.cv_57_3, t0, isnil_nil, Bool.not_false]
    rw [hl0]
    exact SL.nil
  · have happ := fun (t : Nat → AV) (h : Heap) => (SG.bs (sz := 2) (es := []) (lim := some 0)).app (t := t) (h := h) (ys := prs l) (bytes := 32) (by rw [prs_len]; simp; omega)
    have hc := (SG.bs (sz := 2) (es := []) (lim := some 0)).cat (prs l)
    rw [List.nil_append] at hc
    generalize catV 2 (prs l) (.bs true 2 [] (some 0)) = w at happ hc
    simp (disch := first | omega | (simp only [List.length_cons, List.length_nil, List.length_append, u8s_len]; omega)) only [go_sem, ↓reduceIte, true_and, Nat.reduceLeDiff, Nat.reduceEqDiff, Nat.reduceAdd, Nat.reduceBEq, Int.reduceEq, H.cv_3_57, H.cv_5_3, H.cv_57_3, t0, isnil_bs, hv.sl.elems, happ]
    exact hc.sl
theorem clone1_ok {v : AV} {l : List Pr} (hv : SF 2 v (prs l)) (hl : l.length < 2 ^ 40) (h : Heap) : AWF P ann 1 24 [v] h fun r h' => RO true h h' r l := by
  refine AWF.fnc H.f1_24 rfl ?_
  have e1 := @prs_len l
  (refine W_seq_gen fun N hN => ?_); simp (disch := first | omega | (simp only [List.length_cons, List.length_nil, List.length_append, u8s_len]; omega)) only [go_sem, ↓reduceIte, true_and, Nat.reduceLeDiff, Nat.reduceEqDiff, Nat.reduceAdd, Nat.reduceBEq, Int.reduceEq, H.cv_3_57, H.cv_5_3, H.cv_57_3]
  refine hN _ ?_; clear hN N
  refine W_forget (fun t => t 0 = v ∧ True) (by simp [upd_at, *] <;> (first | rfl | exact ⟨rfl, rfl⟩ | exact ⟨rfl, rfl, rfl⟩ | exact ⟨rfl, rfl, rfl, rfl⟩ | exact ⟨rfl, rfl, rfl, rfl, rfl⟩)) ?_; rintro t ⟨t0, -⟩
  rcases id hv with ⟨rfl, hl0⟩ | ⟨lim, rfl⟩
  · simp (disch := first | omega | (simp only [List.length_cons, List.length_nil, List.length_append, u8s_len]; omega)) only [go_sem, ↓reduceIte, true_and, Nat.reduceLeDiff, Nat.reduceEqDiff, Nat.reduceAdd, Nat.reduceBEq, Int.reduceEq, H.cv_3_57, H.cv_5_3, H.cv_57_3, t0, isnil_nil, Bool.not_false]
    have : l = [] := by
      have := prs_len (l := l)
      rw [hl0] at this
      exact List.eq_nil_of_length_eq_zero this.symm
    subst this
    exact .inl ⟨.inl rfl, rfl, rfl⟩
  · by_cases c : l.length = 0
    · obtain rfl : l = [] := List.eq_nil_of_length_eq_zero c
      rw [show prs [] = [] from rfl] at *
      simp (disch := first | omega | (simp only [List.length_cons, List.length_nil, List.length_append, u8s_len]; omega)) only [go_sem, ↓reduceIte, true_and, Nat.reduceLeDiff, Nat.reduceEqDiff, Nat.reduceAdd, Nat.reduceBEq, Int.reduceEq, H.cv_3_57, H.cv_5_3, H.cv_57_3, t0, isnil_bs, hv.sl.elems, appO_none]
      exact .inl ⟨.inr rfl, rfl, rfl⟩
    · have happ := fun (t : Nat → AV) (h : Heap) (z : List AV) => appO_new (own := true) (sz := 2) (bytes := 32) (z := z) (t := t) (h := h) (ys := prs l) (by rw [prs_len]; omega) (by rw [prs_len]; omega)
      rw [flatP_eq, prs_len] at happ
      simp (disch := first | omega | (simp only [List.length_cons, List.length_nil, List.length_append, u8s_len]; omega)) only [go_sem, ↓reduceIte, true_and, Nat.reduceLeDiff, Nat.reduceEqDiff, Nat.reduceAdd, Nat.reduceBEq, Int.reduceEq, H.cv_3_57, H.cv_5_3, H.cv_57_3, t0, isnil_bs, hv.sl.elems, happ]
      intro o cap ho hle
      refine .inr ⟨o, cap, _, ho, rfl, hle, ?_, rfl⟩
      rw [rep_len]
      rfl
include L
theorem scan_ok {v : AV} {l : List Pr} {f to : ByteArray} {m : Int} (hv : SF 2 v (prs l)) (hl : l.length < 2 ^ 40) (hm : m < 2 ^ 63) (h : Heap) :
    AWF P ann 0 14 [v, .sc (.string f), .sc (.string to), .sc (.int .i64 m)] h fun r h' => ScP (Srt l && decide (0 ≤ m)) h h' (fun x => SF 2 x (prs (scanS l f to m.toNat)) ∧ h' = h) r := by
  refine AWF.fnc H.f0_14 rfl ?_
  have e1 := @prs_len l
  (refine W_seq_gen fun N hN => ?_); simp (disch := first | omega | (simp only [List.length_cons, List.length_nil, List.length_append, u8s_len]; omega)) only [go_sem, ↓reduceIte, true_and, Nat.reduceLeDiff, Nat.reduceEqDiff, Nat.reduceAdd, Nat.reduceBEq, Int.reduceEq, H.cv_3_57, H.cv_5_3, H.cv_57_3]
  refine hN _ ?_; clear hN N
  refine W_forget (fun t => t 0 = v ∧ t 1 = .sc (.string f) ∧ t 2 = .sc (.string to) ∧ t 3 = .sc (.int .i64 m) ∧ True) (by simp [upd_at, *] <;> (first | rfl | exact ⟨rfl, rfl⟩ | exact ⟨rfl, rfl, rfl⟩ | exact ⟨rfl, rfl, rfl, rfl⟩ | exact ⟨rfl, rfl, rfl, rfl, rfl⟩)) ?_; rintro t ⟨t0, t1, t2, t3, -⟩
  cases hs : Srt l with
  | false =>
    (refine W_seq_gen fun N hN => ?_); simp (disch := first | omega | (simp only [List.length_cons, List.length_nil, List.length_append, u8s_len]; omega)) only [go_sem, ↓reduceIte, true_and, Nat.reduceLeDiff, Nat.reduceEqDiff, Nat.reduceAdd, Nat.reduceBEq, Int.reduceEq, H.cv_3_57, H.cv_5_3, H.cv_57_3, t0, hv.same, hv.disc]
    refine (check_ok H hv (by omega) _).mono ?_
    rintro _ _ ⟨rfl, hh⟩; subst hh
    rw [hs]
    rw [contK_some]; simp (disch := first | omega | (simp only [List.length_cons, List.length_nil, List.length_append, u8s_len]; omega)) only [go_sem, ↓reduceIte, true_and, Nat.reduceLeDiff, Nat.reduceEqDiff, Nat.reduceAdd, Nat.reduceBEq, Int.reduceEq, H.cv_3_57, H.cv_5_3, H.cv_57_3, errN]
    exact ⟨rfl, rfl⟩
  | true =>
    by_cases hm0 : m < ((0 : Nat) : Int)
    · (refine W_seq_gen fun N hN => ?_); simp (disch := first | omega | (simp only [List.length_cons, List.length_nil, List.length_append, u8s_len]; omega)) only [go_sem, ↓reduceIte, true_and, Nat.reduceLeDiff, Nat.reduceEqDiff, Nat.reduceAdd, Nat.reduceBEq, Int.reduceEq, H.cv_3_57, H.cv_5_3, H.cv_57_3, t0, hv.same, hv.disc]
      refine (check_ok H hv (by omega) _).mono ?_
      rintro _ _ ⟨rfl, hh⟩; subst hh
      rw [hs]
      rw [contK_some]; simp (disch := first | omega | (simp only [List.length_cons, List.length_nil, List.length_append, u8s_len]; omega)) only [go_sem, ↓reduceIte, true_and, Nat.reduceLeDiff, Nat.reduceEqDiff, Nat.reduceAdd, Nat.reduceBEq, Int.reduceEq, H.cv_3_57, H.cv_5_3, H.cv_57_3, errN, t3, hm0]
      have : decide (0 ≤ m) = false := decide_eq_false (by omega)
      rw [this]
      exact ⟨rfl, rfl⟩
    obtain ⟨m, rfl⟩ : ∃ k : Nat, m = (k : Nat) := ⟨m.toNat, by omega⟩
    (refine W_seq_gen fun N hN => ?_); simp (disch := first | omega | (simp only [List.length_cons, List.length_nil, List.length_append, u8s_len]; omega)) only [go_sem, ↓reduceIte, true_and, Nat.reduceLeDiff, Nat.reduceEqDiff, Nat.reduceAdd, Nat.reduceBEq, Int.reduceEq, H.cv_3_57, H.cv_5_3, H.cv_57_3, t0, hv.same, hv.disc]
    refine (check_ok H hv (by omega) _).mono ?_
    rintro _ _ ⟨rfl, hh⟩; subst hh
    rw [hs]
    rw [contK_some]; simp (disch := first | omega | (simp only [List.length_cons, List.length_nil, List.length_append, u8s_len]; omega)) only [go_sem, ↓reduceIte, true_and, Nat.reduceLeDiff, Nat.reduceEqDiff, Nat.reduceAdd, Nat.reduceBEq, Int.reduceEq, H.cv_3_57, H.cv_5_3, H.cv_57_3, errN, t3, hm0]
    refine hN _ ?_; clear hN N
    refine W_forget (fun t => t 0 = v ∧ t 1 = .sc (.string f) ∧ t 2 = .sc (.string to) ∧ t 3 = .sc (.int .i64 m) ∧ True) (by simp [upd_at, *] <;> (first | rfl | exact ⟨rfl, rfl⟩ | exact ⟨rfl, rfl, rfl⟩ | exact ⟨rfl, rfl, rfl, rfl⟩ | exact ⟨rfl, rfl, rfl, rfl, rfl⟩)) ?_; rintro t ⟨t0, t1, t2, t3, -⟩
    have b1 := lbk_le l f
    have b2 := lbk_le l to
    (refine W_seq_gen fun N hN => ?_); simp (disch := first | omega | (simp only [List.length_cons, List.length_nil, List.length_append, u8s_len]; omega)) only [go_sem, ↓reduceIte, true_and, Nat.reduceLeDiff, Nat.reduceEqDiff, Nat.reduceAdd, Nat.reduceBEq, Int.reduceEq, H.cv_3_57, H.cv_5_3, H.cv_57_3, t0, t1, hv.same, hv.disc]
    refine (at_ok H L hv (by omega) hs _).mono ?_
    rintro _ h ⟨rfl, rfl⟩
    rw [contK_some]; simp (disch := first | omega | (simp only [List.length_cons, List.length_nil, List.length_append, u8s_len]; omega)) only [go_sem, ↓reduceIte, true_and, Nat.reduceLeDiff, Nat.reduceEqDiff, Nat.reduceAdd, Nat.reduceBEq, Int.reduceEq, H.cv_3_57, H.cv_5_3, H.cv_57_3]
    refine hN _ ?_; clear hN N
    refine W_forget (fun t => t 0 = v ∧ t 2 = .sc (.string to) ∧ t 3 = .sc (.int .i64 m) ∧ t 10 = .sc (.int .i64 (lbk l f : Nat)) ∧ True) (by simp [upd_at, *] <;> (first | rfl | exact ⟨rfl, rfl⟩ | exact ⟨rfl, rfl, rfl⟩ | exact ⟨rfl, rfl, rfl, rfl⟩ | exact ⟨rfl, rfl, rfl, rfl, rfl⟩)) ?_; rintro t ⟨t0, t2, t3, t10, -⟩
    (refine W_seq_gen fun N hN => ?_); simp (disch := first | omega | (simp only [List.length_cons, List.length_nil, List.length_append, u8s_len]; omega)) only [go_sem, ↓reduceIte, true_and, Nat.reduceLeDiff, Nat.reduceEqDiff, Nat.reduceAdd, Nat.reduceBEq, Int.reduceEq, H.cv_3_57, H.cv_5_3, H.cv_57_3, t0, hv.same, hv.disc, hv.sl.len, e1]
    refine hN _ ?_; clear hN N
    refine W_forget (fun t => t 0 = v ∧ t 2 = .sc (.string to) ∧ t 3 = .sc (.int .i64 m) ∧ t 10 = .sc (.int .i64 (lbk l f : Nat)) ∧ t 12 = .sc (.int .i64 (l.length : Nat)) ∧ True) (by simp [upd_at, *] <;> (first | rfl | exact ⟨rfl, rfl⟩ | exact ⟨rfl, rfl, rfl⟩ | exact ⟨rfl, rfl, rfl, rfl⟩ | exact ⟨rfl, rfl, rfl, rfl, rfl⟩)) ?_; rintro t ⟨t0, t2, t3, t10, t12, -⟩
    (refine W_seq_gen fun M hM => ?_)
    have hmin : min m l.length ≤ l.length := Nat.min_le_right _ _
    have go : ∀ (t : Nat → AV) (k : Nat), k = (if to = noS then l.length else lbk l to) → t 0 = v → t 3 = .sc (.int .i64 (m : Nat)) → t 10 = .sc (.int .i64 (lbk l f : Nat)) → t 12 = .sc (.int .i64 (k : Nat)) → M ⟨t, h⟩ := by
      clear t0 t2 t3 t10 t12 t
      intro t k hk t0 t3 t10 t12
      refine hM _ ?_; clear hM M
      have hE : max (lbk l f) k = endS l f to := by rw [endS, hk]
      have hEl := endS_le l f to
      have hEf : lbk l f ≤ endS l f to := by rw [← hE]; exact Nat.le_max_left _ _
      (refine W_seq_gen fun N hN => ?_); simp (disch := first | omega | (simp only [List.length_cons, List.length_nil, List.length_append, u8s_len]; omega)) only [go_sem, ↓reduceIte, true_and, Nat.reduceLeDiff, Nat.reduceEqDiff, Nat.reduceAdd, Nat.reduceBEq, Int.reduceEq, H.cv_3_57, H.cv_5_3, H.cv_57_3, t10, t12, hE]
      refine hN _ ?_; clear hN N
      have hcut := hv.sl.cut (lbk l f) (min (endS l f to) (lbk l f + min m l.length))
      have scut := fun (t : Nat → AV) (h : Heap) => hv.sl.slc_lu (t := t) (h := h) (l := lbk l f) (u := min (endS l f to) (lbk l f + min m l.length)) (k := .i64) (k' := .i64) (by omega) (by rw [prs_len]; omega)
      rw [prs_drop, prs_take] at hcut
      have hl2 : ((l.drop (lbk l f)).take (min (endS l f to) (lbk l f + min m l.length) - lbk l f)).length ≤ l.length := by rw [List.length_take, List.length_drop]; omega
      generalize cutV 2 (lbk l f) (min (endS l f to) (lbk l f + min m l.length)) v = w at hcut scut
      simp (disch := first | omega | (simp only [List.length_cons, List.length_nil, List.length_append, u8s_len]; omega)) only [go_sem, ↓reduceIte, true_and, Nat.reduceLeDiff, Nat.reduceEqDiff, Nat.reduceAdd, Nat.reduceBEq, Int.reduceEq, H.cv_3_57, H.cv_5_3, H.cv_57_3, t0, t3, t10, t12, nat_add, hv.same, hv.disc, hv.sl.len, e1, scut, hcut.same, hcut.disc]
      refine (clone_ok H hcut (by omega) _).mono ?_
      rintro x _ ⟨hx, hh⟩; subst hh
      rw [contK_some]; simp (disch := first | omega | (simp only [List.length_cons, List.length_nil, List.length_append, u8s_len]; omega)) only [go_sem, ↓reduceIte, true_and, Nat.reduceLeDiff, Nat.reduceEqDiff, Nat.reduceAdd, Nat.reduceBEq, Int.reduceEq, H.cv_3_57, H.cv_5_3, H.cv_57_3, hx.dd, hx.disc, hx.ddisc]
      exact ⟨_, rfl, hx.df⟩
    by_cases c : to = noS
    · have d : decide (to = noS) = true := decide_eq_true c
      simp (disch := first | omega | (simp only [List.length_cons, List.length_nil, List.length_append, u8s_len]; omega)) only [go_sem, ↓reduceIte, true_and, Nat.reduceLeDiff, Nat.reduceEqDiff, Nat.reduceAdd, Nat.reduceBEq, Int.reduceEq, H.cv_3_57, H.cv_5_3, H.cv_57_3, t2, d]
      exact go _ _ (by rw [if_pos c]) (by simp [upd_at, t0]) (by simp [upd_at, t3]) (by simp [upd_at, t10]) (by simp [upd_at, t12])
    · have d : decide (to = noS) = false := decide_eq_false c
      simp (disch := first | omega | (simp only [List.length_cons, List.length_nil, List.length_append, u8s_len]; omega)) only [go_sem, ↓reduceIte, true_and, Nat.reduceLeDiff, Nat.reduceEqDiff, Nat.reduceAdd, Nat.reduceBEq, Int.reduceEq, H.cv_3_57, H.cv_5_3, H.cv_57_3, t0, t2, d, hv.same, hv.disc]
      refine (at_ok H L hv (by omega) hs _).mono ?_
      rintro _ h ⟨rfl, rfl⟩
      rw [contK_some]; simp (disch := first | omega | (simp only [List.length_cons, List.length_nil, List.length_append, u8s_len]; omega)) only [go_sem, ↓reduceIte, true_and, Nat.reduceLeDiff, Nat.reduceEqDiff, Nat.reduceAdd, Nat.reduceBEq, Int.reduceEq, H.cv_3_57, H.cv_5_3, H.cv_57_3]
      exact go _ _ (by rw [if_neg c]) (by simp [upd_at, t0]) (by simp [upd_at, t3]) (by simp [upd_at, t10]) (by simp [upd_at])
theorem scan1_ok {v : AV} {l : List Pr} {f to : ByteArray} {m : Int} (hv : SF 2 v (prs l)) (hl : l.length < 2 ^ 40) (hm : m < 2 ^ 63) (h : Heap) :
    AWF P ann 1 14 [v, .sc (.string f), .sc (.string to), .sc (.int .i64 m)] h fun r h' => ScP (Srt l && decide (0 ≤ m)) h h' (fun x => RO false h h' x (scanS l f to m.toNat)) r := by
  refine AWF.fnc H.f1_14 rfl ?_
  have e1 := @prs_len l
  (refine W_seq_gen fun N hN => ?_); simp (disch := first | omega | (simp only [List.length_cons, List.length_nil, List.length_append, u8s_len]; omega)) only [go_sem, ↓reduceIte, true_and, Nat.reduceLeDiff, Nat.reduceEqDiff, Nat.reduceAdd, Nat.reduceBEq, Int.reduceEq, H.cv_3_57, H.cv_5_3, H.cv_57_3]
  refine hN _ ?_; clear hN N
  refine W_forget (fun t => t 0 = v ∧ t 1 = .sc (.string f) ∧ t 2 = .sc (.string to) ∧ t 3 = .sc (.int .i64 m) ∧ True) (by simp [upd_at, *] <;> (first | rfl | exact ⟨rfl, rfl⟩ | exact ⟨rfl, rfl, rfl⟩ | exact ⟨rfl, rfl, rfl, rfl⟩ | exact ⟨rfl, rfl, rfl, rfl, rfl⟩)) ?_; rintro t ⟨t0, t1, t2, t3, -⟩
  cases hs : Srt l with
  | false =>
    (refine W_seq_gen fun N hN => ?_); simp (disch := first | omega | (simp only [List.length_cons, List.length_nil, List.length_append, u8s_len]; omega)) only [go_sem, ↓reduceIte, true_and, Nat.reduceLeDiff, Nat.reduceEqDiff, Nat.reduceAdd, Nat.reduceBEq, Int.reduceEq, H.cv_3_57, H.cv_5_3, H.cv_57_3, t0, hv.same, hv.disc]
    refine (check_ok H hv (by omega) _).mono ?_
    rintro _ _ ⟨rfl, hh⟩; subst hh
    rw [hs]
    rw [contK_some]; simp (disch := first | omega | (simp only [List.length_cons, List.length_nil, List.length_append, u8s_len]; omega)) only [go_sem, ↓reduceIte, true_and, Nat.reduceLeDiff, Nat.reduceEqDiff, Nat.reduceAdd, Nat.reduceBEq, Int.reduceEq, H.cv_3_57, H.cv_5_3, H.cv_57_3, errN]
    exact ⟨rfl, rfl⟩
  | true =>
    by_cases hm0 : m < ((0 : Nat) : Int)
    · (refine W_seq_gen fun N hN => ?_); simp (disch := first | omega | (simp only [List.length_cons, List.length_nil, List.length_append, u8s_len]; omega)) only [go_sem, ↓reduceIte, true_and, Nat.reduceLeDiff, Nat.reduceEqDiff, Nat.reduceAdd, Nat.reduceBEq, Int.reduceEq, H.cv_3_57, H.cv_5_3, H.cv_57_3, t0, hv.same, hv.disc]
      refine (check_ok H hv (by omega) _).mono ?_
      rintro _ _ ⟨rfl, hh⟩; subst hh
      rw [hs]
      rw [contK_some]; simp (disch := first | omega | (simp only [List.length_cons, List.length_nil, List.length_append, u8s_len]; omega)) only [go_sem, ↓reduceIte, true_and, Nat.reduceLeDiff, Nat.reduceEqDiff, Nat.reduceAdd, Nat.reduceBEq, Int.reduceEq, H.cv_3_57, H.cv_5_3, H.cv_57_3, errN, t3, hm0]
      have : decide (0 ≤ m) = false := decide_eq_false (by omega)
      rw [this]
      exact ⟨rfl, rfl⟩
    obtain ⟨m, rfl⟩ : ∃ k : Nat, m = (k : Nat) := ⟨m.toNat, by omega⟩
    (refine W_seq_gen fun N hN => ?_); simp (disch := first | omega | (simp only [List.length_cons, List.length_nil, List.length_append, u8s_len]; omega)) only [go_sem, ↓reduceIte, true_and, Nat.reduceLeDiff, Nat.reduceEqDiff, Nat.reduceAdd, Nat.reduceBEq, Int.reduceEq, H.cv_3_57, H.cv_5_3, H.cv_57_3, t0, hv.same, hv.disc]
    refine (check_ok H hv (by omega) _).mono ?_
    rintro _ _ ⟨rfl, hh⟩; subst hh
    rw [hs]
    rw [contK_some]; simp (disch := first | omega | (simp only [List.length_cons, List.length_nil, List.length_append, u8s_len]; omega)) only [go_sem, ↓reduceIte, true_and, Nat.reduceLeDiff, Nat.reduceEqDiff, Nat.reduceAdd, Nat.reduceBEq, Int.reduceEq, H.cv_3_57, H.cv_5_3, H.cv_57_3, errN, t3, hm0]
    refine hN _ ?_; clear hN N
    refine W_forget (fun t => t 0 = v ∧ t 1 = .sc (.string f) ∧ t 2 = .sc (.string to) ∧ t 3 = .sc (.int .i64 m) ∧ True) (by simp [upd_at, *] <;> (first | rfl | exact ⟨rfl, rfl⟩ | exact ⟨rfl, rfl, rfl⟩ | exact ⟨rfl, rfl, rfl, rfl⟩ | exact ⟨rfl, rfl, rfl, rfl, rfl⟩)) ?_; rintro t ⟨t0, t1, t2, t3, -⟩
    have b1 := lbk_le l f
    have b2 := lbk_le l to
    (refine W_seq_gen fun N hN => ?_); simp (disch := first | omega | (simp only [List.length_cons, List.length_nil, List.length_append, u8s_len]; omega)) only [go_sem, ↓reduceIte, true_and, Nat.reduceLeDiff, Nat.reduceEqDiff, Nat.reduceAdd, Nat.reduceBEq, Int.reduceEq, H.cv_3_57, H.cv_5_3, H.cv_57_3, t0, t1, hv.same, hv.disc]
    refine (at_ok H L hv (by omega) hs _).mono ?_
    rintro _ h ⟨rfl, rfl⟩
    rw [contK_some]; simp (disch := first | omega | (simp only [List.length_cons, List.length_nil, List.length_append, u8s_len]; omega)) only [go_sem, ↓reduceIte, true_and, Nat.reduceLeDiff, Nat.reduceEqDiff, Nat.reduceAdd, Nat.reduceBEq, Int.reduceEq, H.cv_3_57, H.cv_5_3, H.cv_57_3]
    refine hN _ ?_; clear hN N
    refine W_forget (fun t => t 0 = v ∧ t 2 = .sc (.string to) ∧ t 3 = .sc (.int .i64 m) ∧ t 10 = .sc (.int .i64 (lbk l f : Nat)) ∧ True) (by simp [upd_at, *] <;> (first | rfl | exact ⟨rfl, rfl⟩ | exact ⟨rfl, rfl, rfl⟩ | exact ⟨rfl, rfl, rfl, rfl⟩ | exact ⟨rfl, rfl, rfl, rfl, rfl⟩)) ?_; rintro t ⟨t0, t2, t3, t10, -⟩
    (refine W_seq_gen fun N hN => ?_); simp (disch := first | omega | (simp only [List.length_cons, List.length_nil, List.length_append, u8s_len]; omega)) only [go_sem, ↓reduceIte, true_and, Nat.reduceLeDiff, Nat.reduceEqDiff, Nat.reduceAdd, Nat.reduceBEq, Int.reduceEq, H.cv_3_57, H.cv_5_3, H.cv_57_3, t0, hv.same, hv.disc, hv.sl.len, e1]
    refine hN _ ?_; clear hN N
    refine W_forget (fun t => t 0 = v ∧ t 2 = .sc (.string to) ∧ t 3 = .sc (.int .i64 m) ∧ t 10 = .sc (.int .i64 (lbk l f : Nat)) ∧ t 12 = .sc (.int .i64 (l.length : Nat)) ∧ True) (by simp [upd_at, *] <;> (first | rfl | exact ⟨rfl, rfl⟩ | exact ⟨rfl, rfl, rfl⟩ | exact ⟨rfl, rfl, rfl, rfl⟩ | exact ⟨rfl, rfl, rfl, rfl, rfl⟩)) ?_; rintro t ⟨t0, t2, t3, t10, t12, -⟩
    (refine W_seq_gen fun M hM => ?_)
    have hmin : min m l.length ≤ l.length := Nat.min_le_right _ _
    have go : ∀ (t : Nat → AV) (k : Nat), k = (if to = noS then l.length else lbk l to) → t 0 = v → t 3 = .sc (.int .i64 (m : Nat)) → t 10 = .sc (.int .i64 (lbk l f : Nat)) → t 12 = .sc (.int .i64 (k : Nat)) → M ⟨t, h⟩ := by
      clear t0 t2 t3 t10 t12 t
      intro t k hk t0 t3 t10 t12
      refine hM _ ?_; clear hM M
      have hE : max (lbk l f) k = endS l f to := by rw [endS, hk]
      have hEl := endS_le l f to
      have hEf : lbk l f ≤ endS l f to := by rw [← hE]; exact Nat.le_max_left _ _
      (refine W_seq_gen fun N hN => ?_); simp (disch := first | omega | (simp only [List.length_cons, List.length_nil, List.length_append, u8s_len]; omega)) only [go_sem, ↓reduceIte, true_and, Nat.reduceLeDiff, Nat.reduceEqDiff, Nat.reduceAdd, Nat.reduceBEq, Int.reduceEq, H.cv_3_57, H.cv_5_3, H.cv_57_3, t10, t12, hE]
      refine hN _ ?_; clear hN N
      have hcut := hv.sl.cut (lbk l f) (min (endS l f to) (lbk l f + min m l.length))
      have scut := fun (t : Nat → AV) (h : Heap) => hv.sl.slc_lu (t := t) (h := h) (l := lbk l f) (u := min (endS l f to) (lbk l f + min m l.length)) (k := .i64) (k' := .i64) (by omega) (by rw [prs_len]; omega)
      rw [prs_drop, prs_take] at hcut
      have hl2 : ((l.drop (lbk l f)).take (min (endS l f to) (lbk l f + min m l.length) - lbk l f)).length ≤ l.length := by rw [List.length_take, List.length_drop]; omega
      generalize cutV 2 (lbk l f) (min (endS l f to) (lbk l f + min m l.length)) v = w at hcut scut
      simp (disch := first | omega | (simp only [List.length_cons, List.length_nil, List.length_append, u8s_len]; omega)) only [go_sem, ↓reduceIte, true_and, Nat.reduceLeDiff, Nat.reduceEqDiff, Nat.reduceAdd, Nat.reduceBEq, Int.reduceEq, H.cv_3_57, H.cv_5_3, H.cv_57_3, t0, t3, t10, t12, nat_add, hv.same, hv.disc, hv.sl.len, e1, scut, hcut.same, hcut.disc]
      refine (clone1_ok H hcut (by omega) _).mono ?_
      rintro x h1 (⟨rfl | rfl, hl0, rfl⟩ | ⟨o, cap, z, ho, rfl, hle, hz, rfl⟩)
      · rw [contK_some]; simp (disch := first | omega | (simp only [List.length_cons, List.length_nil, List.length_append, u8s_len]; omega)) only [go_sem, ↓reduceIte, true_and, Nat.reduceLeDiff, Nat.reduceEqDiff, Nat.reduceAdd, Nat.reduceBEq, Int.reduceEq, H.cv_3_57, H.cv_5_3, H.cv_57_3]
        exact ⟨_, rfl, .inl ⟨.inl rfl, hl0, rfl⟩⟩
      · rw [contK_some]; simp (disch := first | omega | (simp only [List.length_cons, List.length_nil, List.length_append, u8s_len]; omega)) only [go_sem, ↓reduceIte, true_and, Nat.reduceLeDiff, Nat.reduceEqDiff, Nat.reduceAdd, Nat.reduceBEq, Int.reduceEq, H.cv_3_57, H.cv_5_3, H.cv_57_3]
        exact ⟨_, rfl, .inl ⟨.inr rfl, hl0, rfl⟩⟩
      · rw [contK_some]; simp (disch := first | omega | (simp only [List.length_cons, List.length_nil, List.length_append, u8s_len]; omega)) only [go_sem, ↓reduceIte, true_and, Nat.reduceLeDiff, Nat.reduceEqDiff, Nat.reduceAdd, Nat.reduceBEq, Int.reduceEq, H.cv_3_57, H.cv_5_3, H.cv_57_3]
        exact ⟨_, rfl, .inr ⟨o, cap, z, ho, rfl, hle, hz, rfl⟩⟩
    by_cases c : to = noS
    · have d : decide (to = noS) = true := decide_eq_true c
      simp (disch := first | omega | (simp only [List.length_cons, List.length_nil, List.length_append, u8s_len]; omega)) only [go_sem, ↓reduceIte, true_and, Nat.reduceLeDiff, Nat.reduceEqDiff, Nat.reduceAdd, Nat.reduceBEq, Int.reduceEq, H.cv_3_57, H.cv_5_3, H.cv_57_3, t2, d]
      exact go _ _ (by rw [if_pos c]) (by simp [upd_at, t0]) (by simp [upd_at, t3]) (by simp [upd_at, t10]) (by simp [upd_at, t12])
    · have d : decide (to = noS) = false := decide_eq_false c
      simp (disch := first | omega | (simp only [List.length_cons, List.length_nil, List.length_append, u8s_len]; omega)) only [go_sem, ↓reduceIte, true_and, Nat.reduceLeDiff, Nat.reduceEqDiff, Nat.reduceAdd, Nat.reduceBEq, Int.reduceEq, H.cv_3_57, H.cv_5_3, H.cv_57_3, t0, t2, d, hv.same, hv.disc]
      refine (at_ok H L hv (by omega) hs _).mono ?_
      rintro _ h ⟨rfl, rfl⟩
      rw [contK_some]; simp (disch := first | omega | (simp only [List.length_cons, List.length_nil, List.length_append, u8s_len]; omega)) only [go_sem, ↓reduceIte, true_and, Nat.reduceLeDiff, Nat.reduceEqDiff, Nat.reduceAdd, Nat.reduceBEq, Int.reduceEq, H.cv_3_57, H.cv_5_3, H.cv_57_3]
      exact go _ _ (by rw [if_neg c]) (by simp [upd_at, t0]) (by simp [upd_at, t3]) (by simp [upd_at, t10]) (by simp [upd_at])
end Go.Proofs.Ytmdkgaljnoookaa
