/- Orders, searches, which ethers there may be. -/
import Derived.Test.YtomfknocpijmbaaEtherCode
import Derived.Test.YtomfknocpijmbaaAmRow
import Derived.Test.YtomfknocpijmbaaAmInv
section
set_option linter.unusedVariables false
set_option linter.unusedSimpArgs false
namespace Go.Proofs.Ytomfknocpijmbaa
open Go.Am
def ints (l : List Int) : List (List AV) := l.map fun x => [.sc (.int .i64 x)]
theorem ints_len {l : List Int} : (ints l).length = l.length := by simp [ints]
theorem ints_get {l : List Int} {i : Nat} (h : i < l.length) : (ints l)[i]? = some [.sc (.int .i64 l[i])] := by simp [ints, h]
def cmpI (a b : Int) : Int := if a < b then -1 else if a > b then 1 else 0
def orI : List Int → Int
 | [] => 0
 | a :: l => if a = 0 then orI l else a
def cmpL : List Int → List Int → Int
 | [], [] => 0
 | [], _ => -1
 | _, [] => 1
 | a :: l, b :: m => if cmpI a b = 0 then cmpL l m else cmpI a b
def cmp2 (a b : Int × Int) : Int := orI [cmpI a.1 b.1, cmpI a.2 b.2]
def ahd (a b : Int × Int) : Bool := decide (a.1 < b.1) || (decide (a.1 = b.1) && decide (a.2 < b.2))
theorem cmpL2 (a b c d : Int) : cmpL [a, b] [c, d] = cmp2 (a, b) (c, d) := by
 unfold cmp2 cmpL
 simp only [orI]
 split
 ·unfold cmpL
  split <;> simp_all [cmpL]
 ·rfl
theorem cmp2_lt (a b : Int × Int) : decide (cmp2 a b < ((0 : Nat) : Int)) = ahd a b := by
 obtain ⟨a1, a2⟩ := a
 obtain ⟨b1, b2⟩ := b
 unfold cmp2 ahd
 simp only [orI, cmpI]
 by_cases h1 : a1 < b1 <;> by_cases h2 : a1 > b1 <;> by_cases h3 : a2 < b2 <;> by_cases h4 : a2 > b2 <;> simp [h1, h2, h3, h4] <;> omega
theorem cmp2_ge (a b : Int × Int) : decide (cmp2 a b ≥ ((0 : Nat) : Int)) = !ahd a b := by
 rw [← cmp2_lt]
 by_cases h : cmp2 a b < ((0 : Nat) : Int)
 ·have : ¬ cmp2 a b ≥ ((0 : Nat) : Int) := by omega
  simp only [decide_eq_true h, decide_eq_false this, Bool.not_true]
 ·have : cmp2 a b ≥ ((0 : Nat) : Int) := by omega
  simp only [decide_eq_false h, decide_eq_true this, Bool.not_false]
theorem cmp2_eq (a b : Int × Int) : (cmp2 a b == ((0 : Nat) : Int)) = decide (a = b) := by
 obtain ⟨a1, a2⟩ := a
 obtain ⟨b1, b2⟩ := b
 unfold cmp2
 simp only [orI, cmpI]
 by_cases h1 : a1 < b1 <;> by_cases h2 : a1 > b1 <;> by_cases h3 : a2 < b2 <;> by_cases h4 : a2 > b2 <;> simp [h1, h2, h3, h4] <;> omega
theorem ahd_trans {a b c : Int × Int} (h1 : ahd a b = true) (h2 : ahd b c = true) : ahd a c = true := by
 simp only [ahd, Bool.or_eq_true, Bool.and_eq_true, decide_eq_true_eq] at *
 omega
theorem ahd_irr (a : Int × Int) : ahd a a = false := by simp [ahd]
theorem ahd_total {a b : Int × Int} (h1 : ahd a b = false) (h2 : ahd b a = false) : a = b := by
 obtain ⟨a1, a2⟩ := a
 obtain ⟨b1, b2⟩ := b
 simp only [ahd, Bool.or_eq_false_iff, Bool.and_eq_false_iff, decide_eq_false_iff_not] at h1 h2
 have : a1 = b1 := by omega
 have : a2 = b2 := by omega
 simp_all
def Srt (l : List (Int × Int)) : Prop := ∀ i j (hi : i < l.length) (hj : j < l.length), i < j → ahd l[i] l[j] = true
def ix (l : List (Int × Int)) (p : Int × Int) : Nat := (l.takeWhile (ahd · p)).length
theorem ix_le (l : List (Int × Int)) (p : Int × Int) : ix l p ≤ l.length := (List.takeWhile_prefix _).length_le
theorem ix_spec : ∀ {l : List (Int × Int)} {p : Int × Int} {n : Nat}, n ≤ l.length → (∀ j (h : j < l.length), j < n → ahd l[j] p = true) → (∀ (h : n < l.length), ahd l[n] p = false) → ix l p = n
 | [], p, n, h1, _, _ => by simp at h1; subst h1; rfl
 | a :: l, p, 0, _, _, h3 => by
  have := h3 (by simp)
  unfold ix
  rw [List.takeWhile_cons]
  simp only [List.getElem_cons_zero] at this
  simp [this]
 | a :: l, p, n + 1, h1, h2, h3 => by
  have h0 := h2 0 (by simp) (by omega)
  simp only [List.getElem_cons_zero] at h0
  unfold ix
  rw [List.takeWhile_cons, h0]
  simp only [if_true, List.length_cons]
  congr 1
  exact ix_spec (l := l) (n := n) (by simpa using h1) (fun j hj hn => by have := h2 (j + 1) (by simpa using hj) (by omega); rwa [List.getElem_cons_succ] at this) (fun h => by have := h3 (by simpa using h); rwa [List.getElem_cons_succ] at this)
theorem aexB2_minZ {P : Program} {t : Nat → AV} {h : Heap} {tys ty k k'} {a b : Int} : aexB2 P .min tys ty t h (.sc (.int k a)) (.sc (.int k' b)) = some (.val (.sc (.int k (min a b))) t h) := by
 have e : pureRun P (builtin .min tys ty #[] #[.int k a, .int k' b]) = some (.value (.int k (if b < a then b else a))) := by
  simp [builtin, Builtin.min_, Builtin.min2, pr_bind, pr_pure, pr_map]
 have e2 : (if b < a then b else a) = min a b := by split <;> omega
 simp [aexB2, AV.toV, e, e2, scalarV]
theorem aexB2_maxZ {P : Program} {t : Nat → AV} {h : Heap} {tys ty k k'} {a b : Int} : aexB2 P .max tys ty t h (.sc (.int k a)) (.sc (.int k' b)) = some (.val (.sc (.int k (max a b))) t h) := by
 have e : pureRun P (builtin .max tys ty #[] #[.int k a, .int k' b]) = some (.value (.int k (if b > a then b else a))) := by
  simp [builtin, Builtin.max_, Builtin.max2, pr_bind, pr_pure, pr_map]
 have e2 : (if b > a then b else a) = max a b := by split <;> omega
 simp [aexB2, AV.toV, e, e2, scalarV]
theorem rd_keep {h h1 : Heap} {sz : Nat} {v : AV} {es : List (List AV)} (H : RD h sz v es) (hk : ∀ o, ¬ h o = none → h1 o = h o) : RD h1 sz v es := by
 obtain ⟨h0, h2 | ⟨o, c, n, lim, rfl⟩⟩ := id H
 ·exact h2.rd
 ·obtain ⟨_, cs, hc, _⟩ := H.rs
  refine ⟨?_, .inr ⟨o, c, n, lim, rfl⟩⟩
  rw [← h0]
  simp only [elemsOf, hk o (by rw [hc]; simp)]
def two (a b : Int) : Bool := decide (a ≥ ((1 : Nat) : Int)) && decide (a ≤ ((999 : Nat) : Int)) && decide (b ≥ ((1 : Nat) : Int)) && decide (b ≤ ((999 : Nat) : Int)) && (a != b)
variable {P : Program} (H : Has P)
include H
theorem isnan_ok (n : Int) (h : Heap) : AWF P ann 0 67 [.sc (.int .i64 n)] h fun r h' => r = .sc (.bool false) ∧ h' = h := by
 refine AWF.fnc H.f0_67 rfl ?_
 simp (disch := omega) only [go_sem, ↓reduceIte, Nat.reduceEqDiff, Nat.reduceLeDiff]
 simp
theorem cmpi_ok (x y : Int) (h : Heap) : AWF P ann 0 63 [.sc (.int .i64 x), .sc (.int .i64 y)] h fun r h' => r = .sc (.int .i64 (cmpI x y)) ∧ h' = h := by
 refine AWF.fnc H.f0_63 rfl ?_
 (refine W_seq_gen fun N hN => ?_); simp (disch := omega) only [go_sem, ↓reduceIte, Nat.reduceEqDiff, Nat.reduceLeDiff]
 refine hN _ ?_; clear hN N
 (refine W_seq_gen fun N hN => ?_); simp (disch := omega) only [go_sem, ↓reduceIte, Nat.reduceEqDiff, Nat.reduceLeDiff]
 refine (isnan_ok H _ _).mono ?_
 rintro _ _ ⟨rfl, hh⟩; subst hh
 rw [contK_some]; simp (disch := omega) only [go_sem, ↓reduceIte, Nat.reduceEqDiff, Nat.reduceLeDiff]
 refine hN _ ?_; clear hN N
 (refine W_seq_gen fun N hN => ?_); simp (disch := omega) only [go_sem, ↓reduceIte, Nat.reduceEqDiff, Nat.reduceLeDiff]
 refine (isnan_ok H _ _).mono ?_
 rintro _ _ ⟨rfl, hh⟩; subst hh
 rw [contK_some]; simp (disch := omega) only [go_sem, ↓reduceIte, Nat.reduceEqDiff, Nat.reduceLeDiff]
 refine hN _ ?_; clear hN N
 (refine W_seq_gen fun N hN => ?_); simp (disch := omega) only [go_sem, ↓reduceIte, Nat.reduceEqDiff, Nat.reduceLeDiff]
 refine hN _ ?_; clear hN N
 (refine W_seq_gen fun N hN => ?_); simp (disch := omega) only [go_sem, ↓reduceIte, Nat.reduceEqDiff, Nat.reduceLeDiff]
 refine hN _ ?_; clear hN N
 by_cases h1 : x < y
 ·simp (disch := omega) only [go_sem, ↓reduceIte, Nat.reduceEqDiff, Nat.reduceLeDiff, h1]
  simp [cmpI, h1]
 ·(refine W_seq_gen fun N hN => ?_); simp (disch := omega) only [go_sem, ↓reduceIte, Nat.reduceEqDiff, Nat.reduceLeDiff, h1]
  refine hN _ ?_; clear hN N
  by_cases h2 : x > y
  ·simp (disch := omega) only [go_sem, ↓reduceIte, Nat.reduceEqDiff, Nat.reduceLeDiff, h2]
   simp [cmpI, h1, h2]
  ·simp (disch := omega) only [go_sem, ↓reduceIte, Nat.reduceEqDiff, Nat.reduceLeDiff, h2]
   simp [cmpI, h1, h2]
theorem or_ok {v : AV} {l : List Int} (hv : SL 1 v (ints l)) (hl : l.length < 2 ^ 40) (h : Heap) : AWF P ann 0 62 [v] h fun r h' => r = .sc (.int .i64 (orI l)) ∧ h' = h := by
 refine AWF.fnc H.f0_62 rfl ?_
 have e1 := @ints_len l
 (refine W_seq_gen fun N hN => ?_); simp (disch := omega) only [go_sem, ↓reduceIte, Nat.reduceEqDiff, Nat.reduceLeDiff]
 refine hN _ ?_; clear hN N
 (refine W_seq_gen fun N hN => ?_); simp (disch := omega) only [go_sem, ↓reduceIte, Nat.reduceEqDiff, Nat.reduceLeDiff]
 refine hN _ ?_; clear hN N
 (refine W_seq_gen fun M hM => ?_)
 (refine W_seq_gen fun N hN => ?_); simp (disch := omega) only [go_sem, ↓reduceIte, Nat.reduceEqDiff, Nat.reduceLeDiff, hv.dis.len, e1]
 refine hN _ ?_; clear hN N
 simp (disch := omega) only [go_sem, ↓reduceIte, Nat.reduceEqDiff, Nat.reduceLeDiff]
 refine AW_loopN (fun n t h' => h' = h ∧ ∃ i, n = l.length - i ∧ i ≤ l.length ∧ t 6 = v.dis ∧ t 3 = .sc (.int .i64 (0 : Nat)) ∧ t 8 = .sc (.int .i64 (i : Nat)) ∧ t 7 = .sc (.int .i64 (l.length : Nat)) ∧ orI l = orI (l.drop i))
  (n := l.length) ⟨rfl, 0, rfl, Nat.zero_le _, rfl, rfl, rfl, by simp [upd_at], rfl⟩ ?_
 rintro n t h' ⟨rfl, i, rfl, hi, t6, t3, t8, t7, ho⟩
 rcases Nat.lt_or_ge i l.length with hlt | hge
 ·have g0 := ints_get hlt
  (refine W_seq_gen fun N hN => ?_); simp (disch := omega) only [go_sem, ↓reduceIte, Nat.reduceEqDiff, Nat.reduceLeDiff, t7, t8, hlt]
  refine hN _ ?_; clear hN N
  (refine W_seq_gen fun N hN => ?_); simp (disch := omega) only [go_sem, ↓reduceIte, Nat.reduceEqDiff, Nat.reduceLeDiff]
  refine hN _ ?_; clear hN N
  (refine W_seq_gen fun N hN => ?_)
  rw [W_block]
  have hd : l.drop i = l[i] :: l.drop (i + 1) := List.drop_eq_getElem_cons hlt
  (refine W_seq_gen fun N hN => ?_); simp (disch := omega) only [go_sem, ↓reduceIte, Nat.reduceEqDiff, Nat.reduceLeDiff, t6, t8, hv.dd, hv.dis.ia, g0]
  refine hN _ ?_; clear hN N
  by_cases h0 : l[i] = 0
  ·have h1 : (l[i] != ((0 : Nat) : Int)) = false := by simp [h0]
   simp (disch := omega) only [go_sem, ↓reduceIte, Nat.reduceEqDiff, Nat.reduceLeDiff, t3, h1]
   refine hN _ ?_; clear hN N
   simp (disch := omega) only [go_sem, ↓reduceIte, Nat.reduceEqDiff, Nat.reduceLeDiff, t8, nat_add]
   exact ⟨l.length - (i + 1), by omega, i + 1, rfl, by omega, t6, t3, rfl, t7, by rw [ho, hd, orI, if_pos h0]⟩
  ·have h1 : (l[i] != ((0 : Nat) : Int)) = true := by simpa using h0
   simp (disch := omega) only [go_sem, ↓reduceIte, Nat.reduceEqDiff, Nat.reduceLeDiff, t3, h1]
   rw [ho, hd, orI, if_neg h0]
 obtain rfl : i = l.length := by omega
 (refine W_seq_gen fun N hN => ?_); simp (disch := omega) only [go_sem, ↓reduceIte, Nat.reduceEqDiff, Nat.reduceLeDiff, t7, t8, Nat.lt_irrefl]
 refine hN _ ?_; clear hN N
 (refine W_seq_gen fun N hN => ?_); simp (disch := omega) only [go_sem, ↓reduceIte, Nat.reduceEqDiff, Nat.reduceLeDiff]
 refine hM _ ?_; clear hN N hM M
 rw [ho, List.drop_length]
 simp (disch := omega) only [go_sem, ↓reduceIte, Nat.reduceEqDiff, Nat.reduceLeDiff, t3]
 rfl
theorem compare_ok {v w : AV} {l m : List Int} {h : Heap} (hv : RD h 1 v (ints l)) (hw : RD h 1 w (ints m)) (hvs : v.dis = v) (hws : w.dis = w) (hl : l.length < 2 ^ 40) (hm : m.length < 2 ^ 40) : AWF P ann 0 61 [v, w] h fun r h' => r = .sc (.int .i64 (cmpL l m)) ∧ h' = h := by
 refine AWF.fnc H.f0_61 rfl ?_
 have e1 := @ints_len l
 have e2 := @ints_len m
 (refine W_seq_gen fun N hN => ?_); simp (disch := omega) only [go_sem, ↓reduceIte, Nat.reduceEqDiff, Nat.reduceLeDiff]
 refine hN _ ?_; clear hN N
 (refine W_seq_gen fun M hM => ?_)
 (refine W_seq_gen fun N hN => ?_); simp (disch := omega) only [go_sem, ↓reduceIte, Nat.reduceEqDiff, Nat.reduceLeDiff, hv.len, e1, hvs]
 refine hN _ ?_; clear hN N
 simp (disch := omega) only [go_sem, ↓reduceIte, Nat.reduceEqDiff, Nat.reduceLeDiff]
 refine AW_loopN (fun n t h' => h' = h ∧ ∃ i, n = l.length - i ∧ i ≤ l.length ∧ i ≤ m.length ∧ t 0 = v ∧ t 1 = w ∧ t 9 = v ∧ t 10 = .sc (.int .i64 (l.length : Nat)) ∧ t 11 = .sc (.int .i64 (i : Nat)) ∧ cmpL l m = cmpL (l.drop i) (m.drop i))
  (n := l.length) ⟨rfl, 0, rfl, Nat.zero_le _, Nat.zero_le _, rfl, rfl, by simp [upd_at, hvs], by simp [upd_at], by simp [upd_at], rfl⟩ ?_
 rintro n t h' ⟨rfl, i, rfl, hi, him, t0, t1, t9, t10, t11, ho⟩
 rcases Nat.lt_or_ge i l.length with hlt | hge
 ·have hd : l.drop i = l[i] :: l.drop (i + 1) := List.drop_eq_getElem_cons hlt
  obtain ⟨p, p1, p2, p3⟩ := hv.at1 (ints_get hlt)
  (refine W_seq_gen fun N hN => ?_); simp (disch := omega) only [go_sem, ↓reduceIte, Nat.reduceEqDiff, Nat.reduceLeDiff, t10, t11, hlt]
  refine hN _ ?_; clear hN N
  (refine W_seq_gen fun N hN => ?_); simp (disch := omega) only [go_sem, ↓reduceIte, Nat.reduceEqDiff, Nat.reduceLeDiff]
  refine hN _ ?_; clear hN N
  (refine W_seq_gen fun R hR => ?_)
  rw [W_block]
  (refine W_seq_gen fun N hN => ?_); simp (disch := omega) only [go_sem, ↓reduceIte, Nat.reduceEqDiff, Nat.reduceLeDiff, t9, t11, hvs, p1, p2, p3]
  refine hN _ ?_; clear hN N
  refine W_f (fun t => t 0 = v ∧ t 1 = w ∧ t 5 = .sc (.int .i64 (i : Nat)) ∧ t 6 = .sc (.int .i64 l[i]) ∧ t 9 = v ∧ t 10 = .sc (.int .i64 (l.length : Nat)) ∧ t 11 = .sc (.int .i64 (i : Nat)) ∧ True) ?_; rintro t ⟨t0, t1, t5, t6, t9, t10, t11, -⟩
  by_cases c : m.length ≤ i
  ·have hm0 : m.drop i = [] := List.drop_eq_nil_of_le c
   have d1 : decide (m.length ≤ i) = true := by simpa using c
   simp (disch := omega) only [go_sem, ↓reduceIte, Nat.reduceEqDiff, Nat.reduceLeDiff, t1, t5, hws, hw.len, e2, d1]
   rw [ho, hd, hm0]
   rfl
  ·have d1 : decide (m.length ≤ i) = false := by simpa using c
   have hmd : m.drop i = m[i] :: m.drop (i + 1) := List.drop_eq_getElem_cons (by omega)
   obtain ⟨q, q1, q2, q3⟩ := hw.at1 (ints_get (l := m) (i := i) (by omega))
   (refine W_seq_gen fun N hN => ?_); simp (disch := omega) only [go_sem, ↓reduceIte, Nat.reduceEqDiff, Nat.reduceLeDiff, t1, t5, hws, hw.len, e2, d1]
   refine hN _ ?_; clear hN N
   refine W_f (fun t => t 0 = v ∧ t 1 = w ∧ t 5 = .sc (.int .i64 (i : Nat)) ∧ t 6 = .sc (.int .i64 l[i]) ∧ t 9 = v ∧ t 10 = .sc (.int .i64 (l.length : Nat)) ∧ t 11 = .sc (.int .i64 (i : Nat)) ∧ True) ?_; rintro t ⟨t0, t1, t5, t6, t9, t10, t11, -⟩
   (refine W_seq_gen fun N hN => ?_); simp (disch := omega) only [go_sem, ↓reduceIte, Nat.reduceEqDiff, Nat.reduceLeDiff, t1, t5, hws, q1, q2, q3]
   refine hN _ ?_; clear hN N
   refine W_f (fun t => t 0 = v ∧ t 1 = w ∧ t 6 = .sc (.int .i64 l[i]) ∧ t 7 = .sc (.int .i64 m[i]) ∧ t 9 = v ∧ t 10 = .sc (.int .i64 (l.length : Nat)) ∧ t 11 = .sc (.int .i64 (i : Nat)) ∧ True) ?_; rintro t ⟨t0, t1, t6, t7, t9, t10, t11, -⟩
   (refine W_seq_gen fun N hN => ?_); simp (disch := omega) only [go_sem, ↓reduceIte, Nat.reduceEqDiff, Nat.reduceLeDiff, t6, t7]
   refine (cmpi_ok H _ _ _).mono ?_
   rintro _ _ ⟨rfl, hh⟩; subst hh
   rw [contK_some]; simp (disch := omega) only [go_sem, ↓reduceIte, Nat.reduceEqDiff, Nat.reduceLeDiff]
   refine hN _ ?_; clear hN N
   by_cases c0 : cmpI l[i] m[i] = 0
   ·have d2 : (cmpI l[i] m[i] != ((0 : Nat) : Int)) = false := by simp [c0]
    simp (disch := omega) only [go_sem, ↓reduceIte, Nat.reduceEqDiff, Nat.reduceLeDiff, d2]
    refine hR _ ?_; clear hR R
    simp (disch := omega) only [go_sem, ↓reduceIte, Nat.reduceEqDiff, Nat.reduceLeDiff, t11, nat_add]
    exact ⟨l.length - (i + 1), by omega, i + 1, rfl, by omega, by omega, by simp [upd_at, t0], by simp [upd_at, t1], by simp [upd_at, t9], by simp [upd_at, t10], by simp [upd_at], by rw [ho, hd, hmd, cmpL, if_pos c0]⟩
   ·have d2 : (cmpI l[i] m[i] != ((0 : Nat) : Int)) = true := by simpa using c0
    simp (disch := omega) only [go_sem, ↓reduceIte, Nat.reduceEqDiff, Nat.reduceLeDiff, d2]
    rw [ho, hd, hmd, cmpL, if_neg c0]
 ·obtain rfl : i = l.length := by omega
  (refine W_seq_gen fun N hN => ?_); simp (disch := omega) only [go_sem, ↓reduceIte, Nat.reduceEqDiff, Nat.reduceLeDiff, t10, t11, Nat.lt_irrefl]
  refine hN _ ?_; clear hN N
  (refine W_seq_gen fun N hN => ?_); simp (disch := omega) only [go_sem, ↓reduceIte, Nat.reduceEqDiff, Nat.reduceLeDiff]
  refine hM _ ?_; clear hN N hM M
  rw [ho, List.drop_length]
  by_cases c : l.length < m.length
  ·have d : decide (l.length < m.length) = true := by simpa using c
   simp (disch := omega) only [go_sem, ↓reduceIte, Nat.reduceEqDiff, Nat.reduceLeDiff, t0, t1, hvs, hws, hv.len, hw.len, e1, e2, d]
   cases hq : m.drop l.length with
   | nil => have := congrArg List.length hq; simp at this; omega
   | cons a r => rfl
  ·have d : decide (l.length < m.length) = false := by simpa using c
   simp (disch := omega) only [go_sem, ↓reduceIte, Nat.reduceEqDiff, Nat.reduceLeDiff, t0, t1, hvs, hws, hv.len, hw.len, e1, e2, d]
   rw [List.drop_eq_nil_of_le (by omega)]
   rfl
theorem pair_ok (a b c d : Int) (h : Heap) : AWF P ann 0 43 [.ag [.sc (.int .i64 a), .sc (.int .i64 b)], .ag [.sc (.int .i64 c), .sc (.int .i64 d)]] h fun r h' => r = .sc (.int .i64 (cmp2 (a, b) (c, d))) ∧ h' = h := by
 refine AWF.fnPurec H.f0_43 rfl ?_
 (refine W_seq_gen fun N hN => ?_); simp (disch := omega) only [go_sem, ↓reduceIte, Nat.reduceEqDiff, Nat.reduceLeDiff]
 intro o ho p hp
 obtain ⟨h2, hh, f1, f2, f3⟩ := box2 ho hp (Y := some (.arr [.sc (.int .i64 c), .sc (.int .i64 d)]))
 refine hN _ ?_; clear hN N
 rw [hh]
 clear hh hp ho
 refine W_f (fun t => t 2 = .op o 0 ∧ t 3 = .op p 0 ∧ True) ?_; rintro t ⟨t2, t3, -⟩
 (refine W_seq_gen fun N hN => ?_)
 refine ln43_5 ?_
 have slp : ∀ (q : Nat) (t : Nat → AV) (h : Heap), aex P (.slp 2 1 (.t q) none none) ⟨t, h⟩ = match t q with | .op o c => some (.val (.rs o c 1 2 (some 2)) t h) | _ => none := fun q t h => by
  simp only [aex, Opd.ev]
  cases t q <;> first | rfl | (simp [bounds, bHi, bLo])
 have r1 : RD h2 1 (.rs o 0 1 2 (some 2)) (ints [a, b]) := ⟨by simp [elemsOf, f1, chunks, ints, disc_sc], .inr ⟨_, _, _, _, rfl⟩⟩
 have r2 : RD h2 1 (.rs p 0 1 2 (some 2)) (ints [c, d]) := ⟨by simp [elemsOf, f2, chunks, ints, disc_sc], .inr ⟨_, _, _, _, rfl⟩⟩
 simp (disch := omega) only [go_sem, ↓reduceIte, Nat.reduceEqDiff, Nat.reduceLeDiff, slp, t2, t3]
 refine (compare_ok H r1 r2 rfl rfl (by simp) (by simp)).mono ?_
 rintro _ _ ⟨rfl, hh⟩; subst hh
 rw [contK_some]; simp (disch := omega) only [go_sem, ↓reduceIte, Nat.reduceEqDiff, Nat.reduceLeDiff]
 refine hN _ ?_; clear hN N
 simp (disch := omega) only [go_sem, ↓reduceIte, Nat.reduceEqDiff, Nat.reduceLeDiff]
 exact ⟨by rw [cmpL2], f3⟩
theorem order_ok (a b c d : Int) {lv lw : AV} (hl : lv.disc = lv) (hw : lw.disc = lw) (h : Heap) : AWF P ann 0 44 [.ag [.sc (.int .i64 a), .sc (.int .i64 b), lv], .ag [.sc (.int .i64 c), .sc (.int .i64 d), lw]] h fun r h' => r = .sc (.int .i64 (cmp2 (a, b) (c, d))) ∧ h' = h := by
 refine AWF.fnPurec H.f0_44 rfl ?_
 (refine W_seq_gen fun N hN => ?_); simp (disch := omega) only [go_sem, ↓reduceIte, Nat.reduceEqDiff, Nat.reduceLeDiff, hl, hw]
 intro o ho p hp
 obtain ⟨h2, hh, f1, f2, f3⟩ := box2 ho hp (Y := some (.arr [.sc (.int .i64 c), .sc (.int .i64 d), lw]))
 refine hN _ ?_; clear hN N
 rw [hh]
 clear hh hp ho
 simp (disch := omega) only [go_sem, ↓reduceIte, Nat.reduceEqDiff, Nat.reduceLeDiff, f1, f2]
 refine ⟨_, cmpi_ok H _ _ _, ?_⟩
 rw [contK_some]; simp (disch := omega) only [go_sem, ↓reduceIte, Nat.reduceEqDiff, Nat.reduceLeDiff, f1, f2]
 refine ⟨_, cmpi_ok H _ _ _, ?_⟩
 rw [contK_some]; simp (disch := omega) only [go_sem, ↓reduceIte, Nat.reduceEqDiff, Nat.reduceLeDiff, f1, f2]
 refine ⟨_, or_ok H (l := [cmpI a c, cmpI b d]) SL.bs (by simp) _, ?_⟩
 rw [contK_some]; simp (disch := omega) only [go_sem, ↓reduceIte, Nat.reduceEqDiff, Nat.reduceLeDiff]
 exact ⟨rfl, f3⟩
theorem two_ok (a b : Int) (h : Heap) : AWF P ann 0 25 [.sc (.int .i64 a), .sc (.int .i64 b)] h fun r h' => r = .sc (.bool (two a b)) ∧ h' = h := by
 refine AWF.fnc H.f0_25 rfl ?_
 unfold two
 cases h1 : decide (a ≥ ((1 : Nat) : Int)) <;> cases h2 : decide (a ≤ ((999 : Nat) : Int)) <;> cases h3 : decide (b ≥ ((1 : Nat) : Int)) <;> cases h4 : decide (b ≤ ((999 : Nat) : Int)) <;> cases h5 : (a != b) <;> (simp (disch := omega) only [go_sem, ↓reduceIte, Nat.reduceEqDiff, Nat.reduceLeDiff, h1, h2, h3, h4, h5]; try rfl)
theorem Two_ok (a b : Int) (h : Heap) : AWF P ann 0 13 [.sc (.int .i64 a), .sc (.int .i64 b)] h fun r h' => r = .sc (.bool (two a b)) ∧ h' = h := by
 refine AWF.fnc H.f0_13 rfl ?_
 unfold two
 cases h1 : decide (a ≥ ((1 : Nat) : Int)) <;> cases h2 : decide (a ≤ ((999 : Nat) : Int)) <;> cases h3 : decide (b ≥ ((1 : Nat) : Int)) <;> cases h4 : decide (b ≤ ((999 : Nat) : Int)) <;> cases h5 : (a != b) <;> (simp (disch := omega) only [go_sem, ↓reduceIte, Nat.reduceEqDiff, Nat.reduceLeDiff, h1, h2, h3, h4, h5]; try rfl)
end Go.Proofs.Ytomfknocpijmbaa
end
section
set_option linter.unusedVariables false
set_option linter.unusedSimpArgs false
namespace Go.Proofs.Ytomfknocpijmbaa
open Go.Am
theorem lt12 : ((1 : Nat) < 2) = True := by simp
theorem setRA3 {a b c x y z : AV} : setRange [a, b, c] 0 [x, y, z] = [x, y, z] := rfl
attribute [go_sem] setRA3 Nat.zero_mul Nat.one_mul Nat.mul_one lt12
def BK (e : List AV) (k : Int × Int) : Prop := ∃ lv, e = [.sc (.int .i64 k.1), .sc (.int .i64 k.2), lv] ∧ lv.disc = lv
def CK (e : List AV) (k : Int × Int) : Prop := e = [.sc (.int .i64 k.1), .sc (.int .i64 k.2)]
theorem wrap_u64n {n : Nat} (h : n < 2 ^ 64) : IntKind.u64.wrap (n : Int) = (n : Int) := by
 rw [IntKind.wrap_u64]
 omega
theorem wrap_i64n {n : Nat} (h : n < 2 ^ 63) : IntKind.i64.wrap (n : Int) = (n : Int) := by
 rw [IntKind.wrap_i64]
 omega
theorem sb_shr1 {P : Program} {ty : TypeId} {q : IntKind} {n : Nat} : scalarBin P .shr ty (.int .u64 n) (.int q ((1 : Nat) : Int)) = some (.int .u64 ((n / 2 : Nat) : Int)) := by
 rw [sb_shr (by omega)]
 simp [IntKind.bits, Int.fdiv_eq_ediv]
variable {P : Program} (H : Has P)
include H
theorem bsb_ok {v : AV} {es : List (List AV)} {ks : List (Int × Int)} {h : Heap} (hv : RD h 3 v es) (hvs : v.dis = v) (hE : RR BK es ks) (hs : Srt ks) (hl : ks.length < 2 ^ 40) (p : Int × Int) :
  AWF P ann 0 53 [v, .ag [.sc (.int .i64 p.1), .sc (.int .i64 p.2), .sc (.slice none 0 0)], .fn 44 [] []] h fun r h' => r = .tu [.sc (.int .i64 (ix ks p : Nat)), .sc (.bool (decide (ks[ix ks p]? = some p)))] ∧ h' = h := by
 refine AWF.fnPurec H.f0_53 rfl ?_
 have hO := OB.nil (h := h)
 have hel : es.length = ks.length := hE.len
 have el : ∀ j (hj : j < ks.length), ∃ e, es[j]? = some e ∧ ∃ lv, e = [.sc (.int .i64 ks[j].1), .sc (.int .i64 ks[j].2), lv] ∧ lv.disc = lv := fun j hj => by
  obtain ⟨e, h1, h2⟩ := hE.lt hj
  exact ⟨e, h1, h2⟩
 (refine W_seq_gen fun N hN => ?_); simp (disch := omega) only [go_sem, ↓reduceIte, Nat.reduceEqDiff, Nat.reduceLeDiff]
 intro o ho
 refine hN _ ?_; clear hN N; refine W_ob (hO.new ho) fun hc hO => ?_
 have hv := rd_keep hv hO.keep
 refine W_f (fun t => t 0 = v ∧ t 2 = .fn 44 [] [] ∧ t 4 = .op o 0 ∧ True) ?_; rintro t ⟨t0, t2, t4, -⟩
 (refine W_seq_gen fun N hN => ?_); simp (disch := omega) only [go_sem, ↓reduceIte, Nat.reduceEqDiff, Nat.reduceLeDiff, t0, hvs, hv.len, hel]
 refine hN _ ?_; clear hN N
 refine W_f (fun t => t 0 = v ∧ t 2 = .fn 44 [] [] ∧ t 4 = .op o 0 ∧ t 8 = .sc (.int .i64 (ks.length : Nat)) ∧ True) ?_; rintro t ⟨t0, t2, t4, t8, -⟩
 (refine W_seq_gen fun N hN => ?_); simp (disch := omega) only [go_sem, ↓reduceIte, Nat.reduceEqDiff, Nat.reduceLeDiff, t8]
 refine hN _ ?_; clear hN N
 refine W_f (fun t => t 0 = v ∧ t 2 = .fn 44 [] [] ∧ t 4 = .op o 0 ∧ t 8 = .sc (.int .i64 (ks.length : Nat)) ∧ t 9 = .sc (.int .i64 ((0 : Nat) : Int)) ∧ t 10 = .sc (.int .i64 (ks.length : Nat)) ∧ True) ?_; rintro t ⟨t0, t2, t4, t8, t9, t10, -⟩
 (refine W_seq_gen fun M hM => ?_)
 simp (disch := omega) only [go_sem, ↓reduceIte, Nat.reduceEqDiff, Nat.reduceLeDiff]
 refine AW_loopN (fun n t h' => h' = hc ∧ ∃ lo hi, n = hi - lo ∧ lo ≤ hi ∧ hi ≤ ks.length ∧ t 0 = v ∧ t 2 = .fn 44 [] [] ∧ t 4 = .op o 0 ∧ t 8 = .sc (.int .i64 (ks.length : Nat)) ∧ t 9 = .sc (.int .i64 (lo : Nat)) ∧ t 10 = .sc (.int .i64 (hi : Nat)) ∧
   (∀ j (hj : j < ks.length), j < lo → ahd ks[j] p = true) ∧ ∀ j (hj : j < ks.length), hi ≤ j → ahd ks[j] p = false)
  (n := ks.length) ⟨rfl, 0, ks.length, rfl, Nat.zero_le _, Nat.le_refl _, t0, t2, t4, t8, t9, t10, fun j _ h => by omega, fun j hj h => by omega⟩ ?_
 clear t0 t2 t4 t8 t9 t10 t
 rintro n t h' ⟨rfl, lo, hi, rfl, hlh, hhk, t0, t2, t4, t8, t9, t10, ha, hb⟩
 by_cases hlt : lo < hi
 ·have hmk : (lo + hi) / 2 < ks.length := by omega
  obtain ⟨e, hg, lv, rfl_e, hlv⟩ := el _ hmk
  obtain ⟨q, q1, q2, q3⟩ := hv.at hg (by rw [rfl_e]; simp [hlv, disc_sc]) (by rw [rfl_e]; rfl)
  subst rfl_e
  have d1 : decide (lo < hi) = true := by simpa using hlt
  have w1 : IntKind.u64.wrap (((lo + hi : Nat) : Int)) = ((lo + hi : Nat) : Int) := wrap_u64n (by omega)
  have w2 := sb_shr1 (P := P) (ty := 68) (q := .u64) (n := lo + hi)
  have w3 : IntKind.i64.wrap ((((lo + hi) / 2 : Nat)) : Int) = (((lo + hi) / 2 : Nat) : Int) := wrap_i64n (by omega)
  (refine W_seq_gen fun N hN => ?_); simp (disch := omega) only [go_sem, ↓reduceIte, Nat.reduceEqDiff, Nat.reduceLeDiff, t9, t10, d1]
  refine hN _ ?_; clear hN N
  rw [W_block]
  (refine W_seq_gen fun N hN => ?_); simp (disch := omega) only [go_sem, ↓reduceIte, Nat.reduceEqDiff, Nat.reduceLeDiff, t9, t10, nat_add, H.cv_3_68, H.cv_68_3, w1, w2, w3]
  refine hN _ ?_; clear hN N
  refine W_f (fun t => t 0 = v ∧ t 2 = .fn 44 [] [] ∧ t 4 = .op o 0 ∧ t 8 = .sc (.int .i64 (ks.length : Nat)) ∧ t 9 = .sc (.int .i64 (lo : Nat)) ∧ t 10 = .sc (.int .i64 (hi : Nat)) ∧ t 11 = .sc (.int .i64 (((lo + hi) / 2 : Nat))) ∧ True) ?_; rintro t ⟨t0, t2, t4, t8, t9, t10, t11, -⟩
  (refine W_seq_gen fun N hN => ?_)
  refine ln53_24 ?_
  simp (disch := omega) only [go_sem, ↓reduceIte, Nat.reduceEqDiff, Nat.reduceLeDiff, t0, t2, t4, t11, hvs, q1, q2, q3, hO.get0, hlv]
  refine (order_ok H ks[(lo + hi) / 2].1 ks[(lo + hi) / 2].2 p.1 p.2 (lw := .sc (.slice none 0 0)) hlv rfl _).mono ?_
  rintro _ _ ⟨rfl, hh⟩; subst hh
  have hcl := cmp2_lt ks[(lo + hi) / 2] p
  rw [contK_some]; simp (disch := omega) only [go_sem, ↓reduceIte, Nat.reduceEqDiff, Nat.reduceLeDiff, hcl]
  refine hN _ ?_; clear hN N
  cases hah : ahd ks[(lo + hi) / 2] p with
  | true =>
   simp (disch := omega) only [go_sem, ↓reduceIte, Nat.reduceEqDiff, Nat.reduceLeDiff, t11, nat_add]
   refine ⟨hi - ((lo + hi) / 2 + 1), by omega, (lo + hi) / 2 + 1, hi, rfl, by omega, hhk, by simp [upd_at, t0], by simp [upd_at, t2], by simp [upd_at, t4], by simp [upd_at, t8], by simp [upd_at], by simp [upd_at, t10], fun j hj hjl => ?_, hb⟩
   rcases Nat.lt_or_ge j ((lo + hi) / 2) with h1 | h1
   ·exact ahd_trans (hs j _ hj hmk h1) hah
   ·obtain rfl : j = (lo + hi) / 2 := by omega
    exact hah
  | false =>
   simp (disch := omega) only [go_sem, ↓reduceIte, Nat.reduceEqDiff, Nat.reduceLeDiff, t11]
   refine ⟨(lo + hi) / 2 - lo, by omega, lo, (lo + hi) / 2, rfl, by omega, by omega, by simp [upd_at, t0], by simp [upd_at, t2], by simp [upd_at, t4], by simp [upd_at, t8], by simp [upd_at, t9], by simp [upd_at], ha, fun j hj hjl => ?_⟩
   rcases Nat.lt_or_ge ((lo + hi) / 2) j with h1 | h1
   ·cases hq : ahd ks[j] p with
    | false => rfl
    | true => rw [ahd_trans (hs _ j hmk hj h1) hq] at hah; cases hah
   ·obtain rfl : j = (lo + hi) / 2 := by omega
    exact hah
 ·obtain rfl : lo = hi := by omega
  have hix : ix ks p = lo := ix_spec hhk ha fun h => hb lo h (Nat.le_refl _)
  rw [hix]
  (refine W_seq_gen fun N hN => ?_); simp (disch := omega) only [go_sem, ↓reduceIte, Nat.reduceEqDiff, Nat.reduceLeDiff, t9, t10, Nat.lt_irrefl]
  refine hM _ ?_; clear hN N hM M
  (refine W_seq_gen fun N hN => ?_)
  refine ln53_35 ?_
  by_cases hlk : lo < ks.length
  ·have d1 : decide (lo < ks.length) = true := by simpa using hlk
   obtain ⟨e, hg, lv, rfl_e, hlv⟩ := el _ hlk
   obtain ⟨q, q1, q2, q3⟩ := hv.at hg (by rw [rfl_e]; simp [hlv, disc_sc]) (by rw [rfl_e]; rfl)
   subst rfl_e
   simp (disch := omega) only [go_sem, ↓reduceIte, Nat.reduceEqDiff, Nat.reduceLeDiff, t0, t2, t4, t8, t9, d1, hvs, q1, q2, q3, hO.get0, hlv]
   refine (order_ok H ks[lo].1 ks[lo].2 p.1 p.2 (lw := .sc (.slice none 0 0)) hlv rfl _).mono ?_
   rintro _ _ ⟨rfl, hh⟩; subst hh
   have hce := cmp2_eq ks[lo] p
   rw [contK_some]; simp (disch := omega) only [go_sem, ↓reduceIte, Nat.reduceEqDiff, Nat.reduceLeDiff, hce]
   refine hN _ ?_; clear hN N
   simp (disch := omega) only [go_sem, ↓reduceIte, Nat.reduceEqDiff, Nat.reduceLeDiff]
   refine ⟨?_, hO.keep⟩
   rw [hix, List.getElem?_eq_getElem hlk]
   simp
  ·have d1 : decide (lo < ks.length) = false := by simpa using hlk
   simp (disch := omega) only [go_sem, ↓reduceIte, Nat.reduceEqDiff, Nat.reduceLeDiff, t0, t2, t4, t8, t9, d1]
   refine hN _ ?_; clear hN N
   simp (disch := omega) only [go_sem, ↓reduceIte, Nat.reduceEqDiff, Nat.reduceLeDiff]
   refine ⟨?_, hO.keep⟩
   rw [hix, List.getElem?_eq_none (by omega)]
   simp
theorem bsc_ok {v : AV} {es : List (List AV)} {ks : List (Int × Int)} {h : Heap} (hv : RD h 2 v es) (hvs : v.dis = v) (hE : RR CK es ks) (hs : Srt ks) (hl : ks.length < 2 ^ 40) (p : Int × Int) :
  AWF P ann 0 54 [v, .ag [.sc (.int .i64 p.1), .sc (.int .i64 p.2)], .fn 43 [] []] h fun r h' => r = .tu [.sc (.int .i64 (ix ks p : Nat)), .sc (.bool (decide (ks[ix ks p]? = some p)))] ∧ h' = h := by
 refine AWF.fnPurec H.f0_54 rfl ?_
 have hO := OB.nil (h := h)
 have hel : es.length = ks.length := hE.len
 have el : ∀ j (hj : j < ks.length), ∃ e, es[j]? = some e ∧ e = [.sc (.int .i64 ks[j].1), .sc (.int .i64 ks[j].2)] := fun j hj => by
  obtain ⟨e, h1, h2⟩ := hE.lt hj
  exact ⟨e, h1, h2⟩
 (refine W_seq_gen fun N hN => ?_); simp (disch := omega) only [go_sem, ↓reduceIte, Nat.reduceEqDiff, Nat.reduceLeDiff]
 intro o ho
 refine hN _ ?_; clear hN N; refine W_ob (hO.new ho) fun hc hO => ?_
 have hv := rd_keep hv hO.keep
 refine W_f (fun t => t 0 = v ∧ t 2 = .fn 43 [] [] ∧ t 4 = .op o 0 ∧ True) ?_; rintro t ⟨t0, t2, t4, -⟩
 (refine W_seq_gen fun N hN => ?_); simp (disch := omega) only [go_sem, ↓reduceIte, Nat.reduceEqDiff, Nat.reduceLeDiff, t0, hvs, hv.len, hel]
 refine hN _ ?_; clear hN N
 refine W_f (fun t => t 0 = v ∧ t 2 = .fn 43 [] [] ∧ t 4 = .op o 0 ∧ t 8 = .sc (.int .i64 (ks.length : Nat)) ∧ True) ?_; rintro t ⟨t0, t2, t4, t8, -⟩
 (refine W_seq_gen fun N hN => ?_); simp (disch := omega) only [go_sem, ↓reduceIte, Nat.reduceEqDiff, Nat.reduceLeDiff, t8]
 refine hN _ ?_; clear hN N
 refine W_f (fun t => t 0 = v ∧ t 2 = .fn 43 [] [] ∧ t 4 = .op o 0 ∧ t 8 = .sc (.int .i64 (ks.length : Nat)) ∧ t 9 = .sc (.int .i64 ((0 : Nat) : Int)) ∧ t 10 = .sc (.int .i64 (ks.length : Nat)) ∧ True) ?_; rintro t ⟨t0, t2, t4, t8, t9, t10, -⟩
 (refine W_seq_gen fun M hM => ?_)
 simp (disch := omega) only [go_sem, ↓reduceIte, Nat.reduceEqDiff, Nat.reduceLeDiff]
 refine AW_loopN (fun n t h' => h' = hc ∧ ∃ lo hi, n = hi - lo ∧ lo ≤ hi ∧ hi ≤ ks.length ∧ t 0 = v ∧ t 2 = .fn 43 [] [] ∧ t 4 = .op o 0 ∧ t 8 = .sc (.int .i64 (ks.length : Nat)) ∧ t 9 = .sc (.int .i64 (lo : Nat)) ∧ t 10 = .sc (.int .i64 (hi : Nat)) ∧
   (∀ j (hj : j < ks.length), j < lo → ahd ks[j] p = true) ∧ ∀ j (hj : j < ks.length), hi ≤ j → ahd ks[j] p = false)
  (n := ks.length) ⟨rfl, 0, ks.length, rfl, Nat.zero_le _, Nat.le_refl _, t0, t2, t4, t8, t9, t10, fun j _ h => by omega, fun j hj h => by omega⟩ ?_
 clear t0 t2 t4 t8 t9 t10 t
 rintro n t h' ⟨rfl, lo, hi, rfl, hlh, hhk, t0, t2, t4, t8, t9, t10, ha, hb⟩
 by_cases hlt : lo < hi
 ·have hmk : (lo + hi) / 2 < ks.length := by omega
  obtain ⟨e, hg, rfl_e⟩ := el _ hmk
  obtain ⟨q, q1, q2, q3⟩ := hv.at hg (by rw [rfl_e]; simp [disc_sc]) (by rw [rfl_e]; rfl)
  subst rfl_e
  have d1 : decide (lo < hi) = true := by simpa using hlt
  have w1 : IntKind.u64.wrap (((lo + hi : Nat) : Int)) = ((lo + hi : Nat) : Int) := wrap_u64n (by omega)
  have w2 := sb_shr1 (P := P) (ty := 68) (q := .u64) (n := lo + hi)
  have w3 : IntKind.i64.wrap ((((lo + hi) / 2 : Nat)) : Int) = (((lo + hi) / 2 : Nat) : Int) := wrap_i64n (by omega)
  (refine W_seq_gen fun N hN => ?_); simp (disch := omega) only [go_sem, ↓reduceIte, Nat.reduceEqDiff, Nat.reduceLeDiff, t9, t10, d1]
  refine hN _ ?_; clear hN N
  rw [W_block]
  (refine W_seq_gen fun N hN => ?_); simp (disch := omega) only [go_sem, ↓reduceIte, Nat.reduceEqDiff, Nat.reduceLeDiff, t9, t10, nat_add, H.cv_3_68, H.cv_68_3, w1, w2, w3]
  refine hN _ ?_; clear hN N
  refine W_f (fun t => t 0 = v ∧ t 2 = .fn 43 [] [] ∧ t 4 = .op o 0 ∧ t 8 = .sc (.int .i64 (ks.length : Nat)) ∧ t 9 = .sc (.int .i64 (lo : Nat)) ∧ t 10 = .sc (.int .i64 (hi : Nat)) ∧ t 11 = .sc (.int .i64 (((lo + hi) / 2 : Nat))) ∧ True) ?_; rintro t ⟨t0, t2, t4, t8, t9, t10, t11, -⟩
  (refine W_seq_gen fun N hN => ?_)
  refine ln54_24 ?_
  simp (disch := omega) only [go_sem, ↓reduceIte, Nat.reduceEqDiff, Nat.reduceLeDiff, t0, t2, t4, t11, hvs, q1, q2, q3, hO.get0]
  refine (pair_ok H ks[(lo + hi) / 2].1 ks[(lo + hi) / 2].2 p.1 p.2 _).mono ?_
  rintro _ _ ⟨rfl, hh⟩; subst hh
  have hcl := cmp2_lt ks[(lo + hi) / 2] p
  rw [contK_some]; simp (disch := omega) only [go_sem, ↓reduceIte, Nat.reduceEqDiff, Nat.reduceLeDiff, hcl]
  refine hN _ ?_; clear hN N
  cases hah : ahd ks[(lo + hi) / 2] p with
  | true =>
   simp (disch := omega) only [go_sem, ↓reduceIte, Nat.reduceEqDiff, Nat.reduceLeDiff, t11, nat_add]
   refine ⟨hi - ((lo + hi) / 2 + 1), by omega, (lo + hi) / 2 + 1, hi, rfl, by omega, hhk, by simp [upd_at, t0], by simp [upd_at, t2], by simp [upd_at, t4], by simp [upd_at, t8], by simp [upd_at], by simp [upd_at, t10], fun j hj hjl => ?_, hb⟩
   rcases Nat.lt_or_ge j ((lo + hi) / 2) with h1 | h1
   ·exact ahd_trans (hs j _ hj hmk h1) hah
   ·obtain rfl : j = (lo + hi) / 2 := by omega
    exact hah
  | false =>
   simp (disch := omega) only [go_sem, ↓reduceIte, Nat.reduceEqDiff, Nat.reduceLeDiff, t11]
   refine ⟨(lo + hi) / 2 - lo, by omega, lo, (lo + hi) / 2, rfl, by omega, by omega, by simp [upd_at, t0], by simp [upd_at, t2], by simp [upd_at, t4], by simp [upd_at, t8], by simp [upd_at, t9], by simp [upd_at], ha, fun j hj hjl => ?_⟩
   rcases Nat.lt_or_ge ((lo + hi) / 2) j with h1 | h1
   ·cases hq : ahd ks[j] p with
    | false => rfl
    | true => rw [ahd_trans (hs _ j hmk hj h1) hq] at hah; cases hah
   ·obtain rfl : j = (lo + hi) / 2 := by omega
    exact hah
 ·obtain rfl : lo = hi := by omega
  have hix : ix ks p = lo := ix_spec hhk ha fun h => hb lo h (Nat.le_refl _)
  rw [hix]
  (refine W_seq_gen fun N hN => ?_); simp (disch := omega) only [go_sem, ↓reduceIte, Nat.reduceEqDiff, Nat.reduceLeDiff, t9, t10, Nat.lt_irrefl]
  refine hM _ ?_; clear hN N hM M
  (refine W_seq_gen fun N hN => ?_)
  refine ln54_35 ?_
  by_cases hlk : lo < ks.length
  ·have d1 : decide (lo < ks.length) = true := by simpa using hlk
   obtain ⟨e, hg, rfl_e⟩ := el _ hlk
   obtain ⟨q, q1, q2, q3⟩ := hv.at hg (by rw [rfl_e]; simp [disc_sc]) (by rw [rfl_e]; rfl)
   subst rfl_e
   simp (disch := omega) only [go_sem, ↓reduceIte, Nat.reduceEqDiff, Nat.reduceLeDiff, t0, t2, t4, t8, t9, d1, hvs, q1, q2, q3, hO.get0]
   refine (pair_ok H ks[lo].1 ks[lo].2 p.1 p.2 _).mono ?_
   rintro _ _ ⟨rfl, hh⟩; subst hh
   have hce := cmp2_eq ks[lo] p
   rw [contK_some]; simp (disch := omega) only [go_sem, ↓reduceIte, Nat.reduceEqDiff, Nat.reduceLeDiff, hce]
   refine hN _ ?_; clear hN N
   simp (disch := omega) only [go_sem, ↓reduceIte, Nat.reduceEqDiff, Nat.reduceLeDiff]
   refine ⟨?_, hO.keep⟩
   rw [hix, List.getElem?_eq_getElem hlk]
   simp
  ·have d1 : decide (lo < ks.length) = false := by simpa using hlk
   simp (disch := omega) only [go_sem, ↓reduceIte, Nat.reduceEqDiff, Nat.reduceLeDiff, t0, t2, t4, t8, t9, d1]
   refine hN _ ?_; clear hN N
   simp (disch := omega) only [go_sem, ↓reduceIte, Nat.reduceEqDiff, Nat.reduceLeDiff]
   refine ⟨?_, hO.keep⟩
   rw [hix, List.getElem?_eq_none (by omega)]
   simp
theorem bag_ok {bv cv : AV} {es : List (List AV)} {ks : List (Int × Int)} {h : Heap} (hv : RD h 3 bv es) (hvs : bv.dis = bv) (hvd : bv.disc = bv) (hcd : cv.disc = cv) (hE : RR BK es ks) (hs : Srt ks) (hl : ks.length < 2 ^ 40) (p : Int × Int) :
  AWF P ann 0 27 [.ag [bv, cv], .sc (.int .i64 p.1), .sc (.int .i64 p.2)] h fun r h' => r = .tu [.sc (.int .i64 (ix ks p : Nat)), .sc (.bool (decide (ks[ix ks p]? = some p)))] ∧ h' = h := by
 refine AWF.fnPurec H.f0_27 rfl ?_
 have hO := OB.nil (h := h)
 (refine W_seq_gen fun N hN => ?_); simp (disch := omega) only [go_sem, ↓reduceIte, Nat.reduceEqDiff, Nat.reduceLeDiff, hvd, hcd]
 intro o ho
 refine hN _ ?_; clear hN N; refine W_ob (hO.new ho) fun hc hO => ?_
 simp (disch := omega) only [go_sem, ↓reduceIte, Nat.reduceEqDiff, Nat.reduceLeDiff, hO.get0, hvs, hvd, hcd]
 refine (bsb_ok H (rd_keep hv hO.keep) hvs hE hs hl p).mono ?_
 rintro _ _ ⟨rfl, hh⟩; subst hh
 rw [contK_some]; simp (disch := omega) only [go_sem, ↓reduceIte, Nat.reduceEqDiff, Nat.reduceLeDiff]
 exact hO.keep
theorem isCut_ok {bv cv : AV} {es : List (List AV)} {ks : List (Int × Int)} {h : Heap} (hv : RD h 2 cv es) (hvs : cv.dis = cv) (hvd : cv.disc = cv) (hbd : bv.disc = bv) (hE : RR CK es ks) (hs : Srt ks) (hl : ks.length < 2 ^ 40) (a b : Int) :
  AWF P ann 0 28 [.ag [bv, cv], .sc (.int .i64 a), .sc (.int .i64 b)] h fun r h' => r = .tu [.sc (.int .i64 (ix ks (min a b, max a b) : Nat)), .sc (.bool (decide (ks[ix ks (min a b, max a b)]? = some (min a b, max a b))))] ∧ h' = h := by
 refine AWF.fnPurec H.f0_28 rfl ?_
 have hO := OB.nil (h := h)
 (refine W_seq_gen fun N hN => ?_); simp (disch := omega) only [go_sem, ↓reduceIte, Nat.reduceEqDiff, Nat.reduceLeDiff, hvd, hbd]
 intro o ho
 refine hN _ ?_; clear hN N; refine W_ob (hO.new ho) fun hc hO => ?_
 simp (disch := omega) only [go_sem, ↓reduceIte, Nat.reduceEqDiff, Nat.reduceLeDiff, hO.get0, hvs, hvd, hbd, aexB2_minZ, aexB2_maxZ]
 refine (bsc_ok H (rd_keep hv hO.keep) hvs hE hs hl (min a b, max a b)).mono ?_
 rintro _ _ ⟨rfl, hh⟩; subst hh
 rw [contK_some]; simp (disch := omega) only [go_sem, ↓reduceIte, Nat.reduceEqDiff, Nat.reduceLeDiff]
 exact hO.keep
end Go.Proofs.Ytomfknocpijmbaa
end
section
set_option linter.unusedVariables false
set_option linter.unusedSimpArgs false
namespace Go.Proofs.Ytomfknocpijmbaa
open Go.Am
abbrev Pcl := List UInt8 × Bool
structure Bg where
 k : Int × Int
 l : List Pcl
structure Eth where
 bags : List Bg
 cuts : List (Int × Int)
def PcR (e : List AV) (x : Pcl) : Prop := ∃ w, e = [w, .sc (.bool x.2)] ∧ SF 1 w (u8s x.1)
def BgR (e : List AV) (b : Bg) : Prop := ∃ lv es, e = [.sc (.int .i64 b.k.1), .sc (.int .i64 b.k.2), lv] ∧ SF 2 lv es ∧ RR PcR es b.l
structure EtR (bv cv : AV) (E : Eth) : Prop where
 ex : ∃ bes ces, SF 3 bv bes ∧ RR BgR bes E.bags ∧ SF 2 cv ces ∧ RR CK ces E.cuts
def ks (E : Eth) : List (Int × Int) := E.bags.map (·.k)
def mm (p : Int × Int) : Int × Int := (min p.1 p.2, max p.1 p.2)
def cutOk (l : List (Int × Int)) (i : Nat) : Bool := two (l.getD i (0, 0)).1 (l.getD i (0, 0)).2 && (!decide ((l.getD i (0, 0)).1 > (l.getD i (0, 0)).2) && (!decide (0 < i) || ahd (l.getD (i - 1) (0, 0)) (l.getD i (0, 0))))
def cutsOk (l : List (Int × Int)) : Bool := (List.range l.length).all (cutOk l)
def cutAt (l : List (Int × Int)) (p : Int × Int) : Bool := decide (l[ix l p]? = some p)
def bagOk (E : Eth) (i : Nat) : Bool := match E.bags[i]? with
 | none => false
 | some b => !decide (i = 1024) && (two b.k.1 b.k.2 && (!cutAt E.cuts (mm b.k) && (!decide (b.l.length < 1) && (!decide (b.l.length > 64) && (!decide (0 < i) || ahd ((ks E).getD (i - 1) (0, 0)) b.k)))))
def checkB (E : Eth) : Bool := cutsOk E.cuts && (List.range E.bags.length).all (bagOk E)
theorem all_lt {n : Nat} {f : Nat → Bool} (h : ∀ j, j < n → f j = true) : (List.range n).all f = true := List.all_eq_true.2 fun x hx => h x (List.mem_range.1 hx)
theorem all_no {n i : Nat} {f : Nat → Bool} (hi : i < n) (h : f i = false) : (List.range n).all f = false := List.all_eq_false.2 ⟨i, List.mem_range.2 hi, by rw [h]; decide⟩
theorem srt_of {l : List (Int × Int)} (h : ∀ i, 0 < i → i < l.length → ahd (l.getD (i - 1) (0, 0)) (l.getD i (0, 0)) = true) : Srt l := by
 have key : ∀ d i (hi : i < l.length) (hj : i + d + 1 < l.length), ahd l[i] l[i + d + 1] = true := by
  intro d
  induction d with
  | zero =>
   intro i hi hj
   have := h (i + 1) (by omega) hj
   rw [Nat.add_sub_cancel, List.getD_eq_getElem?_getD, List.getD_eq_getElem?_getD, List.getElem?_eq_getElem hi, List.getElem?_eq_getElem hj] at this
   exact this
  | succ d ih =>
   intro i hi hj
   have h1 := ih i hi (by omega)
   have h2 := h (i + (d + 1) + 1) (by omega) hj
   rw [Nat.add_sub_cancel, List.getD_eq_getElem?_getD, List.getD_eq_getElem?_getD, List.getElem?_eq_getElem (show i + (d + 1) < l.length by omega), List.getElem?_eq_getElem hj] at h2
   exact ahd_trans h1 h2
 intro i j hi hj hij
 obtain ⟨d, rfl⟩ : ∃ d, j = i + d + 1 := ⟨j - i - 1, by omega⟩
 exact key d i hi hj
theorem srt_cuts {l : List (Int × Int)} (h : cutsOk l = true) : Srt l := srt_of fun i h0 hi => by
 have := List.all_eq_true.1 h i (List.mem_range.2 hi)
 unfold cutOk at this
 simp only [Bool.and_eq_true, Bool.or_eq_true, Bool.not_eq_true', decide_eq_false_iff_not] at this
 rcases this.2.2 with h1 | h1
 ·exact absurd h0 h1
 ·exact h1
theorem ge1024 {i : Nat} : (((i : Nat) : Int) == ((1024 : Nat) : Int)) = decide (i = 1024) := by
 by_cases h : i = 1024
 ·subst h; rfl
 ·have : ¬ ((i : Int) = ((1024 : Nat) : Int)) := by omega
  simp only [decide_eq_false h]
  simpa using this
variable {P : Program} (H : Has P)
include H
set_option maxHeartbeats 1000000 in
theorem check_ok {bv cv : AV} {E : Eth} {bes ces : List (List AV)} (hbv : SF 3 bv bes) (hB : RR BgR bes E.bags) (hcv : SF 2 cv ces) (hC : RR CK ces E.cuts) (hl1 : E.bags.length < 2 ^ 40) (hl2 : E.cuts.length < 2 ^ 40) (h : Heap) :
  AWF P ann 0 21 [.ag [bv, cv]] h fun r h' => r = .sc (.int .i64 ((if checkB E then 0 else 1 : Nat) : Int)) ∧ h' = h := by
 refine AWF.fnPurec H.f0_21 rfl ?_
 have e1 := hC.len
 have e2 := hB.len
 (refine W_seq_gen fun N hN => ?_); simp (disch := omega) only [go_sem, ↓reduceIte, Nat.reduceEqDiff, Nat.reduceLeDiff, hbv.disc, hcv.disc]
 intro o ho
 have hO := OB.nil (h := h)
 refine hN _ ?_; clear hN N; refine W_ob (hO.new ho) fun hc hO => ?_
 have ho1 := hO.get0
 have hk := hO.keep
 refine W_f (fun t => t 1 = .op o 0 ∧ True) ?_; rintro t ⟨t1, -⟩
 clear hO
 (refine W_seq_gen fun M hM => ?_)
 simp (disch := omega) only [go_sem, ↓reduceIte, Nat.reduceEqDiff, Nat.reduceLeDiff, t1, ho1, hcv.same, hcv.disc, hcv.sl.len, e1]
 refine AW_loopN (fun m t h' => (∀ x, ¬ h x = none → h' x = h x) ∧ h' o = some (.arr [bv, cv]) ∧ ∃ i, m = E.cuts.length - i ∧ i ≤ E.cuts.length ∧ t 1 = .op o 0 ∧ t 10 = cv ∧ t 11 = .sc (.int .i64 (E.cuts.length : Nat)) ∧ t 12 = .sc (.int .i64 (i : Nat)) ∧ ∀ j, j < i → cutOk E.cuts j = true)
  (n := E.cuts.length) ⟨hk, ho1, 0, rfl, Nat.zero_le _, by simp [upd_at, t1], by simp [upd_at], by simp [upd_at], by simp [upd_at], fun j hj => by omega⟩ ?_
 clear t1 t hk ho1 hc ho
 rintro m t h' ⟨hk, ho1, i, rfl, hi, t1, t10, t11, t12, hgood⟩
 rcases Nat.lt_or_ge i E.cuts.length with hlt | hge
 ·obtain ⟨e, g0, rfl⟩ := hC.lt hlt
  have gd : E.cuts.getD i (0, 0) = E.cuts[i] := by simp [hlt]
  have bad : cutOk E.cuts i = false → checkB E = false := fun q => by
   unfold checkB cutsOk
   rw [all_no hlt q]
   rfl
  (refine W_seq_gen fun N hN => ?_); simp (disch := omega) only [go_sem, ↓reduceIte, Nat.reduceEqDiff, Nat.reduceLeDiff, t11, t12, hlt]
  refine hN _ ?_; clear hN N
  (refine W_seq_gen fun N hN => ?_); simp (disch := omega) only [go_sem, ↓reduceIte, Nat.reduceEqDiff, Nat.reduceLeDiff]
  refine hN _ ?_; clear hN N
  (refine W_seq_gen fun R hR => ?_)
  rw [W_block]
  (refine W_seq_gen fun N hN => ?_); simp (disch := omega) only [go_sem, ↓reduceIte, Nat.reduceEqDiff, Nat.reduceLeDiff, t10, t12, hcv.same, hcv.sl.ia, g0]
  intro o4 h4
  have hO := OB.nil (h := h')
  refine hN _ ?_; clear hN N; refine W_ob (hO.new h4) fun hc hO => ?_
  have hoc := hO.live ho1
  have ho4 := hO.get0
  have hk2 : ∀ x, ¬ h x = none → hc x = h x := fun x hx => (hO.keep x (by rw [hk x hx]; exact hx)).trans (hk x hx)
  clear hO h4
  refine W_f (fun t => t 1 = .op o 0 ∧ t 3 = .sc (.int .i64 (i : Nat)) ∧ t 4 = .op o4 0 ∧ t 10 = cv ∧ t 11 = .sc (.int .i64 (E.cuts.length : Nat)) ∧ t 12 = .sc (.int .i64 (i : Nat)) ∧ True) ?_; rintro t ⟨t1, t3, t4, t10, t11, t12, -⟩
  have hg : cutOk E.cuts i = true → ∀ j, j < i + 1 → cutOk E.cuts j = true := fun q j hj => by
   rcases Nat.lt_or_ge j i with w | w
   ·exact hgood j w
   ·obtain rfl : j = i := by omega
    exact q
  have dd : decide (E.cuts[i].1 > E.cuts[i].2) = decide (E.cuts[i].1 > E.cuts[i].2) := rfl
  have unf : cutOk E.cuts i = (two E.cuts[i].1 E.cuts[i].2 && (!decide (E.cuts[i].1 > E.cuts[i].2) && (!decide (0 < i) || ahd (E.cuts.getD (i - 1) (0, 0)) E.cuts[i]))) := by unfold cutOk; rw [gd]
  cases b1 : two E.cuts[i].1 E.cuts[i].2 with
  | false =>
   rw [b1, Bool.false_and] at unf
   simp (disch := omega) only [go_sem, ↓reduceIte, Nat.reduceEqDiff, Nat.reduceLeDiff, t4, ho4]
   refine ⟨_, two_ok H _ _ _, ?_⟩
   rw [contK_some]; simp (disch := omega) only [go_sem, ↓reduceIte, Nat.reduceEqDiff, Nat.reduceLeDiff, b1, t4, ho4]
   rw [bad unf]
   exact ⟨rfl, hk2⟩
  | true =>
   cases b2 : decide (E.cuts[i].1 > E.cuts[i].2) with
   | true =>
    rw [b1, b2] at unf
    simp (disch := omega) only [go_sem, ↓reduceIte, Nat.reduceEqDiff, Nat.reduceLeDiff, t4, ho4]
    refine ⟨_, two_ok H _ _ _, ?_⟩
    rw [contK_some]; simp (disch := omega) only [go_sem, ↓reduceIte, Nat.reduceEqDiff, Nat.reduceLeDiff, b1, b2, t4, ho4]
    rw [bad unf]
    exact ⟨rfl, hk2⟩
   | false =>
    rw [b1, b2] at unf
    by_cases b3 : i = 0
    ·have d3 : decide (0 < i) = false := by simp [b3]
     rw [d3] at unf
     simp (disch := omega) only [go_sem, ↓reduceIte, Nat.reduceEqDiff, Nat.reduceLeDiff, t4, t3, ho4]
     refine ⟨_, two_ok H _ _ _, ?_⟩
     rw [contK_some]; simp (disch := omega) only [go_sem, ↓reduceIte, Nat.reduceEqDiff, Nat.reduceLeDiff, b1, b2, d3, t3, t4, ho4]
     refine hR _ ?_; clear hR R
     simp (disch := omega) only [go_sem, ↓reduceIte, Nat.reduceEqDiff, Nat.reduceLeDiff, t12, nat_add]
     exact ⟨E.cuts.length - (i + 1), by omega, hk2, hoc, i + 1, rfl, by omega, t1, t10, t11, rfl, hg unf⟩
    ·have d3 : decide (0 < i) = true := by simp; omega
     rw [d3] at unf
     obtain ⟨e', g1, rfl⟩ := hC.lt (i := i - 1) (by omega)
     have gd1 : E.cuts.getD (i - 1) (0, 0) = E.cuts[i - 1] := by
      rw [List.getD_eq_getElem?_getD, List.getElem?_eq_getElem (by omega)]
      rfl
     rw [gd1] at unf
     have hs1 : ((i : Nat) : Int) - ((1 : Nat) : Int) = ((i - 1 : Nat) : Int) := by omega
     simp (disch := omega) only [go_sem, ↓reduceIte, Nat.reduceEqDiff, Nat.reduceLeDiff, t4, t3, ho4]
     refine ⟨_, two_ok H _ _ _, ?_⟩
     rw [contK_some]; simp (disch := omega) only [go_sem, ↓reduceIte, Nat.reduceEqDiff, Nat.reduceLeDiff, b1, b2, d3, t1, t3, t4, ho4, hoc, hcv.same, hcv.disc, hs1, hcv.sl.ia, g1]
     refine ⟨_, pair_ok H _ _ _ _ _, ?_⟩
     have q := cmp2_ge E.cuts[i - 1] E.cuts[i]
     cases b4 : ahd E.cuts[i - 1] E.cuts[i] with
     | false =>
      rw [b4] at unf q
      rw [contK_some]; simp (disch := omega) only [go_sem, ↓reduceIte, Nat.reduceEqDiff, Nat.reduceLeDiff, q]
      rw [bad unf]
      exact ⟨rfl, hk2⟩
     | true =>
      rw [b4] at unf q
      rw [contK_some]; simp (disch := omega) only [go_sem, ↓reduceIte, Nat.reduceEqDiff, Nat.reduceLeDiff, q]
      refine hR _ ?_; clear hR R
      simp (disch := omega) only [go_sem, ↓reduceIte, Nat.reduceEqDiff, Nat.reduceLeDiff, t12, nat_add]
      exact ⟨E.cuts.length - (i + 1), by omega, hk2, hoc, i + 1, rfl, by omega, t1, t10, t11, rfl, hg unf⟩
 ·obtain rfl : i = E.cuts.length := by omega
  have hcok : cutsOk E.cuts = true := all_lt hgood
  have hsr := srt_cuts hcok
  (refine W_seq_gen fun N hN => ?_); simp (disch := omega) only [go_sem, ↓reduceIte, Nat.reduceEqDiff, Nat.reduceLeDiff, t11, t12, Nat.lt_irrefl]
  refine hN _ ?_; clear hN N
  (refine W_seq_gen fun N hN => ?_); simp (disch := omega) only [go_sem, ↓reduceIte, Nat.reduceEqDiff, Nat.reduceLeDiff]
  refine hM _ ?_; clear hN N hM M
  refine W_f (fun t => t 1 = .op o 0 ∧ True) ?_; rintro t ⟨t1, -⟩
  (refine W_seq_gen fun M hM => ?_)
  simp (disch := omega) only [go_sem, ↓reduceIte, Nat.reduceEqDiff, Nat.reduceLeDiff, t1, ho1, hbv.same, hbv.disc, hbv.sl.len, e2]
  refine AW_loopN (fun m t h' => (∀ x, ¬ h x = none → h' x = h x) ∧ h' o = some (.arr [bv, cv]) ∧ ∃ i, m = E.bags.length - i ∧ i ≤ E.bags.length ∧ t 1 = .op o 0 ∧ t 47 = bv ∧ t 48 = .sc (.int .i64 (E.bags.length : Nat)) ∧ t 49 = .sc (.int .i64 (i : Nat)) ∧ ∀ j, j < i → bagOk E j = true)
   (n := E.bags.length) ⟨hk, ho1, 0, rfl, Nat.zero_le _, by simp [upd_at, t1], by simp [upd_at], by simp [upd_at], by simp [upd_at], fun j hj => by omega⟩ ?_
  clear t1 t hk ho1 hgood
  rintro m t h' ⟨hk, ho1, i, rfl, hi, t1, t47, t48, t49, hgood⟩
  rcases Nat.lt_or_ge i E.bags.length with hlt | hge
  ·obtain ⟨e, g0, lv, xs, rfl, hlv, hxs⟩ := hB.lt hlt
   have e3 := hxs.len
   have gd : E.bags[i]? = some E.bags[i] := List.getElem?_eq_getElem hlt
   have bad : bagOk E i = false → checkB E = false := fun q => by
    unfold checkB
    rw [all_no hlt q, Bool.and_false]
   (refine W_seq_gen fun N hN => ?_); simp (disch := omega) only [go_sem, ↓reduceIte, Nat.reduceEqDiff, Nat.reduceLeDiff, t48, t49, hlt]
   refine hN _ ?_; clear hN N
   (refine W_seq_gen fun N hN => ?_); simp (disch := omega) only [go_sem, ↓reduceIte, Nat.reduceEqDiff, Nat.reduceLeDiff]
   refine hN _ ?_; clear hN N
   (refine W_seq_gen fun R hR => ?_)
   rw [W_block]
   (refine W_seq_gen fun N hN => ?_); simp (disch := omega) only [go_sem, ↓reduceIte, Nat.reduceEqDiff, Nat.reduceLeDiff, t47, t49, hbv.same, hbv.sl.ia, g0, hlv.disc]
   intro o6 h6
   have hO := OB.nil (h := h')
   refine hN _ ?_; clear hN N; refine W_ob (hO.new h6) fun hc hO => ?_
   have hoc := hO.live ho1
   have ho6 := hO.get0
   have hk2 : ∀ x, ¬ h x = none → hc x = h x := fun x hx => (hO.keep x (by rw [hk x hx]; exact hx)).trans (hk x hx)
   clear hO h6
   refine W_f (fun t => t 1 = .op o 0 ∧ t 5 = .sc (.int .i64 (i : Nat)) ∧ t 6 = .op o6 0 ∧ t 47 = bv ∧ t 48 = .sc (.int .i64 (E.bags.length : Nat)) ∧ t 49 = .sc (.int .i64 (i : Nat)) ∧ True) ?_; rintro t ⟨t1, t5, t6, t47, t48, t49, -⟩
   (refine W_seq_gen fun N hN => ?_); simp (disch := omega) only [go_sem, ↓reduceIte, Nat.reduceEqDiff, Nat.reduceLeDiff, t1, t6, ho6, hoc, hbv.disc, hcv.disc]
   refine (isCut_ok H hcv.sl.rd hcv.same hcv.disc hbv.disc hC hsr hl2 E.bags[i].k.1 E.bags[i].k.2).mono ?_
   rintro _ _ ⟨rfl, hh⟩; subst hh
   rw [contK_some]; simp (disch := omega) only [go_sem, ↓reduceIte, Nat.reduceEqDiff, Nat.reduceLeDiff]
   refine hN _ ?_; clear hN N
   generalize hcut : decide (E.cuts[ix E.cuts (min E.bags[i].k.1 E.bags[i].k.2, max E.bags[i].k.1 E.bags[i].k.2)]? = some (min E.bags[i].k.1 E.bags[i].k.2, max E.bags[i].k.1 E.bags[i].k.2)) = cut
   refine W_f (fun t => t 1 = .op o 0 ∧ t 5 = .sc (.int .i64 (i : Nat)) ∧ t 6 = .op o6 0 ∧ t 8 = .sc (.bool cut) ∧ t 47 = bv ∧ t 48 = .sc (.int .i64 (E.bags.length : Nat)) ∧ t 49 = .sc (.int .i64 (i : Nat)) ∧ True) ?_; rintro t ⟨t1, t5, t6, t8, t47, t48, t49, -⟩
   have hcut' : cutAt E.cuts (mm E.bags[i].k) = cut := hcut
   have hg : bagOk E i = true → ∀ j, j < i + 1 → bagOk E j = true := fun q j hj => by
    rcases Nat.lt_or_ge j i with w | w
    ·exact hgood j w
    ·obtain rfl : j = i := by omega
     exact q
   have unf : bagOk E i = (!decide (i = 1024) && (two E.bags[i].k.1 E.bags[i].k.2 && (!cut && (!decide (E.bags[i].l.length < 1) && (!decide (E.bags[i].l.length > 64) && (!decide (0 < i) || ahd ((ks E).getD (i - 1) (0, 0)) E.bags[i].k)))))) := by unfold bagOk; rw [gd]; simp only [hcut']
   have g1024 := ge1024 (i := i)
   cases b0 : decide (i = 1024) with
   | true =>
    rw [b0] at unf g1024
    simp (disch := omega) only [go_sem, ↓reduceIte, Nat.reduceEqDiff, Nat.reduceLeDiff, t5, t6, ho6, g1024]
    rw [bad unf]
    exact ⟨rfl, hk2⟩
   | false =>
    rw [b0] at unf g1024
    cases b1 : two E.bags[i].k.1 E.bags[i].k.2 with
    | false =>
     rw [b1] at unf
     simp (disch := omega) only [go_sem, ↓reduceIte, Nat.reduceEqDiff, Nat.reduceLeDiff, t5, t6, ho6, g1024]
     refine ⟨_, two_ok H _ _ _, ?_⟩
     rw [contK_some]; simp (disch := omega) only [go_sem, ↓reduceIte, Nat.reduceEqDiff, Nat.reduceLeDiff, b1, t5, t6, ho6]
     rw [bad unf]
     exact ⟨rfl, hk2⟩
    | true =>
     rw [b1] at unf
     cases cut with
     | true =>
      simp (disch := omega) only [go_sem, ↓reduceIte, Nat.reduceEqDiff, Nat.reduceLeDiff, t5, t6, ho6, g1024]
      refine ⟨_, two_ok H _ _ _, ?_⟩
      rw [contK_some]; simp (disch := omega) only [go_sem, ↓reduceIte, Nat.reduceEqDiff, Nat.reduceLeDiff, b1, t5, t6, t8, ho6]
      rw [bad unf]
      exact ⟨rfl, hk2⟩
     | false =>
      cases b2 : decide (E.bags[i].l.length < 1) with
      | true =>
       rw [b2] at unf
       simp (disch := omega) only [go_sem, ↓reduceIte, Nat.reduceEqDiff, Nat.reduceLeDiff, t5, t6, ho6, g1024]
       refine ⟨_, two_ok H _ _ _, ?_⟩
       rw [contK_some]; simp (disch := omega) only [go_sem, ↓reduceIte, Nat.reduceEqDiff, Nat.reduceLeDiff, b1, t5, t6, t8, ho6, hlv.same, hlv.disc, hlv.sl.len, e3, b2]
       rw [bad unf]
       exact ⟨rfl, hk2⟩
      | false =>
       rw [b2] at unf
       cases b3 : decide (E.bags[i].l.length > 64) with
       | true =>
        have b3' : decide (64 < E.bags[i].l.length) = true := b3
        rw [b3] at unf
        simp (disch := omega) only [go_sem, ↓reduceIte, Nat.reduceEqDiff, Nat.reduceLeDiff, t5, t6, ho6, g1024]
        refine ⟨_, two_ok H _ _ _, ?_⟩
        rw [contK_some]; simp (disch := omega) only [go_sem, ↓reduceIte, Nat.reduceEqDiff, Nat.reduceLeDiff, b1, t5, t6, t8, ho6, hlv.same, hlv.disc, hlv.sl.len, e3, b2, b3']
        rw [bad unf]
        exact ⟨rfl, hk2⟩
       | false =>
        have b3' : decide (64 < E.bags[i].l.length) = false := b3
        rw [b3] at unf
        by_cases b4 : i = 0
        ·have d4 : decide (0 < i) = false := by simp [b4]
         rw [d4] at unf
         simp (disch := omega) only [go_sem, ↓reduceIte, Nat.reduceEqDiff, Nat.reduceLeDiff, t5, t6, ho6, g1024]
         refine ⟨_, two_ok H _ _ _, ?_⟩
         rw [contK_some]; simp (disch := omega) only [go_sem, ↓reduceIte, Nat.reduceEqDiff, Nat.reduceLeDiff, b1, t5, t6, t8, ho6, hlv.same, hlv.disc, hlv.sl.len, e3, b2, b3', d4]
         refine hR _ ?_; clear hR R
         simp (disch := omega) only [go_sem, ↓reduceIte, Nat.reduceEqDiff, Nat.reduceLeDiff, t49, nat_add]
         exact ⟨E.bags.length - (i + 1), by omega, hk2, hoc, i + 1, rfl, by omega, t1, t47, t48, rfl, hg unf⟩
        ·have d4 : decide (0 < i) = true := by simp; omega
         rw [d4] at unf
         obtain ⟨e', g1, lv', xs', rfl, hlv', _⟩ := hB.lt (i := i - 1) (by omega)
         have gd1 : (ks E).getD (i - 1) (0, 0) = E.bags[i - 1].k := by
          unfold ks
          rw [List.getD_eq_getElem?_getD, List.getElem?_map, List.getElem?_eq_getElem (by omega)]
          rfl
         rw [gd1] at unf
         have hs1 : ((i : Nat) : Int) - ((1 : Nat) : Int) = ((i - 1 : Nat) : Int) := by omega
         simp (disch := omega) only [go_sem, ↓reduceIte, Nat.reduceEqDiff, Nat.reduceLeDiff, t5, t6, ho6, g1024]
         refine ⟨_, two_ok H _ _ _, ?_⟩
         rw [contK_some]; simp (disch := omega) only [go_sem, ↓reduceIte, Nat.reduceEqDiff, Nat.reduceLeDiff, b1, t1, t5, t6, t8, ho6, hoc, hlv.same, hlv.disc, hlv.sl.len, e3, b2, b3', d4, hbv.same, hbv.disc, hs1, hbv.sl.ia, g1, hlv'.disc]
         refine ⟨_, order_ok H _ _ _ _ hlv'.disc hlv.disc _, ?_⟩
         have q := cmp2_ge E.bags[i - 1].k E.bags[i].k
         cases b5 : ahd E.bags[i - 1].k E.bags[i].k with
         | false =>
          rw [b5] at unf q
          rw [contK_some]; simp (disch := omega) only [go_sem, ↓reduceIte, Nat.reduceEqDiff, Nat.reduceLeDiff, q]
          rw [bad unf]
          exact ⟨rfl, hk2⟩
         | true =>
          rw [b5] at unf q
          rw [contK_some]; simp (disch := omega) only [go_sem, ↓reduceIte, Nat.reduceEqDiff, Nat.reduceLeDiff, q]
          refine hR _ ?_; clear hR R
          simp (disch := omega) only [go_sem, ↓reduceIte, Nat.reduceEqDiff, Nat.reduceLeDiff, t49, nat_add]
          exact ⟨E.bags.length - (i + 1), by omega, hk2, hoc, i + 1, rfl, by omega, t1, t47, t48, rfl, hg unf⟩
  ·obtain rfl : i = E.bags.length := by omega
   (refine W_seq_gen fun N hN => ?_); simp (disch := omega) only [go_sem, ↓reduceIte, Nat.reduceEqDiff, Nat.reduceLeDiff, t48, t49, Nat.lt_irrefl]
   refine hN _ ?_; clear hN N
   (refine W_seq_gen fun N hN => ?_); simp (disch := omega) only [go_sem, ↓reduceIte, Nat.reduceEqDiff, Nat.reduceLeDiff]
   refine hM _ ?_; clear hN N hM M
   simp (disch := omega) only [go_sem, ↓reduceIte, Nat.reduceEqDiff, Nat.reduceLeDiff]
   have : checkB E = true := by unfold checkB; rw [hcok, all_lt hgood]; rfl
   rw [this]
   exact ⟨rfl, hk⟩
end Go.Proofs.Ytomfknocpijmbaa
end
section
set_option linter.unusedVariables false
set_option linter.unusedSimpArgs false
namespace Go.Proofs.Ytomfknocpijmbaa
open Go.Am
theorem emod_rem {a : Int} {n : Nat} (h0 : 0 < n) : (if a.tmod (n : Int) < 0 then a.tmod (n : Int) + (n : Int) else a.tmod (n : Int)) = a % (n : Int) := by
 rw [Int.tmod_eq_emod]
 have h1 := Int.emod_nonneg a (show (n : Int) ≠ 0 by omega)
 have h2 := Int.emod_lt_of_pos a (show (0 : Int) < n by omega)
 by_cases h : 0 ≤ a ∨ (n : Int) ∣ a
 ·rw [if_pos h]
  rw [if_neg (by omega)]
  try omega
 ·rw [if_neg h]
  have h3 : a % (n : Int) ≠ 0 := fun e => h (.inr (Int.dvd_of_emod_eq_zero e))
  have : ((n : Int).natAbs : Int) = n := by omega
  rw [this, if_pos (by omega)]
  omega
def cntE (E : Eth) : Nat := (E.bags.map fun b => b.l.length).sum
theorem cnt_succ {l : List Bg} {i : Nat} (h : i < l.length) : ((l.take (i + 1)).map fun b => b.l.length).sum = ((l.take i).map fun b => b.l.length).sum + l[i].l.length := by
 rw [List.take_add_one, List.getElem?_eq_getElem h, List.map_append, List.sum_append]
 simp only [Option.toList_some, List.map_cons, List.map_nil, List.sum_cons, List.sum_nil, Nat.add_zero]
variable {P : Program} (H : Has P)
include H
end Go.Proofs.Ytomfknocpijmbaa
end
section
set_option linter.unusedVariables false
set_option linter.unusedSimpArgs false
namespace Go.Proofs.Ytomfknocpijmbaa
open Go.Am
variable {P : Program} (H : Has P)
include H
end Go.Proofs.Ytomfknocpijmbaa
end
section
set_option linter.unusedVariables false
set_option linter.unusedSimpArgs false
namespace Go.Proofs.Ytomfknocpijmbaa
open Go.Am
variable {P : Program} (H : Has P)
include H
end Go.Proofs.Ytomfknocpijmbaa
end
