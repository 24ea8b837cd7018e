/- Cells: what the functions come to, and the functions that write, count and compare. -/
import Derived.Test.YtjebhcflpibkkaaCellCode
import Derived.Test.YtjebhcflpibkkaaAmOb
import Derived.Test.YtjebhcflpibkkaaAmFg
section
set_option linter.unusedVariables false
set_option linter.unusedSimpArgs false
namespace Go.Proofs.Ytjebhcflpibkkaa
open Go.Am
theorem setRange_all4 {a b c d x y z w : AV} : setRange [a, b, c, d] 0 [x, y, z, w] = [x, y, z, w] := by simp [setRange]
attribute [go_sem] setRange_all4
inductive Cel where
  | mk (k n : Int) (s : ByteArray) (l : List Cel)
namespace Cel
def k : Cel → Int | mk k _ _ _ => k
def n : Cel → Int | mk _ n _ _ => n
def s : Cel → ByteArray | mk _ _ s _ => s
def l : Cel → List Cel | mk _ _ _ l => l
end Cel
theorem cel_lt {c x : Cel} (h : x ∈ c.l) : SizeOf.sizeOf x < SizeOf.sizeOf c := by
  cases c with
  | mk k n s l =>
    have := List.sizeOf_lt_of_mem h
    simp only [Cel.l] at this
    simp
    omega
theorem Cel.ind {P : Cel → Prop} (h : ∀ c, (∀ x ∈ c.l, P x) → P c) (c : Cel) : P c := by
  generalize hn : SizeOf.sizeOf c = n
  induction n using Nat.strongRecOn generalizing c with
  | _ n ih => exact h c fun x hx => ih (SizeOf.sizeOf x) (by rw [← hn]; exact cel_lt hx) x rfl
/-- What every cell keeps to that is in a memory. -/
structure Fits (c : Cel) : Prop where
  k1 : -9223372036854775808 ≤ c.k
  k2 : c.k < 9223372036854775808
  n1 : -9223372036854775808 ≤ c.n
  n2 : c.n < 9223372036854775808
  s : c.s.size < 2 ^ 47
  l : c.l.length < 2 ^ 42
/-- A row of four slots is a cell. -/
inductive CE : List AV → Cel → Prop
  | mk {k n : Int} {s : ByteArray} {l : List Cel} {v : AV} {es : List (List AV)} (hf : Fits (.mk k n s l)) (hv : SF 4 v es) (hl : es.length = l.length) (he : ∀ (i : Nat) e x, es[i]? = some e → l[i]? = some x → CE e x) :
      CE [.sc (.int .i64 k), .sc (.int .i64 n), .sc (.string s), v] (.mk k n s l)
theorem RR.at {α : Type} {R : List AV → α → Prop} : ∀ {es : List (List AV)} {l : List α}, es.length = l.length → (∀ (i : Nat) e x, es[i]? = some e → l[i]? = some x → R e x) → RR R es l
  | [], [], _, _ => trivial
  | e :: es, x :: l, h, he => ⟨he 0 e x rfl rfl, RR.at (by simpa using h) fun i e' x' h1 h2 => he (i + 1) e' x' (by simpa using h1) (by simpa using h2)⟩
  | [], _ :: _, h, _ => by simp at h
  | _ :: _, [], h, _ => by simp at h
theorem CE.out {cs : List AV} {c : Cel} (h : CE cs c) : ∃ v es, cs = [.sc (.int .i64 c.k), .sc (.int .i64 c.n), .sc (.string c.s), v] ∧ SF 4 v es ∧ RR CE es c.l ∧ Fits c := by
  cases h with
  | mk hf hv hl he => exact ⟨_, _, rfl, hv, RR.at hl he, hf⟩
theorem CE.in {k n : Int} {s : ByteArray} {l : List Cel} {v : AV} {es : List (List AV)} (hf : Fits (.mk k n s l)) (hv : SF 4 v es) (h : RR CE es l) : CE [.sc (.int .i64 k), .sc (.int .i64 n), .sc (.string s), v] (.mk k n s l) :=
  .mk hf hv h.len fun i e x h1 h2 => by
    obtain ⟨e', h3, h4⟩ := h.get h2
    rw [h1] at h3
    cases h3
    exact h4

/-! ### What the functions come to -/
def deepS : Nat → Cel → Bool
  | 0, _ => true
  | n + 1, c => c.l.any (deepS n)
def depthS : Nat → Cel → Nat
  | 0, _ => 1
  | n + 1, c => (c.l.map (depthS n)).foldl max 0 + 1
mutual
def pureS : Cel → Bool
  | .mk k n s l => if k = 1 then decide (n ≥ -9007199254740992) && decide (n ≤ 9007199254740992) && decide (s = ByteArray.empty) && decide (l.length = 0)
    else if k = 2 then decide (n = 0) && decide (l.length = 0)
    else if k = 3 then decide (n = 0) && decide (s = ByteArray.empty) && pureL l
    else false
def pureL : List Cel → Bool
  | [] => true
  | c :: l => pureS c && pureL l
end
mutual
/-- From how many may be; below 0: too many, or a text is too long. -/
def countS : Cel → Int → Int
  | .mk k n s l, left => if s.size > 65536 then -1 else countL l (left - 1)
def countL : List Cel → Int → Int
  | [], left => left
  | c :: l, left => if left < 0 then -1 else countL l (countS c left)
end
mutual
def sizeS : Cel → Int → Int
  | .mk k n s l, m => if s.size > 70000 then 70000 else sizeL l (m + 1 + s.size)
def sizeL : List Cel → Int → Int
  | [], m => m
  | c :: l, m => if m < 70000 then sizeL l (sizeS c m) else m
end
mutual
def sameS : Cel → Cel → Bool
  | .mk k n s l, .mk k' n' s' l' => decide (k = k') && decide (n = n') && decide (s = s') && sameL l l'
def sameL : List Cel → List Cel → Bool
  | [], [] => true
  | c :: l, c' :: l' => sameS c c' && sameL l l'
  | _, _ => false
end
theorem any_drop {α : Type} {f : α → Bool} {l : List α} {i : Nat} (h : i < l.length) : (l.drop i).any f = (f l[i] || (l.drop (i + 1)).any f) := by
  rw [List.drop_eq_getElem_cons h, List.any_cons]
theorem deepS_succ (n : Nat) (c : Cel) : deepS (n + 1) c = c.l.any (deepS n) := by cases c; rfl
/-- How deep a cell is, as far as it matters. -/
theorem depthS_le : ∀ (n : Nat) (c : Cel), depthS n c ≤ n + 1 := by
  intro n
  induction n with
  | zero => intro c; simp [depthS]
  | succ n ih =>
    intro c
    have key : ∀ (l : List Cel) (m : Nat), m ≤ n + 1 → (l.map (depthS n)).foldl max m ≤ n + 1 := by
      intro l
      induction l with
      | nil => intro m h; exact h
      | cons x l ih2 => intro m h; exact ih2 _ (by have := ih x; simp; omega)
    have := key c.l 0 (by omega)
    simp only [depthS]
    omega
theorem foldmax_snoc (l : List Nat) (x : Nat) : (l ++ [x]).foldl max 0 = max (l.foldl max 0) x := by rw [List.foldl_append]; rfl
theorem countL_bd {l : List Cel} (h : ∀ x ∈ l, ∀ left : Int, 0 ≤ left → -1 ≤ countS x left ∧ countS x left ≤ left) : ∀ left : Int, -1 ≤ left → -1 ≤ countL l left ∧ countL l left ≤ left := by
  induction l with
  | nil => intro left hl; rw [countL]; omega
  | cons x l ih =>
    intro left hl
    rw [countL]
    split
    · omega
    · rename_i h0
      have h1 := h x (by simp) left (by omega)
      have h2 := ih (fun y hy => h y (by simp [hy])) (countS x left) h1.1
      omega
theorem countS_bd (c : Cel) : ∀ left : Int, 0 ≤ left → -1 ≤ countS c left ∧ countS c left ≤ left := by
  induction c using Cel.ind with
  | h c ih =>
    cases c with
    | mk k n s l =>
      intro left hl
      rw [countS]
      split
      · omega
      · have := countL_bd (l := l) ih (left - 1) (by omega)
        omega
theorem countL_drop {l : List Cel} {i : Nat} (h : i < l.length) (left : Int) : countL (l.drop i) left = if left < 0 then -1 else countL (l.drop (i + 1)) (countS l[i] left) := by
  rw [List.drop_eq_getElem_cons h, countL]
theorem sizeL_bd {l : List Cel} (h : ∀ x ∈ l, ∀ m : Int, 0 ≤ m → m < 70000 → 0 ≤ sizeS x m ∧ sizeS x m ≤ 140000) : ∀ m : Int, 0 ≤ m → m ≤ 140000 → 0 ≤ sizeL l m ∧ sizeL l m ≤ 140000 := by
  induction l with
  | nil => intro m h1 h2; rw [sizeL]; omega
  | cons x l ih =>
    intro m h1 h2
    rw [sizeL]
    split
    · have h3 := h x (by simp) m h1 (by omega)
      exact ih (fun y hy => h y (by simp [hy])) _ h3.1 h3.2
    · omega
theorem sizeS_bd (c : Cel) : ∀ m : Int, 0 ≤ m → m < 70000 → 0 ≤ sizeS c m ∧ sizeS c m ≤ 140000 := by
  induction c using Cel.ind with
  | h c ih =>
    cases c with
    | mk k n s l =>
      intro m h1 h2
      rw [sizeS]
      split
      · omega
      · exact sizeL_bd (l := l) ih _ (by omega) (by omega)
theorem sizeL_drop {l : List Cel} {i : Nat} (h : i < l.length) (m : Int) : sizeL (l.drop i) m = if m < 70000 then sizeL (l.drop (i + 1)) (sizeS l[i] m) else m := by
  rw [List.drop_eq_getElem_cons h, sizeL]
theorem sizeL_big {l : List Cel} {m : Int} (h : ¬ m < 70000) : sizeL l m = m := by
  cases l with
  | nil => rfl
  | cons x l => rw [sizeL, if_neg h]
theorem pureL_drop {l : List Cel} {i : Nat} (h : i < l.length) : pureL (l.drop i) = (pureS l[i] && pureL (l.drop (i + 1))) := by
  rw [List.drop_eq_getElem_cons h, pureL]
theorem sameL_drop {l l' : List Cel} {i : Nat} (h : i < l.length) (h' : i < l'.length) : sameL (l.drop i) (l'.drop i) = (sameS l[i] l'[i] && sameL (l.drop (i + 1)) (l'.drop (i + 1))) := by
  rw [List.drop_eq_getElem_cons h, List.drop_eq_getElem_cons h', sameL]
theorem sameL_len : ∀ {l l' : List Cel}, sameL l l' = true → l.length = l'.length
  | [], [], _ => rfl
  | c :: l, c' :: l', h => by
    rw [sameL, Bool.and_eq_true] at h
    simp [sameL_len h.2]
  | [], _ :: _, h => by simp [sameL] at h
  | _ :: _, [], h => by simp [sameL] at h
theorem sameS_eq (c c' : Cel) : sameS c c' = (decide (c.k = c'.k) && decide (c.n = c'.n) && decide (c.s = c'.s) && sameL c.l c'.l) := by
  cases c; cases c'; rfl
theorem sameL_refl {l : List Cel} (h : ∀ x ∈ l, sameS x x = true) : sameL l l = true := by
  induction l with
  | nil => rfl
  | cons x l ih => rw [sameL, h x (by simp), ih fun y hy => h y (by simp [hy])]; rfl
theorem sameS_refl (c : Cel) : sameS c c = true := by
  induction c using Cel.ind with
  | h c ih => rw [sameS_eq, sameL_refl ih]; simp
mutual
/-- What the bytes of a cell ask for. -/
def okC : Cel → Prop
  | .mk k n s l => (-9007199254740992 ≤ n ∧ n ≤ 9007199254740992) ∧ s.size ≤ 65536 ∧ okL l
def okL : List Cel → Prop
  | [] => True
  | c :: l => okC c ∧ okL l
end
theorem okL_get {l : List Cel} : ∀ {i : Nat} (h : i < l.length), okL l → okC l[i] := by
  induction l with
  | nil => intro i h; simp at h
  | cons x l ih =>
    intro i h ho
    rw [okL] at ho
    cases i with
    | zero => exact ho.1
    | succ i => exact ih (by simpa using h) ho.2
theorem countL_neg {l : List Cel} {left : Int} (h : left < 0) : countL l left < 0 := by
  cases l with
  | nil => exact h
  | cons x l => rw [countL, if_pos h]; decide
theorem okL_of {l : List Cel} (h : ∀ x ∈ l, ∀ left : Int, pureS x = true → 0 ≤ countS x left → okC x) : ∀ left : Int, pureL l = true → 0 ≤ countL l left → okL l := by
  induction l with
  | nil => intro left _ _; rw [okL]; trivial
  | cons x l ih =>
    intro left hp hc
    rw [pureL, Bool.and_eq_true] at hp
    rw [countL] at hc
    split at hc
    · omega
    · have h1 : 0 ≤ countS x left := by
        rcases Int.lt_or_le (countS x left) 0 with h | h
        · have := countL_neg (l := l) h
          omega
        · exact h
      rw [okL]
      exact ⟨h x (by simp) left hp.1 h1, ih (fun y hy => h y (by simp [hy])) _ hp.2 hc⟩
theorem okC_of (c : Cel) : ∀ left : Int, pureS c = true → 0 ≤ countS c left → okC c := by
  induction c using Cel.ind with
  | h c ih =>
    cases c with
    | mk k n s l =>
      intro left hp hc
      rw [countS] at hc
      split at hc
      · omega
      rename_i hs
      have hl : pureL l = true → okL l := fun hq => okL_of (l := l) ih _ hq hc
      rw [pureS] at hp
      rw [okC]
      split at hp
      · simp only [Bool.and_eq_true, decide_eq_true_eq] at hp
        obtain ⟨⟨⟨h1, h2⟩, h3⟩, h4⟩ := hp
        have : l = [] := List.eq_nil_of_length_eq_zero h4
        exact ⟨⟨h1, h2⟩, by omega, by rw [this, okL]; trivial⟩
      split at hp
      · simp only [Bool.and_eq_true, decide_eq_true_eq] at hp
        obtain ⟨h1, h4⟩ := hp
        have : l = [] := List.eq_nil_of_length_eq_zero h4
        exact ⟨by omega, by omega, by rw [this, okL]; trivial⟩
      split at hp
      · simp only [Bool.and_eq_true, decide_eq_true_eq] at hp
        obtain ⟨⟨h1, h2⟩, h3⟩ := hp
        exact ⟨by omega, by omega, hl h3⟩
      · cases hp
end Go.Proofs.Ytjebhcflpibkkaa
end

section
set_option linter.unusedVariables false
set_option linter.unusedSimpArgs false
namespace Go.Proofs.Ytjebhcflpibkkaa
open Go.Am
variable {P : Program} (H : Has P)
include H
theorem deep_ok : ∀ (left : Nat) (c : Cel) (cs : List AV), left < 2 ^ 60 → CE cs c → ∀ h, AWF P ann 0 25 [.ag cs, .sc (.int .i64 (left : Nat))] h fun r h' => r = .sc (.bool (deepS left c)) ∧ h' = h := by
  intro left
  induction left with
  | zero =>
    intro c cs _ hc h
    obtain ⟨v, es, rfl, hv, hl, hf⟩ := hc.out
    refine AWF.fnPurec H.f0_25 rfl ?_
    have hO := OB.nil (h := h)
    (refine W_seq_gen fun N hN => ?_); simp (disch := first | omega | (simp only [List.length_cons, List.length_nil, List.length_append, u8s_len]; omega)) only [go_sem, ↓reduceIte, true_and, Nat.reduceLeDiff, Nat.reduceEqDiff, Nat.reduceAdd, Nat.reduceBEq, Int.reduceEq, H.cv_3_5, H.cv_5_3, hv.disc, hv.same]
    intro o2 h2
    refine hN _ ?_; clear hN N; refine W_ob (hO.new h2) fun hc hO => ?_
    simp (disch := first | omega | (simp only [List.length_cons, List.length_nil, List.length_append, u8s_len]; omega)) only [go_sem, ↓reduceIte, true_and, Nat.reduceLeDiff, Nat.reduceEqDiff, Nat.reduceAdd, Nat.reduceBEq, Int.reduceEq, H.cv_3_5, H.cv_5_3]
    exact ⟨rfl, hO.keep⟩
  | succ left ih =>
    intro c cs hlt hc h
    obtain ⟨v, es, rfl, hv, hl, hf⟩ := hc.out
    have hfl := hf.l
    have hes := hl.len
    refine AWF.fnPurec H.f0_25 rfl ?_
    have hO := OB.nil (h := h)
    (refine W_seq_gen fun N hN => ?_); simp (disch := first | omega | (simp only [List.length_cons, List.length_nil, List.length_append, u8s_len]; omega)) only [go_sem, ↓reduceIte, true_and, Nat.reduceLeDiff, Nat.reduceEqDiff, Nat.reduceAdd, Nat.reduceBEq, Int.reduceEq, H.cv_3_5, H.cv_5_3, hv.disc, hv.same]
    intro o2 h2
    refine hN _ ?_; clear hN N; refine W_ob (hO.new h2) fun hc hO => ?_
    refine W_forget (fun t => t 1 = .sc (.int .i64 ((left + 1 : Nat) : Int)) ∧ t 2 = .op o2 0 ∧ True) (by simp [upd_at, *] <;> (first | rfl | exact ⟨rfl, rfl⟩ | exact ⟨rfl, rfl, rfl⟩)) ?_; rintro t ⟨t1, t2, -⟩
    have hne : ¬ ((left + 1 : Nat) : Int) = ((0 : Nat) : Int) := by omega
    (refine W_seq_gen fun N hN => ?_); simp (disch := first | omega | (simp only [List.length_cons, List.length_nil, List.length_append, u8s_len]; omega)) only [go_sem, ↓reduceIte, true_and, Nat.reduceLeDiff, Nat.reduceEqDiff, Nat.reduceAdd, Nat.reduceBEq, Int.reduceEq, H.cv_3_5, H.cv_5_3, t1, hne]
    refine hN _ ?_; clear hN N
    (refine W_seq_gen fun M hM => ?_)
    simp (disch := first | omega | (simp only [List.length_cons, List.length_nil, List.length_append, u8s_len]; omega)) only [go_sem, ↓reduceIte, true_and, Nat.reduceLeDiff, Nat.reduceEqDiff, Nat.reduceAdd, Nat.reduceBEq, Int.reduceEq, H.cv_3_5, H.cv_5_3, t1, t2, hv.same, hv.disc, hv.sl.len, hes, hO.get0]
    refine AW_loopN (fun m t h' => ∃ i, m = c.l.length - i ∧ i ≤ c.l.length ∧ (c.l.drop i).any (deepS left) = c.l.any (deepS left) ∧ t 1 = .sc (.int .i64 ((left + 1 : Nat) : Int)) ∧ t 10 = v ∧ t 11 = .sc (.int .i64 (c.l.length : Nat)) ∧ t 12 = .sc (.int .i64 (i : Nat)) ∧
        OB h [(o2, .arr [.sc (.int .i64 c.k), .sc (.int .i64 c.n), .sc (.string c.s), v])] h')
      (n := c.l.length) ⟨0, rfl, Nat.zero_le _, rfl, by simp [upd_at, t1], by simp [upd_at], by simp [upd_at], rfl, hO⟩ ?_
    clear hO t1 t2
    rintro m t h' ⟨i, rfl, hi, hany, t1, t10, t11, t12, hO⟩
    rcases Nat.lt_or_ge i c.l.length with hlt2 | hge
    · obtain ⟨e, he, hce⟩ := hl.lt hlt2
      have hx := any_drop (f := deepS left) hlt2
      generalize c.l[i] = x at hce hx
      obtain ⟨v', es', rfl, hv', hl', hf'⟩ := hce.out
      (refine W_seq_gen fun N hN => ?_); simp (disch := first | omega | (simp only [List.length_cons, List.length_nil, List.length_append, u8s_len]; omega)) only [go_sem, ↓reduceIte, true_and, Nat.reduceLeDiff, Nat.reduceEqDiff, Nat.reduceAdd, Nat.reduceBEq, Int.reduceEq, H.cv_3_5, H.cv_5_3, t11, t12, hlt2]
      refine hN _ ?_; clear hN N
      (refine W_seq_gen fun N hN => ?_); simp (disch := first | omega | (simp only [List.length_cons, List.length_nil, List.length_append, u8s_len]; omega)) only [go_sem, ↓reduceIte, true_and, Nat.reduceLeDiff, Nat.reduceEqDiff, Nat.reduceAdd, Nat.reduceBEq, Int.reduceEq, H.cv_3_5, H.cv_5_3]
      refine hN _ ?_; clear hN N
      (refine W_seq_gen fun N hN => ?_)
      rw [W_block]
      (refine W_seq_gen fun N hN => ?_); simp (disch := first | omega | (simp only [List.length_cons, List.length_nil, List.length_append, u8s_len]; omega)) only [go_sem, ↓reduceIte, true_and, Nat.reduceLeDiff, Nat.reduceEqDiff, Nat.reduceAdd, Nat.reduceBEq, Int.reduceEq, H.cv_3_5, H.cv_5_3, t10, t12, hv.same, hv.sl.ia, he, hv'.disc, hv'.same]
      intro o6 h6
      refine hN _ ?_; clear hN N; refine W_ob (hO.new h6) fun hc hO => ?_
      have sb : ((left + 1 : Nat) : Int) - ((1 : Nat) : Int) = (left : Nat) := by omega
      (refine W_seq_gen fun N hN => ?_); simp (disch := first | omega | (simp only [List.length_cons, List.length_nil, List.length_append, u8s_len]; omega)) only [go_sem, ↓reduceIte, true_and, Nat.reduceLeDiff, Nat.reduceEqDiff, Nat.reduceAdd, Nat.reduceBEq, Int.reduceEq, H.cv_3_5, H.cv_5_3, t1, hO.get0, hv'.same, hv'.disc, sb]
      refine (ih x _ (by omega) hce _).mono ?_
      rintro _ _ ⟨rfl, hh⟩; subst hh
      cases hd : deepS left x with
      | true =>
        rw [contK_some]; simp (disch := first | omega | (simp only [List.length_cons, List.length_nil, List.length_append, u8s_len]; omega)) only [go_sem, ↓reduceIte, true_and, Nat.reduceLeDiff, Nat.reduceEqDiff, Nat.reduceAdd, Nat.reduceBEq, Int.reduceEq, H.cv_3_5, H.cv_5_3]
        refine hN _ ?_; clear hN N
        simp (disch := first | omega | (simp only [List.length_cons, List.length_nil, List.length_append, u8s_len]; omega)) only [go_sem, ↓reduceIte, true_and, Nat.reduceLeDiff, Nat.reduceEqDiff, Nat.reduceAdd, Nat.reduceBEq, Int.reduceEq, H.cv_3_5, H.cv_5_3]
        rw [hd] at hx
        rw [deepS_succ, ← hany, hx]
        exact ⟨rfl, hO.keep⟩
      | false =>
        rw [contK_some]; simp (disch := first | omega | (simp only [List.length_cons, List.length_nil, List.length_append, u8s_len]; omega)) only [go_sem, ↓reduceIte, true_and, Nat.reduceLeDiff, Nat.reduceEqDiff, Nat.reduceAdd, Nat.reduceBEq, Int.reduceEq, H.cv_3_5, H.cv_5_3]
        refine hN _ ?_; clear hN N
        simp (disch := first | omega | (simp only [List.length_cons, List.length_nil, List.length_append, u8s_len]; omega)) only [go_sem, ↓reduceIte, true_and, Nat.reduceLeDiff, Nat.reduceEqDiff, Nat.reduceAdd, Nat.reduceBEq, Int.reduceEq, H.cv_3_5, H.cv_5_3]
        refine hN _ ?_; clear hN N
        simp (disch := first | omega | (simp only [List.length_cons, List.length_nil, List.length_append, u8s_len]; omega)) only [go_sem, ↓reduceIte, true_and, Nat.reduceLeDiff, Nat.reduceEqDiff, Nat.reduceAdd, Nat.reduceBEq, Int.reduceEq, H.cv_3_5, H.cv_5_3, t12, nat_add]
        refine ⟨c.l.length - (i + 1), by omega, i + 1, rfl, by omega, ?_, t1, t10, t11, rfl, hO.tail⟩
        rw [← hany, hx, hd, Bool.false_or]
    obtain rfl : i = c.l.length := by omega
    (refine W_seq_gen fun N hN => ?_); simp (disch := first | omega | (simp only [List.length_cons, List.length_nil, List.length_append, u8s_len]; omega)) only [go_sem, ↓reduceIte, true_and, Nat.reduceLeDiff, Nat.reduceEqDiff, Nat.reduceAdd, Nat.reduceBEq, Int.reduceEq, H.cv_3_5, H.cv_5_3, t11, t12, Nat.lt_irrefl]
    refine hN _ ?_; clear hN N
    (refine W_seq_gen fun N hN => ?_); simp (disch := first | omega | (simp only [List.length_cons, List.length_nil, List.length_append, u8s_len]; omega)) only [go_sem, ↓reduceIte, true_and, Nat.reduceLeDiff, Nat.reduceEqDiff, Nat.reduceAdd, Nat.reduceBEq, Int.reduceEq, H.cv_3_5, H.cv_5_3]
    refine hM _ ?_; clear hN N hM M
    simp (disch := first | omega | (simp only [List.length_cons, List.length_nil, List.length_append, u8s_len]; omega)) only [go_sem, ↓reduceIte, true_and, Nat.reduceLeDiff, Nat.reduceEqDiff, Nat.reduceAdd, Nat.reduceBEq, Int.reduceEq, H.cv_3_5, H.cv_5_3]
    rw [deepS_succ, ← hany]
    simp
    exact hO.keep
theorem depth_ok : ∀ (most : Nat) (c : Cel) (cs : List AV), most < 2 ^ 60 → CE cs c → ∀ h, AWF P ann 0 14 [.ag cs, .sc (.int .i64 (most : Nat))] h fun r h' => r = .sc (.int .i64 (depthS most c : Nat)) ∧ h' = h := by
  intro most
  induction most with
  | zero =>
    intro c cs _ hc h
    obtain ⟨v, es, rfl, hv, hl, hf⟩ := hc.out
    refine AWF.fnPurec H.f0_14 rfl ?_
    have hO := OB.nil (h := h)
    (refine W_seq_gen fun N hN => ?_); simp (disch := first | omega | (simp only [List.length_cons, List.length_nil, List.length_append, u8s_len]; omega)) only [go_sem, ↓reduceIte, true_and, Nat.reduceLeDiff, Nat.reduceEqDiff, Nat.reduceAdd, Nat.reduceBEq, Int.reduceEq, H.cv_3_5, H.cv_5_3, hv.disc, hv.same]
    intro o2 h2
    refine hN _ ?_; clear hN N; refine W_ob (hO.new h2) fun hc hO => ?_
    simp (disch := first | omega | (simp only [List.length_cons, List.length_nil, List.length_append, u8s_len]; omega)) only [go_sem, ↓reduceIte, true_and, Nat.reduceLeDiff, Nat.reduceEqDiff, Nat.reduceAdd, Nat.reduceBEq, Int.reduceEq, H.cv_3_5, H.cv_5_3]
    exact ⟨rfl, hO.keep⟩
  | succ most ih =>
    intro c cs hlt hc h
    obtain ⟨v, es, rfl, hv, hl, hf⟩ := hc.out
    have hfl := hf.l
    have hes := hl.len
    refine AWF.fnPurec H.f0_14 rfl ?_
    have hO := OB.nil (h := h)
    (refine W_seq_gen fun N hN => ?_); simp (disch := first | omega | (simp only [List.length_cons, List.length_nil, List.length_append, u8s_len]; omega)) only [go_sem, ↓reduceIte, true_and, Nat.reduceLeDiff, Nat.reduceEqDiff, Nat.reduceAdd, Nat.reduceBEq, Int.reduceEq, H.cv_3_5, H.cv_5_3, hv.disc, hv.same]
    intro o2 h2
    refine hN _ ?_; clear hN N; refine W_ob (hO.new h2) fun hc hO => ?_
    refine W_forget (fun t => t 1 = .sc (.int .i64 ((most + 1 : Nat) : Int)) ∧ t 2 = .op o2 0 ∧ True) (by simp [upd_at, *] <;> (first | rfl | exact ⟨rfl, rfl⟩ | exact ⟨rfl, rfl, rfl⟩)) ?_; rintro t ⟨t1, t2, -⟩
    have hne : ¬ ((most + 1 : Nat) : Int) = ((0 : Nat) : Int) := by omega
    (refine W_seq_gen fun N hN => ?_); simp (disch := first | omega | (simp only [List.length_cons, List.length_nil, List.length_append, u8s_len]; omega)) only [go_sem, ↓reduceIte, true_and, Nat.reduceLeDiff, Nat.reduceEqDiff, Nat.reduceAdd, Nat.reduceBEq, Int.reduceEq, H.cv_3_5, H.cv_5_3, t1, hne]
    refine hN _ ?_; clear hN N
    (refine W_seq_gen fun N hN => ?_); simp (disch := first | omega | (simp only [List.length_cons, List.length_nil, List.length_append, u8s_len]; omega)) only [go_sem, ↓reduceIte, true_and, Nat.reduceLeDiff, Nat.reduceEqDiff, Nat.reduceAdd, Nat.reduceBEq, Int.reduceEq, H.cv_3_5, H.cv_5_3]
    refine hN _ ?_; clear hN N
    (refine W_seq_gen fun M hM => ?_)
    (refine W_seq_gen fun N hN => ?_); simp (disch := first | omega | (simp only [List.length_cons, List.length_nil, List.length_append, u8s_len]; omega)) only [go_sem, ↓reduceIte, true_and, Nat.reduceLeDiff, Nat.reduceEqDiff, Nat.reduceAdd, Nat.reduceBEq, Int.reduceEq, H.cv_3_5, H.cv_5_3]
    refine hN _ ?_; clear hN N
    simp (disch := first | omega | (simp only [List.length_cons, List.length_nil, List.length_append, u8s_len]; omega)) only [go_sem, ↓reduceIte, true_and, Nat.reduceLeDiff, Nat.reduceEqDiff, Nat.reduceAdd, Nat.reduceBEq, Int.reduceEq, H.cv_3_5, H.cv_5_3]
    refine AW_loopN (fun m t h' => ∃ i, m = c.l.length - i ∧ i ≤ c.l.length ∧ t 1 = .sc (.int .i64 ((most + 1 : Nat) : Int)) ∧ t 2 = .op o2 0 ∧ t 5 = .sc (.int .i64 ((((c.l.take i).map (depthS most)).foldl max 0 : Nat) : Int)) ∧ t 6 = .sc (.int .i64 (i : Nat)) ∧
        OB h [(o2, .arr [.sc (.int .i64 c.k), .sc (.int .i64 c.n), .sc (.string c.s), v])] h')
      (n := c.l.length) ⟨0, rfl, Nat.zero_le _, by simp [upd_at, t1], by simp [upd_at, t2], by simp [upd_at], rfl, hO⟩ ?_
    clear hO t1 t2
    rintro m t h' ⟨i, rfl, hi, t1, t2, t5, t6, hO⟩
    rcases Nat.lt_or_ge i c.l.length with hlt2 | hge
    · obtain ⟨e, he, hce⟩ := hl.lt hlt2
      have hn : c.l.take (i + 1) = c.l.take i ++ [c.l[i]] := by rw [List.take_add_one]; simp [hlt2]
      have hm : ((c.l.take (i + 1)).map (depthS most)).foldl max 0 = max (((c.l.take i).map (depthS most)).foldl max 0) (depthS most c.l[i]) := by
        rw [hn, List.map_append, List.map_singleton, foldmax_snoc]
      generalize c.l[i] = x at hce hm
      have hle := depthS_le most x
      obtain ⟨v', es', rfl, hv', hl', hf'⟩ := hce.out
      (refine W_seq_gen fun N hN => ?_); simp (disch := first | omega | (simp only [List.length_cons, List.length_nil, List.length_append, u8s_len]; omega)) only [go_sem, ↓reduceIte, true_and, Nat.reduceLeDiff, Nat.reduceEqDiff, Nat.reduceAdd, Nat.reduceBEq, Int.reduceEq, H.cv_3_5, H.cv_5_3, t2, t6, hlt2, hv.same, hv.sl.len, hes, hO.get0]
      refine hN _ ?_; clear hN N
      (refine W_seq_gen fun N hN => ?_)
      rw [W_block]
      have sb : ((most + 1 : Nat) : Int) - ((1 : Nat) : Int) = (most : Nat) := by omega
      (refine W_seq_gen fun N hN => ?_); simp (disch := first | omega | (simp only [List.length_cons, List.length_nil, List.length_append, u8s_len]; omega)) only [go_sem, ↓reduceIte, true_and, Nat.reduceLeDiff, Nat.reduceEqDiff, Nat.reduceAdd, Nat.reduceBEq, Int.reduceEq, H.cv_3_5, H.cv_5_3, t1, t2, t6, hO.get0, hv.same, hv.sl.ia, he, sb, hv'.disc, hv'.same]
      refine (ih x _ (by omega) hce _).mono ?_
      rintro _ _ ⟨rfl, hh⟩; subst hh
      rw [contK_some]; simp (disch := first | omega | (simp only [List.length_cons, List.length_nil, List.length_append, u8s_len]; omega)) only [go_sem, ↓reduceIte, true_and, Nat.reduceLeDiff, Nat.reduceEqDiff, Nat.reduceAdd, Nat.reduceBEq, Int.reduceEq, H.cv_3_5, H.cv_5_3]
      refine hN _ ?_; clear hN N
      generalize hd : depthS most x = d at hm hle
      generalize ha : ((c.l.take i).map (depthS most)).foldl max 0 = a at hm t5
      by_cases hgt : d > a
      · simp (disch := first | omega | (simp only [List.length_cons, List.length_nil, List.length_append, u8s_len]; omega)) only [go_sem, ↓reduceIte, true_and, Nat.reduceLeDiff, Nat.reduceEqDiff, Nat.reduceAdd, Nat.reduceBEq, Int.reduceEq, H.cv_3_5, H.cv_5_3, t5, hgt]
        refine hN _ ?_; clear hN N
        simp (disch := first | omega | (simp only [List.length_cons, List.length_nil, List.length_append, u8s_len]; omega)) only [go_sem, ↓reduceIte, true_and, Nat.reduceLeDiff, Nat.reduceEqDiff, Nat.reduceAdd, Nat.reduceBEq, Int.reduceEq, H.cv_3_5, H.cv_5_3, t6, nat_add]
        exact ⟨c.l.length - (i + 1), by omega, i + 1, rfl, by omega, t1, t2, by rw [hm, Nat.max_eq_right (by omega)], rfl, hO⟩
      · simp (disch := first | omega | (simp only [List.length_cons, List.length_nil, List.length_append, u8s_len]; omega)) only [go_sem, ↓reduceIte, true_and, Nat.reduceLeDiff, Nat.reduceEqDiff, Nat.reduceAdd, Nat.reduceBEq, Int.reduceEq, H.cv_3_5, H.cv_5_3, t5, hgt]
        refine hN _ ?_; clear hN N
        simp (disch := first | omega | (simp only [List.length_cons, List.length_nil, List.length_append, u8s_len]; omega)) only [go_sem, ↓reduceIte, true_and, Nat.reduceLeDiff, Nat.reduceEqDiff, Nat.reduceAdd, Nat.reduceBEq, Int.reduceEq, H.cv_3_5, H.cv_5_3, t6, nat_add]
        exact ⟨c.l.length - (i + 1), by omega, i + 1, rfl, by omega, t1, t2, by rw [hm, Nat.max_eq_left (by omega)]; exact t5, rfl, hO⟩
    obtain rfl : i = c.l.length := by omega
    (refine W_seq_gen fun N hN => ?_); simp (disch := first | omega | (simp only [List.length_cons, List.length_nil, List.length_append, u8s_len]; omega)) only [go_sem, ↓reduceIte, true_and, Nat.reduceLeDiff, Nat.reduceEqDiff, Nat.reduceAdd, Nat.reduceBEq, Int.reduceEq, H.cv_3_5, H.cv_5_3, t2, t6, hv.same, hv.sl.len, hes, hO.get0, Nat.lt_irrefl]
    refine hM _ ?_; clear hN N hM M
    rw [List.take_length] at t5
    have := depthS_le (most + 1) c
    have hs : depthS (most + 1) c = (c.l.map (depthS most)).foldl max 0 + 1 := by cases c; rfl
    rw [hs] at this ⊢
    generalize (c.l.map (depthS most)).foldl max 0 = a at t5 this
    simp (disch := first | omega | (simp only [List.length_cons, List.length_nil, List.length_append, u8s_len]; omega)) only [go_sem, ↓reduceIte, true_and, Nat.reduceLeDiff, Nat.reduceEqDiff, Nat.reduceAdd, Nat.reduceBEq, Int.reduceEq, H.cv_3_5, H.cv_5_3, t5, nat_add]
    exact hO.keep
end Go.Proofs.Ytjebhcflpibkkaa
end

section
set_option linter.unusedVariables false
set_option linter.unusedSimpArgs false
namespace Go.Proofs.Ytjebhcflpibkkaa
open Go.Am
variable {P : Program} (H : Has P)
include H
theorem count_ok (c : Cel) : ∀ (cs : List AV) (left : Int), 0 ≤ left → left < 2 ^ 60 → CE cs c → ∀ h, AWF P ann 0 27 [.ag cs, .sc (.int .i64 left)] h fun r h' => r = .sc (.int .i64 (countS c left)) ∧ h' = h := by
  induction c using Cel.ind with
  | h c ih =>
  intro cs left h0 h1 hc h
  obtain ⟨v, es, rfl, hv, hl, hf⟩ := hc.out
  have hfl := hf.l
  have hfs := hf.s
  have hes := hl.len
  have hS : countS c left = if c.s.size > 65536 then -1 else countL c.l (left - 1) := by cases c; rw [countS]; rfl
  refine AWF.fnPurec H.f0_27 rfl ?_
  have hO := OB.nil (h := h)
  (refine W_seq_gen fun N hN => ?_); simp (disch := first | omega | (simp only [List.length_cons, List.length_nil, List.length_append, u8s_len]; omega)) only [go_sem, ↓reduceIte, true_and, Nat.reduceLeDiff, Nat.reduceEqDiff, Nat.reduceAdd, Nat.reduceBEq, Int.reduceEq, H.cv_3_5, H.cv_5_3, hv.disc, hv.same]
  intro o2 h2
  refine hN _ ?_; clear hN N; refine W_ob (hO.new h2) fun hc hO => ?_
  refine W_forget (fun t => t 1 = .sc (.int .i64 left) ∧ t 2 = .op o2 0 ∧ True) (by simp [upd_at, *] <;> (first | rfl | exact ⟨rfl, rfl⟩ | exact ⟨rfl, rfl, rfl⟩)) ?_; rintro t ⟨t1, t2, -⟩
  by_cases c1 : c.s.size > 65536
  · (refine W_seq_gen fun N hN => ?_); simp (disch := first | omega | (simp only [List.length_cons, List.length_nil, List.length_append, u8s_len]; omega)) only [go_sem, ↓reduceIte, true_and, Nat.reduceLeDiff, Nat.reduceEqDiff, Nat.reduceAdd, Nat.reduceBEq, Int.reduceEq, H.cv_3_5, H.cv_5_3, t2, hO.get0, c1]
    rw [hS, if_pos c1]
    exact ⟨rfl, hO.keep⟩
  rw [if_neg c1] at hS
  (refine W_seq_gen fun N hN => ?_); simp (disch := first | omega | (simp only [List.length_cons, List.length_nil, List.length_append, u8s_len]; omega)) only [go_sem, ↓reduceIte, true_and, Nat.reduceLeDiff, Nat.reduceEqDiff, Nat.reduceAdd, Nat.reduceBEq, Int.reduceEq, H.cv_3_5, H.cv_5_3, t2, hO.get0, c1]
  refine hN _ ?_; clear hN N
  (refine W_seq_gen fun N hN => ?_); simp (disch := first | omega | (simp only [List.length_cons, List.length_nil, List.length_append, u8s_len]; omega)) only [go_sem, ↓reduceIte, true_and, Nat.reduceLeDiff, Nat.reduceEqDiff, Nat.reduceAdd, Nat.reduceBEq, Int.reduceEq, H.cv_3_5, H.cv_5_3, t1]
  refine hN _ ?_; clear hN N
  (refine W_seq_gen fun M hM => ?_)
  simp (disch := first | omega | (simp only [List.length_cons, List.length_nil, List.length_append, u8s_len]; omega)) only [go_sem, ↓reduceIte, true_and, Nat.reduceLeDiff, Nat.reduceEqDiff, Nat.reduceAdd, Nat.reduceBEq, Int.reduceEq, H.cv_3_5, H.cv_5_3, t2, hv.same, hv.disc, hv.sl.len, hes, hO.get0]
  refine AW_loopN (fun m t h' => ∃ (i : Nat) (z : Int), m = c.l.length - i ∧ i ≤ c.l.length ∧ -1 ≤ z ∧ z < 2 ^ 60 ∧ countL (c.l.drop i) z = countS c left ∧ t 1 = .sc (.int .i64 z) ∧ t 14 = v ∧ t 15 = .sc (.int .i64 (c.l.length : Nat)) ∧ t 16 = .sc (.int .i64 (i : Nat)) ∧
      OB h [(o2, .arr [.sc (.int .i64 c.k), .sc (.int .i64 c.n), .sc (.string c.s), v])] h')
    (n := c.l.length) ⟨0, left - 1, rfl, Nat.zero_le _, by omega, by omega, hS.symm, by simp [upd_at], by simp [upd_at], by simp [upd_at], rfl, hO⟩ ?_
  clear hO t1 t2
  rintro m t h' ⟨i, z, rfl, hi, z0, z1, hz, t1, t14, t15, t16, hO⟩
  rcases Nat.lt_or_ge i c.l.length with hlt2 | hge
  · obtain ⟨e, he, hce⟩ := hl.lt hlt2
    rw [countL_drop hlt2] at hz
    have ihx := ih c.l[i] (List.getElem_mem hlt2)
    have bd := countS_bd c.l[i] z
    generalize c.l[i] = x at hce hz ihx bd
    obtain ⟨v', es', rfl, hv', hl', hf'⟩ := hce.out
    (refine W_seq_gen fun N hN => ?_); simp (disch := first | omega | (simp only [List.length_cons, List.length_nil, List.length_append, u8s_len]; omega)) only [go_sem, ↓reduceIte, true_and, Nat.reduceLeDiff, Nat.reduceEqDiff, Nat.reduceAdd, Nat.reduceBEq, Int.reduceEq, H.cv_3_5, H.cv_5_3, t15, t16, hlt2]
    refine hN _ ?_; clear hN N
    (refine W_seq_gen fun N hN => ?_); simp (disch := first | omega | (simp only [List.length_cons, List.length_nil, List.length_append, u8s_len]; omega)) only [go_sem, ↓reduceIte, true_and, Nat.reduceLeDiff, Nat.reduceEqDiff, Nat.reduceAdd, Nat.reduceBEq, Int.reduceEq, H.cv_3_5, H.cv_5_3]
    refine hN _ ?_; clear hN N
    (refine W_seq_gen fun N hN => ?_)
    rw [W_block]
    (refine W_seq_gen fun N hN => ?_); simp (disch := first | omega | (simp only [List.length_cons, List.length_nil, List.length_append, u8s_len]; omega)) only [go_sem, ↓reduceIte, true_and, Nat.reduceLeDiff, Nat.reduceEqDiff, Nat.reduceAdd, Nat.reduceBEq, Int.reduceEq, H.cv_3_5, H.cv_5_3, t14, t16, hv.same, hv.sl.ia, he, hv'.disc, hv'.same]
    intro o6 h6
    refine hN _ ?_; clear hN N; refine W_ob (hO.new h6) fun hc hO => ?_
    by_cases c2 : z < ((0 : Nat) : Int)
    · (refine W_seq_gen fun N hN => ?_); simp (disch := first | omega | (simp only [List.length_cons, List.length_nil, List.length_append, u8s_len]; omega)) only [go_sem, ↓reduceIte, true_and, Nat.reduceLeDiff, Nat.reduceEqDiff, Nat.reduceAdd, Nat.reduceBEq, Int.reduceEq, H.cv_3_5, H.cv_5_3, t1, c2]
      rw [if_pos (show z < 0 from c2)] at hz
      rw [← hz]
      exact ⟨rfl, hO.keep⟩
    rw [if_neg (show ¬ z < 0 from c2)] at hz
    have bd := bd (by omega)
    (refine W_seq_gen fun N hN => ?_); simp (disch := first | omega | (simp only [List.length_cons, List.length_nil, List.length_append, u8s_len]; omega)) only [go_sem, ↓reduceIte, true_and, Nat.reduceLeDiff, Nat.reduceEqDiff, Nat.reduceAdd, Nat.reduceBEq, Int.reduceEq, H.cv_3_5, H.cv_5_3, t1, c2]
    refine hN _ ?_; clear hN N
    simp (disch := first | omega | (simp only [List.length_cons, List.length_nil, List.length_append, u8s_len]; omega)) only [go_sem, ↓reduceIte, true_and, Nat.reduceLeDiff, Nat.reduceEqDiff, Nat.reduceAdd, Nat.reduceBEq, Int.reduceEq, H.cv_3_5, H.cv_5_3, t1, hO.get0, hv'.same, hv'.disc]
    refine (ihx _ z (by omega) z1 hce _).mono ?_
    rintro _ _ ⟨rfl, hh⟩; subst hh
    rw [contK_some]; simp (disch := first | omega | (simp only [List.length_cons, List.length_nil, List.length_append, u8s_len]; omega)) only [go_sem, ↓reduceIte, true_and, Nat.reduceLeDiff, Nat.reduceEqDiff, Nat.reduceAdd, Nat.reduceBEq, Int.reduceEq, H.cv_3_5, H.cv_5_3]
    refine hN _ ?_; clear hN N
    simp (disch := first | omega | (simp only [List.length_cons, List.length_nil, List.length_append, u8s_len]; omega)) only [go_sem, ↓reduceIte, true_and, Nat.reduceLeDiff, Nat.reduceEqDiff, Nat.reduceAdd, Nat.reduceBEq, Int.reduceEq, H.cv_3_5, H.cv_5_3, t16, nat_add]
    exact ⟨c.l.length - (i + 1), by omega, i + 1, _, rfl, by omega, bd.1, by omega, hz, rfl, t14, t15, rfl, hO.tail⟩
  obtain rfl : i = c.l.length := by omega
  (refine W_seq_gen fun N hN => ?_); simp (disch := first | omega | (simp only [List.length_cons, List.length_nil, List.length_append, u8s_len]; omega)) only [go_sem, ↓reduceIte, true_and, Nat.reduceLeDiff, Nat.reduceEqDiff, Nat.reduceAdd, Nat.reduceBEq, Int.reduceEq, H.cv_3_5, H.cv_5_3, t15, t16, Nat.lt_irrefl]
  refine hN _ ?_; clear hN N
  (refine W_seq_gen fun N hN => ?_); simp (disch := first | omega | (simp only [List.length_cons, List.length_nil, List.length_append, u8s_len]; omega)) only [go_sem, ↓reduceIte, true_and, Nat.reduceLeDiff, Nat.reduceEqDiff, Nat.reduceAdd, Nat.reduceBEq, Int.reduceEq, H.cv_3_5, H.cv_5_3]
  refine hM _ ?_; clear hN N hM M
  rw [List.drop_length, countL] at hz
  subst hz
  simp (disch := first | omega | (simp only [List.length_cons, List.length_nil, List.length_append, u8s_len]; omega)) only [go_sem, ↓reduceIte, true_and, Nat.reduceLeDiff, Nat.reduceEqDiff, Nat.reduceAdd, Nat.reduceBEq, Int.reduceEq, H.cv_3_5, H.cv_5_3, t1]
  exact hO.keep
end Go.Proofs.Ytjebhcflpibkkaa
end

section
set_option linter.unusedVariables false
set_option linter.unusedSimpArgs false
namespace Go.Proofs.Ytjebhcflpibkkaa
open Go.Am
variable {P : Program} (H : Has P)
include H
theorem size_ok (c : Cel) : ∀ (cs : List AV) (m : Int), 0 ≤ m → m < 70000 → CE cs c → ∀ h, AWF P ann 0 10 [.ag cs, .sc (.int .i64 m)] h fun r h' => r = .sc (.int .i64 (sizeS c m)) ∧ h' = h := by
  induction c using Cel.ind with
  | h c ih =>
  intro cs m h0 h1 hc h
  obtain ⟨v, es, rfl, hv, hl, hf⟩ := hc.out
  have hfl := hf.l
  have hfs := hf.s
  have hes := hl.len
  have hS : sizeS c m = if c.s.size > 70000 then 70000 else sizeL c.l (m + 1 + c.s.size) := by cases c; rw [sizeS]; rfl
  refine AWF.fnPurec H.f0_10 rfl ?_
  have hO := OB.nil (h := h)
  (refine W_seq_gen fun N hN => ?_); simp (disch := first | omega | (simp only [List.length_cons, List.length_nil, List.length_append, u8s_len]; omega)) only [go_sem, ↓reduceIte, true_and, Nat.reduceLeDiff, Nat.reduceEqDiff, Nat.reduceAdd, Nat.reduceBEq, Int.reduceEq, H.cv_3_5, H.cv_5_3, hv.disc, hv.same]
  intro o2 h2
  refine hN _ ?_; clear hN N; refine W_ob (hO.new h2) fun hc hO => ?_
  refine W_forget (fun t => t 1 = .sc (.int .i64 m) ∧ t 2 = .op o2 0 ∧ True) (by simp [upd_at, *] <;> (first | rfl | exact ⟨rfl, rfl⟩ | exact ⟨rfl, rfl, rfl⟩)) ?_; rintro t ⟨t1, t2, -⟩
  (refine W_seq_gen fun N hN => ?_); simp (disch := first | omega | (simp only [List.length_cons, List.length_nil, List.length_append, u8s_len]; omega)) only [go_sem, ↓reduceIte, true_and, Nat.reduceLeDiff, Nat.reduceEqDiff, Nat.reduceAdd, Nat.reduceBEq, Int.reduceEq, H.cv_3_5, H.cv_5_3, t1]
  refine hN _ ?_; clear hN N
  refine W_forget (fun t => t 1 = .sc (.int .i64 (m + 1)) ∧ t 2 = .op o2 0 ∧ True) (by simp [upd_at, *] <;> (first | rfl | exact ⟨rfl, rfl⟩ | exact ⟨rfl, rfl, rfl⟩)) ?_; rintro t ⟨t1, t2, -⟩
  by_cases c1 : c.s.size > 70000
  · (refine W_seq_gen fun N hN => ?_); simp (disch := first | omega | (simp only [List.length_cons, List.length_nil, List.length_append, u8s_len]; omega)) only [go_sem, ↓reduceIte, true_and, Nat.reduceLeDiff, Nat.reduceEqDiff, Nat.reduceAdd, Nat.reduceBEq, Int.reduceEq, H.cv_3_5, H.cv_5_3, t2, hO.get0, c1]
    rw [hS, if_pos c1]
    exact ⟨rfl, hO.keep⟩
  rw [if_neg c1] at hS
  (refine W_seq_gen fun N hN => ?_); simp (disch := first | omega | (simp only [List.length_cons, List.length_nil, List.length_append, u8s_len]; omega)) only [go_sem, ↓reduceIte, true_and, Nat.reduceLeDiff, Nat.reduceEqDiff, Nat.reduceAdd, Nat.reduceBEq, Int.reduceEq, H.cv_3_5, H.cv_5_3, t2, hO.get0, c1]
  refine hN _ ?_; clear hN N
  (refine W_seq_gen fun N hN => ?_); simp (disch := first | omega | (simp only [List.length_cons, List.length_nil, List.length_append, u8s_len]; omega)) only [go_sem, ↓reduceIte, true_and, Nat.reduceLeDiff, Nat.reduceEqDiff, Nat.reduceAdd, Nat.reduceBEq, Int.reduceEq, H.cv_3_5, H.cv_5_3, t1, t2, hO.get0]
  refine hN _ ?_; clear hN N
  refine W_forget (fun t => t 1 = .sc (.int .i64 (m + 1 + c.s.size)) ∧ t 2 = .op o2 0 ∧ True) (by simp [upd_at, *] <;> (first | rfl | exact ⟨rfl, rfl⟩ | exact ⟨rfl, rfl, rfl⟩)) ?_; rintro t ⟨t1, t2, -⟩
  (refine W_seq_gen fun M hM => ?_)
  (refine W_seq_gen fun N hN => ?_); simp (disch := first | omega | (simp only [List.length_cons, List.length_nil, List.length_append, u8s_len]; omega)) only [go_sem, ↓reduceIte, true_and, Nat.reduceLeDiff, Nat.reduceEqDiff, Nat.reduceAdd, Nat.reduceBEq, Int.reduceEq, H.cv_3_5, H.cv_5_3]
  refine hN _ ?_; clear hN N
  simp (disch := first | omega | (simp only [List.length_cons, List.length_nil, List.length_append, u8s_len]; omega)) only [go_sem, ↓reduceIte, true_and, Nat.reduceLeDiff, Nat.reduceEqDiff, Nat.reduceAdd, Nat.reduceBEq, Int.reduceEq, H.cv_3_5, H.cv_5_3]
  refine AW_loopN (fun m' t h' => ∃ (i : Nat) (z : Int), m' = c.l.length - i ∧ i ≤ c.l.length ∧ 0 ≤ z ∧ z ≤ 140000 ∧ sizeL (c.l.drop i) z = sizeS c m ∧ t 1 = .sc (.int .i64 z) ∧ t 2 = .op o2 0 ∧ t 5 = .sc (.int .i64 (i : Nat)) ∧
      OB h [(o2, .arr [.sc (.int .i64 c.k), .sc (.int .i64 c.n), .sc (.string c.s), v])] h')
    (n := c.l.length) ⟨0, m + 1 + c.s.size, rfl, Nat.zero_le _, by omega, by omega, hS.symm, by simp [upd_at, t1], by simp [upd_at, t2], rfl, hO⟩ ?_
  clear hO t1 t2
  rintro m' t h' ⟨i, z, rfl, hi, z0, z1, hz, t1, t2, t5, hO⟩
  have fin : ∀ t : Nat → AV, t 1 = .sc (.int .i64 z) → sizeL (c.l.drop i) z = z → M ⟨t, h'⟩ := by
    clear t1 t2 t5 t
    intro t t1 hzz
    refine hM _ ?_; clear hM M
    simp (disch := first | omega | (simp only [List.length_cons, List.length_nil, List.length_append, u8s_len]; omega)) only [go_sem, ↓reduceIte, true_and, Nat.reduceLeDiff, Nat.reduceEqDiff, Nat.reduceAdd, Nat.reduceBEq, Int.reduceEq, H.cv_3_5, H.cv_5_3, t1]
    rw [← hz, hzz]
    exact ⟨rfl, hO.keep⟩
  rcases Nat.lt_or_ge i c.l.length with hlt2 | hge
  · by_cases c2 : z < ((70000 : Nat) : Int)
    · obtain ⟨e, he, hce⟩ := hl.lt hlt2
      rw [sizeL_drop hlt2, if_pos (show z < 70000 from c2)] at hz
      have ihx := ih c.l[i] (List.getElem_mem hlt2)
      have bd := sizeS_bd c.l[i] z z0 c2
      generalize c.l[i] = x at hce hz ihx bd
      obtain ⟨v', es', rfl, hv', hl', hf'⟩ := hce.out
      (refine W_seq_gen fun N hN => ?_); simp (disch := first | omega | (simp only [List.length_cons, List.length_nil, List.length_append, u8s_len]; omega)) only [go_sem, ↓reduceIte, true_and, Nat.reduceLeDiff, Nat.reduceEqDiff, Nat.reduceAdd, Nat.reduceBEq, Int.reduceEq, H.cv_3_5, H.cv_5_3, t1, t2, t5, hlt2, hO.get0, hv.same, hv.disc, hv.sl.len, hes, c2]
      refine hN _ ?_; clear hN N
      (refine W_seq_gen fun N hN => ?_)
      rw [W_block]
      simp (disch := first | omega | (simp only [List.length_cons, List.length_nil, List.length_append, u8s_len]; omega)) only [go_sem, ↓reduceIte, true_and, Nat.reduceLeDiff, Nat.reduceEqDiff, Nat.reduceAdd, Nat.reduceBEq, Int.reduceEq, H.cv_3_5, H.cv_5_3, t1, t2, t5, hO.get0, hv.same, hv.disc, hv.sl.ia, he, hv'.disc, hv'.same]
      refine (ihx _ z z0 c2 hce _).mono ?_
      rintro _ _ ⟨rfl, hh⟩; subst hh
      rw [contK_some]; simp (disch := first | omega | (simp only [List.length_cons, List.length_nil, List.length_append, u8s_len]; omega)) only [go_sem, ↓reduceIte, true_and, Nat.reduceLeDiff, Nat.reduceEqDiff, Nat.reduceAdd, Nat.reduceBEq, Int.reduceEq, H.cv_3_5, H.cv_5_3]
      refine hN _ ?_; clear hN N
      simp (disch := first | omega | (simp only [List.length_cons, List.length_nil, List.length_append, u8s_len]; omega)) only [go_sem, ↓reduceIte, true_and, Nat.reduceLeDiff, Nat.reduceEqDiff, Nat.reduceAdd, Nat.reduceBEq, Int.reduceEq, H.cv_3_5, H.cv_5_3, t5, nat_add]
      exact ⟨c.l.length - (i + 1), by omega, i + 1, _, rfl, by omega, bd.1, bd.2, hz, rfl, t2, rfl, hO⟩
    · (refine W_seq_gen fun N hN => ?_); simp (disch := first | omega | (simp only [List.length_cons, List.length_nil, List.length_append, u8s_len]; omega)) only [go_sem, ↓reduceIte, true_and, Nat.reduceLeDiff, Nat.reduceEqDiff, Nat.reduceAdd, Nat.reduceBEq, Int.reduceEq, H.cv_3_5, H.cv_5_3, t1, t2, t5, hlt2, hO.get0, hv.same, hv.disc, hv.sl.len, hes, c2]
      refine fin _ ?_ (sizeL_big c2)
      simpa [upd_at] using t1
  obtain rfl : i = c.l.length := by omega
  (refine W_seq_gen fun N hN => ?_); simp (disch := first | omega | (simp only [List.length_cons, List.length_nil, List.length_append, u8s_len]; omega)) only [go_sem, ↓reduceIte, true_and, Nat.reduceLeDiff, Nat.reduceEqDiff, Nat.reduceAdd, Nat.reduceBEq, Int.reduceEq, H.cv_3_5, H.cv_5_3, t2, t5, hO.get0, hv.same, hv.disc, hv.sl.len, hes, Nat.lt_irrefl]
  refine fin _ ?_ (by rw [List.drop_length, sizeL])
  simpa [upd_at] using t1
theorem same_ok (c : Cel) : ∀ (c' : Cel) (cs cs' : List AV), CE cs c → CE cs' c' → ∀ h, AWF P ann 0 12 [.ag cs, .ag cs'] h fun r h' => r = .sc (.bool (sameS c c')) ∧ h' = h := by
  induction c using Cel.ind with
  | h c ih =>
  intro c' cs cs' hc hc' h
  obtain ⟨v, es, rfl, hv, hl, hf⟩ := hc.out
  obtain ⟨v', es', rfl, hv', hl', hf'⟩ := hc'.out
  have hfl := hf.l
  have hfl' := hf'.l
  have hes := hl.len
  have hes' := hl'.len
  have hS := sameS_eq c c'
  refine AWF.fnPurec H.f0_12 rfl ?_
  have hO := OB.nil (h := h)
  (refine W_seq_gen fun N hN => ?_); simp (disch := first | omega | (simp only [List.length_cons, List.length_nil, List.length_append, u8s_len]; omega)) only [go_sem, ↓reduceIte, true_and, Nat.reduceLeDiff, Nat.reduceEqDiff, Nat.reduceAdd, Nat.reduceBEq, Int.reduceEq, H.cv_3_5, H.cv_5_3, hv.disc, hv.same, hv'.disc, hv'.same]
  intro o2 h2 o3 h3
  refine hN _ ?_; clear hN N; refine W_ob ((hO.new h2).new h3) fun hc hO => ?_
  refine W_forget (fun t => t 2 = .op o2 0 ∧ t 3 = .op o3 0 ∧ True) (by simp [upd_at, *] <;> (first | rfl | exact ⟨rfl, rfl⟩ | exact ⟨rfl, rfl, rfl⟩)) ?_; rintro t ⟨t2, t3, -⟩
  by_cases c1 : c.k = c'.k
  case neg =>
    have q1 : (c.k != c'.k) = true := by simpa using c1
    (refine W_seq_gen fun N hN => ?_); simp (disch := first | omega | (simp only [List.length_cons, List.length_nil, List.length_append, u8s_len]; omega)) only [go_sem, ↓reduceIte, true_and, Nat.reduceLeDiff, Nat.reduceEqDiff, Nat.reduceAdd, Nat.reduceBEq, Int.reduceEq, H.cv_3_5, H.cv_5_3, t2, t3, hO.get0, hO.get1, q1]
    rw [hS, decide_eq_false c1]
    exact ⟨rfl, hO.keep⟩
  have q1 : (c.k != c'.k) = false := by simpa using c1
  by_cases c2 : c.n = c'.n
  case neg =>
    have q2 : (c.n != c'.n) = true := by simpa using c2
    (refine W_seq_gen fun N hN => ?_); simp (disch := first | omega | (simp only [List.length_cons, List.length_nil, List.length_append, u8s_len]; omega)) only [go_sem, ↓reduceIte, true_and, Nat.reduceLeDiff, Nat.reduceEqDiff, Nat.reduceAdd, Nat.reduceBEq, Int.reduceEq, H.cv_3_5, H.cv_5_3, t2, t3, hO.get0, hO.get1, q1, q2]
    rw [hS, decide_eq_false c2, Bool.and_false]
    exact ⟨rfl, hO.keep⟩
  have q2 : (c.n != c'.n) = false := by simpa using c2
  by_cases c3 : c.s = c'.s
  case neg =>
    have q3 : (!decide (c.s = c'.s)) = true := by simp [c3]
    (refine W_seq_gen fun N hN => ?_); simp (disch := first | omega | (simp only [List.length_cons, List.length_nil, List.length_append, u8s_len]; omega)) only [go_sem, ↓reduceIte, true_and, Nat.reduceLeDiff, Nat.reduceEqDiff, Nat.reduceAdd, Nat.reduceBEq, Int.reduceEq, H.cv_3_5, H.cv_5_3, t2, t3, hO.get0, hO.get1, q1, q2, q3]
    rw [hS, decide_eq_false c3, Bool.and_false]
    exact ⟨rfl, hO.keep⟩
  have q3 : (!decide (c.s = c'.s)) = false := by simp [c3]
  by_cases c4 : c.l.length = c'.l.length
  case neg =>
    have q4 : (((c.l.length : Nat) : Int) != ((c'.l.length : Nat) : Int)) = true := by simp; omega
    (refine W_seq_gen fun N hN => ?_); simp (disch := first | omega | (simp only [List.length_cons, List.length_nil, List.length_append, u8s_len]; omega)) only [go_sem, ↓reduceIte, true_and, Nat.reduceLeDiff, Nat.reduceEqDiff, Nat.reduceAdd, Nat.reduceBEq, Int.reduceEq, H.cv_3_5, H.cv_5_3, t2, t3, hO.get0, hO.get1, q1, q2, q3, hv.same, hv.disc, hv.sl.len, hes, hv'.same, hv'.disc, hv'.sl.len, hes', q4]
    have : sameL c.l c'.l = false := by
      cases hh : sameL c.l c'.l
      · rfl
      · exact absurd (sameL_len hh) c4
    rw [hS, this, Bool.and_false]
    exact ⟨rfl, hO.keep⟩
  have q4 : (((c.l.length : Nat) : Int) != ((c'.l.length : Nat) : Int)) = false := by simp; omega
  (refine W_seq_gen fun N hN => ?_); simp (disch := first | omega | (simp only [List.length_cons, List.length_nil, List.length_append, u8s_len]; omega)) only [go_sem, ↓reduceIte, true_and, Nat.reduceLeDiff, Nat.reduceEqDiff, Nat.reduceAdd, Nat.reduceBEq, Int.reduceEq, H.cv_3_5, H.cv_5_3, t2, t3, hO.get0, hO.get1, q1, q2, q3, hv.same, hv.disc, hv.sl.len, hes, hv'.same, hv'.disc, hv'.sl.len, hes', q4]
  refine hN _ ?_; clear hN N
  clear q1 q2 q3 q4
  refine W_forget (fun t => t 2 = .op o2 0 ∧ t 3 = .op o3 0 ∧ True) (by simp [upd_at, *] <;> (first | rfl | exact ⟨rfl, rfl⟩ | exact ⟨rfl, rfl, rfl⟩)) ?_; rintro t ⟨t2, t3, -⟩
  rw [decide_eq_true c1, decide_eq_true c2, decide_eq_true c3, Bool.and_true, Bool.and_true, Bool.true_and] at hS
  (refine W_seq_gen fun M hM => ?_)
  (refine W_seq_gen fun N hN => ?_); simp (disch := first | omega | (simp only [List.length_cons, List.length_nil, List.length_append, u8s_len]; omega)) only [go_sem, ↓reduceIte, true_and, Nat.reduceLeDiff, Nat.reduceEqDiff, Nat.reduceAdd, Nat.reduceBEq, Int.reduceEq, H.cv_3_5, H.cv_5_3]
  refine hN _ ?_; clear hN N
  simp (disch := first | omega | (simp only [List.length_cons, List.length_nil, List.length_append, u8s_len]; omega)) only [go_sem, ↓reduceIte, true_and, Nat.reduceLeDiff, Nat.reduceEqDiff, Nat.reduceAdd, Nat.reduceBEq, Int.reduceEq, H.cv_3_5, H.cv_5_3]
  refine AW_loopN (fun m' t h' => ∃ (i : Nat), m' = c.l.length - i ∧ i ≤ c.l.length ∧ sameL (c.l.drop i) (c'.l.drop i) = sameS c c' ∧ t 2 = .op o2 0 ∧ t 3 = .op o3 0 ∧ t 5 = .sc (.int .i64 (i : Nat)) ∧
      OB h [(o3, .arr [.sc (.int .i64 c'.k), .sc (.int .i64 c'.n), .sc (.string c'.s), v']), (o2, .arr [.sc (.int .i64 c.k), .sc (.int .i64 c.n), .sc (.string c.s), v])] h')
    (n := c.l.length) ⟨0, rfl, Nat.zero_le _, hS.symm, by simp [upd_at, t2], by simp [upd_at, t3], rfl, hO⟩ ?_
  clear hO t2 t3
  rintro m' t h' ⟨i, rfl, hi, hz, t2, t3, t5, hO⟩
  rcases Nat.lt_or_ge i c.l.length with hlt2 | hge
  · obtain ⟨e, he, hce⟩ := hl.lt hlt2
    obtain ⟨e', he', hce'⟩ := hl'.lt (show i < c'.l.length by omega)
    rw [sameL_drop hlt2 (show i < c'.l.length by omega)] at hz
    have ihx := ih c.l[i] (List.getElem_mem hlt2) (c'.l[i]'(by omega)) _ _ hce hce'
    obtain ⟨w, ws, rfl, hw, _, _⟩ := hce.out
    obtain ⟨w', ws', rfl, hw', _, _⟩ := hce'.out
    generalize sameS c.l[i] (c'.l[i]'(by omega)) = q at ihx hz
    (refine W_seq_gen fun N hN => ?_); simp (disch := first | omega | (simp only [List.length_cons, List.length_nil, List.length_append, u8s_len]; omega)) only [go_sem, ↓reduceIte, true_and, Nat.reduceLeDiff, Nat.reduceEqDiff, Nat.reduceAdd, Nat.reduceBEq, Int.reduceEq, H.cv_3_5, H.cv_5_3, t2, t5, hlt2, hO.get1, hv.same, hv.disc, hv.sl.len, hes]
    refine hN _ ?_; clear hN N
    (refine W_seq_gen fun N hN => ?_)
    rw [W_block]
    simp (disch := first | omega | (simp only [List.length_cons, List.length_nil, List.length_append, u8s_len]; omega)) only [go_sem, ↓reduceIte, true_and, Nat.reduceLeDiff, Nat.reduceEqDiff, Nat.reduceAdd, Nat.reduceBEq, Int.reduceEq, H.cv_3_5, H.cv_5_3, t2, t3, t5, hO.get0, hO.get1, hv.same, hv.disc, hv.sl.ia, he, hw.disc, hw.same, hv'.same, hv'.disc, hv'.sl.ia, he', hw'.disc, hw'.same]
    refine ⟨_, ihx _, ?_⟩
    cases q with
    | false =>
      rw [contK_some]; simp (disch := first | omega | (simp only [List.length_cons, List.length_nil, List.length_append, u8s_len]; omega)) only [go_sem, ↓reduceIte, true_and, Nat.reduceLeDiff, Nat.reduceEqDiff, Nat.reduceAdd, Nat.reduceBEq, Int.reduceEq, H.cv_3_5, H.cv_5_3]
      rw [Bool.false_and] at hz
      rw [← hz]
      exact ⟨rfl, hO.keep⟩
    | true =>
      rw [Bool.true_and] at hz
      rw [contK_some]; simp (disch := first | omega | (simp only [List.length_cons, List.length_nil, List.length_append, u8s_len]; omega)) only [go_sem, ↓reduceIte, true_and, Nat.reduceLeDiff, Nat.reduceEqDiff, Nat.reduceAdd, Nat.reduceBEq, Int.reduceEq, H.cv_3_5, H.cv_5_3]
      refine hN _ ?_; clear hN N
      simp (disch := first | omega | (simp only [List.length_cons, List.length_nil, List.length_append, u8s_len]; omega)) only [go_sem, ↓reduceIte, true_and, Nat.reduceLeDiff, Nat.reduceEqDiff, Nat.reduceAdd, Nat.reduceBEq, Int.reduceEq, H.cv_3_5, H.cv_5_3, t5, nat_add]
      exact ⟨c.l.length - (i + 1), by omega, i + 1, rfl, by omega, hz, t2, t3, rfl, hO⟩
  obtain rfl : i = c.l.length := by omega
  (refine W_seq_gen fun N hN => ?_); simp (disch := first | omega | (simp only [List.length_cons, List.length_nil, List.length_append, u8s_len]; omega)) only [go_sem, ↓reduceIte, true_and, Nat.reduceLeDiff, Nat.reduceEqDiff, Nat.reduceAdd, Nat.reduceBEq, Int.reduceEq, H.cv_3_5, H.cv_5_3, t2, t5, hO.get1, hv.same, hv.disc, hv.sl.len, hes, Nat.lt_irrefl]
  refine hM _ ?_; clear hN N hM M
  rw [List.drop_length, c4, List.drop_length, sameL] at hz
  rw [← hz]
  simp (disch := first | omega | (simp only [List.length_cons, List.length_nil, List.length_append, u8s_len]; omega)) only [go_sem, ↓reduceIte, true_and, Nat.reduceLeDiff, Nat.reduceEqDiff, Nat.reduceAdd, Nat.reduceBEq, Int.reduceEq, H.cv_3_5, H.cv_5_3]
  exact hO.keep
end Go.Proofs.Ytjebhcflpibkkaa
end

section
set_option linter.unusedVariables false
set_option linter.unusedSimpArgs false
namespace Go.Proofs.Ytjebhcflpibkkaa
open Go.Am
theorem pureL_false {l : List Cel} : ∀ {i : Nat} (h : i < l.length), pureS l[i] = false → pureL l = false := by
  induction l with
  | nil => intro i h; simp at h
  | cons x l ih =>
    intro i h hp
    rw [pureL]
    cases i with
    | zero => rw [show pureS x = false from hp]; rfl
    | succ i => rw [ih (by simpa using h) hp, Bool.and_false]
variable {P : Program} (H : Has P)
include H
theorem clo_ok {cs : List AV} {b : Bool} (hq : ∀ h, AWF P ann 0 26 [.ag cs] h fun r h' => r = .sc (.bool b) ∧ h' = h) {c : Cel} (hce : CE cs c) (h : Heap) : AWF P ann 0 35 [.ag cs] h fun r h' => r = .sc (.bool !b) ∧ h' = h := by
  obtain ⟨v, es, rfl, hv, hl, hf⟩ := hce.out
  refine AWF.fnPurec H.f0_35 rfl ?_
  have hO := OB.nil (h := h)
  (refine W_seq_gen fun N hN => ?_); simp (disch := first | omega | (simp only [List.length_cons, List.length_nil, List.length_append, u8s_len]; omega)) only [go_sem, ↓reduceIte, true_and, Nat.reduceLeDiff, Nat.reduceEqDiff, Nat.reduceAdd, Nat.reduceBEq, Int.reduceEq, H.cv_3_5, H.cv_5_3, hv.disc, hv.same]
  intro o1 h1
  refine hN _ ?_; clear hN N; refine W_ob (hO.new h1) fun hc hO => ?_
  simp (disch := first | omega | (simp only [List.length_cons, List.length_nil, List.length_append, u8s_len]; omega)) only [go_sem, ↓reduceIte, true_and, Nat.reduceLeDiff, Nat.reduceEqDiff, Nat.reduceAdd, Nat.reduceBEq, Int.reduceEq, H.cv_3_5, H.cv_5_3, hO.get0, hv.disc, hv.same]
  refine (hq _).mono ?_
  rintro _ _ ⟨rfl, hh⟩; subst hh
  rw [contK_some]; simp (disch := first | omega | (simp only [List.length_cons, List.length_nil, List.length_append, u8s_len]; omega)) only [go_sem, ↓reduceIte, true_and, Nat.reduceLeDiff, Nat.reduceEqDiff, Nat.reduceAdd, Nat.reduceBEq, Int.reduceEq, H.cv_3_5, H.cv_5_3]
  exact hO.keep
theorem idx_ok {v : AV} {es : List (List AV)} {l : List Cel} (hv : SF 4 v es) (hl : RR CE es l) (hlen : l.length < 2 ^ 42) (hp : ∀ x ∈ l, ∀ cs, CE cs x → ∀ h, AWF P ann 0 26 [.ag cs] h fun r h' => r = .sc (.bool (pureS x)) ∧ h' = h) (h : Heap) :
    AWF P ann 0 36 [v, .fn 35 [] []] h fun r h' => (∃ z : Int, r = .sc (.int .i64 z) ∧ decide (z ≥ ((0 : Nat) : Int)) = !pureL l) ∧ h' = h := by
  have hes := hl.len
  refine AWF.fnc H.f0_36 rfl ?_
  (refine W_seq_gen fun N hN => ?_); simp (disch := first | omega | (simp only [List.length_cons, List.length_nil, List.length_append, u8s_len]; omega)) only [go_sem, ↓reduceIte, true_and, Nat.reduceLeDiff, Nat.reduceEqDiff, Nat.reduceAdd, Nat.reduceBEq, Int.reduceEq, H.cv_3_5, H.cv_5_3]
  refine hN _ ?_; clear hN N
  (refine W_seq_gen fun M hM => ?_)
  simp (disch := first | omega | (simp only [List.length_cons, List.length_nil, List.length_append, u8s_len]; omega)) only [go_sem, ↓reduceIte, true_and, Nat.reduceLeDiff, Nat.reduceEqDiff, Nat.reduceAdd, Nat.reduceBEq, Int.reduceEq, H.cv_3_5, H.cv_5_3, hv.same, hv.disc, hv.sl.len, hes]
  refine AW_loopN (fun m t h' => h' = h ∧ ∃ i, m = l.length - i ∧ i ≤ l.length ∧ pureL (l.drop i) = pureL l ∧ t 0 = v ∧ t 1 = .fn 35 [] [] ∧ t 7 = .sc (.int .i64 (l.length : Nat)) ∧ t 8 = .sc (.int .i64 (i : Nat)))
    (n := l.length) ⟨rfl, 0, rfl, Nat.zero_le _, rfl, by simp [upd_at] <;> rfl, by simp [upd_at] <;> rfl, by simp [upd_at], rfl⟩ ?_
  rintro m t h' ⟨rfl, i, rfl, hi, hz, t0, t1, t7, t8⟩
  rcases Nat.lt_or_ge i l.length with hlt2 | hge
  · obtain ⟨e, he, hce⟩ := hl.lt hlt2
    rw [pureL_drop hlt2] at hz
    have hq := hp l[i] (List.getElem_mem hlt2) e hce
    generalize l[i] = x at hz hq hce
    obtain ⟨w, ws, rfl, hw, _, _⟩ := id hce.out
    (refine W_seq_gen fun N hN => ?_); simp (disch := first | omega | (simp only [List.length_cons, List.length_nil, List.length_append, u8s_len]; omega)) only [go_sem, ↓reduceIte, true_and, Nat.reduceLeDiff, Nat.reduceEqDiff, Nat.reduceAdd, Nat.reduceBEq, Int.reduceEq, H.cv_3_5, H.cv_5_3, t7, t8, hlt2]
    refine hN _ ?_; clear hN N
    (refine W_seq_gen fun N hN => ?_); simp (disch := first | omega | (simp only [List.length_cons, List.length_nil, List.length_append, u8s_len]; omega)) only [go_sem, ↓reduceIte, true_and, Nat.reduceLeDiff, Nat.reduceEqDiff, Nat.reduceAdd, Nat.reduceBEq, Int.reduceEq, H.cv_3_5, H.cv_5_3]
    refine hN _ ?_; clear hN N
    (refine W_seq_gen fun N hN => ?_)
    rw [W_block]
    (refine W_seq_gen fun N hN => ?_); simp (disch := first | omega | (simp only [List.length_cons, List.length_nil, List.length_append, u8s_len]; omega)) only [go_sem, ↓reduceIte, true_and, Nat.reduceLeDiff, Nat.reduceEqDiff, Nat.reduceAdd, Nat.reduceBEq, Int.reduceEq, H.cv_3_5, H.cv_5_3, t8]
    refine hN _ ?_; clear hN N
    simp (disch := first | omega | (simp only [List.length_cons, List.length_nil, List.length_append, u8s_len]; omega)) only [go_sem, ↓reduceIte, true_and, Nat.reduceLeDiff, Nat.reduceEqDiff, Nat.reduceAdd, Nat.reduceBEq, Int.reduceEq, H.cv_3_5, H.cv_5_3, t0, t1, hv.same, hv.disc, hv.sl.ia, he, hw.disc, hw.same]
    refine (clo_ok H hq hce _).mono ?_
    rintro _ _ ⟨rfl, hh⟩; subst hh
    cases hb : pureS x with
    | false =>
      rw [contK_some]; simp (disch := first | omega | (simp only [List.length_cons, List.length_nil, List.length_append, u8s_len]; omega)) only [go_sem, ↓reduceIte, true_and, Nat.reduceLeDiff, Nat.reduceEqDiff, Nat.reduceAdd, Nat.reduceBEq, Int.reduceEq, H.cv_3_5, H.cv_5_3]
      rw [hb, Bool.false_and] at hz
      exact ⟨_, rfl, by rw [← hz]; simp⟩
    | true =>
      rw [contK_some]; simp (disch := first | omega | (simp only [List.length_cons, List.length_nil, List.length_append, u8s_len]; omega)) only [go_sem, ↓reduceIte, true_and, Nat.reduceLeDiff, Nat.reduceEqDiff, Nat.reduceAdd, Nat.reduceBEq, Int.reduceEq, H.cv_3_5, H.cv_5_3]
      refine hN _ ?_; clear hN N
      simp (disch := first | omega | (simp only [List.length_cons, List.length_nil, List.length_append, u8s_len]; omega)) only [go_sem, ↓reduceIte, true_and, Nat.reduceLeDiff, Nat.reduceEqDiff, Nat.reduceAdd, Nat.reduceBEq, Int.reduceEq, H.cv_3_5, H.cv_5_3, t8, nat_add]
      rw [hb, Bool.true_and] at hz
      exact ⟨l.length - (i + 1), by omega, i + 1, rfl, by omega, hz, t0, t1, t7, rfl⟩
  obtain rfl : i = l.length := by omega
  (refine W_seq_gen fun N hN => ?_); simp (disch := first | omega | (simp only [List.length_cons, List.length_nil, List.length_append, u8s_len]; omega)) only [go_sem, ↓reduceIte, true_and, Nat.reduceLeDiff, Nat.reduceEqDiff, Nat.reduceAdd, Nat.reduceBEq, Int.reduceEq, H.cv_3_5, H.cv_5_3, t7, t8, Nat.lt_irrefl]
  refine hN _ ?_; clear hN N
  (refine W_seq_gen fun N hN => ?_); simp (disch := first | omega | (simp only [List.length_cons, List.length_nil, List.length_append, u8s_len]; omega)) only [go_sem, ↓reduceIte, true_and, Nat.reduceLeDiff, Nat.reduceEqDiff, Nat.reduceAdd, Nat.reduceBEq, Int.reduceEq, H.cv_3_5, H.cv_5_3]
  refine hM _ ?_; clear hN N hM M
  simp (disch := first | omega | (simp only [List.length_cons, List.length_nil, List.length_append, u8s_len]; omega)) only [go_sem, ↓reduceIte, true_and, Nat.reduceLeDiff, Nat.reduceEqDiff, Nat.reduceAdd, Nat.reduceBEq, Int.reduceEq, H.cv_3_5, H.cv_5_3]
  rw [List.drop_length, pureL] at hz
  rw [← hz]
  exact ⟨_, rfl, by decide⟩
theorem any_ok {v : AV} {es : List (List AV)} {l : List Cel} (hv : SF 4 v es) (hl : RR CE es l) (hlen : l.length < 2 ^ 42) (hp : ∀ x ∈ l, ∀ cs, CE cs x → ∀ h, AWF P ann 0 26 [.ag cs] h fun r h' => r = .sc (.bool (pureS x)) ∧ h' = h) (h : Heap) :
    AWF P ann 0 34 [v, .fn 35 [] []] h fun r h' => r = .sc (.bool (!pureL l)) ∧ h' = h := by
  refine AWF.fnc H.f0_34 rfl ?_
  simp (disch := first | omega | (simp only [List.length_cons, List.length_nil, List.length_append, u8s_len]; omega)) only [go_sem, ↓reduceIte, true_and, Nat.reduceLeDiff, Nat.reduceEqDiff, Nat.reduceAdd, Nat.reduceBEq, Int.reduceEq, H.cv_3_5, H.cv_5_3, hv.same, hv.disc]
  refine (idx_ok H hv hl hlen hp _).mono ?_
  rintro _ _ ⟨⟨z, rfl, hz⟩, hh⟩; subst hh
  rw [contK_some]; simp (disch := first | omega | (simp only [List.length_cons, List.length_nil, List.length_append, u8s_len]; omega)) only [go_sem, ↓reduceIte, true_and, Nat.reduceLeDiff, Nat.reduceEqDiff, Nat.reduceAdd, Nat.reduceBEq, Int.reduceEq, H.cv_3_5, H.cv_5_3, hz]
theorem pure_ok (c : Cel) : ∀ (cs : List AV), CE cs c → ∀ h, AWF P ann 0 26 [.ag cs] h fun r h' => r = .sc (.bool (pureS c)) ∧ h' = h := by
  induction c using Cel.ind with
  | h c ih =>
  intro cs hc h
  obtain ⟨v, es, rfl, hv, hl, hf⟩ := hc.out
  have hfl := hf.l
  have hes := hl.len
  have hS : pureS c = if c.k = 1 then decide (c.n ≥ -9007199254740992) && decide (c.n ≤ 9007199254740992) && decide (c.s = ByteArray.empty) && decide (c.l.length = 0)
    else if c.k = 2 then decide (c.n = 0) && decide (c.l.length = 0)
    else if c.k = 3 then decide (c.n = 0) && decide (c.s = ByteArray.empty) && pureL c.l
    else false := by cases c; rw [pureS]; rfl
  have he : ByteArray.empty = ⟨#[]⟩ := rfl
  rw [he] at hS
  refine AWF.fnPurec H.f0_26 rfl ?_
  have hO := OB.nil (h := h)
  (refine W_seq_gen fun N hN => ?_); simp (disch := first | omega | (simp only [List.length_cons, List.length_nil, List.length_append, u8s_len]; omega)) only [go_sem, ↓reduceIte, true_and, Nat.reduceLeDiff, Nat.reduceEqDiff, Nat.reduceAdd, Nat.reduceBEq, Int.reduceEq, H.cv_3_5, H.cv_5_3, hv.disc, hv.same]
  intro o1 h1
  refine hN _ ?_; clear hN N; refine W_ob (hO.new h1) fun hc hO => ?_
  refine W_forget (fun t => t 1 = .op o1 0 ∧ t 2 = .sc (.bool false) ∧ True) (by simp [upd_at, *] <;> (first | rfl | exact ⟨rfl, rfl⟩ | exact ⟨rfl, rfl, rfl⟩)) ?_; rintro t ⟨t1, t2, -⟩
  (refine W_seq_gen fun M hM => ?_)
  (refine W_seq_gen fun N hN => ?_); simp (disch := first | omega | (simp only [List.length_cons, List.length_nil, List.length_append, u8s_len]; omega)) only [go_sem, ↓reduceIte, true_and, Nat.reduceLeDiff, Nat.reduceEqDiff, Nat.reduceAdd, Nat.reduceBEq, Int.reduceEq, H.cv_3_5, H.cv_5_3, t1, hO.get0]
  refine hN _ ?_; clear hN N
  refine W_forget (fun t => t 1 = .op o1 0 ∧ t 2 = .sc (.bool false) ∧ t 4 = .sc (.int .i64 c.k) ∧ True) (by simp [upd_at, *] <;> (first | rfl | exact ⟨rfl, rfl⟩ | exact ⟨rfl, rfl, rfl⟩)) ?_; rintro t ⟨t1, t2, t4, -⟩
  have L0 : ((c.l.length : Nat) : Int) = ((0 : Nat) : Int) ↔ c.l.length = 0 := by omega
  by_cases k1 : c.k = 1
  · have q1 : (c.k == ((1 : Nat) : Int)) = true := by simpa using k1
    rw [if_pos k1] at hS
    rw [W_block]
    (refine W_seq_gen fun N hN => ?_); simp (disch := first | omega | (simp only [List.length_cons, List.length_nil, List.length_append, u8s_len]; omega)) only [go_sem, ↓reduceIte, true_and, Nat.reduceLeDiff, Nat.reduceEqDiff, Nat.reduceAdd, Nat.reduceBEq, Int.reduceEq, H.cv_3_5, H.cv_5_3, t1, t4, q1]
    refine hN _ ?_; clear hN N
    by_cases a1 : c.n ≥ -9007199254740992
    case neg =>
      simp (disch := first | omega | (simp only [List.length_cons, List.length_nil, List.length_append, u8s_len]; omega)) only [go_sem, ↓reduceIte, true_and, Nat.reduceLeDiff, Nat.reduceEqDiff, Nat.reduceAdd, Nat.reduceBEq, Int.reduceEq, H.cv_3_5, H.cv_5_3, t1, hO.get0, a1]
      exact ⟨by rw [hS, decide_eq_false a1]; rfl, hO.keep⟩
    by_cases a2 : c.n ≤ ((9007199254740992 : Nat) : Int)
    case neg =>
      simp (disch := first | omega | (simp only [List.length_cons, List.length_nil, List.length_append, u8s_len]; omega)) only [go_sem, ↓reduceIte, true_and, Nat.reduceLeDiff, Nat.reduceEqDiff, Nat.reduceAdd, Nat.reduceBEq, Int.reduceEq, H.cv_3_5, H.cv_5_3, t1, hO.get0, a1, a2]
      exact ⟨by rw [hS, decide_eq_false (show ¬ c.n ≤ 9007199254740992 from a2), Bool.and_false]; rfl, hO.keep⟩
    have a2' : c.n ≤ 9007199254740992 := a2
    by_cases a3 : c.s = ⟨#[]⟩
    case neg =>
      have a3' := decide_eq_false a3
      simp (disch := first | omega | (simp only [List.length_cons, List.length_nil, List.length_append, u8s_len]; omega)) only [go_sem, ↓reduceIte, true_and, Nat.reduceLeDiff, Nat.reduceEqDiff, Nat.reduceAdd, Nat.reduceBEq, Int.reduceEq, H.cv_3_5, H.cv_5_3, t1, hO.get0, a1, a2, a3']
      exact ⟨by rw [hS, decide_eq_false a3, Bool.and_false]; rfl, hO.keep⟩
    have a3' := decide_eq_true a3
    by_cases a4 : c.l.length = 0
    case neg =>
      have a4' : (((c.l.length : Nat) : Int) == ((0 : Nat) : Int)) = false := by rw [beq_eq_false_iff_ne]; omega
      simp (disch := first | omega | (simp only [List.length_cons, List.length_nil, List.length_append, u8s_len]; omega)) only [go_sem, ↓reduceIte, true_and, Nat.reduceLeDiff, Nat.reduceEqDiff, Nat.reduceAdd, Nat.reduceBEq, Int.reduceEq, H.cv_3_5, H.cv_5_3, t1, hO.get0, a1, a2, a3', hv.disc, hv.same, hv.sl.len, hes, a4']
      exact ⟨by rw [hS, decide_eq_false a4, Bool.and_false], hO.keep⟩
    have a4' : (((c.l.length : Nat) : Int) == ((0 : Nat) : Int)) = true := by rw [beq_iff_eq]; omega
    simp (disch := first | omega | (simp only [List.length_cons, List.length_nil, List.length_append, u8s_len]; omega)) only [go_sem, ↓reduceIte, true_and, Nat.reduceLeDiff, Nat.reduceEqDiff, Nat.reduceAdd, Nat.reduceBEq, Int.reduceEq, H.cv_3_5, H.cv_5_3, t1, hO.get0, a1, a2, a3', hv.disc, hv.same, hv.sl.len, hes, a4']
    exact ⟨by rw [hS, decide_eq_true a1, decide_eq_true a2', decide_eq_true a3, decide_eq_true a4]; rfl, hO.keep⟩
  have q1 : (c.k == ((1 : Nat) : Int)) = false := by simpa using k1
  rw [if_neg k1] at hS
  by_cases k2 : c.k = 2
  · have q2 : (c.k == ((2 : Nat) : Int)) = true := by simpa using k2
    rw [if_pos k2] at hS
    rw [W_block]
    (refine W_seq_gen fun N hN => ?_); simp (disch := first | omega | (simp only [List.length_cons, List.length_nil, List.length_append, u8s_len]; omega)) only [go_sem, ↓reduceIte, true_and, Nat.reduceLeDiff, Nat.reduceEqDiff, Nat.reduceAdd, Nat.reduceBEq, Int.reduceEq, H.cv_3_5, H.cv_5_3, t1, t4, q1]
    refine hN _ ?_; clear hN N
    by_cases a1 : c.n = 0
    case neg =>
      have a1' : (c.n == ((0 : Nat) : Int)) = false := by simpa using a1
      simp (disch := first | omega | (simp only [List.length_cons, List.length_nil, List.length_append, u8s_len]; omega)) only [go_sem, ↓reduceIte, true_and, Nat.reduceLeDiff, Nat.reduceEqDiff, Nat.reduceAdd, Nat.reduceBEq, Int.reduceEq, H.cv_3_5, H.cv_5_3, t1, t4, q2, hO.get0, a1']
      exact ⟨by rw [hS, decide_eq_false a1]; rfl, hO.keep⟩
    have a1' : (c.n == ((0 : Nat) : Int)) = true := by simpa using a1
    by_cases a4 : c.l.length = 0
    case neg =>
      have a4' : (((c.l.length : Nat) : Int) == ((0 : Nat) : Int)) = false := by rw [beq_eq_false_iff_ne]; omega
      simp (disch := first | omega | (simp only [List.length_cons, List.length_nil, List.length_append, u8s_len]; omega)) only [go_sem, ↓reduceIte, true_and, Nat.reduceLeDiff, Nat.reduceEqDiff, Nat.reduceAdd, Nat.reduceBEq, Int.reduceEq, H.cv_3_5, H.cv_5_3, t1, t4, q2, hO.get0, a1', hv.disc, hv.same, hv.sl.len, hes, a4']
      exact ⟨by rw [hS, decide_eq_false a4, Bool.and_false], hO.keep⟩
    have a4' : (((c.l.length : Nat) : Int) == ((0 : Nat) : Int)) = true := by rw [beq_iff_eq]; omega
    simp (disch := first | omega | (simp only [List.length_cons, List.length_nil, List.length_append, u8s_len]; omega)) only [go_sem, ↓reduceIte, true_and, Nat.reduceLeDiff, Nat.reduceEqDiff, Nat.reduceAdd, Nat.reduceBEq, Int.reduceEq, H.cv_3_5, H.cv_5_3, t1, t4, q2, hO.get0, a1', hv.disc, hv.same, hv.sl.len, hes, a4']
    exact ⟨by rw [hS, decide_eq_true a1, decide_eq_true a4]; rfl, hO.keep⟩
  have q2 : (c.k == ((2 : Nat) : Int)) = false := by simpa using k2
  rw [if_neg k2] at hS
  by_cases k3 : c.k = 3
  · have q3 : (c.k == ((3 : Nat) : Int)) = true := by simpa using k3
    rw [if_pos k3] at hS
    rw [W_block]
    (refine W_seq_gen fun N hN => ?_); simp (disch := first | omega | (simp only [List.length_cons, List.length_nil, List.length_append, u8s_len]; omega)) only [go_sem, ↓reduceIte, true_and, Nat.reduceLeDiff, Nat.reduceEqDiff, Nat.reduceAdd, Nat.reduceBEq, Int.reduceEq, H.cv_3_5, H.cv_5_3, t1, t4, q1]
    refine hN _ ?_; clear hN N
    by_cases a1 : c.n = 0
    case neg =>
      have a1' : (c.n == ((0 : Nat) : Int)) = false := by simpa using a1
      simp (disch := first | omega | (simp only [List.length_cons, List.length_nil, List.length_append, u8s_len]; omega)) only [go_sem, ↓reduceIte, true_and, Nat.reduceLeDiff, Nat.reduceEqDiff, Nat.reduceAdd, Nat.reduceBEq, Int.reduceEq, H.cv_3_5, H.cv_5_3, t1, t4, q2, q3, hO.get0, a1']
      exact ⟨by rw [hS, decide_eq_false a1]; rfl, hO.keep⟩
    have a1' : (c.n == ((0 : Nat) : Int)) = true := by simpa using a1
    by_cases a3 : c.s = ⟨#[]⟩
    case neg =>
      have a3' := decide_eq_false a3
      simp (disch := first | omega | (simp only [List.length_cons, List.length_nil, List.length_append, u8s_len]; omega)) only [go_sem, ↓reduceIte, true_and, Nat.reduceLeDiff, Nat.reduceEqDiff, Nat.reduceAdd, Nat.reduceBEq, Int.reduceEq, H.cv_3_5, H.cv_5_3, t1, t4, q2, q3, hO.get0, a1', a3']
      exact ⟨by rw [hS, decide_eq_false a3, Bool.and_false]; rfl, hO.keep⟩
    have a3' := decide_eq_true a3
    simp (disch := first | omega | (simp only [List.length_cons, List.length_nil, List.length_append, u8s_len]; omega)) only [go_sem, ↓reduceIte, true_and, Nat.reduceLeDiff, Nat.reduceEqDiff, Nat.reduceAdd, Nat.reduceBEq, Int.reduceEq, H.cv_3_5, H.cv_5_3, t1, t4, q2, q3, hO.get0, a1', a3', hv.disc, hv.same]
    refine (any_ok H hv hl hfl ih _).mono ?_
    rintro _ _ ⟨rfl, hh⟩; subst hh
    rw [contK_some]; simp (disch := first | omega | (simp only [List.length_cons, List.length_nil, List.length_append, u8s_len]; omega)) only [go_sem, ↓reduceIte, true_and, Nat.reduceLeDiff, Nat.reduceEqDiff, Nat.reduceAdd, Nat.reduceBEq, Int.reduceEq, H.cv_3_5, H.cv_5_3]
    exact ⟨by rw [hS, decide_eq_true a1, decide_eq_true a3, Bool.not_not]; rfl, hO.keep⟩
  have q3 : (c.k == ((3 : Nat) : Int)) = false := by simpa using k3
  rw [if_neg k3] at hS
  rw [W_block]
  (refine W_seq_gen fun N hN => ?_); simp (disch := first | omega | (simp only [List.length_cons, List.length_nil, List.length_append, u8s_len]; omega)) only [go_sem, ↓reduceIte, true_and, Nat.reduceLeDiff, Nat.reduceEqDiff, Nat.reduceAdd, Nat.reduceBEq, Int.reduceEq, H.cv_3_5, H.cv_5_3, t1, t4, q1]
  refine hN _ ?_; clear hN N
  simp (disch := first | omega | (simp only [List.length_cons, List.length_nil, List.length_append, u8s_len]; omega)) only [go_sem, ↓reduceIte, true_and, Nat.reduceLeDiff, Nat.reduceEqDiff, Nat.reduceAdd, Nat.reduceBEq, Int.reduceEq, H.cv_3_5, H.cv_5_3, t4, q2, q3]
  refine hM _ ?_; clear hM M
  simp (disch := first | omega | (simp only [List.length_cons, List.length_nil, List.length_append, u8s_len]; omega)) only [go_sem, ↓reduceIte, true_and, Nat.reduceLeDiff, Nat.reduceEqDiff, Nat.reduceAdd, Nat.reduceBEq, Int.reduceEq, H.cv_3_5, H.cv_5_3]
  rw [hS]
  exact ⟨rfl, hO.keep⟩
end Go.Proofs.Ytjebhcflpibkkaa
end

section
set_option linter.unusedVariables false
set_option linter.unusedSimpArgs false
namespace Go.Proofs.Ytjebhcflpibkkaa
open Go.Am
/-- A count's bytes. -/
def numB (n : Nat) : List UInt8 := if n < 128 then [UInt8.ofNat n] else UInt8.ofNat (n % 128 + 128) :: numB (n / 128)
termination_by n
decreasing_by omega
theorem or128 : ∀ m, m < 256 → m ||| 128 = m % 128 + 128 := by decide +kernel
theorem numB_len {n : Nat} (h : n < 2 ^ 63) : (numB n).length ≤ 9 := by
  have key : ∀ k n, n < 128 ^ k → 0 < k → (numB n).length ≤ k := by
    intro k
    induction k with
    | zero => intro n _ h; omega
    | succ k ih =>
      intro n hn _
      rw [numB]
      split
      · simp
      · have : n / 128 < 128 ^ k := by rw [Nat.pow_succ] at hn; omega
        rcases Nat.eq_zero_or_pos k with rfl | hk
        · simp at this; omega
        · have := ih _ this hk
          simp; omega
  exact key 9 n (by have : (128 : Nat) ^ 9 = 2 ^ 63 := by decide
                    omega) (by omega)
/-- Bytes behind a row, one by one. -/
def snocs (v : AV) (l : List UInt8) : AV := l.foldl (fun v b => catV 1 (u8s [b]) v) v
theorem snocs_ok {v : AV} {l : List UInt8} (hv : SG 1 v (u8s l)) : ∀ (m : List UInt8), SG 1 (snocs v m) (u8s (l ++ m)) := by
  intro m
  induction m generalizing v l with
  | nil => rw [List.append_nil]; exact hv
  | cons b m ih =>
    have := ih (v := catV 1 (u8s [b]) v) (l := l ++ [b]) (by rw [← u8s_app]; exact hv.cat _)
    rw [List.append_assoc] at this
    exact this
theorem snocs_snoc (v : AV) (l : List UInt8) (b : UInt8) : snocs v (l ++ [b]) = catV 1 (u8s [b]) (snocs v l) := by
  unfold snocs
  rw [List.foldl_append]
  rfl
theorem u8w (n : Nat) : IntKind.u8.wrap (n : Int) = ((n % 256 : Nat) : Int) := by rw [wrap_u8m]; omega
theorem sb_or8 {P : Program} {ty : TypeId} {a b : Nat} (ha : a < 256) (hb : b < 256) : scalarBin P .or ty (.int .u8 a) (.int .u8 b) = some (.int .u8 ((a ||| b : Nat) : Int)) := sb_or rfl ha hb
theorem sb_shr7 {P : Program} {ty : TypeId} {q : IntKind} {n : Nat} : scalarBin P .shr ty (.int .i64 n) (.int q ((7 : Nat) : Int)) = some (.int .i64 ((n / 128 : Nat) : Int)) := by
  rw [sb_shr (by omega)]
  congr 2
  rw [Int.fdiv_eq_ediv_of_nonneg _ (by decide)]
  have : (2 : Int) ^ (min ((7 : Nat) : Int).toNat IntKind.i64.bits) = 128 := by decide
  rw [this]
  omega
variable {P : Program} (H : Has P)
include H
theorem number_ok {v : AV} {l : List UInt8} {n : Nat} (hv : SG 1 v (u8s l)) (hl : l.length ≤ 2 ^ 40) (hn : n < 2 ^ 62) (h : Heap) : AWF P ann 0 28 [v, .sc (.int .i64 (n : Nat))] h fun r h' => r = snocs v (numB n) ∧ h' = h := by
  refine AWF.fnc H.f0_28 rfl ?_
  (refine W_seq_gen fun N hN => ?_); simp (disch := first | omega | (simp only [List.length_cons, List.length_nil, List.length_append, u8s_len]; omega)) only [go_sem, ↓reduceIte, true_and, Nat.reduceLeDiff, Nat.reduceEqDiff, Nat.reduceAdd, Nat.reduceBEq, Int.reduceEq, H.cv_3_5, H.cv_5_3]
  refine hN _ ?_; clear hN N
  refine W_forget (fun t => t 0 = v ∧ t 1 = .sc (.int .i64 (n : Nat)) ∧ True) (by simp [upd_at, *] <;> (first | rfl | exact ⟨rfl, rfl⟩ | exact ⟨rfl, rfl, rfl⟩)) ?_; rintro t ⟨t0, t1, -⟩
  (refine W_seq_gen fun M hM => ?_)
  rw [W_block]
  simp (disch := first | omega | (simp only [List.length_cons, List.length_nil, List.length_append, u8s_len]; omega)) only [go_sem, ↓reduceIte, true_and, Nat.reduceLeDiff, Nat.reduceEqDiff, Nat.reduceAdd, Nat.reduceBEq, Int.reduceEq, H.cv_3_5, H.cv_5_3]
  refine AW_loopN (fun m t h' => h' = h ∧ ∃ (p : List UInt8) (k : Nat), m = k ∧ k < 2 ^ 62 ∧ p ++ numB k = numB n ∧ t 0 = snocs v p ∧ t 1 = .sc (.int .i64 (k : Nat)))
    (n := n) ⟨rfl, [], n, rfl, hn, rfl, t0, t1⟩ ?_
  clear t0 t1
  rintro m t h' ⟨rfl, p, k, rfl, hk, hp, t0, t1⟩
  have hg := snocs_ok hv p
  have hpl : p.length ≤ 9 := by have := numB_len (n := n) (by omega); rw [← hp] at this; simp at this; omega
  by_cases c : 128 ≤ m
  · have hb := numB m
    have e1 : m % 256 ||| 128 = (UInt8.ofNat (m % 128 + 128)).toNat := by rw [or128 _ (by omega)]; simp; omega
    have hnum : numB m = UInt8.ofNat (m % 128 + 128) :: numB (m / 128) := by rw [numB, if_neg (by omega)]
    have happ := fun (t : Nat → AV) (h : Heap) => hg.app (t := t) (h := h) (ys := u8s [UInt8.ofNat (m % 128 + 128)]) (bytes := 1) (by simp [u8s_len]; omega)
    have hu : u8s [UInt8.ofNat (m % 128 + 128)] = [[.sc (.int .u8 ((UInt8.ofNat (m % 128 + 128)).toNat : Nat))]] := rfl
    rw [hu] at happ
    (refine W_seq_gen fun N hN => ?_); simp (disch := first | omega | (simp only [List.length_cons, List.length_nil, List.length_append, u8s_len]; omega)) only [go_sem, ↓reduceIte, true_and, Nat.reduceLeDiff, Nat.reduceEqDiff, Nat.reduceAdd, Nat.reduceBEq, Int.reduceEq, H.cv_3_5, H.cv_5_3, t1, c]
    refine hN _ ?_; clear hN N
    rw [W_block]
    simp (disch := first | omega | (simp only [List.length_cons, List.length_nil, List.length_append, u8s_len]; omega)) only [go_sem, ↓reduceIte, true_and, Nat.reduceLeDiff, Nat.reduceEqDiff, Nat.reduceAdd, Nat.reduceBEq, Int.reduceEq, H.cv_3_5, H.cv_5_3, t0, t1, u8w, sb_or8, sb_shr7, e1, happ]
    refine ⟨m / 128, by omega, p ++ [UInt8.ofNat (m % 128 + 128)], by omega, ?_, ?_⟩
    · rw [List.append_assoc, ← hp, hnum]; rfl
    · exact ⟨by rw [snocs_snoc, hu], rfl⟩
  have hnum : numB m = [UInt8.ofNat m] := by rw [numB, if_pos (by omega)]
  have e1 : m % 256 = (UInt8.ofNat m).toNat := by simp
  have happ := fun (t : Nat → AV) (h : Heap) => hg.app (t := t) (h := h) (ys := u8s [UInt8.ofNat m]) (bytes := 1) (by simp [u8s_len]; omega)
  have hu : u8s [UInt8.ofNat m] = [[.sc (.int .u8 ((UInt8.ofNat m).toNat : Nat))]] := rfl
  rw [hu] at happ
  (refine W_seq_gen fun N hN => ?_); simp (disch := first | omega | (simp only [List.length_cons, List.length_nil, List.length_append, u8s_len]; omega)) only [go_sem, ↓reduceIte, true_and, Nat.reduceLeDiff, Nat.reduceEqDiff, Nat.reduceAdd, Nat.reduceBEq, Int.reduceEq, H.cv_3_5, H.cv_5_3, t1, c]
  refine hM _ ?_; clear hN N hM M
  simp (disch := first | omega | (simp only [List.length_cons, List.length_nil, List.length_append, u8s_len]; omega)) only [go_sem, ↓reduceIte, true_and, Nat.reduceLeDiff, Nat.reduceEqDiff, Nat.reduceAdd, Nat.reduceBEq, Int.reduceEq, H.cv_3_5, H.cv_5_3, t0, t1, u8w, e1, happ]
  rw [← hp, hnum, snocs_snoc, hu]
end Go.Proofs.Ytjebhcflpibkkaa
end

section
set_option linter.unusedVariables false
set_option linter.unusedSimpArgs false
namespace Go.Proofs.Ytjebhcflpibkkaa
open Go.Am
theorem aexIsnil_bs {neg own sz es lim} {t : Nat → AV} {h : Heap} : aexIsnil 0 neg t h (.bs own sz es lim) = some (.val (.sc (.bool neg)) t h) := rfl
theorem aexIsnil_f {t : Nat → AV} {h : Heap} : aexIsnil 0 false t h (.sc (.slice none 0 0)) = some (.val (.sc (.bool true)) t h) := rfl
theorem aexIsnil_t {t : Nat → AV} {h : Heap} : aexIsnil 0 true t h (.sc (.slice none 0 0)) = some (.val (.sc (.bool false)) t h) := rfl
attribute [go_sem] aexIsnil_bs aexIsnil_f aexIsnil_t
def zig (n : Int) : Nat := if n < 0 then (-2 * n - 1).toNat else (2 * n).toNat
mutual
def encB : Cel → List UInt8
  | .mk k n s l => UInt8.ofNat (k % 256).toNat :: (if k = 1 then numB (zig n) else if k = 2 then numB s.size ++ s.data.toList else numB l.length ++ encL l)
def encL : List Cel → List UInt8
  | [] => []
  | c :: l => encB c ++ encL l
end
theorem encL_append (l m : List Cel) : encL (l ++ m) = encL l ++ encL m := by
  induction l with
  | nil => rw [encL]; rfl
  | cons c l ih => rw [List.cons_append, encL, encL, ih, List.append_assoc]
theorem encL_take {l : List Cel} {i : Nat} (h : i < l.length) : encL (l.take (i + 1)) = encL (l.take i) ++ encB l[i] := by
  have : l.take (i + 1) = l.take i ++ [l[i]] := by rw [List.take_add_one]; simp [h]
  rw [this, encL_append, encL, encL, List.append_nil]
theorem encL_split {l : List Cel} (i : Nat) : (encL (l.take i)).length ≤ (encL l).length := by
  have : encL l = encL (l.take i) ++ encL (l.drop i) := by rw [← encL_append, List.take_append_drop]
  rw [this]; simp
theorem encB_eq (c : Cel) : encB c = UInt8.ofNat (c.k % 256).toNat :: (if c.k = 1 then numB (zig c.n) else if c.k = 2 then numB c.s.size ++ c.s.data.toList else numB c.l.length ++ encL c.l) := by
  cases c; rw [encB]; rfl
theorem un_neg {P : Program} {k : IntKind} {n : Int} : pureRun P (Op.unary .neg (.int k n)) = some (.int k (k.wrap (0 - n))) := by
  simp [Op.unary, Op.intArith, pr_pure]
theorem u8k (k : Int) : IntKind.u8.wrap k = (((k % 256).toNat : Nat) : Int) := by rw [wrap_u8m]; omega
theorem sg_ne {v : AV} {l : List UInt8} (h : SG 1 v (u8s l)) (hl : l ≠ []) : ∃ lim, v = .bs true 1 (u8s l) lim := by
  rcases h with ⟨_, h⟩ | h
  · cases l
    · exact absurd rfl hl
    · simp [u8s] at h
  · exact h
/-- What comes of bytes and a cell behind them. -/
def PutR (b : List UInt8) (c : Cel) (r : AV) : Prop :=
  if b.length + (encB c).length ≤ 65536 then ∃ lim, r = .bs true 1 (u8s (b ++ encB c)) lim else r = .sc (.slice none 0 0)
variable {P : Program} (H : Has P)
include H
theorem put_ok (c : Cel) : ∀ (cs : List AV), CE cs c → okC c → ∀ (v : AV) (b : List UInt8), SG 1 v (u8s b) → b.length + (encB c).length ≤ 2 ^ 40 → ∀ h, AWF P ann 0 19 [v, .ag cs] h fun r h' => PutR b c r ∧ h' = h := by
  induction c using Cel.ind with
  | h c ih =>
  intro cs hc hok w b hw hb h
  obtain ⟨v, es, rfl, hv, hl, hf⟩ := hc.out
  have hfl := hf.l
  have hes := hl.len
  obtain ⟨⟨o1, o2⟩, o3, o4⟩ : (-9007199254740992 ≤ c.n ∧ c.n ≤ 9007199254740992) ∧ c.s.size ≤ 65536 ∧ okL c.l := by cases c; rw [okC] at hok; exact hok
  have hE := encB_eq c
  have hbl : b.length ≤ 2 ^ 40 := by omega
  generalize ht : (if c.k = 1 then numB (zig c.n) else if c.k = 2 then numB c.s.size ++ c.s.data.toList else numB c.l.length ++ encL c.l) = tl at hE
  have hE1 : (encB c).length = 1 + tl.length := by rw [hE, List.length_cons]; omega
  refine AWF.fnPurec H.f0_19 rfl ?_
  have hO := OB.nil (h := h)
  (refine W_seq_gen fun N hN => ?_); simp (disch := first | omega | (simp only [List.length_cons, List.length_nil, List.length_append, u8s_len]; omega)) only [go_sem, ↓reduceIte, true_and, Nat.reduceLeDiff, Nat.reduceEqDiff, Nat.reduceAdd, Nat.reduceBEq, Int.reduceEq, H.cv_3_5, H.cv_5_3, hv.disc, hv.same]
  intro o3' h3
  refine hN _ ?_; clear hN N; refine W_ob (hO.new h3) fun hc hO => ?_
  refine W_forget (fun t => t 0 = w ∧ t 3 = .op o3' 0 ∧ t 4 = .sc (.slice none 0 0) ∧ True) (by simp [upd_at, *] <;> (first | rfl | exact ⟨rfl, rfl⟩ | exact ⟨rfl, rfl, rfl⟩)) ?_; rintro t ⟨t0, t3, t4, -⟩
  have happ := fun (t : Nat → AV) (h : Heap) => hw.app (t := t) (h := h) (ys := u8s [UInt8.ofNat (c.k % 256).toNat]) (bytes := 1) (by simp [u8s_len]; omega)
  have hu : u8s [UInt8.ofNat (c.k % 256).toNat] = [[.sc (.int .u8 (((c.k % 256).toNat : Nat) : Int))]] := by simp [u8s]; omega
  have hg := hw.cat (u8s [UInt8.ofNat (c.k % 256).toNat])
  rw [u8s_app] at hg
  rw [hu] at happ hg
  generalize hw1 : catV 1 [[.sc (.int .u8 (((c.k % 256).toNat : Nat) : Int))]] w = w1 at hg
  (refine W_seq_gen fun N hN => ?_); simp (disch := first | omega | (simp only [List.length_cons, List.length_nil, List.length_append, u8s_len]; omega)) only [go_sem, ↓reduceIte, true_and, Nat.reduceLeDiff, Nat.reduceEqDiff, Nat.reduceAdd, Nat.reduceBEq, Int.reduceEq, H.cv_3_5, H.cv_5_3, t0, t3, hO.get0, u8k, happ, hw1]
  refine hN _ ?_; clear hN N
  refine W_forget (fun t => t 0 = w1 ∧ t 3 = .op o3' 0 ∧ t 4 = .sc (.slice none 0 0) ∧ True) (by simp [upd_at, *] <;> (first | rfl | exact ⟨rfl, rfl⟩ | exact ⟨rfl, rfl, rfl⟩)) ?_; rintro t ⟨t0, t3, t4, -⟩
  (refine W_seq_gen fun M hM => ?_)
  have fin : ∀ (t : Nat → AV) (h' : Heap) (r : AV), t 0 = r → SG 1 r (u8s (b ++ encB c)) → (encB c).length ≤ 2 ^ 40 → (∀ o, ¬ h o = none → h' o = h o) → M ⟨t, h'⟩ := by
    clear t0 t3 t4 hO
    intro t h' r t0 hr hlen hk
    refine hM _ ?_; clear hM M
    obtain ⟨lim, rfl⟩ := sg_ne hr (by rw [hE]; simp)
    by_cases c1 : b.length + (encB c).length ≤ 65536
    · have c1' : ¬ 65536 < (b ++ encB c).length := by rw [List.length_append]; omega
      (refine W_seq_gen fun N hN => ?_); simp (disch := first | omega | (simp only [List.length_cons, List.length_nil, List.length_append, u8s_len]; omega)) only [go_sem, ↓reduceIte, true_and, Nat.reduceLeDiff, Nat.reduceEqDiff, Nat.reduceAdd, Nat.reduceBEq, Int.reduceEq, H.cv_3_5, H.cv_5_3, t0, c1']
      refine hN _ ?_; clear hN N
      simp (disch := first | omega | (simp only [List.length_cons, List.length_nil, List.length_append, u8s_len]; omega)) only [go_sem, ↓reduceIte, true_and, Nat.reduceLeDiff, Nat.reduceEqDiff, Nat.reduceAdd, Nat.reduceBEq, Int.reduceEq, H.cv_3_5, H.cv_5_3, t0]
      rw [PutR, if_pos c1]
      exact ⟨⟨lim, rfl⟩, hk⟩
    · have c1' : 65536 < (b ++ encB c).length := by rw [List.length_append]; omega
      (refine W_seq_gen fun N hN => ?_); simp (disch := first | omega | (simp only [List.length_cons, List.length_nil, List.length_append, u8s_len]; omega)) only [go_sem, ↓reduceIte, true_and, Nat.reduceLeDiff, Nat.reduceEqDiff, Nat.reduceAdd, Nat.reduceBEq, Int.reduceEq, H.cv_3_5, H.cv_5_3, t0, c1']
      rw [PutR, if_neg c1]
      exact ⟨rfl, hk⟩
  by_cases k1 : c.k = 1
  · have q1 : (c.k == ((1 : Nat) : Int)) = true := by simpa using k1
    rw [if_pos k1] at ht
    have nz := numB_len (n := zig c.n) (by unfold zig; split <;> omega)
    (refine W_seq_gen fun N hN => ?_)
    simp (disch := first | omega | (simp only [List.length_cons, List.length_nil, List.length_append, u8s_len]; omega)) only [go_sem, ↓reduceIte, true_and, Nat.reduceLeDiff, Nat.reduceEqDiff, Nat.reduceAdd, Nat.reduceBEq, Int.reduceEq, H.cv_3_5, H.cv_5_3, t3, hO.get0]
    refine hN _ ?_; clear hN N
    refine W_forget (fun t => t 0 = w1 ∧ t 3 = .op o3' 0 ∧ t 15 = .sc (.int .i64 c.k) ∧ True) (by simp [upd_at, *] <;> (first | rfl | exact ⟨rfl, rfl⟩ | exact ⟨rfl, rfl, rfl⟩)) ?_; rintro t ⟨t0, t3, t15, -⟩
    rw [W_block]
    have hnum := number_ok H (n := zig c.n) hg (by simp; omega) (by unfold zig; split <;> omega)
    by_cases c0 : c.n < ((0 : Nat) : Int)
    · have e1 : (0 - ((2 : Nat) : Int) * c.n) - ((1 : Nat) : Int) = ((zig c.n : Nat) : Int) := by unfold zig; rw [if_pos (show c.n < 0 from c0)]; omega
      (refine W_seq_gen fun N hN => ?_); simp (disch := first | omega | (simp only [List.length_cons, List.length_nil, List.length_append, u8s_len]; omega)) only [go_sem, ↓reduceIte, true_and, Nat.reduceLeDiff, Nat.reduceEqDiff, Nat.reduceAdd, Nat.reduceBEq, Int.reduceEq, H.cv_3_5, H.cv_5_3, t15, q1]
      refine hN _ ?_; clear hN N
      simp (disch := first | omega | (simp only [List.length_cons, List.length_nil, List.length_append, u8s_len]; omega)) only [go_sem, ↓reduceIte, true_and, Nat.reduceLeDiff, Nat.reduceEqDiff, Nat.reduceAdd, Nat.reduceBEq, Int.reduceEq, H.cv_3_5, H.cv_5_3, t0, t3, hO.get0, c0, un_neg, e1]
      refine (hnum _).mono ?_
      rintro _ _ ⟨rfl, hh⟩; subst hh
      rw [contK_some]; simp (disch := first | omega | (simp only [List.length_cons, List.length_nil, List.length_append, u8s_len]; omega)) only [go_sem, ↓reduceIte, true_and, Nat.reduceLeDiff, Nat.reduceEqDiff, Nat.reduceAdd, Nat.reduceBEq, Int.reduceEq, H.cv_3_5, H.cv_5_3]
      have hg2 := snocs_ok hg (numB (zig c.n))
      rw [List.append_assoc] at hg2
      refine fin _ _ (snocs w1 (numB (zig c.n))) (by first | rfl | simp [upd_at]) (by rw [hE, ← ht]; exact hg2) (by omega) hO.keep
    · have e1 : ((2 : Nat) : Int) * c.n = ((zig c.n : Nat) : Int) := by unfold zig; rw [if_neg (show ¬ c.n < 0 from c0)]; omega
      (refine W_seq_gen fun N hN => ?_); simp (disch := first | omega | (simp only [List.length_cons, List.length_nil, List.length_append, u8s_len]; omega)) only [go_sem, ↓reduceIte, true_and, Nat.reduceLeDiff, Nat.reduceEqDiff, Nat.reduceAdd, Nat.reduceBEq, Int.reduceEq, H.cv_3_5, H.cv_5_3, t15, q1]
      refine hN _ ?_; clear hN N
      simp (disch := first | omega | (simp only [List.length_cons, List.length_nil, List.length_append, u8s_len]; omega)) only [go_sem, ↓reduceIte, true_and, Nat.reduceLeDiff, Nat.reduceEqDiff, Nat.reduceAdd, Nat.reduceBEq, Int.reduceEq, H.cv_3_5, H.cv_5_3, t0, t3, hO.get0, c0, e1]
      refine (hnum _).mono ?_
      rintro _ _ ⟨rfl, hh⟩; subst hh
      rw [contK_some]; simp (disch := first | omega | (simp only [List.length_cons, List.length_nil, List.length_append, u8s_len]; omega)) only [go_sem, ↓reduceIte, true_and, Nat.reduceLeDiff, Nat.reduceEqDiff, Nat.reduceAdd, Nat.reduceBEq, Int.reduceEq, H.cv_3_5, H.cv_5_3]
      have hg2 := snocs_ok hg (numB (zig c.n))
      rw [List.append_assoc] at hg2
      refine fin _ _ (snocs w1 (numB (zig c.n))) (by first | rfl | simp [upd_at]) (by rw [hE, ← ht]; exact hg2) (by omega) hO.keep
  have q1 : (c.k == ((1 : Nat) : Int)) = false := by simpa using k1
  rw [if_neg k1] at ht
  by_cases k2 : c.k = 2
  · have q2 : (c.k == ((2 : Nat) : Int)) = true := by simpa using k2
    rw [if_pos k2] at ht
    have hsb : c.s = str c.s.data.toList := str_of _
    generalize c.s.data.toList = sb at hsb ht
    have hss : c.s.size = sb.length := by rw [hsb, str_size]
    rw [hss] at ht o3
    rw [hsb] at hO
    have nz := numB_len (n := sb.length) (by omega)
    (refine W_seq_gen fun N hN => ?_)
    simp (disch := first | omega | (simp only [List.length_cons, List.length_nil, List.length_append, u8s_len]; omega)) only [go_sem, ↓reduceIte, true_and, Nat.reduceLeDiff, Nat.reduceEqDiff, Nat.reduceAdd, Nat.reduceBEq, Int.reduceEq, H.cv_3_5, H.cv_5_3, t3, hO.get0]
    refine hN _ ?_; clear hN N
    refine W_forget (fun t => t 0 = w1 ∧ t 3 = .op o3' 0 ∧ t 15 = .sc (.int .i64 c.k) ∧ True) (by simp [upd_at, *] <;> (first | rfl | exact ⟨rfl, rfl⟩ | exact ⟨rfl, rfl, rfl⟩)) ?_; rintro t ⟨t0, t3, t15, -⟩
    rw [W_block]
    have hnum := number_ok H (n := sb.length) hg (by simp; omega) (by omega)
    have hg2 := snocs_ok hg (numB sb.length)
    have happ2 := fun (t : Nat → AV) (h : Heap) => hg2.app (t := t) (h := h) (ys := u8s sb) (bytes := 1) (by simp [u8s_len]; omega)
    have hg3 := hg2.cat (u8s sb)
    rw [u8s_app, List.append_assoc, List.append_assoc] at hg3
    (refine W_seq_gen fun N hN => ?_); simp (disch := first | omega | (simp only [List.length_cons, List.length_nil, List.length_append, u8s_len]; omega)) only [go_sem, ↓reduceIte, true_and, Nat.reduceLeDiff, Nat.reduceEqDiff, Nat.reduceAdd, Nat.reduceBEq, Int.reduceEq, H.cv_3_5, H.cv_5_3, t15, q1]
    refine hN _ ?_; clear hN N
    simp (disch := first | omega | (simp only [List.length_cons, List.length_nil, List.length_append, u8s_len]; omega)) only [go_sem, ↓reduceIte, true_and, Nat.reduceLeDiff, Nat.reduceEqDiff, Nat.reduceAdd, Nat.reduceBEq, Int.reduceEq, H.cv_3_5, H.cv_5_3, t0, t3, t15, q2, hO.get0]
    refine ⟨_, hnum _, ?_⟩
    rw [contK_some]; simp (disch := first | omega | (simp only [List.length_cons, List.length_nil, List.length_append, u8s_len]; omega)) only [go_sem, ↓reduceIte, true_and, Nat.reduceLeDiff, Nat.reduceEqDiff, Nat.reduceAdd, Nat.reduceBEq, Int.reduceEq, H.cv_3_5, H.cv_5_3, t3, hO.get0, happ2]
    refine fin _ _ (catV 1 (u8s sb) (snocs w1 (numB sb.length))) (by first | rfl | simp [upd_at]) (by rw [hE, ← ht]; exact hg3) (by omega) hO.keep
  have q2 : (c.k == ((2 : Nat) : Int)) = false := by simpa using k2
  rw [if_neg k2] at ht
  have nz := numB_len (n := c.l.length) (by omega)
  (refine W_seq_gen fun N hN => ?_)
  simp (disch := first | omega | (simp only [List.length_cons, List.length_nil, List.length_append, u8s_len]; omega)) only [go_sem, ↓reduceIte, true_and, Nat.reduceLeDiff, Nat.reduceEqDiff, Nat.reduceAdd, Nat.reduceBEq, Int.reduceEq, H.cv_3_5, H.cv_5_3, t3, hO.get0]
  refine hN _ ?_; clear hN N
  refine W_forget (fun t => t 0 = w1 ∧ t 3 = .op o3' 0 ∧ t 15 = .sc (.int .i64 c.k) ∧ True) (by simp [upd_at, *] <;> (first | rfl | exact ⟨rfl, rfl⟩ | exact ⟨rfl, rfl, rfl⟩)) ?_; rintro t ⟨t0, t3, t15, -⟩
  rw [W_block]
  have hnum := number_ok H (n := c.l.length) hg (by simp; omega) (by omega)
  have hg2 := snocs_ok hg (numB c.l.length)
  (refine W_seq_gen fun N hN => ?_); simp (disch := first | omega | (simp only [List.length_cons, List.length_nil, List.length_append, u8s_len]; omega)) only [go_sem, ↓reduceIte, true_and, Nat.reduceLeDiff, Nat.reduceEqDiff, Nat.reduceAdd, Nat.reduceBEq, Int.reduceEq, H.cv_3_5, H.cv_5_3, t15, q1]
  refine hN _ ?_; clear hN N
  simp (disch := first | omega | (simp only [List.length_cons, List.length_nil, List.length_append, u8s_len]; omega)) only [go_sem, ↓reduceIte, true_and, Nat.reduceLeDiff, Nat.reduceEqDiff, Nat.reduceAdd, Nat.reduceBEq, Int.reduceEq, H.cv_3_5, H.cv_5_3, t0, t3, t15, q2, hO.get0, hv.disc, hv.same, hv.sl.len, hes]
  refine (hnum _).mono ?_
  rintro _ _ ⟨rfl, hh⟩; subst hh
  rw [contK_some]; simp (disch := first | omega | (simp only [List.length_cons, List.length_nil, List.length_append, u8s_len]; omega)) only [go_sem, ↓reduceIte, true_and, Nat.reduceLeDiff, Nat.reduceEqDiff, Nat.reduceAdd, Nat.reduceBEq, Int.reduceEq, H.cv_3_5, H.cv_5_3, t3, hO.get0, hv.disc, hv.same, hv.sl.len, hes]
  have hE2 : ∀ i, b ++ UInt8.ofNat (c.k % 256).toNat :: (numB c.l.length ++ encL (c.l.take i)) = (b ++ [UInt8.ofNat (c.k % 256).toNat] ++ numB c.l.length) ++ encL (c.l.take i) := by intro i; simp
  have hlE : (encB c).length = 1 + (numB c.l.length).length + (encL c.l).length := by rw [hE, ← ht]; simp; omega
  refine AW_loopN (fun m t h' => ∃ (i : Nat) (r : AV), m = c.l.length - i ∧ i ≤ c.l.length ∧ SG 1 r (u8s ((b ++ [UInt8.ofNat (c.k % 256).toNat] ++ numB c.l.length) ++ encL (c.l.take i))) ∧
      t 0 = r ∧ t 22 = v ∧ t 23 = .sc (.int .i64 (c.l.length : Nat)) ∧ t 24 = .sc (.int .i64 (i : Nat)) ∧
      OB h [(o3', .arr [.sc (.int .i64 c.k), .sc (.int .i64 c.n), .sc (.string c.s), v])] h')
    (n := c.l.length) ⟨0, _, rfl, Nat.zero_le _, by rw [List.take_zero, encL, List.append_nil]; exact hg2, rfl, by simp [upd_at], by simp [upd_at], rfl, hO⟩ ?_
  clear hO t0 t3 t15
  rintro m t h' ⟨i, r, rfl, hi, hr, t0, t22, t23, t24, hO⟩
  rcases Nat.lt_or_ge i c.l.length with hlt2 | hge
  · obtain ⟨e, he, hce⟩ := hl.lt hlt2
    have ihx := ih c.l[i] (List.getElem_mem hlt2) e hce (okL_get hlt2 o4)
    have htk := encL_take hlt2
    have hsp := encL_split (l := c.l) (i + 1)
    generalize c.l[i] = x at hce ihx htk
    have hsl : (encL (c.l.take (i + 1))).length = (encL (c.l.take i)).length + (encB x).length := by rw [htk, List.length_append]
    obtain ⟨v', es', rfl, hv', hl', hf'⟩ := hce.out
    (refine W_seq_gen fun N hN => ?_); simp (disch := first | omega | (simp only [List.length_cons, List.length_nil, List.length_append, u8s_len]; omega)) only [go_sem, ↓reduceIte, true_and, Nat.reduceLeDiff, Nat.reduceEqDiff, Nat.reduceAdd, Nat.reduceBEq, Int.reduceEq, H.cv_3_5, H.cv_5_3, t23, t24, hlt2]
    refine hN _ ?_; clear hN N
    (refine W_seq_gen fun N hN => ?_); simp (disch := first | omega | (simp only [List.length_cons, List.length_nil, List.length_append, u8s_len]; omega)) only [go_sem, ↓reduceIte, true_and, Nat.reduceLeDiff, Nat.reduceEqDiff, Nat.reduceAdd, Nat.reduceBEq, Int.reduceEq, H.cv_3_5, H.cv_5_3]
    refine hN _ ?_; clear hN N
    (refine W_seq_gen fun N hN => ?_)
    rw [W_block]
    (refine W_seq_gen fun N hN => ?_); simp (disch := first | omega | (simp only [List.length_cons, List.length_nil, List.length_append, u8s_len]; omega)) only [go_sem, ↓reduceIte, true_and, Nat.reduceLeDiff, Nat.reduceEqDiff, Nat.reduceAdd, Nat.reduceBEq, Int.reduceEq, H.cv_3_5, H.cv_5_3, t22, t24, hv.same, hv.sl.ia, he, hv'.disc, hv'.same]
    intro o7 h7
    refine hN _ ?_; clear hN N; refine W_ob (hO.new h7) fun hc hO => ?_
    (refine W_seq_gen fun N hN => ?_); simp (disch := first | omega | (simp only [List.length_cons, List.length_nil, List.length_append, u8s_len]; omega)) only [go_sem, ↓reduceIte, true_and, Nat.reduceLeDiff, Nat.reduceEqDiff, Nat.reduceAdd, Nat.reduceBEq, Int.reduceEq, H.cv_3_5, H.cv_5_3, t0, hO.get0, hv'.same, hv'.disc]
    refine (ihx r _ hr (by simp only [List.length_append, List.length_cons, List.length_nil]; omega) _).mono ?_
    rintro r' _ ⟨hr', hh⟩; subst hh
    have key : ((b ++ [UInt8.ofNat (c.k % 256).toNat] ++ numB c.l.length) ++ encL (c.l.take i)) ++ encB x = (b ++ [UInt8.ofNat (c.k % 256).toNat] ++ numB c.l.length) ++ encL (c.l.take (i + 1)) := by rw [List.append_assoc, ← htk]
    rw [PutR, key] at hr'
    split at hr'
    · rename_i hle
      obtain ⟨lim, rfl⟩ := hr'
      rw [contK_some]; simp (disch := first | omega | (simp only [List.length_cons, List.length_nil, List.length_append, u8s_len]; omega)) only [go_sem, ↓reduceIte, true_and, Nat.reduceLeDiff, Nat.reduceEqDiff, Nat.reduceAdd, Nat.reduceBEq, Int.reduceEq, H.cv_3_5, H.cv_5_3]
      refine hN _ ?_; clear hN N
      simp (disch := first | omega | (simp only [List.length_cons, List.length_nil, List.length_append, u8s_len]; omega)) only [go_sem, ↓reduceIte, true_and, Nat.reduceLeDiff, Nat.reduceEqDiff, Nat.reduceAdd, Nat.reduceBEq, Int.reduceEq, H.cv_3_5, H.cv_5_3]
      refine hN _ ?_; clear hN N
      simp (disch := first | omega | (simp only [List.length_cons, List.length_nil, List.length_append, u8s_len]; omega)) only [go_sem, ↓reduceIte, true_and, Nat.reduceLeDiff, Nat.reduceEqDiff, Nat.reduceAdd, Nat.reduceBEq, Int.reduceEq, H.cv_3_5, H.cv_5_3, t24, nat_add]
      exact ⟨c.l.length - (i + 1), by omega, i + 1, _, rfl, by omega, .inr ⟨lim, rfl⟩, rfl, t22, t23, rfl, hO.tail⟩
    · rename_i hle
      subst hr'
      rw [contK_some]; simp (disch := first | omega | (simp only [List.length_cons, List.length_nil, List.length_append, u8s_len]; omega)) only [go_sem, ↓reduceIte, true_and, Nat.reduceLeDiff, Nat.reduceEqDiff, Nat.reduceAdd, Nat.reduceBEq, Int.reduceEq, H.cv_3_5, H.cv_5_3]
      refine hN _ ?_; clear hN N
      simp (disch := first | omega | (simp only [List.length_cons, List.length_nil, List.length_append, u8s_len]; omega)) only [go_sem, ↓reduceIte, true_and, Nat.reduceLeDiff, Nat.reduceEqDiff, Nat.reduceAdd, Nat.reduceBEq, Int.reduceEq, H.cv_3_5, H.cv_5_3]
      simp only [List.length_append, List.length_cons, List.length_nil] at hle
      rw [PutR, if_neg (by omega)]
      exact ⟨rfl, hO.keep⟩
  obtain rfl : i = c.l.length := by omega
  rw [List.take_length] at hr
  (refine W_seq_gen fun N hN => ?_); simp (disch := first | omega | (simp only [List.length_cons, List.length_nil, List.length_append, u8s_len]; omega)) only [go_sem, ↓reduceIte, true_and, Nat.reduceLeDiff, Nat.reduceEqDiff, Nat.reduceAdd, Nat.reduceBEq, Int.reduceEq, H.cv_3_5, H.cv_5_3, t23, t24, Nat.lt_irrefl]
  refine hN _ ?_; clear hN N
  (refine W_seq_gen fun N hN => ?_); simp (disch := first | omega | (simp only [List.length_cons, List.length_nil, List.length_append, u8s_len]; omega)) only [go_sem, ↓reduceIte, true_and, Nat.reduceLeDiff, Nat.reduceEqDiff, Nat.reduceAdd, Nat.reduceBEq, Int.reduceEq, H.cv_3_5, H.cv_5_3]
  refine fin _ _ r (by first | exact t0 | simp [upd_at, t0]) (by rw [hE, ← ht]; simpa using hr) (by omega) hO.keep
end Go.Proofs.Ytjebhcflpibkkaa
end

section
set_option linter.unusedVariables false
set_option linter.unusedSimpArgs false
namespace Go.Proofs.Ytjebhcflpibkkaa
open Go.Am
theorem encL_bd {l : List Cel} (h : ∀ x ∈ l, ∀ left : Int, okC x → 0 ≤ left → left < 2 ^ 60 → 0 ≤ countS x left → ((encB x).length : Int) ≤ 65556 * (left - countS x left) ∧ countS x left + 1 ≤ left) :
    ∀ left : Int, okL l → left < 2 ^ 60 → 0 ≤ countL l left → ((encL l).length : Int) ≤ 65556 * (left - countL l left) ∧ (l.length : Int) ≤ left - countL l left := by
  induction l with
  | nil => intro left _ _ _; rw [encL, countL]; simp
  | cons x l ih =>
    intro left ho hlt hc
    rw [countL] at hc ⊢
    rw [okL] at ho
    split at hc
    · omega
    · rename_i h0
      rw [if_neg h0]
      have h1 : 0 ≤ countS x left := by
        rcases Int.lt_or_le (countS x left) 0 with h | h
        · have := countL_neg (l := l) h
          omega
        · exact h
      have a := h x (by simp) left ho.1 (by omega) hlt h1
      have b := ih (fun y hy => h y (by simp [hy])) (countS x left) ho.2 (by omega) hc
      rw [encL, List.length_append, List.length_cons]
      omega
theorem encB_bd (c : Cel) : ∀ left : Int, okC c → 0 ≤ left → left < 2 ^ 60 → 0 ≤ countS c left → ((encB c).length : Int) ≤ 65556 * (left - countS c left) ∧ countS c left + 1 ≤ left := by
  induction c using Cel.ind with
  | h c ih =>
    cases c with
    | mk k n s l =>
      intro left ho h0 h1 hc
      rw [okC] at ho
      obtain ⟨⟨o1, o2⟩, o3, o4⟩ := ho
      rw [countS] at hc ⊢
      split at hc
      · omega
      rename_i hs
      rw [if_neg hs]
      have hb := encL_bd (l := l) ih (left - 1) o4 (by omega) hc
      have n1 := numB_len (n := zig n) (by unfold zig; split <;> omega)
      have n2 := numB_len (n := s.size) (by omega)
      have n3 := numB_len (n := l.length) (by omega)
      have hsz : s.data.toList.length = s.size := by rw [Array.length_toList]; rfl
      rw [encB]
      constructor
      · split
        · rw [List.length_cons]; omega
        · split
          · rw [List.length_cons, List.length_append]; omega
          · rw [List.length_cons, List.length_append]; omega
      · omega
def checkS (c : Cel) : Nat := if deepS 12 c then 13 else if pureS c then (if countS c 4096 < 0 then 3 else 0) else 1
def encE (c : Cel) : Nat := if checkS c = 0 then (if (encB c).length ≤ 65536 then 0 else 3) else checkS c
theorem checkS_ok {c : Cel} (h : checkS c = 0) : deepS 12 c = false ∧ pureS c = true ∧ 0 ≤ countS c 4096 := by
  unfold checkS at h
  split at h
  · cases h
  · rename_i h1
    split at h
    · rename_i h2
      split at h
      · cases h
      · rename_i h3
        exact ⟨by simpa using h1, h2, by omega⟩
    · cases h
theorem enc_bd {c : Cel} (h : checkS c = 0) : okC c ∧ (encB c).length ≤ 2 ^ 40 := by
  obtain ⟨_, h2, h3⟩ := checkS_ok h
  have ho := okC_of c 4096 h2 h3
  have := encB_bd c 4096 ho (by omega) (by omega) h3
  exact ⟨ho, by omega⟩
def errN (n : Nat) : AV := .sc (.int .i64 (n : Nat))
/-- What comes of writing a cell. -/
def EncR (c : Cel) (r : AV) : Prop := ∃ v, r = .tu [v, errN (encE c)] ∧ SF 1 v (u8s (if encE c = 0 then encB c else []))
variable {P : Program} (H : Has P)
include H
theorem check_ok {c : Cel} {cs : List AV} (hce : CE cs c) (h : Heap) : AWF P ann 0 18 [.ag cs] h fun r h' => r = errN (checkS c) ∧ h' = h := by
  obtain ⟨v, es, rfl, hv, hl, hf⟩ := id hce.out
  refine AWF.fnPurec H.f0_18 rfl ?_
  have hO := OB.nil (h := h)
  (refine W_seq_gen fun N hN => ?_); simp (disch := first | omega | (simp only [List.length_cons, List.length_nil, List.length_append, u8s_len]; omega)) only [go_sem, ↓reduceIte, true_and, Nat.reduceLeDiff, Nat.reduceEqDiff, Nat.reduceAdd, Nat.reduceBEq, Int.reduceEq, H.cv_3_5, H.cv_5_3, hv.disc, hv.same]
  intro o1 h1
  refine hN _ ?_; clear hN N; refine W_ob (hO.new h1) fun hc hO => ?_
  refine W_forget (fun t => t 1 = .op o1 0 ∧ True) (by simp [upd_at, *] <;> (first | rfl | exact ⟨rfl, rfl⟩ | exact ⟨rfl, rfl, rfl⟩)) ?_; rintro t ⟨t1, -⟩
  (refine W_seq_gen fun M hM => ?_)
  rw [W_block]
  simp (disch := first | omega | (simp only [List.length_cons, List.length_nil, List.length_append, u8s_len]; omega)) only [go_sem, ↓reduceIte, true_and, Nat.reduceLeDiff, Nat.reduceEqDiff, Nat.reduceAdd, Nat.reduceBEq, Int.reduceEq, H.cv_3_5, H.cv_5_3, t1, hO.get0, hv.disc, hv.same]
  refine (deep_ok H 12 c _ (by omega) hce _).mono ?_
  rintro _ _ ⟨rfl, hh⟩; subst hh
  cases hd : deepS 12 c with
  | true =>
    rw [contK_some]; simp (disch := first | omega | (simp only [List.length_cons, List.length_nil, List.length_append, u8s_len]; omega)) only [go_sem, ↓reduceIte, true_and, Nat.reduceLeDiff, Nat.reduceEqDiff, Nat.reduceAdd, Nat.reduceBEq, Int.reduceEq, H.cv_3_5, H.cv_5_3]
    rw [checkS, if_pos hd]
    exact ⟨rfl, hO.keep⟩
  | false =>
    rw [contK_some]; simp (disch := first | omega | (simp only [List.length_cons, List.length_nil, List.length_append, u8s_len]; omega)) only [go_sem, ↓reduceIte, true_and, Nat.reduceLeDiff, Nat.reduceEqDiff, Nat.reduceAdd, Nat.reduceBEq, Int.reduceEq, H.cv_3_5, H.cv_5_3, t1, hO.get0, hv.disc, hv.same]
    refine (pure_ok H c _ hce _).mono ?_
    rintro _ _ ⟨rfl, hh⟩; subst hh
    cases hp : pureS c with
    | false =>
      rw [contK_some]; simp (disch := first | omega | (simp only [List.length_cons, List.length_nil, List.length_append, u8s_len]; omega)) only [go_sem, ↓reduceIte, true_and, Nat.reduceLeDiff, Nat.reduceEqDiff, Nat.reduceAdd, Nat.reduceBEq, Int.reduceEq, H.cv_3_5, H.cv_5_3]
      rw [checkS, if_neg (by rw [hd]; decide), if_neg (by rw [hp]; decide)]
      exact ⟨rfl, hO.keep⟩
    | true =>
      rw [contK_some]; simp (disch := first | omega | (simp only [List.length_cons, List.length_nil, List.length_append, u8s_len]; omega)) only [go_sem, ↓reduceIte, true_and, Nat.reduceLeDiff, Nat.reduceEqDiff, Nat.reduceAdd, Nat.reduceBEq, Int.reduceEq, H.cv_3_5, H.cv_5_3, t1, hO.get0, hv.disc, hv.same]
      refine (count_ok H c _ 4096 (by omega) (by omega) hce _).mono ?_
      rintro _ _ ⟨rfl, hh⟩; subst hh
      by_cases c1 : countS c 4096 < ((0 : Nat) : Int)
      · rw [contK_some]; simp (disch := first | omega | (simp only [List.length_cons, List.length_nil, List.length_append, u8s_len]; omega)) only [go_sem, ↓reduceIte, true_and, Nat.reduceLeDiff, Nat.reduceEqDiff, Nat.reduceAdd, Nat.reduceBEq, Int.reduceEq, H.cv_3_5, H.cv_5_3, c1]
        rw [checkS, if_neg (by rw [hd]; decide), if_pos hp, if_pos (show countS c 4096 < 0 from c1)]
        exact ⟨rfl, hO.keep⟩
      · rw [contK_some]; simp (disch := first | omega | (simp only [List.length_cons, List.length_nil, List.length_append, u8s_len]; omega)) only [go_sem, ↓reduceIte, true_and, Nat.reduceLeDiff, Nat.reduceEqDiff, Nat.reduceAdd, Nat.reduceBEq, Int.reduceEq, H.cv_3_5, H.cv_5_3, c1]
        refine hM _ ?_; clear hM M
        simp (disch := first | omega | (simp only [List.length_cons, List.length_nil, List.length_append, u8s_len]; omega)) only [go_sem, ↓reduceIte, true_and, Nat.reduceLeDiff, Nat.reduceEqDiff, Nat.reduceAdd, Nat.reduceBEq, Int.reduceEq, H.cv_3_5, H.cv_5_3]
        rw [checkS, if_neg (by rw [hd]; decide), if_pos hp, if_neg (show ¬ countS c 4096 < 0 from c1)]
        exact ⟨rfl, hO.keep⟩
theorem encode_ok {c : Cel} {cs : List AV} (hce : CE cs c) (h : Heap) : AWF P ann 0 13 [.ag cs] h fun r h' => EncR c r ∧ h' = h := by
  obtain ⟨v, es, rfl, hv, hl, hf⟩ := id hce.out
  refine AWF.fnPurec H.f0_13 rfl ?_
  have hO := OB.nil (h := h)
  (refine W_seq_gen fun N hN => ?_); simp (disch := first | omega | (simp only [List.length_cons, List.length_nil, List.length_append, u8s_len]; omega)) only [go_sem, ↓reduceIte, true_and, Nat.reduceLeDiff, Nat.reduceEqDiff, Nat.reduceAdd, Nat.reduceBEq, Int.reduceEq, H.cv_3_5, H.cv_5_3, hv.disc, hv.same]
  intro o1 h1
  refine hN _ ?_; clear hN N; refine W_ob (hO.new h1) fun hc hO => ?_
  refine W_forget (fun t => t 1 = .op o1 0 ∧ True) (by simp [upd_at, *] <;> (first | rfl | exact ⟨rfl, rfl⟩ | exact ⟨rfl, rfl, rfl⟩)) ?_; rintro t ⟨t1, -⟩
  (refine W_seq_gen fun N hN => ?_); simp (disch := first | omega | (simp only [List.length_cons, List.length_nil, List.length_append, u8s_len]; omega)) only [go_sem, ↓reduceIte, true_and, Nat.reduceLeDiff, Nat.reduceEqDiff, Nat.reduceAdd, Nat.reduceBEq, Int.reduceEq, H.cv_3_5, H.cv_5_3, t1, hO.get0, hv.disc, hv.same]
  refine (check_ok H hce _).mono ?_
  rintro _ _ ⟨rfl, hh⟩; subst hh
  generalize hk : checkS c = k
  by_cases k0 : k = 0
  case neg =>
    have q : (!decide (k = 0)) = true := by simp [k0]
    rw [contK_some]; simp (disch := first | omega | (simp only [List.length_cons, List.length_nil, List.length_append, u8s_len]; omega)) only [go_sem, ↓reduceIte, true_and, Nat.reduceLeDiff, Nat.reduceEqDiff, Nat.reduceAdd, Nat.reduceBEq, Int.reduceEq, H.cv_3_5, H.cv_5_3, errN, q]
    have he : encE c = k := by rw [encE, hk, if_neg k0]
    refine ⟨⟨_, by rw [he]; rfl, ?_⟩, hO.keep⟩
    rw [he, if_neg k0]
    exact SF.nil
  subst k0
  have hb := enc_bd hk
  rw [contK_some]; simp (disch := first | omega | (simp only [List.length_cons, List.length_nil, List.length_append, u8s_len]; omega)) only [go_sem, ↓reduceIte, true_and, Nat.reduceLeDiff, Nat.reduceEqDiff, Nat.reduceAdd, Nat.reduceBEq, Int.reduceEq, H.cv_3_5, H.cv_5_3, errN]
  refine hN _ ?_; clear hN N
  (refine W_seq_gen fun N hN => ?_); simp (disch := first | omega | (simp only [List.length_cons, List.length_nil, List.length_append, u8s_len]; omega)) only [go_sem, ↓reduceIte, true_and, Nat.reduceLeDiff, Nat.reduceEqDiff, Nat.reduceAdd, Nat.reduceBEq, Int.reduceEq, H.cv_3_5, H.cv_5_3, t1, hO.get0, hv.disc, hv.same]
  refine (put_ok H c _ hce hb.1 _ [] SG.nil (by simpa using hb.2) _).mono ?_
  rintro r _ ⟨hr, hh⟩; subst hh
  rw [PutR, List.nil_append] at hr
  split at hr
  · rename_i hle
    have he : encE c = 0 := by rw [encE, hk, if_pos rfl, if_pos (by simpa using hle)]
    obtain ⟨lim, rfl⟩ := hr
    rw [contK_some]; simp (disch := first | omega | (simp only [List.length_cons, List.length_nil, List.length_append, u8s_len]; omega)) only [go_sem, ↓reduceIte, true_and, Nat.reduceLeDiff, Nat.reduceEqDiff, Nat.reduceAdd, Nat.reduceBEq, Int.reduceEq, H.cv_3_5, H.cv_5_3]
    refine hN _ ?_; clear hN N
    (refine W_seq_gen fun N hN => ?_); simp (disch := first | omega | (simp only [List.length_cons, List.length_nil, List.length_append, u8s_len]; omega)) only [go_sem, ↓reduceIte, true_and, Nat.reduceLeDiff, Nat.reduceEqDiff, Nat.reduceAdd, Nat.reduceBEq, Int.reduceEq, H.cv_3_5, H.cv_5_3]
    refine hN _ ?_; clear hN N
    simp (disch := first | omega | (simp only [List.length_cons, List.length_nil, List.length_append, u8s_len]; omega)) only [go_sem, ↓reduceIte, true_and, Nat.reduceLeDiff, Nat.reduceEqDiff, Nat.reduceAdd, Nat.reduceBEq, Int.reduceEq, H.cv_3_5, H.cv_5_3]
    refine ⟨⟨_, by rw [he]; rfl, ?_⟩, hO.keep⟩
    rw [he, if_pos rfl]
    exact SF.bs
  · rename_i hle
    have he : encE c = 3 := by rw [encE, hk, if_pos rfl, if_neg (by simpa using hle)]
    subst hr
    rw [contK_some]; simp (disch := first | omega | (simp only [List.length_cons, List.length_nil, List.length_append, u8s_len]; omega)) only [go_sem, ↓reduceIte, true_and, Nat.reduceLeDiff, Nat.reduceEqDiff, Nat.reduceAdd, Nat.reduceBEq, Int.reduceEq, H.cv_3_5, H.cv_5_3]
    refine hN _ ?_; clear hN N
    simp (disch := first | omega | (simp only [List.length_cons, List.length_nil, List.length_append, u8s_len]; omega)) only [go_sem, ↓reduceIte, true_and, Nat.reduceLeDiff, Nat.reduceEqDiff, Nat.reduceAdd, Nat.reduceBEq, Int.reduceEq, H.cv_3_5, H.cv_5_3]
    refine ⟨⟨_, by rw [he]; rfl, ?_⟩, hO.keep⟩
    rw [he, if_neg (by decide)]
    exact SF.nil
end Go.Proofs.Ytjebhcflpibkkaa
end

section
set_option linter.unusedVariables false
set_option linter.unusedSimpArgs false
namespace Go.Proofs.Ytjebhcflpibkkaa
open Go.Am
abbrev noS : ByteArray := ⟨#[]⟩
theorem sl_tu {sz v es} (h : SL sz v es) : v.isTu = false := by rcases h with ⟨rfl, _⟩ | ⟨o, l, rfl⟩ <;> rfl
theorem numB_small {n : Nat} (h : n < 128) : numB n = [UInt8.ofNat n] := by rw [numB, if_pos h]
theorem zig_m1 : zig (-1) = 1 := by decide
def wakeC : Cel := .mk 3 0 noS [.mk 1 (-1) noS [], .mk 2 0 ⟨#[97]⟩ []]
theorem wake_encB : encB wakeC = [3, 2, 1, 1, 2, 1, 97] := by
  have h1 : encB (.mk 1 (-1) noS []) = [1, 1] := by
    rw [encB, if_pos rfl, zig_m1, numB_small (by decide)]; rfl
  have h2 : encB (.mk 2 0 ⟨#[97]⟩ []) = [2, 1, 97] := by
    rw [encB, if_neg (by decide), if_pos rfl, numB_small (by decide)]; rfl
  rw [wakeC, encB, if_neg (by decide), if_neg (by decide), numB_small (by decide), encL, encL, encL, h1, h2]
  rfl
theorem wake_check : checkS wakeC = 0 := by
  have hd : deepS 12 wakeC = false := by rfl
  have hp : pureS wakeC = true := by
    simp [wakeC, pureS, pureL]
    rfl
  have hc : countS wakeC 4096 = 4093 := by
    simp [wakeC, countS, countL, ByteArray.size]
  rw [checkS, hd, hp, hc]
  rfl
theorem wake_encE : encE wakeC = 0 := by rw [encE, wake_check, wake_encB]; rfl
theorem fits_small {k n : Int} {s : ByteArray} {l : List Cel} (h1 : -9223372036854775808 ≤ k ∧ k < 9223372036854775808) (h2 : -9223372036854775808 ≤ n ∧ n < 9223372036854775808) (h3 : s.size < 2 ^ 47) (h4 : l.length < 2 ^ 42) : Fits (.mk k n s l) :=
  ⟨h1.1, h1.2, h2.1, h2.2, h3, h4⟩
variable {P : Program} (H : Has P)
include H
theorem num_ok (n : Int) (h : Heap) : AWF P ann 0 7 [.sc (.int .i64 n)] h fun r h' => r = .ag [.sc (.int .i64 ((1 : Nat) : Int)), .sc (.int .i64 n), .sc (.string noS), .sc (.slice none 0 0)] ∧ h' = h := by
  refine AWF.fnPurec H.f0_7 rfl ?_
  have hO := OB.nil (h := h)
  (refine W_seq_gen fun N hN => ?_); simp (disch := first | omega | (simp only [List.length_cons, List.length_nil, List.length_append, u8s_len]; omega)) only [go_sem, ↓reduceIte, true_and, Nat.reduceLeDiff, Nat.reduceEqDiff, Nat.reduceAdd, Nat.reduceBEq, Int.reduceEq, H.cv_3_5, H.cv_5_3]
  intro o1 h1
  refine hN _ ?_; clear hN N; refine W_ob (hO.new h1) fun hc hO => ?_
  simp (disch := first | omega | (simp only [List.length_cons, List.length_nil, List.length_append, u8s_len]; omega)) only [go_sem, ↓reduceIte, true_and, Nat.reduceLeDiff, Nat.reduceEqDiff, Nat.reduceAdd, Nat.reduceBEq, Int.reduceEq, H.cv_3_5, H.cv_5_3, hO.get0]
  exact hO.st0.keep
theorem text_ok (s : ByteArray) (h : Heap) : AWF P ann 0 8 [.sc (.string s)] h fun r h' => r = .ag [.sc (.int .i64 ((2 : Nat) : Int)), .sc (.int .i64 ((0 : Nat) : Int)), .sc (.string s), .sc (.slice none 0 0)] ∧ h' = h := by
  refine AWF.fnPurec H.f0_8 rfl ?_
  have hO := OB.nil (h := h)
  (refine W_seq_gen fun N hN => ?_); simp (disch := first | omega | (simp only [List.length_cons, List.length_nil, List.length_append, u8s_len]; omega)) only [go_sem, ↓reduceIte, true_and, Nat.reduceLeDiff, Nat.reduceEqDiff, Nat.reduceAdd, Nat.reduceBEq, Int.reduceEq, H.cv_3_5, H.cv_5_3]
  intro o1 h1
  refine hN _ ?_; clear hN N; refine W_ob (hO.new h1) fun hc hO => ?_
  simp (disch := first | omega | (simp only [List.length_cons, List.length_nil, List.length_append, u8s_len]; omega)) only [go_sem, ↓reduceIte, true_and, Nat.reduceLeDiff, Nat.reduceEqDiff, Nat.reduceAdd, Nat.reduceBEq, Int.reduceEq, H.cv_3_5, H.cv_5_3, hO.get0]
  exact hO.st0.keep
theorem list_ok {v : AV} {es : List (List AV)} (hv : SL 4 v es) (hl : es.length * 56 ≤ 2 ^ 47) (h : Heap) :
    AWF P ann 0 9 [v] h fun r h' => (∃ v', r = .ag [.sc (.int .i64 ((3 : Nat) : Int)), .sc (.int .i64 ((0 : Nat) : Int)), .sc (.string noS), v'] ∧ SF 4 v' es) ∧ h' = h := by
  refine AWF.fnPurec H.f0_9 rfl ?_
  have hO := OB.nil (h := h)
  (refine W_seq_gen fun N hN => ?_); simp (disch := first | omega | (simp only [List.length_cons, List.length_nil, List.length_append, u8s_len]; omega)) only [go_sem, ↓reduceIte, true_and, Nat.reduceLeDiff, Nat.reduceEqDiff, Nat.reduceAdd, Nat.reduceBEq, Int.reduceEq, H.cv_3_5, H.cv_5_3]
  intro o1 h1
  refine hN _ ?_; clear hN N; refine W_ob (hO.new h1) fun hc hO => ?_
  have hg : SG 4 (.bs true 4 [] (some 0)) [] := SG.bs
  have happ := fun (t : Nat → AV) (h : Heap) => hg.app (t := t) (h := h) (ys := es) (bytes := 56) (by simp; omega)
  have hg2 := hg.cat es
  rw [List.nil_append] at hg2
  generalize catV 4 es (.bs true 4 [] (some 0)) = w at happ hg2
  simp (disch := first | omega | (simp only [List.length_cons, List.length_nil, List.length_append, u8s_len]; omega)) only [go_sem, ↓reduceIte, true_and, Nat.reduceLeDiff, Nat.reduceEqDiff, Nat.reduceAdd, Nat.reduceBEq, Int.reduceEq, H.cv_3_5, H.cv_5_3, hO.get0, hv.dd, hv.dis.elems, happ, hg2.sl.dis.cells, hg2.sl.ddisc, sl_tu hg2.sl.dis]
  exact ⟨⟨_, rfl, hg2.sl.df⟩, hO.st0.keep⟩
theorem awake_ok (h : Heap) : AWF P ann 0 11 [] h fun r h' => r = .sc (.bool true) ∧ h' = h := by
  refine AWF.fnc H.f0_11 rfl ?_
  (refine W_seq_gen fun N hN => ?_); simp (disch := first | omega | (simp only [List.length_cons, List.length_nil, List.length_append, u8s_len]; omega)) only [go_sem, ↓reduceIte, true_and, Nat.reduceLeDiff, Nat.reduceEqDiff, Nat.reduceAdd, Nat.reduceBEq, Int.reduceEq, H.cv_3_5, H.cv_5_3]
  refine hN _ ?_; clear hN N
  (refine W_seq_gen fun N hN => ?_); simp (disch := first | omega | (simp only [List.length_cons, List.length_nil, List.length_append, u8s_len]; omega)) only [go_sem, ↓reduceIte, true_and, Nat.reduceLeDiff, Nat.reduceEqDiff, Nat.reduceAdd, Nat.reduceBEq, Int.reduceEq, H.cv_3_5, H.cv_5_3]
  refine (num_ok H (-1) _).mono ?_
  rintro _ _ ⟨rfl, hh⟩; subst hh
  rw [contK_some]; simp (disch := first | omega | (simp only [List.length_cons, List.length_nil, List.length_append, u8s_len]; omega)) only [go_sem, ↓reduceIte, true_and, Nat.reduceLeDiff, Nat.reduceEqDiff, Nat.reduceAdd, Nat.reduceBEq, Int.reduceEq, H.cv_3_5, H.cv_5_3]
  refine (text_ok H ⟨#[97]⟩ _).mono ?_
  rintro _ _ ⟨rfl, hh⟩; subst hh
  rw [contK_some]; simp (disch := first | omega | (simp only [List.length_cons, List.length_nil, List.length_append, u8s_len]; omega)) only [go_sem, ↓reduceIte, true_and, Nat.reduceLeDiff, Nat.reduceEqDiff, Nat.reduceAdd, Nat.reduceBEq, Int.reduceEq, H.cv_3_5, H.cv_5_3]
  refine (list_ok H (es := [[.sc (.int .i64 ((1 : Nat) : Int)), .sc (.int .i64 (-1)), .sc (.string noS), .sc (.slice none 0 0)], [.sc (.int .i64 ((2 : Nat) : Int)), .sc (.int .i64 ((0 : Nat) : Int)), .sc (.string ⟨#[97]⟩), .sc (.slice none 0 0)]]) (.inr ⟨_, _, rfl⟩) (by simp) _).mono ?_
  rintro _ _ ⟨⟨v', rfl, hv'⟩, hh⟩; subst hh
  rw [contK_some]; simp (disch := first | omega | (simp only [List.length_cons, List.length_nil, List.length_append, u8s_len]; omega)) only [go_sem, ↓reduceIte, true_and, Nat.reduceLeDiff, Nat.reduceEqDiff, Nat.reduceAdd, Nat.reduceBEq, Int.reduceEq, H.cv_3_5, H.cv_5_3, hv'.same, hv'.disc]
  have c1 : CE [.sc (.int .i64 ((1 : Nat) : Int)), .sc (.int .i64 (-1)), .sc (.string noS), .sc (.slice none 0 0)] (.mk 1 (-1) noS []) :=
    CE.in (fits_small (by omega) (by omega) (by decide) (by decide)) SF.nil RR.nil
  have c2 : CE [.sc (.int .i64 ((2 : Nat) : Int)), .sc (.int .i64 ((0 : Nat) : Int)), .sc (.string ⟨#[97]⟩), .sc (.slice none 0 0)] (.mk 2 0 ⟨#[97]⟩ []) :=
    CE.in (fits_small (by omega) (by omega) (by decide) (by decide)) SF.nil RR.nil
  have cw : CE [.sc (.int .i64 ((3 : Nat) : Int)), .sc (.int .i64 ((0 : Nat) : Int)), .sc (.string noS), v'] wakeC :=
    CE.in (fits_small (by omega) (by omega) (by decide) (by decide)) hv' ⟨c1, c2, trivial⟩
  refine (encode_ok H cw _).mono ?_
  rintro _ _ ⟨⟨w, rfl, hw⟩, hh⟩; subst hh
  rw [wake_encE, if_pos rfl, wake_encB] at hw
  rw [wake_encE]
  rw [contK_some]; simp (disch := first | omega | (simp only [List.length_cons, List.length_nil, List.length_append, u8s_len]; omega)) only [go_sem, ↓reduceIte, true_and, Nat.reduceLeDiff, Nat.reduceEqDiff, Nat.reduceAdd, Nat.reduceBEq, Int.reduceEq, H.cv_3_5, H.cv_5_3, errN, hw.same, hw.disc]
  refine hN _ ?_; clear hN N
  have e1 : decide (str [3, 2, 1, 1, 2, 1, 97] = ⟨#[3, 2, 1, 1, 2, 1, 97]⟩) = true := by decide
  simp (disch := first | omega | (simp only [List.length_cons, List.length_nil, List.length_append, u8s_len]; omega)) only [go_sem, ↓reduceIte, true_and, Nat.reduceLeDiff, Nat.reduceEqDiff, Nat.reduceAdd, Nat.reduceBEq, Int.reduceEq, H.cv_3_5, H.cv_5_3, hw.same, hw.sl.b2s, e1]
end Go.Proofs.Ytjebhcflpibkkaa
end

section
set_option linter.unusedVariables false
set_option linter.unusedSimpArgs false
namespace Go.Proofs.Ytjebhcflpibkkaa
open Go.Am
theorem foldmax_le {l : List Nat} {m n : Nat} (hm : m ≤ n) (h : ∀ x ∈ l, x ≤ n) : l.foldl max m ≤ n := by
  induction l generalizing m with
  | nil => exact hm
  | cons x l ih => exact ih (by have := h x (by simp); simp; omega) fun y hy => h y (by simp [hy])
theorem foldmax_ge {l : List Nat} {m : Nat} : m ≤ l.foldl max m ∧ ∀ x ∈ l, x ≤ l.foldl max m := by
  induction l generalizing m with
  | nil => simp
  | cons x l ih =>
    have h := ih (m := max m x)
    refine ⟨by have := h.1; simp only [List.foldl_cons]; omega, fun y hy => ?_⟩
    rcases List.mem_cons.1 hy with rfl | hy
    · have := h.1; simp only [List.foldl_cons]; omega
    · exact h.2 y hy
theorem deep_no : ∀ (n : Nat) (c : Cel), deepS n c = false → ∀ m, depthS m c ≤ n := by
  intro n
  induction n with
  | zero => intro c h; simp [deepS] at h
  | succ n ih =>
    intro c h m
    cases m with
    | zero => simp [depthS]
    | succ m =>
      rw [deepS_succ, List.any_eq_false] at h
      rw [depthS]
      have := foldmax_le (l := c.l.map (depthS m)) (m := 0) (n := n) (by omega) fun x hx => by
        obtain ⟨y, hy, rfl⟩ := List.mem_map.1 hx
        exact ih y (by simpa using h y hy) m
      omega
theorem deep_yes : ∀ (n : Nat) (c : Cel), deepS n c = true → ∀ m, n ≤ m → n + 1 ≤ depthS m c := by
  intro n
  induction n with
  | zero =>
    intro c _ m _
    cases m with
    | zero => simp [depthS]
    | succ m => rw [depthS]; omega
  | succ n ih =>
    intro c h m hm
    cases m with
    | zero => omega
    | succ m =>
      rw [deepS_succ, List.any_eq_true] at h
      obtain ⟨x, hx, hd⟩ := h
      have h1 := ih x hd m (by omega)
      have h2 := (foldmax_ge (l := c.l.map (depthS m)) (m := 0)).2 (depthS m x) (List.mem_map.2 ⟨x, hx, rfl⟩)
      rw [depthS]
      omega
theorem deep_mono : ∀ (n : Nat) (c : Cel), deepS n c = false → deepS (n + 1) c = false := by
  intro n
  induction n with
  | zero => intro c h; simp [deepS] at h
  | succ n ih =>
    intro c h
    rw [deepS_succ, List.any_eq_false] at h ⊢
    intro x hx
    have := ih x (by simpa using h x hx)
    simp [this]
theorem countL_mono {l : List Cel} (h : ∀ x ∈ l, ∀ a b : Int, 0 ≤ a → a ≤ b → countS x a ≤ countS x b) : ∀ a b : Int, a ≤ b → countL l a ≤ countL l b := by
  induction l with
  | nil => intro a b hab; rw [countL, countL]; exact hab
  | cons x l ih =>
    intro a b hab
    rw [countL, countL]
    split
    · split
      · omega
      · rename_i h1 h2
        have h3 := countS_bd x b (by omega)
        exact (countL_bd (l := l) (fun y _ => countS_bd y) _ h3.1).1
    · rename_i h1
      rw [if_neg (by omega)]
      exact ih (fun y hy => h y (by simp [hy])) _ _ (h x (by simp) a b (by omega) hab)
theorem countS_mono (c : Cel) : ∀ a b : Int, 0 ≤ a → a ≤ b → countS c a ≤ countS c b := by
  induction c using Cel.ind with
  | h c ih =>
    cases c with
    | mk k n s l =>
      intro a b h0 hab
      rw [countS, countS]
      split
      · omega
      · exact countL_mono (l := l) ih _ _ (by omega)
theorem countL_each {l : List Cel} : ∀ left : Int, -1 ≤ left → left ≤ 4096 → 0 ≤ countL l left → ∀ x ∈ l, 0 ≤ countS x 4096 := by
  induction l with
  | nil => intro _ _ _ _ x hx; cases hx
  | cons y l ih =>
    intro left h0 h1 hc x hx
    rw [countL] at hc
    split at hc
    · omega
    · have hy : 0 ≤ countS y left := by
        rcases Int.lt_or_le (countS y left) 0 with h | h
        · have := countL_neg (l := l) h
          omega
        · exact h
      rcases List.mem_cons.1 hx with rfl | hx
      · have := countS_mono x left 4096 (by omega) h1
        omega
      · have := countS_bd y left (by omega)
        exact ih _ (by omega) (by omega) hc x hx
theorem encL_mem {l : List Cel} {x : Cel} (h : x ∈ l) : (encB x).length ≤ (encL l).length := by
  induction l with
  | nil => cases h
  | cons y l ih =>
    rw [encL, List.length_append]
    rcases List.mem_cons.1 h with rfl | h
    · omega
    · have := ih h; omega
theorem pureL_all {l : List Cel} : pureL l = true ↔ ∀ x ∈ l, pureS x = true := by
  induction l with
  | nil => rw [pureL]; simp
  | cons y l ih => rw [pureL, Bool.and_eq_true, ih]; simp
/-- May a part be? -/
def okP (x : Cel) : Bool := decide (encE x = 0) && decide (depthS 13 x < 12)
abbrev listC (l : List Cel) : Cel := .mk 3 0 noS l
theorem list_pure (l : List Cel) : pureS (listC l) = pureL l := by
  rw [pureS, if_neg (by decide), if_neg (by decide), if_pos rfl]
  have : decide (noS = ByteArray.empty) = true := rfl
  rw [this]
  simp
theorem list_good {l : List Cel} (h : encE (listC l) = 0) : ∀ x ∈ l, okP x = true := by
  intro x hx
  have hc : checkS (listC l) = 0 := by
    unfold encE at h
    split at h
    · assumption
    · exact h
  rw [encE, if_pos hc] at h
  have hlen : (encB (listC l)).length ≤ 65536 := by
    split at h
    · assumption
    · cases h
  obtain ⟨h1, h2, h3⟩ := checkS_ok hc
  rw [list_pure, pureL_all] at h2
  rw [deepS_succ, List.any_eq_false] at h1
  have hd : deepS 11 x = false := by simpa using h1 x hx
  have hd12 := deep_mono 11 x hd
  have hp := h2 x hx
  rw [countS, if_neg (by decide)] at h3
  have hct := countL_each (4096 - 1) (by omega) (by omega) h3 x hx
  have hxl := encL_mem hx
  have hcx : checkS x = 0 := by
    rw [checkS, if_neg (by rw [hd12]; decide), if_pos hp, if_neg (by omega)]
  have hE : (encB (listC l)).length = 1 + ((numB l.length).length + (encL l).length) := by
    rw [encB, if_neg (by decide), if_neg (by decide), List.length_cons, List.length_append]; omega
  rw [okP, Bool.and_eq_true, decide_eq_true_eq, decide_eq_true_eq]
  refine ⟨?_, ?_⟩
  · rw [encE, if_pos hcx, if_pos (by omega)]
  · have := deep_no 11 x hd 13
    omega
theorem list_bad {l : List Cel} (h : encE (listC l) ≠ 0) (ho : ∀ x ∈ l, okP x = true) : encE (listC l) = 3 := by
  have hx : ∀ x ∈ l, checkS x = 0 ∧ depthS 13 x < 12 := fun x hx => by
    have := ho x hx
    rw [okP, Bool.and_eq_true, decide_eq_true_eq, decide_eq_true_eq] at this
    refine ⟨?_, this.2⟩
    have h1 := this.1
    unfold encE at h1
    split at h1
    · assumption
    · exact h1
  have hd : deepS 12 (listC l) = false := by
    rw [deepS_succ, List.any_eq_false]
    intro x hm
    cases hq : deepS 11 x
    · simp
    · have h1 := deep_yes 11 x hq 13 (by omega)
      have h2 := (hx x hm).2
      omega
  have hp : pureS (listC l) = true := by
    rw [list_pure, pureL_all]
    exact fun x hm => (checkS_ok (hx x hm).1).2.1
  unfold encE at h ⊢
  split
  · rename_i hc
    rw [if_pos hc] at h
    split
    · rename_i hl; rw [if_pos hl] at h; exact absurd rfl h
    · rfl
  · rename_i hc
    unfold checkS at hc ⊢
    rw [if_neg (by rw [hd]; decide), if_pos hp] at hc ⊢
    split
    · rfl
    · rename_i hn; rw [if_neg hn] at hc; exact absurd rfl hc
def bytesL (l : List Cel) : List UInt8 := (l.map fun x => if encE x = 0 then encB x else []).flatten
theorem bytesL_good {l : List Cel} (h : ∀ x ∈ l, okP x = true) : bytesL l = encL l := by
  induction l with
  | nil => rfl
  | cons x l ih =>
    have h1 := h x (by simp)
    rw [okP, Bool.and_eq_true, decide_eq_true_eq] at h1
    have h2 := ih fun y hy => h y (by simp [hy])
    unfold bytesL at h2 ⊢
    rw [List.map_cons, List.flatten_cons, h2, encL, if_pos h1.1]
theorem enc0_len {x : Cel} (h : encE x = 0) : (encB x).length ≤ 65536 := by
  have hc : checkS x = 0 := by
    unfold encE at h
    split at h
    · assumption
    · exact h
  rw [encE, if_pos hc] at h
  split at h
  · assumption
  · cases h
theorem bytesL_take {l : List Cel} {i : Nat} (h : i < l.length) : bytesL (l.take (i + 1)) = bytesL (l.take i) ++ (if encE l[i] = 0 then encB l[i] else []) := by
  have : l.take (i + 1) = l.take i ++ [l[i]] := by rw [List.take_add_one]; simp [h]
  rw [this, bytesL, List.map_append, List.flatten_append, List.map_singleton, List.flatten_singleton]
  rfl
theorem bytesL_len (l : List Cel) : (bytesL l).length ≤ 65536 * l.length := by
  induction l with
  | nil => simp [bytesL]
  | cons x l ih =>
    have h1 : (if encE x = 0 then encB x else []).length ≤ 65536 := by
      split
      · exact enc0_len (by assumption)
      · simp
    unfold bytesL at ih ⊢
    rw [List.map_cons, List.flatten_cons, List.length_append, List.length_cons]
    omega
theorem all_take {l : List Cel} {i : Nat} (h : i < l.length) : (l.take (i + 1)).all okP = ((l.take i).all okP && okP l[i]) := by
  have : l.take (i + 1) = l.take i ++ [l[i]] := by rw [List.take_add_one]; simp [h]
  rw [this, List.all_append]
  simp
end Go.Proofs.Ytjebhcflpibkkaa
end

section
set_option linter.unusedVariables false
set_option linter.unusedSimpArgs false
namespace Go.Proofs.Ytjebhcflpibkkaa
open Go.Am
theorem sameL_eq {l : List Cel} (h : ∀ x ∈ l, ∀ y, sameS x y = true → x = y) : ∀ l', sameL l l' = true → l = l' := by
  induction l with
  | nil => intro l' h; cases l' with
    | nil => rfl
    | cons _ _ => simp [sameL] at h
  | cons x l ih =>
    intro l' hs
    cases l' with
    | nil => simp [sameL] at hs
    | cons y l' =>
      rw [sameL, Bool.and_eq_true] at hs
      rw [h x (by simp) y hs.1, ih (fun z hz => h z (by simp [hz])) l' hs.2]
theorem sameS_same (a : Cel) : ∀ b, sameS a b = true → a = b := by
  induction a using Cel.ind with
  | h a ih =>
    intro b hs
    cases a with
    | mk k n s l =>
      cases b with
      | mk k' n' s' l' =>
        rw [sameS] at hs
        simp only [Bool.and_eq_true, decide_eq_true_eq] at hs
        obtain ⟨⟨⟨rfl, rfl⟩, rfl⟩, h⟩ := hs
        rw [sameL_eq (l := l) ih l' h]
theorem u8_inj {a b : Nat} (ha : a < 256) (hb : b < 256) (h : UInt8.ofNat a = UInt8.ofNat b) : a = b := by
  have := congrArg UInt8.toNat h
  simp at this
  omega
theorem numB_pre : ∀ (m m' : Nat) (r r' : List UInt8), numB m ++ r = numB m' ++ r' → m = m' ∧ r = r' := by
  intro m
  induction m using Nat.strongRecOn with
  | _ m ih =>
    intro m' r r' h
    rw [numB, numB.eq_def m'] at h
    split at h
    · split at h
      · simp only [List.cons_append, List.nil_append, List.cons.injEq] at h
        exact ⟨u8_inj (by omega) (by omega) h.1, h.2⟩
      · simp only [List.cons_append, List.nil_append, List.cons.injEq] at h
        have := u8_inj (by omega) (by omega) h.1
        omega
    · split at h
      · simp only [List.cons_append, List.nil_append, List.cons.injEq] at h
        have := u8_inj (by omega) (by omega) h.1
        omega
      · simp only [List.cons_append, List.cons.injEq] at h
        have h1 := u8_inj (by omega) (by omega) h.1
        obtain ⟨h2, h3⟩ := ih (m / 128) (by omega) (m' / 128) r r' h.2
        exact ⟨by omega, h3⟩
theorem zig_inj {a b : Int} (h : zig a = zig b) : a = b := by
  unfold zig at h
  split at h <;> split at h <;> omega
theorem encL_pre {l : List Cel} (h : ∀ x ∈ l, ∀ y r r', pureS x = true → pureS y = true → encB x ++ r = encB y ++ r' → x = y ∧ r = r') :
    ∀ (l' : List Cel) (r r' : List UInt8), l.length = l'.length → pureL l = true → pureL l' = true → encL l ++ r = encL l' ++ r' → l = l' ∧ r = r' := by
  induction l with
  | nil =>
    intro l' r r' hl _ _ he
    have : l' = [] := List.eq_nil_of_length_eq_zero hl.symm
    subst this
    exact ⟨rfl, he⟩
  | cons x l ih =>
    intro l' r r' hl hp hp' he
    cases l' with
    | nil => simp at hl
    | cons y l' =>
      rw [pureL, Bool.and_eq_true] at hp hp'
      rw [encL, encL, List.append_assoc, List.append_assoc] at he
      obtain ⟨rfl, h2⟩ := h x (by simp) y _ _ hp.1 hp'.1 he
      obtain ⟨rfl, h3⟩ := ih (fun z hz => h z (by simp [hz])) l' r r' (by simpa using hl) hp.2 hp'.2 h2
      exact ⟨rfl, h3⟩
theorem pureS_cases {k n : Int} {s : ByteArray} {l : List Cel} (h : pureS (.mk k n s l) = true) :
    (k = 1 ∧ s = ByteArray.empty ∧ l = []) ∨ (k = 2 ∧ n = 0 ∧ l = []) ∨ (k = 3 ∧ n = 0 ∧ s = ByteArray.empty ∧ pureL l = true) := by
  rw [pureS] at h
  split at h
  · rename_i hk
    simp only [Bool.and_eq_true, decide_eq_true_eq] at h
    exact .inl ⟨hk, h.1.2, List.eq_nil_of_length_eq_zero h.2⟩
  · split at h
    · rename_i hk
      simp only [Bool.and_eq_true, decide_eq_true_eq] at h
      exact .inr (.inl ⟨hk, h.1, List.eq_nil_of_length_eq_zero h.2⟩)
    · split at h
      · rename_i hk
        simp only [Bool.and_eq_true, decide_eq_true_eq] at h
        exact .inr (.inr ⟨hk, h.1.1, h.1.2, h.2⟩)
      · cases h
theorem ba_ext {s s' : ByteArray} (h : s.data.toList = s'.data.toList) : s = s' := by
  cases s; cases s'
  simp only [ByteArray.mk.injEq]
  exact Array.ext' h
theorem encB_pre (a : Cel) : ∀ b r r', pureS a = true → pureS b = true → encB a ++ r = encB b ++ r' → a = b ∧ r = r' := by
  induction a using Cel.ind with
  | h a ih =>
    intro b r r' ha hb he
    cases a with
    | mk k n s l =>
      cases b with
      | mk k' n' s' l' =>
        rw [encB, encB, List.cons_append, List.cons_append, List.cons.injEq] at he
        obtain ⟨hk, he⟩ := he
        have hkk : k = k' := by
          have h1 := pureS_cases ha
          have h2 := pureS_cases hb
          have := u8_inj (by omega) (by omega) hk
          omega
        subst hkk
        rcases pureS_cases ha with ⟨rfl, rfl, rfl⟩ | ⟨rfl, rfl, rfl⟩ | ⟨rfl, rfl, rfl, hp⟩
        · rcases pureS_cases hb with ⟨_, rfl, rfl⟩ | ⟨h, _⟩ | ⟨h, _⟩
          · rw [if_pos rfl, if_pos rfl] at he
            obtain ⟨h1, h2⟩ := numB_pre _ _ _ _ he
            rw [zig_inj h1]
            exact ⟨rfl, h2⟩
          · omega
          · omega
        · rcases pureS_cases hb with ⟨h, _⟩ | ⟨_, rfl, rfl⟩ | ⟨h, _⟩
          · omega
          · rw [if_neg (by decide), if_pos rfl, if_neg (by decide), if_pos rfl, List.append_assoc, List.append_assoc] at he
            obtain ⟨h1, h2⟩ := numB_pre _ _ _ _ he
            have hlen : s.data.toList.length = s'.data.toList.length := by rw [Array.length_toList, Array.length_toList]; exact h1
            obtain ⟨h3, h4⟩ := List.append_inj h2 hlen
            rw [ba_ext h3]
            exact ⟨rfl, h4⟩
          · omega
        · rcases pureS_cases hb with ⟨h, _⟩ | ⟨h, _⟩ | ⟨_, rfl, rfl, hp'⟩
          · omega
          · omega
          · rw [if_neg (by decide), if_neg (by decide), if_neg (by decide), if_neg (by decide), List.append_assoc, List.append_assoc] at he
            obtain ⟨h1, h2⟩ := numB_pre _ _ _ _ he
            obtain ⟨h3, h4⟩ := encL_pre (l := l) ih l' r r' h1 hp hp' h2
            rw [h3]
            exact ⟨rfl, h4⟩
/-- Bytes of which one's are the beginning of the other's are the same cell's. -/
theorem enc_apart {a b : Cel} (ha : pureS a = true) (hb : pureS b = true) {n : Nat} (hn : n = min (encB a).length (encB b).length) :
    decide ((encB a).take n = (encB b).take n) = sameS a b := by
  rw [Bool.eq_iff_iff, decide_eq_true_eq]
  constructor
  · intro h
    have key : a = b := by
      rcases Nat.le_total (encB a).length (encB b).length with hle | hle
      · have hn' : n = (encB a).length := by omega
        have h' : (encB b).take n = encB a := by rw [← h, hn', List.take_length]
        have : encB a ++ (encB b).drop n = encB b ++ [] := by rw [List.append_nil]; exact Eq.trans (by rw [h']) (List.take_append_drop n (encB b))
        exact (encB_pre a b _ _ ha hb this).1
      · have hn' : n = (encB b).length := by omega
        have h' : (encB a).take n = encB b := by rw [h, hn', List.take_length]
        have : encB b ++ (encB a).drop n = encB a ++ [] := by rw [List.append_nil]; exact Eq.trans (by rw [h']) (List.take_append_drop n (encB a))
        exact (encB_pre b a _ _ hb ha this).1.symm
    rw [key]
    exact sameS_refl b
  · intro h
    rw [sameS_same a b h]
end Go.Proofs.Ytjebhcflpibkkaa
end
