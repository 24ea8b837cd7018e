/- Cells as trees; what the functions come to, in plain data. -/
import Derived.Test.YtjebhcflpibkkaaCellCode
import Derived.Test.YtjebhcflpibkkaaAmOb
import Derived.Test.YtjebhcflpibkkaaAmFg
set_option linter.unusedVariables false
set_option linter.unusedSimpArgs false
namespace Go.Proofs.Ytjebhcflpibkkaa
open Go.Am
theorem setRange_all4 {a b c d x y z w : AV} : setRange [a, b, c, d] 0 [x, y, z, w] = [x, y, z, w] := by simp [setRange]
attribute [go_sem] setRange_all4
inductive Cel where
  | mk (k n : Int) (s : ByteArray) (l : List Cel)
namespace Cel
def k : Cel → Int | mk k _ _ _ => k
def n : Cel → Int | mk _ n _ _ => n
def s : Cel → ByteArray | mk _ _ s _ => s
def l : Cel → List Cel | mk _ _ _ l => l
end Cel
theorem cel_lt {c x : Cel} (h : x ∈ c.l) : SizeOf.sizeOf x < SizeOf.sizeOf c := by
  cases c with
  | mk k n s l =>
    have := List.sizeOf_lt_of_mem h
    simp only [Cel.l] at this
    simp
    omega
theorem Cel.ind {P : Cel → Prop} (h : ∀ c, (∀ x ∈ c.l, P x) → P c) (c : Cel) : P c := by
  generalize hn : SizeOf.sizeOf c = n
  induction n using Nat.strongRecOn generalizing c with
  | _ n ih => exact h c fun x hx => ih (SizeOf.sizeOf x) (by rw [← hn]; exact cel_lt hx) x rfl
/-- What every cell keeps to that is in a memory. -/
structure Fits (c : Cel) : Prop where
  k1 : -9223372036854775808 ≤ c.k
  k2 : c.k < 9223372036854775808
  n1 : -9223372036854775808 ≤ c.n
  n2 : c.n < 9223372036854775808
  s : c.s.size < 2 ^ 47
  l : c.l.length < 2 ^ 42
/-- A row of four slots is a cell. -/
inductive CE : List AV → Cel → Prop
  | mk {k n : Int} {s : ByteArray} {l : List Cel} {v : AV} {es : List (List AV)} (hf : Fits (.mk k n s l)) (hv : SF 4 v es) (hl : es.length = l.length) (he : ∀ (i : Nat) e x, es[i]? = some e → l[i]? = some x → CE e x) :
      CE [.sc (.int .i64 k), .sc (.int .i64 n), .sc (.string s), v] (.mk k n s l)
theorem RR.at {α : Type} {R : List AV → α → Prop} : ∀ {es : List (List AV)} {l : List α}, es.length = l.length → (∀ (i : Nat) e x, es[i]? = some e → l[i]? = some x → R e x) → RR R es l
  | [], [], _, _ => trivial
  | e :: es, x :: l, h, he => ⟨he 0 e x rfl rfl, RR.at (by simpa using h) fun i e' x' h1 h2 => he (i + 1) e' x' (by simpa using h1) (by simpa using h2)⟩
  | [], _ :: _, h, _ => by simp at h
  | _ :: _, [], h, _ => by simp at h
theorem CE.out {cs : List AV} {c : Cel} (h : CE cs c) : ∃ v es, cs = [.sc (.int .i64 c.k), .sc (.int .i64 c.n), .sc (.string c.s), v] ∧ SF 4 v es ∧ RR CE es c.l ∧ Fits c := by
  cases h with
  | mk hf hv hl he => exact ⟨_, _, rfl, hv, RR.at hl he, hf⟩
theorem CE.in {k n : Int} {s : ByteArray} {l : List Cel} {v : AV} {es : List (List AV)} (hf : Fits (.mk k n s l)) (hv : SF 4 v es) (h : RR CE es l) : CE [.sc (.int .i64 k), .sc (.int .i64 n), .sc (.string s), v] (.mk k n s l) :=
  .mk hf hv h.len fun i e x h1 h2 => by
    obtain ⟨e', h3, h4⟩ := h.get h2
    rw [h1] at h3
    cases h3
    exact h4

/-! ### What the functions come to -/
def deepS : Nat → Cel → Bool
  | 0, _ => true
  | n + 1, c => c.l.any (deepS n)
def depthS : Nat → Cel → Nat
  | 0, _ => 1
  | n + 1, c => (c.l.map (depthS n)).foldl max 0 + 1
mutual
def pureS : Cel → Bool
  | .mk k n s l => if k = 1 then decide (n ≥ -9007199254740992) && decide (n ≤ 9007199254740992) && decide (s = ByteArray.empty) && decide (l.length = 0)
    else if k = 2 then decide (n = 0) && decide (l.length = 0)
    else if k = 3 then decide (n = 0) && decide (s = ByteArray.empty) && pureL l
    else false
def pureL : List Cel → Bool
  | [] => true
  | c :: l => pureS c && pureL l
end
mutual
/-- From how many may be; below 0: too many, or a text is too long. -/
def countS : Cel → Int → Int
  | .mk k n s l, left => if s.size > 65536 then -1 else countL l (left - 1)
def countL : List Cel → Int → Int
  | [], left => left
  | c :: l, left => if left < 0 then -1 else countL l (countS c left)
end
mutual
def sizeS : Cel → Int → Int
  | .mk k n s l, m => if s.size > 70000 then 70000 else sizeL l (m + 1 + s.size)
def sizeL : List Cel → Int → Int
  | [], m => m
  | c :: l, m => if m < 70000 then sizeL l (sizeS c m) else m
end
mutual
def sameS : Cel → Cel → Bool
  | .mk k n s l, .mk k' n' s' l' => decide (k = k') && decide (n = n') && decide (s = s') && sameL l l'
def sameL : List Cel → List Cel → Bool
  | [], [] => true
  | c :: l, c' :: l' => sameS c c' && sameL l l'
  | _, _ => false
end
theorem any_drop {α : Type} {f : α → Bool} {l : List α} {i : Nat} (h : i < l.length) : (l.drop i).any f = (f l[i] || (l.drop (i + 1)).any f) := by
  rw [List.drop_eq_getElem_cons h, List.any_cons]
theorem deepS_succ (n : Nat) (c : Cel) : deepS (n + 1) c = c.l.any (deepS n) := by cases c; rfl
/-- How deep a cell is, as far as it matters. -/
theorem depthS_le : ∀ (n : Nat) (c : Cel), depthS n c ≤ n + 1 := by
  intro n
  induction n with
  | zero => intro c; simp [depthS]
  | succ n ih =>
    intro c
    have key : ∀ (l : List Cel) (m : Nat), m ≤ n + 1 → (l.map (depthS n)).foldl max m ≤ n + 1 := by
      intro l
      induction l with
      | nil => intro m h; exact h
      | cons x l ih2 => intro m h; exact ih2 _ (by have := ih x; simp; omega)
    have := key c.l 0 (by omega)
    simp only [depthS]
    omega
theorem foldmax_snoc (l : List Nat) (x : Nat) : (l ++ [x]).foldl max 0 = max (l.foldl max 0) x := by rw [List.foldl_append]; rfl
theorem countL_bd {l : List Cel} (h : ∀ x ∈ l, ∀ left : Int, 0 ≤ left → -1 ≤ countS x left ∧ countS x left ≤ left) : ∀ left : Int, -1 ≤ left → -1 ≤ countL l left ∧ countL l left ≤ left := by
  induction l with
  | nil => intro left hl; rw [countL]; omega
  | cons x l ih =>
    intro left hl
    rw [countL]
    split
    · omega
    · rename_i h0
      have h1 := h x (by simp) left (by omega)
      have h2 := ih (fun y hy => h y (by simp [hy])) (countS x left) h1.1
      omega
theorem countS_bd (c : Cel) : ∀ left : Int, 0 ≤ left → -1 ≤ countS c left ∧ countS c left ≤ left := by
  induction c using Cel.ind with
  | h c ih =>
    cases c with
    | mk k n s l =>
      intro left hl
      rw [countS]
      split
      · omega
      · have := countL_bd (l := l) ih (left - 1) (by omega)
        omega
theorem countL_drop {l : List Cel} {i : Nat} (h : i < l.length) (left : Int) : countL (l.drop i) left = if left < 0 then -1 else countL (l.drop (i + 1)) (countS l[i] left) := by
  rw [List.drop_eq_getElem_cons h, countL]
theorem sizeL_bd {l : List Cel} (h : ∀ x ∈ l, ∀ m : Int, 0 ≤ m → m < 70000 → 0 ≤ sizeS x m ∧ sizeS x m ≤ 140000) : ∀ m : Int, 0 ≤ m → m ≤ 140000 → 0 ≤ sizeL l m ∧ sizeL l m ≤ 140000 := by
  induction l with
  | nil => intro m h1 h2; rw [sizeL]; omega
  | cons x l ih =>
    intro m h1 h2
    rw [sizeL]
    split
    · have h3 := h x (by simp) m h1 (by omega)
      exact ih (fun y hy => h y (by simp [hy])) _ h3.1 h3.2
    · omega
theorem sizeS_bd (c : Cel) : ∀ m : Int, 0 ≤ m → m < 70000 → 0 ≤ sizeS c m ∧ sizeS c m ≤ 140000 := by
  induction c using Cel.ind with
  | h c ih =>
    cases c with
    | mk k n s l =>
      intro m h1 h2
      rw [sizeS]
      split
      · omega
      · exact sizeL_bd (l := l) ih _ (by omega) (by omega)
theorem sizeL_drop {l : List Cel} {i : Nat} (h : i < l.length) (m : Int) : sizeL (l.drop i) m = if m < 70000 then sizeL (l.drop (i + 1)) (sizeS l[i] m) else m := by
  rw [List.drop_eq_getElem_cons h, sizeL]
theorem sizeL_big {l : List Cel} {m : Int} (h : ¬ m < 70000) : sizeL l m = m := by
  cases l with
  | nil => rfl
  | cons x l => rw [sizeL, if_neg h]
theorem pureL_drop {l : List Cel} {i : Nat} (h : i < l.length) : pureL (l.drop i) = (pureS l[i] && pureL (l.drop (i + 1))) := by
  rw [List.drop_eq_getElem_cons h, pureL]
theorem sameL_drop {l l' : List Cel} {i : Nat} (h : i < l.length) (h' : i < l'.length) : sameL (l.drop i) (l'.drop i) = (sameS l[i] l'[i] && sameL (l.drop (i + 1)) (l'.drop (i + 1))) := by
  rw [List.drop_eq_getElem_cons h, List.drop_eq_getElem_cons h', sameL]
theorem sameL_len : ∀ {l l' : List Cel}, sameL l l' = true → l.length = l'.length
  | [], [], _ => rfl
  | c :: l, c' :: l', h => by
    rw [sameL, Bool.and_eq_true] at h
    simp [sameL_len h.2]
  | [], _ :: _, h => by simp [sameL] at h
  | _ :: _, [], h => by simp [sameL] at h
theorem sameS_eq (c c' : Cel) : sameS c c' = (decide (c.k = c'.k) && decide (c.n = c'.n) && decide (c.s = c'.s) && sameL c.l c'.l) := by
  cases c; cases c'; rfl
theorem sameL_refl {l : List Cel} (h : ∀ x ∈ l, sameS x x = true) : sameL l l = true := by
  induction l with
  | nil => rfl
  | cons x l ih => rw [sameL, h x (by simp), ih fun y hy => h y (by simp [hy])]; rfl
theorem sameS_refl (c : Cel) : sameS c c = true := by
  induction c using Cel.ind with
  | h c ih => rw [sameS_eq, sameL_refl ih]; simp
mutual
/-- What the bytes of a cell ask for. -/
def okC : Cel → Prop
  | .mk k n s l => (-9007199254740992 ≤ n ∧ n ≤ 9007199254740992) ∧ s.size ≤ 65536 ∧ okL l
def okL : List Cel → Prop
  | [] => True
  | c :: l => okC c ∧ okL l
end
theorem okL_get {l : List Cel} : ∀ {i : Nat} (h : i < l.length), okL l → okC l[i] := by
  induction l with
  | nil => intro i h; simp at h
  | cons x l ih =>
    intro i h ho
    rw [okL] at ho
    cases i with
    | zero => exact ho.1
    | succ i => exact ih (by simpa using h) ho.2
theorem countL_neg {l : List Cel} {left : Int} (h : left < 0) : countL l left < 0 := by
  cases l with
  | nil => exact h
  | cons x l => rw [countL, if_pos h]; decide
theorem okL_of {l : List Cel} (h : ∀ x ∈ l, ∀ left : Int, pureS x = true → 0 ≤ countS x left → okC x) : ∀ left : Int, pureL l = true → 0 ≤ countL l left → okL l := by
  induction l with
  | nil => intro left _ _; rw [okL]; trivial
  | cons x l ih =>
    intro left hp hc
    rw [pureL, Bool.and_eq_true] at hp
    rw [countL] at hc
    split at hc
    · omega
    · have h1 : 0 ≤ countS x left := by
        rcases Int.lt_or_le (countS x left) 0 with h | h
        · have := countL_neg (l := l) h
          omega
        · exact h
      rw [okL]
      exact ⟨h x (by simp) left hp.1 h1, ih (fun y hy => h y (by simp [hy])) _ hp.2 hc⟩
theorem okC_of (c : Cel) : ∀ left : Int, pureS c = true → 0 ≤ countS c left → okC c := by
  induction c using Cel.ind with
  | h c ih =>
    cases c with
    | mk k n s l =>
      intro left hp hc
      rw [countS] at hc
      split at hc
      · omega
      rename_i hs
      have hl : pureL l = true → okL l := fun hq => okL_of (l := l) ih _ hq hc
      rw [pureS] at hp
      rw [okC]
      split at hp
      · simp only [Bool.and_eq_true, decide_eq_true_eq] at hp
        obtain ⟨⟨⟨h1, h2⟩, h3⟩, h4⟩ := hp
        have : l = [] := List.eq_nil_of_length_eq_zero h4
        exact ⟨⟨h1, h2⟩, by omega, by rw [this, okL]; trivial⟩
      split at hp
      · simp only [Bool.and_eq_true, decide_eq_true_eq] at hp
        obtain ⟨h1, h4⟩ := hp
        have : l = [] := List.eq_nil_of_length_eq_zero h4
        exact ⟨by omega, by omega, by rw [this, okL]; trivial⟩
      split at hp
      · simp only [Bool.and_eq_true, decide_eq_true_eq] at hp
        obtain ⟨⟨h1, h2⟩, h3⟩ := hp
        exact ⟨by omega, by omega, hl h3⟩
      · cases hp
end Go.Proofs.Ytjebhcflpibkkaa
