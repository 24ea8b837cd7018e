/- Depths and counts of lists' parts. -/
import Derived.Test.YtjebhcflpibkkaaCellFn8
set_option linter.unusedVariables false
set_option linter.unusedSimpArgs false
namespace Go.Proofs.Ytjebhcflpibkkaa
open Go.Am
theorem foldmax_le {l : List Nat} {m n : Nat} (hm : m ≤ n) (h : ∀ x ∈ l, x ≤ n) : l.foldl max m ≤ n := by
  induction l generalizing m with
  | nil => exact hm
  | cons x l ih => exact ih (by have := h x (by simp); simp; omega) fun y hy => h y (by simp [hy])
theorem foldmax_ge {l : List Nat} {m : Nat} : m ≤ l.foldl max m ∧ ∀ x ∈ l, x ≤ l.foldl max m := by
  induction l generalizing m with
  | nil => simp
  | cons x l ih =>
    have h := ih (m := max m x)
    refine ⟨by have := h.1; simp only [List.foldl_cons]; omega, fun y hy => ?_⟩
    rcases List.mem_cons.1 hy with rfl | hy
    · have := h.1; simp only [List.foldl_cons]; omega
    · exact h.2 y hy
theorem deep_no : ∀ (n : Nat) (c : Cel), deepS n c = false → ∀ m, depthS m c ≤ n := by
  intro n
  induction n with
  | zero => intro c h; simp [deepS] at h
  | succ n ih =>
    intro c h m
    cases m with
    | zero => simp [depthS]
    | succ m =>
      rw [deepS_succ, List.any_eq_false] at h
      rw [depthS]
      have := foldmax_le (l := c.l.map (depthS m)) (m := 0) (n := n) (by omega) fun x hx => by
        obtain ⟨y, hy, rfl⟩ := List.mem_map.1 hx
        exact ih y (by simpa using h y hy) m
      omega
theorem deep_yes : ∀ (n : Nat) (c : Cel), deepS n c = true → ∀ m, n ≤ m → n + 1 ≤ depthS m c := by
  intro n
  induction n with
  | zero =>
    intro c _ m _
    cases m with
    | zero => simp [depthS]
    | succ m => rw [depthS]; omega
  | succ n ih =>
    intro c h m hm
    cases m with
    | zero => omega
    | succ m =>
      rw [deepS_succ, List.any_eq_true] at h
      obtain ⟨x, hx, hd⟩ := h
      have h1 := ih x hd m (by omega)
      have h2 := (foldmax_ge (l := c.l.map (depthS m)) (m := 0)).2 (depthS m x) (List.mem_map.2 ⟨x, hx, rfl⟩)
      rw [depthS]
      omega
theorem deep_mono : ∀ (n : Nat) (c : Cel), deepS n c = false → deepS (n + 1) c = false := by
  intro n
  induction n with
  | zero => intro c h; simp [deepS] at h
  | succ n ih =>
    intro c h
    rw [deepS_succ, List.any_eq_false] at h ⊢
    intro x hx
    have := ih x (by simpa using h x hx)
    simp [this]
theorem countL_mono {l : List Cel} (h : ∀ x ∈ l, ∀ a b : Int, 0 ≤ a → a ≤ b → countS x a ≤ countS x b) : ∀ a b : Int, a ≤ b → countL l a ≤ countL l b := by
  induction l with
  | nil => intro a b hab; rw [countL, countL]; exact hab
  | cons x l ih =>
    intro a b hab
    rw [countL, countL]
    split
    · split
      · omega
      · rename_i h1 h2
        have h3 := countS_bd x b (by omega)
        exact (countL_bd (l := l) (fun y _ => countS_bd y) _ h3.1).1
    · rename_i h1
      rw [if_neg (by omega)]
      exact ih (fun y hy => h y (by simp [hy])) _ _ (h x (by simp) a b (by omega) hab)
theorem countS_mono (c : Cel) : ∀ a b : Int, 0 ≤ a → a ≤ b → countS c a ≤ countS c b := by
  induction c using Cel.ind with
  | h c ih =>
    cases c with
    | mk k n s l =>
      intro a b h0 hab
      rw [countS, countS]
      split
      · omega
      · exact countL_mono (l := l) ih _ _ (by omega)
theorem countL_each {l : List Cel} : ∀ left : Int, -1 ≤ left → left ≤ 4096 → 0 ≤ countL l left → ∀ x ∈ l, 0 ≤ countS x 4096 := by
  induction l with
  | nil => intro _ _ _ _ x hx; cases hx
  | cons y l ih =>
    intro left h0 h1 hc x hx
    rw [countL] at hc
    split at hc
    · omega
    · have hy : 0 ≤ countS y left := by
        rcases Int.lt_or_le (countS y left) 0 with h | h
        · have := countL_neg (l := l) h
          omega
        · exact h
      rcases List.mem_cons.1 hx with rfl | hx
      · have := countS_mono x left 4096 (by omega) h1
        omega
      · have := countS_bd y left (by omega)
        exact ih _ (by omega) (by omega) hc x hx
theorem encL_mem {l : List Cel} {x : Cel} (h : x ∈ l) : (encB x).length ≤ (encL l).length := by
  induction l with
  | nil => cases h
  | cons y l ih =>
    rw [encL, List.length_append]
    rcases List.mem_cons.1 h with rfl | h
    · omega
    · have := ih h; omega
theorem pureL_all {l : List Cel} : pureL l = true ↔ ∀ x ∈ l, pureS x = true := by
  induction l with
  | nil => rw [pureL]; simp
  | cons y l ih => rw [pureL, Bool.and_eq_true, ih]; simp
/-- May a part be? -/
def okP (x : Cel) : Bool := decide (encE x = 0) && decide (depthS 13 x < 12)
abbrev listC (l : List Cel) : Cel := .mk 3 0 noS l
theorem list_pure (l : List Cel) : pureS (listC l) = pureL l := by
  rw [pureS, if_neg (by decide), if_neg (by decide), if_pos rfl]
  have : decide (noS = ByteArray.empty) = true := rfl
  rw [this]
  simp
theorem list_good {l : List Cel} (h : encE (listC l) = 0) : ∀ x ∈ l, okP x = true := by
  intro x hx
  have hc : checkS (listC l) = 0 := by
    unfold encE at h
    split at h
    · assumption
    · exact h
  rw [encE, if_pos hc] at h
  have hlen : (encB (listC l)).length ≤ 65536 := by
    split at h
    · assumption
    · cases h
  obtain ⟨h1, h2, h3⟩ := checkS_ok hc
  rw [list_pure, pureL_all] at h2
  rw [deepS_succ, List.any_eq_false] at h1
  have hd : deepS 11 x = false := by simpa using h1 x hx
  have hd12 := deep_mono 11 x hd
  have hp := h2 x hx
  rw [countS, if_neg (by decide)] at h3
  have hct := countL_each (4096 - 1) (by omega) (by omega) h3 x hx
  have hxl := encL_mem hx
  have hcx : checkS x = 0 := by
    rw [checkS, if_neg (by rw [hd12]; decide), if_pos hp, if_neg (by omega)]
  have hE : (encB (listC l)).length = 1 + ((numB l.length).length + (encL l).length) := by
    rw [encB, if_neg (by decide), if_neg (by decide), List.length_cons, List.length_append]; omega
  rw [okP, Bool.and_eq_true, decide_eq_true_eq, decide_eq_true_eq]
  refine ⟨?_, ?_⟩
  · rw [encE, if_pos hcx, if_pos (by omega)]
  · have := deep_no 11 x hd 13
    omega
theorem list_bad {l : List Cel} (h : encE (listC l) ≠ 0) (ho : ∀ x ∈ l, okP x = true) : encE (listC l) = 3 := by
  have hx : ∀ x ∈ l, checkS x = 0 ∧ depthS 13 x < 12 := fun x hx => by
    have := ho x hx
    rw [okP, Bool.and_eq_true, decide_eq_true_eq, decide_eq_true_eq] at this
    refine ⟨?_, this.2⟩
    have h1 := this.1
    unfold encE at h1
    split at h1
    · assumption
    · exact h1
  have hd : deepS 12 (listC l) = false := by
    rw [deepS_succ, List.any_eq_false]
    intro x hm
    cases hq : deepS 11 x
    · simp
    · have h1 := deep_yes 11 x hq 13 (by omega)
      have h2 := (hx x hm).2
      omega
  have hp : pureS (listC l) = true := by
    rw [list_pure, pureL_all]
    exact fun x hm => (checkS_ok (hx x hm).1).2.1
  unfold encE at h ⊢
  split
  · rename_i hc
    rw [if_pos hc] at h
    split
    · rename_i hl; rw [if_pos hl] at h; exact absurd rfl h
    · rfl
  · rename_i hc
    unfold checkS at hc ⊢
    rw [if_neg (by rw [hd]; decide), if_pos hp] at hc ⊢
    split
    · rfl
    · rename_i hn; rw [if_neg hn] at hc; exact absurd rfl hc
def bytesL (l : List Cel) : List UInt8 := (l.map fun x => if encE x = 0 then encB x else []).flatten
theorem bytesL_good {l : List Cel} (h : ∀ x ∈ l, okP x = true) : bytesL l = encL l := by
  induction l with
  | nil => rfl
  | cons x l ih =>
    have h1 := h x (by simp)
    rw [okP, Bool.and_eq_true, decide_eq_true_eq] at h1
    have h2 := ih fun y hy => h y (by simp [hy])
    unfold bytesL at h2 ⊢
    rw [List.map_cons, List.flatten_cons, h2, encL, if_pos h1.1]
theorem enc0_len {x : Cel} (h : encE x = 0) : (encB x).length ≤ 65536 := by
  have hc : checkS x = 0 := by
    unfold encE at h
    split at h
    · assumption
    · exact h
  rw [encE, if_pos hc] at h
  split at h
  · assumption
  · cases h
theorem bytesL_take {l : List Cel} {i : Nat} (h : i < l.length) : bytesL (l.take (i + 1)) = bytesL (l.take i) ++ (if encE l[i] = 0 then encB l[i] else []) := by
  have : l.take (i + 1) = l.take i ++ [l[i]] := by rw [List.take_add_one]; simp [h]
  rw [this, bytesL, List.map_append, List.flatten_append, List.map_singleton, List.flatten_singleton]
  rfl
theorem bytesL_len (l : List Cel) : (bytesL l).length ≤ 65536 * l.length := by
  induction l with
  | nil => simp [bytesL]
  | cons x l ih =>
    have h1 : (if encE x = 0 then encB x else []).length ≤ 65536 := by
      split
      · exact enc0_len (by assumption)
      · simp
    unfold bytesL at ih ⊢
    rw [List.map_cons, List.flatten_cons, List.length_append, List.length_cons]
    omega
theorem all_take {l : List Cel} {i : Nat} (h : i < l.length) : (l.take (i + 1)).all okP = ((l.take i).all okP && okP l[i]) := by
  have : l.take (i + 1) = l.take i ++ [l[i]] := by rw [List.take_add_one]; simp [h]
  rw [this, List.all_append]
  simp
end Go.Proofs.Ytjebhcflpibkkaa
