/- The reference's scans; scans in pieces. -/
import Derived.Test.YtmdkgaljnoookaaSheafScan
set_option linter.unusedVariables false
set_option linter.unusedSimpArgs false
namespace Go.Proofs.Ytmdkgaljnoookaa
open Go.Am
def inS (f to : ByteArray) (p : Pr) : Bool := !(sl p.1 f) && (decide (to = noS) || sl p.1 to)
theorem lbk_iff : ∀ (l : List Pr) (k : ByteArray) (j : Nat) (hj : j < l.length), Srt l = true → (sl l[j].1 k = true ↔ j < lbk l k)
  | [], _, j, hj, _ => by simp at hj
  | a :: l, k, j, hj, hs => by
    unfold lbk
    cases ha : sl a.1 k with
    | false =>
      rw [List.takeWhile_cons, ha]
      simp only [Bool.false_eq_true, if_false, List.length_nil, Nat.not_lt_zero, iff_false, Bool.not_eq_true]
      cases j with
      | zero => exact ha
      | succ j =>
        cases hb : sl (a :: l)[j + 1].1 k with
        | false => rfl
        | true =>
          have h1 := srt_lt hs (l[j]'(by simpa using hj)) (List.getElem_mem _)
          have h2 := sl_trans h1 hb
          rw [ha] at h2
          cases h2
    | true =>
      rw [List.takeWhile_cons, ha]
      simp only [if_true, List.length_cons]
      cases j with
      | zero => simpa using ha
      | succ j =>
        have := lbk_iff l k j (by simpa using hj) (srt_tail hs)
        unfold lbk at this
        rw [List.getElem_cons_succ, this]
        omega
theorem filter_ix {α : Type} {q : α → Bool} : ∀ (l : List α) (i k : Nat), (∀ (j : Nat) (hj : j < l.length), q l[j] = decide (i ≤ j ∧ j < k)) → l.filter q = (l.drop i).take (k - i)
  | [], i, k, _ => by simp
  | a :: l, i, k, h => by
    have h0 := h 0 (by simp)
    simp only [List.getElem_cons_zero] at h0
    have hr : ∀ i' k', (∀ j, (i' ≤ j ∧ j < k') ↔ (i ≤ j + 1 ∧ j + 1 < k)) → l.filter q = (l.drop i').take (k' - i') := fun i' k' hh => filter_ix l i' k' fun j hj => by
      have := h (j + 1) (by simpa using hj)
      rw [List.getElem_cons_succ] at this
      rw [this, decide_eq_decide]
      exact (hh j).symm
    rw [List.filter_cons, h0]
    cases i with
    | zero =>
      cases k with
      | zero =>
        have := hr 0 0 (fun j => by omega)
        simpa using this
      | succ k =>
        have := hr 0 k (fun j => by omega)
        simp only [Nat.le_refl, Nat.zero_lt_succ, and_self, decide_true, if_true, List.drop_zero, Nat.sub_zero, List.take_succ_cons] at this ⊢
        rw [this]
    | succ i =>
      have := hr i (k - 1) (fun j => by omega)
      simp only [Nat.not_succ_le_zero, false_and, decide_false, Bool.false_eq_true, if_false, List.drop_succ_cons]
      rw [this, show k - 1 - i = k - (i + 1) by omega]
      simp
theorem scan_all {l : List Pr} {f to : ByteArray} (hs : Srt l = true) : l.filter (inS f to) = (l.drop (lbk l f)).take (endS l f to - lbk l f) := by
  refine filter_ix l _ _ fun j hj => ?_
  have a := lbk_iff l f j hj hs
  have b := lbk_iff l to j hj hs
  have hb : ∀ x y : Bool, (x = true ↔ y = true) → x = y := fun x y h => by cases x <;> cases y <;> simp_all
  refine hb _ _ ?_
  unfold inS endS
  by_cases c : to = noS
  · simp only [c, decide_true, Bool.true_or, Bool.and_true, Bool.not_eq_true', decide_eq_true_eq, if_true]
    rw [← Bool.not_eq_true, a]
    omega
  · simp only [c, decide_false, Bool.false_or, Bool.and_eq_true, Bool.not_eq_true', decide_eq_true_eq, if_false]
    rw [← Bool.not_eq_true, a, b]
    omega
theorem scan_eq {l : List Pr} {f to : ByteArray} (m : Nat) (hs : Srt l = true) : (l.filter (inS f to)).take m = scanS l f to m := by
  have := endS_le l f to
  rw [scan_all hs, List.take_take, scanS, lenS]
  congr 1
  omega
theorem endS_ge (l : List Pr) (f to : ByteArray) : lbk l f ≤ endS l f to := Nat.le_max_left _ _
theorem scan_len {l : List Pr} {f to : ByteArray} (m : Nat) : (scanS l f to m).length = min (endS l f to - lbk l f) (min m l.length) := by
  have a := endS_le l f to
  have b := endS_ge l f to
  rw [scanS, List.length_take, List.length_drop, lenS]
  omega
theorem scan_on {l : List Pr} {f to : ByteArray} {m : Nat} (hs : Srt l = true) (hlt : (scanS l f to m).length < (scanS l f to l.length).length) :
    ∃ p, (scanS l f to l.length)[(scanS l f to m).length]? = some p ∧ scanS l f to m ++ scanS l p.1 to l.length = scanS l f to l.length := by
  have a := endS_le l f to
  have b := endS_ge l f to
  rw [scan_len, scan_len] at hlt
  have hn : (scanS l f to m).length = m := by rw [scan_len]; omega
  have hi : lbk l f + m < l.length := by omega
  have e1 : scanS l f to l.length = (l.drop (lbk l f)).take (endS l f to - lbk l f) := by rw [scanS, lenS]; congr 1; omega
  have e2 : scanS l f to m = (l.drop (lbk l f)).take m := by rw [scanS, lenS]; congr 1; omega
  have key : lbk l (l[lbk l f + m]).1 = lbk l f + m := by
    have h1 := fun j hj => lbk_iff l (l[lbk l f + m]).1 j hj hs
    have h2 := h1 (lbk l f + m) hi
    rw [sl_irr] at h2
    have h3 : ¬ lbk l f + m < lbk l (l[lbk l f + m]).1 := fun h => by simpa using h2.2 h
    rcases Nat.lt_or_ge (lbk l (l[lbk l f + m]).1) (lbk l f + m) with c | c
    · have h4 := (h1 _ (by omega)).1 (srt_get l _ _ c hi hs)
      omega
    · omega
  have hE : endS l (l[lbk l f + m]).1 to = endS l f to := by
    unfold endS at hlt a b ⊢
    rw [key]
    omega
  refine ⟨l[lbk l f + m], ?_, ?_⟩
  · rw [hn, e1, List.getElem?_take_of_lt (by omega), List.getElem?_drop, List.getElem?_eq_getElem hi]
  · have e3 : scanS l (l[lbk l f + m]).1 to l.length = ((l.drop (lbk l f)).drop m).take (endS l f to - lbk l f - m) := by
      rw [scanS, lenS, key, hE, List.drop_drop]; congr 1; omega
    rw [e1, e2, e3, ← List.take_append_drop m ((l.drop (lbk l f)).take (endS l f to - lbk l f)), List.take_take, List.drop_take]
    congr 2
    omega
end Go.Proofs.Ytmdkgaljnoookaa
