/- Rows cut anywhere, and rows behind each other. -/
import Derived.Test.YtfiaekgmblbmiaaSealLaws
set_option linter.unusedVariables false
set_option linter.unusedSimpArgs false
namespace Go.Proofs.Ytfiaekgmblbmiaa
open Go.Am

/-- Sealed records one behind the other. -/
def cat (L : List (List UInt8)) : List UInt8 := (L.map recS).flatten
def total (L : List (List UInt8)) : Nat := (L.map List.length).sum
/-- Numbers, as a slice's elements. -/
def nums (l : List Nat) : List (List AV) := l.map fun n => [.sc (.int .i64 (n : Nat))]

theorem recS_len (l : List UInt8) : (recS l).length = l.length + 9 := by simp [recS, three_len]; omega
theorem cat_nil : cat [] = [] := rfl
theorem cat_cons (a : List UInt8) (L : List (List UInt8)) : cat (a :: L) = recS a ++ cat L := by simp [cat]
theorem cat_snoc (L : List (List UInt8)) (a : List UInt8) : cat (L ++ [a]) = cat L ++ recS a := by simp [cat]
theorem total_cons (a : List UInt8) (L : List (List UInt8)) : total (a :: L) = a.length + total L := by simp [total]
theorem total_snoc (L : List (List UInt8)) (a : List UInt8) : total (L ++ [a]) = total L + a.length := by simp [total]
theorem cat_len : ∀ (L : List (List UInt8)), (cat L).length = total L + 9 * L.length
  | [] => rfl
  | a :: L => by rw [cat_cons, List.length_append, recS_len, cat_len L, total_cons, List.length_cons]; omega
theorem total_mem {L : List (List UInt8)} {a : List UInt8} (h : a ∈ L) : a.length ≤ total L := by
  induction L with
  | nil => cases h
  | cons b L ih =>
    rw [total_cons]
    rcases List.mem_cons.1 h with rfl | h
    · omega
    · have := ih h; omega
theorem total_take : ∀ (L : List (List UInt8)) (k : Nat), total (L.take k) ≤ total L
  | [], k => by simp
  | a :: L, 0 => by simp [total]
  | a :: L, k + 1 => by rw [List.take_succ_cons, total_cons, total_cons]; have := total_take L k; omega

/-- A record that is cut is none. -/
theorem first_cut (a : List UInt8) (ha : a.length ≤ 16384) (t : Nat) (ht : t < (recS a).length) : (firstS ((recS a).take t)).2.2 ≠ 0 := by
  rw [recS_len] at ht
  have hl : ((recS a).take t).length = t := by rw [List.length_take, recS_len]; omega
  unfold firstS
  split
  · simp
  rename_i h1
  split
  · simp
  have h3 : take3 ((recS a).take t) = a.length := by
    have e : recS a = three a.length ++ (three (sumS (three a.length)).toNat ++ (a ++ three (sumS a).toNat)) := by simp [recS]
    have e2 : (recS a).take t = three a.length ++ (three (sumS (three a.length)).toNat ++ (a ++ three (sumS a).toNat)).take (t - 3) := by
      rw [e, List.take_append, List.take_of_length_le (by simp [three_len]; omega)]
      rfl
    rw [e2, take3_app _ _ (by simp [three_len]), num3_three _ (by omega)]
  rw [h3, if_pos (by omega)]
  simp

theorem row_cat_cons (a : List UInt8) (ha : a.length ≤ 16384) (m : List UInt8) : rowS (recS a ++ m) = (a :: (rowS m).1, (recS a).length + (rowS m).2) := by
  rw [rowS_eq, first_rec a m ha]
  simp only [ne_eq, not_true_eq_false, if_false]
  rw [← recS_len a, List.drop_left]
theorem row_nil : rowS [] = ([], 0) := by decide
/-- The theorem of rows. -/
theorem row_cut : ∀ (L : List (List UInt8)) (t k : Nat), (∀ a ∈ L, a.length ≤ 16384) → k ≤ L.length → (∀ j, j < k → (cat (L.take (j + 1))).length ≤ t) → (k < L.length → t < (cat (L.take (k + 1))).length) → (rowS ((cat L).take t)).1 = L.take k
  | [], t, k, _, hk, _, _ => by simp [cat_nil, row_nil]
  | a :: L, t, 0, hL, hk, _, h2 => by
    have h3 := h2 (by simp)
    simp only [Nat.zero_add, List.take_succ_cons, List.take_zero, cat_cons, cat_nil, List.append_nil] at h3
    rw [cat_cons, List.take_append_of_le_length (by omega), rowS_eq, if_pos (first_cut a (hL a (by simp)) t h3)]
    simp
  | a :: L, t, k + 1, hL, hk, h1, h2 => by
    have h3 := h1 0 (by omega)
    simp only [Nat.zero_add, List.take_succ_cons, List.take_zero, cat_cons, cat_nil, List.append_nil] at h3
    have e : (cat (a :: L)).take t = recS a ++ (cat L).take (t - (recS a).length) := by
      rw [cat_cons, List.take_append, List.take_of_length_le h3]
    rw [e, row_cat_cons a (hL a (by simp)), List.take_succ_cons]
    simp only
    congr 1
    refine row_cut L _ k (fun b hb => hL b (by simp [hb])) (by simpa using hk) (fun j hj => ?_) (fun hk2 => ?_)
    · have := h1 (j + 1) (by omega)
      rw [List.take_succ_cons, cat_cons, List.length_append] at this
      omega
    · have := h2 (by simpa using hk2)
      rw [List.take_succ_cons, cat_cons, List.length_append] at this
      omega
/-- A whole row. -/
theorem row_cat : ∀ (L : List (List UInt8)), (∀ a ∈ L, a.length ≤ 16384) → rowS (cat L) = (L, (cat L).length)
  | [], _ => row_nil
  | a :: L, hL => by
    rw [cat_cons, row_cat_cons a (hL a (by simp)), row_cat L (fun b hb => hL b (by simp [hb]))]
    simp

theorem nums_get {l : List Nat} {i : Nat} (h : i < l.length) : (nums l)[i]? = some [.sc (.int .i64 (l[i] : Nat))] := by simp [nums, h]
theorem nums_len {l : List Nat} : (nums l).length = l.length := by simp [nums]
/-- Where the records end. -/
def ends (L : List (List UInt8)) (n : Nat) : List Nat := (List.range n).map fun j => (cat (L.take (j + 1))).length

variable {P : Program} (H : Has P)
include H

theorem cuts_law {v : AV} {es : List (List AV)} {L : List (List UInt8)} (hv : SF 1 v es) (hL : RR bytesR es L) (hlen : L.length < 2 ^ 60) (hls : ∀ a ∈ L, a.length < 2 ^ 60) (c : Nat) (hc : c < 65536) (h : Heap) :
    AWF P ann 0 6 [v, .sc (.int .u16 (c : Nat))] h fun r h' => r = .sc (.bool true) := by
  refine AWF.fnc H.f0_6 rfl ?_
  have e1 := hL.len
  (refine W_seq_gen fun N hN => ?_); simp (disch := first | omega | (simp only [List.length_cons, List.length_nil, List.length_append, u8s_len]; omega)) only [go_sem, ↓reduceIte, Nat.reduceEqDiff, Nat.reduceAdd, Nat.reduceBEq, Int.reduceEq, H.cv_3_29, H.cv_3_34, H.cv_5_3, H.cv_5_29, H.cv_29_3, H.cv_29_5, H.cv_33_3]
  refine hN _ ?_; clear hN N
  (refine W_seq_gen fun N hN => ?_); simp (disch := first | omega | (simp only [List.length_cons, List.length_nil, List.length_append, u8s_len]; omega)) only [go_sem, ↓reduceIte, Nat.reduceEqDiff, Nat.reduceAdd, Nat.reduceBEq, Int.reduceEq, H.cv_3_29, H.cv_3_34, H.cv_5_3, H.cv_5_29, H.cv_29_3, H.cv_29_5, H.cv_33_3]
  refine hN _ ?_; clear hN N
  (refine W_seq_gen fun M hM => ?_)
  (refine W_seq_gen fun N hN => ?_); simp (disch := first | omega | (simp only [List.length_cons, List.length_nil, List.length_append, u8s_len]; omega)) only [go_sem, ↓reduceIte, Nat.reduceEqDiff, Nat.reduceAdd, Nat.reduceBEq, Int.reduceEq, H.cv_3_29, H.cv_3_34, H.cv_5_3, H.cv_5_29, H.cv_29_3, H.cv_29_5, H.cv_33_3]
  refine hN _ ?_; clear hN N
  simp (disch := first | omega | (simp only [List.length_cons, List.length_nil, List.length_append, u8s_len]; omega)) only [go_sem, ↓reduceIte, Nat.reduceEqDiff, Nat.reduceAdd, Nat.reduceBEq, Int.reduceEq, H.cv_3_29, H.cv_3_34, H.cv_5_3, H.cv_5_29, H.cv_29_3, H.cv_29_5, H.cv_33_3]
  refine AW_loopN (fun n t h' => h' = h ∧ ∃ i, n = L.length - i ∧ i ≤ L.length ∧ i ≤ 40 ∧ t 0 = v ∧ t 1 = .sc (.int .u16 (c : Nat)) ∧ t 6 = .sc (.int .i64 (i : Nat)) ∧ t 5 = .sc (.int .i64 (total (L.take i) : Nat)) ∧ total (L.take i) ≤ 3000)
    (n := L.length) ⟨rfl, 0, rfl, Nat.zero_le _, by omega, rfl, rfl, rfl, rfl, by simp [total]⟩ ?_
  rintro n t h' ⟨rfl, i, rfl, hi, hi4, t0, t1, t6, t5, ht⟩
  by_cases hlt : i < L.length ∧ i < 40
  · obtain ⟨hlt, hi40⟩ := hlt
    obtain ⟨_, g1, x, rfl, hx⟩ := hL.lt hlt
    have hxl := hls L[i] (List.getElem_mem _)
    (refine W_seq_gen fun N hN => ?_); simp (disch := first | omega | (simp only [List.length_cons, List.length_nil, List.length_append, u8s_len]; omega)) only [go_sem, ↓reduceIte, Nat.reduceEqDiff, Nat.reduceAdd, Nat.reduceBEq, Int.reduceEq, H.cv_3_29, H.cv_3_34, H.cv_5_3, H.cv_5_29, H.cv_29_3, H.cv_29_5, H.cv_33_3, t0, t6, hv.same, hv.sl.len, e1, hlt, hi40]
    refine hN _ ?_; clear hN N
    (refine W_seq_gen fun N hN => ?_)
    rw [W_block]
    have hsn : total (L.take (i + 1)) = total (L.take i) + L[i].length := by
      have : L.take (i + 1) = L.take i ++ [L[i]] := by rw [List.take_add_one]; simp [hlt]
      rw [this, total_snoc]
    have e2 : ((3000 : Nat) : Int) - ((total (L.take i) : Nat) : Int) = ((3000 - total (L.take i) : Nat) : Int) := by omega
    (refine W_seq_gen fun N hN => ?_); simp (disch := first | omega | (simp only [List.length_cons, List.length_nil, List.length_append, u8s_len]; omega)) only [go_sem, ↓reduceIte, Nat.reduceEqDiff, Nat.reduceAdd, Nat.reduceBEq, Int.reduceEq, H.cv_3_29, H.cv_3_34, H.cv_5_3, H.cv_5_29, H.cv_29_3, H.cv_29_5, H.cv_33_3, t0, t5, t6, hv.same, hv.sl.ia, g1, hx.same, hx.sl.len, u8s_len, e2]
    refine ⟨fun hbig => ?_, fun hsm => ?_⟩
    · refine (awake_ok H _).mono ?_
      rintro _ _ ⟨rfl, hh⟩; subst hh
      rw [contK_some]; simp (disch := first | omega | (simp only [List.length_cons, List.length_nil, List.length_append, u8s_len]; omega)) only [go_sem, ↓reduceIte, Nat.reduceEqDiff, Nat.reduceAdd, Nat.reduceBEq, Int.reduceEq, H.cv_3_29, H.cv_3_34, H.cv_5_3, H.cv_5_29, H.cv_29_3, H.cv_29_5, H.cv_33_3]
    refine hN _ ?_; clear hN N
    simp (disch := first | omega | (simp only [List.length_cons, List.length_nil, List.length_append, u8s_len]; omega)) only [go_sem, ↓reduceIte, Nat.reduceEqDiff, Nat.reduceAdd, Nat.reduceBEq, Int.reduceEq, H.cv_3_29, H.cv_3_34, H.cv_5_3, H.cv_5_29, H.cv_29_3, H.cv_29_5, H.cv_33_3, t0, t5, t6, hv.same, hv.sl.ia, g1, hx.same, hx.sl.len, u8s_len, nat_add]
    refine hN _ ?_; clear hN N
    simp (disch := first | omega | (simp only [List.length_cons, List.length_nil, List.length_append, u8s_len]; omega)) only [go_sem, ↓reduceIte, Nat.reduceEqDiff, Nat.reduceAdd, Nat.reduceBEq, Int.reduceEq, H.cv_3_29, H.cv_3_34, H.cv_5_3, H.cv_5_29, H.cv_29_3, H.cv_29_5, H.cv_33_3, t6, nat_add]
    exact ⟨L.length - (i + 1), by omega, i + 1, rfl, by omega, by omega, t0, t1, rfl, by rw [hsn], by omega⟩
  have exit : i = L.length ∨ (i = 40 ∧ 40 < L.length) := by omega
  by_cases h40 : 40 < L.length
  · have hi' : i = 40 := by omega
    subst hi'
    (refine W_seq_gen fun N hN => ?_); simp (disch := first | omega | (simp only [List.length_cons, List.length_nil, List.length_append, u8s_len]; omega)) only [go_sem, ↓reduceIte, Nat.reduceEqDiff, Nat.reduceAdd, Nat.reduceBEq, Int.reduceEq, H.cv_3_29, H.cv_3_34, H.cv_5_3, H.cv_5_29, H.cv_29_3, H.cv_29_5, H.cv_33_3, t0, t6, hv.same, hv.sl.len, e1, h40, Nat.lt_irrefl]
    refine hM _ ?_; clear hN N hM M
    (refine W_seq_gen fun N hN => ?_); simp (disch := first | omega | (simp only [List.length_cons, List.length_nil, List.length_append, u8s_len]; omega)) only [go_sem, ↓reduceIte, Nat.reduceEqDiff, Nat.reduceAdd, Nat.reduceBEq, Int.reduceEq, H.cv_3_29, H.cv_3_34, H.cv_5_3, H.cv_5_29, H.cv_29_3, H.cv_29_5, H.cv_33_3, t0, hv.same, hv.sl.len, e1, h40]
    refine (awake_ok H _).mono ?_
    rintro _ _ ⟨rfl, hh⟩; subst hh
    rw [contK_some]; simp (disch := first | omega | (simp only [List.length_cons, List.length_nil, List.length_append, u8s_len]; omega)) only [go_sem, ↓reduceIte, Nat.reduceEqDiff, Nat.reduceAdd, Nat.reduceBEq, Int.reduceEq, H.cv_3_29, H.cv_3_34, H.cv_5_3, H.cv_5_29, H.cv_29_3, H.cv_29_5, H.cv_33_3]
  have hi' : i = L.length := by omega
  subst hi'
  rw [List.take_length] at ht
  (refine W_seq_gen fun N hN => ?_); simp (disch := first | omega | (simp only [List.length_cons, List.length_nil, List.length_append, u8s_len]; omega)) only [go_sem, ↓reduceIte, Nat.reduceEqDiff, Nat.reduceAdd, Nat.reduceBEq, Int.reduceEq, H.cv_3_29, H.cv_3_34, H.cv_5_3, H.cv_5_29, H.cv_29_3, H.cv_29_5, H.cv_33_3, t0, t6, hv.same, hv.sl.len, e1, Nat.lt_irrefl]
  refine hM _ ?_; clear hN N hM M
  clear exit hlt t5 t6
  (refine W_seq_gen fun N hN => ?_); simp (disch := first | omega | (simp only [List.length_cons, List.length_nil, List.length_append, u8s_len]; omega)) only [go_sem, ↓reduceIte, Nat.reduceEqDiff, Nat.reduceAdd, Nat.reduceBEq, Int.reduceEq, H.cv_3_29, H.cv_3_34, H.cv_5_3, H.cv_5_29, H.cv_29_3, H.cv_29_5, H.cv_33_3, t0, hv.same, hv.sl.len, e1, h40]
  refine hN _ ?_; clear hN N
  (refine W_seq_gen fun N hN => ?_); simp (disch := first | omega | (simp only [List.length_cons, List.length_nil, List.length_append, u8s_len]; omega)) only [go_sem, ↓reduceIte, Nat.reduceEqDiff, Nat.reduceAdd, Nat.reduceBEq, Int.reduceEq, H.cv_3_29, H.cv_3_34, H.cv_5_3, H.cv_5_29, H.cv_29_3, H.cv_29_5, H.cv_33_3]
  refine hN _ ?_; clear hN N
  (refine W_seq_gen fun N hN => ?_); simp (disch := first | omega | (simp only [List.length_cons, List.length_nil, List.length_append, u8s_len]; omega)) only [go_sem, ↓reduceIte, Nat.reduceEqDiff, Nat.reduceAdd, Nat.reduceBEq, Int.reduceEq, H.cv_3_29, H.cv_3_34, H.cv_5_3, H.cv_5_29, H.cv_29_3, H.cv_29_5, H.cv_33_3]
  refine hN _ ?_; clear hN N
  (refine W_seq_gen fun M hM => ?_)
  (refine W_seq_gen fun N hN => ?_); simp (disch := first | omega | (simp only [List.length_cons, List.length_nil, List.length_append, u8s_len]; omega)) only [go_sem, ↓reduceIte, Nat.reduceEqDiff, Nat.reduceAdd, Nat.reduceBEq, Int.reduceEq, H.cv_3_29, H.cv_3_34, H.cv_5_3, H.cv_5_29, H.cv_29_3, H.cv_29_5, H.cv_33_3]
  refine hN _ ?_; clear hN N
  simp (disch := first | omega | (simp only [List.length_cons, List.length_nil, List.length_append, u8s_len]; omega)) only [go_sem, ↓reduceIte, Nat.reduceEqDiff, Nat.reduceAdd, Nat.reduceBEq, Int.reduceEq, H.cv_3_29, H.cv_3_34, H.cv_5_3, H.cv_5_29, H.cv_29_3, H.cv_29_5, H.cv_33_3]
  have ht3 := ht
  have hcl := cat_len L
  refine AW_loopN (fun n t h' => ∃ i a b, n = L.length - i ∧ i ≤ L.length ∧ t 0 = v ∧ t 1 = .sc (.int .u16 (c : Nat)) ∧ t 9 = .sc (.int .i64 (i : Nat)) ∧ t 7 = a ∧ SG 1 a (u8s (cat (L.take i))) ∧ t 8 = b ∧ SG 1 b (nums (ends L i)))
    (n := L.length) ?_ ?_
  · refine ⟨0, _, _, rfl, Nat.zero_le _, ?_, ?_, rfl, rfl, SG.bs, rfl, SG.bs⟩
    · simpa [upd_at] using t0
    · simpa [upd_at] using t1
  clear t0 t1 t
  rintro n t h' ⟨i, a, b, rfl, hi, t0, t1, t9, t7, ha, t8, hb⟩
  have hct : (cat (L.take i)).length ≤ (cat L).length := by
    rw [cat_len, cat_len]
    have := total_take L i
    have : (L.take i).length ≤ L.length := by simp; omega
    omega
  rcases Nat.lt_or_ge i L.length with hlt | hge
  · obtain ⟨_, g1, x, rfl, hx⟩ := hL.lt hlt
    have hxl : L[i].length ≤ 3000 := Nat.le_trans (total_mem (List.getElem_mem _)) ht
    have hsn : L.take (i + 1) = L.take i ++ [L[i]] := by rw [List.take_add_one]; simp [hlt]
    have hrl := recS_len L[i]
    have hel : (nums (ends L i)).length = i := by simp [nums, ends]
    (refine W_seq_gen fun N hN => ?_); simp (disch := first | omega | (simp only [List.length_cons, List.length_nil, List.length_append, u8s_len]; omega)) only [go_sem, ↓reduceIte, Nat.reduceEqDiff, Nat.reduceAdd, Nat.reduceBEq, Int.reduceEq, H.cv_3_29, H.cv_3_34, H.cv_5_3, H.cv_5_29, H.cv_29_3, H.cv_29_5, H.cv_33_3, t0, t9, hv.same, hv.sl.len, e1, hlt]
    refine hN _ ?_; clear hN N
    (refine W_seq_gen fun N hN => ?_)
    rw [W_block]
    (refine W_seq_gen fun N hN => ?_); simp (disch := first | omega | (simp only [List.length_cons, List.length_nil, List.length_append, u8s_len]; omega)) only [go_sem, ↓reduceIte, Nat.reduceEqDiff, Nat.reduceAdd, Nat.reduceBEq, Int.reduceEq, H.cv_3_29, H.cv_3_34, H.cv_5_3, H.cv_5_29, H.cv_29_3, H.cv_29_5, H.cv_33_3, t0, t9, hv.same, hv.sl.ia, g1, hx.same]
    refine (record_ok H hx.sl (by omega) _).mono ?_
    rintro _ _ ⟨⟨s, rfl, hs⟩, hh⟩; subst hh
    rw [contK_some]; simp (disch := first | omega | (simp only [List.length_cons, List.length_nil, List.length_append, u8s_len]; omega)) only [go_sem, ↓reduceIte, Nat.reduceEqDiff, Nat.reduceAdd, Nat.reduceBEq, Int.reduceEq, H.cv_3_29, H.cv_3_34, H.cv_5_3, H.cv_5_29, H.cv_29_3, H.cv_29_5, H.cv_33_3, hs.disc, hs.same]
    refine hN _ ?_; clear hN N
    (refine W_seq_gen fun N hN => ?_); simp (disch := first | omega | (simp only [List.length_cons, List.length_nil, List.length_append, u8s_len]; omega)) only [go_sem, ↓reduceIte, Nat.reduceEqDiff, Nat.reduceAdd, Nat.reduceBEq, Int.reduceEq, H.cv_3_29, H.cv_3_34, H.cv_5_3, H.cv_5_29, H.cv_29_3, H.cv_29_5, H.cv_33_3]
    refine hN _ ?_; clear hN N
    (refine W_seq_gen fun N hN => ?_); simp (disch := first | omega | (simp only [List.length_cons, List.length_nil, List.length_append, u8s_len]; omega)) only [go_sem, ↓reduceIte, Nat.reduceEqDiff, Nat.reduceAdd, Nat.reduceBEq, Int.reduceEq, H.cv_3_29, H.cv_3_34, H.cv_5_3, H.cv_5_29, H.cv_29_3, H.cv_29_5, H.cv_33_3, t7, hs.same, hs.sl.elems, ha.app (ys := u8s (recS L[i])) (bytes := 1) (by simp [u8s_len]; omega)]
    refine hN _ ?_; clear hN N
    have ha2 := ha.cat (u8s (recS L[i]))
    rw [u8s_app, ← cat_snoc, ← hsn] at ha2
    simp (disch := first | omega | (simp only [List.length_cons, List.length_nil, List.length_append, u8s_len]; omega)) only [go_sem, ↓reduceIte, Nat.reduceEqDiff, Nat.reduceAdd, Nat.reduceBEq, Int.reduceEq, H.cv_3_29, H.cv_3_34, H.cv_5_3, H.cv_5_29, H.cv_29_3, H.cv_29_5, H.cv_33_3, t8, ha2.sl.dis.len, u8s_len, hb.app (ys := [[AV.sc (.int .i64 ((cat (L.take (i + 1))).length : Nat))]]) (bytes := 8) (by simp [hel]; omega)]
    refine hN _ ?_; clear hN N
    simp (disch := first | omega | (simp only [List.length_cons, List.length_nil, List.length_append, u8s_len]; omega)) only [go_sem, ↓reduceIte, Nat.reduceEqDiff, Nat.reduceAdd, Nat.reduceBEq, Int.reduceEq, H.cv_3_29, H.cv_3_34, H.cv_5_3, H.cv_5_29, H.cv_29_3, H.cv_29_5, H.cv_33_3, t9, nat_add]
    refine ⟨L.length - (i + 1), by omega, i + 1, _, _, rfl, by omega, t0, t1, rfl, rfl, ha2, rfl, ?_⟩
    have hb2 := hb.cat [[AV.sc (.int .i64 ((cat (L.take (i + 1))).length : Nat))]]
    have : nums (ends L i) ++ [[AV.sc (.int .i64 ((cat (L.take (i + 1))).length : Nat))]] = nums (ends L (i + 1)) := by
      simp [nums, ends, List.range_succ]
    rw [this] at hb2
    exact hb2
  have hi' : i = L.length := by omega
  subst hi'
  rw [List.take_length] at ha
  (refine W_seq_gen fun N hN => ?_); simp (disch := first | omega | (simp only [List.length_cons, List.length_nil, List.length_append, u8s_len]; omega)) only [go_sem, ↓reduceIte, Nat.reduceEqDiff, Nat.reduceAdd, Nat.reduceBEq, Int.reduceEq, H.cv_3_29, H.cv_3_34, H.cv_5_3, H.cv_5_29, H.cv_29_3, H.cv_29_5, H.cv_33_3, t0, t9, hv.same, hv.sl.len, e1, Nat.lt_irrefl]
  refine hM _ ?_; clear hN N hM M
  have hend : ∀ j, j < L.length → (ends L L.length)[j]? = some (cat (L.take (j + 1))).length := fun j hj => by simp [ends, hj]
  have hel : (ends L L.length).length = L.length := by simp [ends]
  (refine W_seq_gen fun N hN => ?_); simp (disch := first | omega | (simp only [List.length_cons, List.length_nil, List.length_append, u8s_len]; omega)) only [go_sem, ↓reduceIte, Nat.reduceEqDiff, Nat.reduceAdd, Nat.reduceBEq, Int.reduceEq, H.cv_3_29, H.cv_3_34, H.cv_5_3, H.cv_5_29, H.cv_29_3, H.cv_29_5, H.cv_33_3, t1, t7, ha.sl.dis.len, u8s_len, nat_add]
  refine hN _ ?_; clear hN N
  generalize hto : c % ((cat L).length + 1) = to
  have hto1 : to ≤ (cat L).length := by have := Nat.mod_lt c (y := (cat L).length + 1) (by omega); omega
  (refine W_seq_gen fun N hN => ?_); simp (disch := first | omega | (simp only [List.length_cons, List.length_nil, List.length_append, u8s_len]; omega)) only [go_sem, ↓reduceIte, Nat.reduceEqDiff, Nat.reduceAdd, Nat.reduceBEq, Int.reduceEq, H.cv_3_29, H.cv_3_34, H.cv_5_3, H.cv_5_29, H.cv_29_3, H.cv_29_5, H.cv_33_3]
  refine hN _ ?_; clear hN N
  (refine W_seq_gen fun M hM => ?_)
  simp (disch := first | omega | (simp only [List.length_cons, List.length_nil, List.length_append, u8s_len]; omega)) only [go_sem, ↓reduceIte, Nat.reduceEqDiff, Nat.reduceAdd, Nat.reduceBEq, Int.reduceEq, H.cv_3_29, H.cv_3_34, H.cv_5_3, H.cv_5_29, H.cv_29_3, H.cv_29_5, H.cv_33_3]
  refine AW_loopN (fun n t h' => ∃ k, n = L.length - k ∧ k ≤ L.length ∧ t 0 = v ∧ t 7 = a ∧ t 8 = b ∧ t 12 = .sc (.int .i64 (to : Nat)) ∧ t 13 = .sc (.int .i64 (k : Nat)) ∧ ∀ j, j < k → (cat (L.take (j + 1))).length ≤ to)
    (n := L.length) ?_ ?_
  · refine ⟨0, rfl, Nat.zero_le _, ?_, ?_, ?_, rfl, rfl, fun j hj => by omega⟩
    · simpa [upd_at] using t0
    · simpa [upd_at] using t7
    · simpa [upd_at] using t8
  clear t0 t1 t7 t8 t9 t
  rintro n t h' ⟨k, rfl, hk, t0, t7, t8, t12, t13, hle⟩
  have fin : (k < L.length → to < (cat (L.take (k + 1))).length) → ∀ s : St, s = ⟨s.t, h'⟩ → s.t 0 = v → s.t 7 = a → s.t 12 = .sc (.int .i64 (to : Nat)) → s.t 13 = .sc (.int .i64 (k : Nat)) → M s := by
    intro hgt s hs t0 t7 t12 t13
    rw [hs]
    generalize s.t = t at t0 t7 t12 t13
    refine hM _ ?_
    clear hM M
    have ht := ha.sl.dis.take to
    rw [u8s_take] at ht
    (refine W_seq_gen fun N hN => ?_); simp (disch := first | omega | (simp only [List.length_cons, List.length_nil, List.length_append, u8s_len]; omega)) only [go_sem, ↓reduceIte, Nat.reduceEqDiff, Nat.reduceAdd, Nat.reduceBEq, Int.reduceEq, H.cv_3_29, H.cv_3_34, H.cv_5_3, H.cv_5_29, H.cv_29_3, H.cv_29_5, H.cv_33_3, t7, t12, ha.sl.dis.slc_u, u8s_len]
    refine (row_ok H ht.sl (by simp; omega) _).mono ?_
    rintro _ _ ⟨⟨z, fs, rfl, hz, hfs⟩, hh⟩; subst hh
    rw [contK_some]; simp (disch := first | omega | (simp only [List.length_cons, List.length_nil, List.length_append, u8s_len]; omega)) only [go_sem, ↓reduceIte, Nat.reduceEqDiff, Nat.reduceAdd, Nat.reduceBEq, Int.reduceEq, H.cv_3_29, H.cv_3_34, H.cv_5_3, H.cv_5_29, H.cv_29_3, H.cv_29_5, H.cv_33_3, hz.disc, hz.same]
    refine hN _ ?_; clear hN N
    have hrow := row_cut L to k (fun a ha => Nat.le_trans (Nat.le_trans (total_mem ha) ht3) (by omega)) hk hle hgt
    have hvk := hv.sl.take k
    (refine W_seq_gen fun N hN => ?_); simp (disch := first | omega | (simp only [List.length_cons, List.length_nil, List.length_append, u8s_len]; omega)) only [go_sem, ↓reduceIte, Nat.reduceEqDiff, Nat.reduceAdd, Nat.reduceBEq, Int.reduceEq, H.cv_3_29, H.cv_3_34, H.cv_5_3, H.cv_5_29, H.cv_29_3, H.cv_29_5, H.cv_33_3, t0, t13, hv.same, hz.same, hv.sl.slc_u, e1, hz.own, hvk.own]
    refine (same_ok H hz.sl hfs hvk.sl (hL.take k) (by rw [hrow]; simp; omega) (by simp; omega) _).mono ?_
    rintro _ _ ⟨rfl, hh⟩; subst hh
    rw [hrow]
    rw [contK_some]; simp (disch := first | omega | (simp only [List.length_cons, List.length_nil, List.length_append, u8s_len]; omega)) only [go_sem, ↓reduceIte, Nat.reduceEqDiff, Nat.reduceAdd, Nat.reduceBEq, Int.reduceEq, H.cv_3_29, H.cv_3_34, H.cv_5_3, H.cv_5_29, H.cv_29_3, H.cv_29_5, H.cv_33_3]
    refine (awake_ok H _).mono ?_
    rintro _ _ ⟨rfl, hh⟩; subst hh
    rw [contK_some]; simp (disch := first | omega | (simp only [List.length_cons, List.length_nil, List.length_append, u8s_len]; omega)) only [go_sem, ↓reduceIte, Nat.reduceEqDiff, Nat.reduceAdd, Nat.reduceBEq, Int.reduceEq, H.cv_3_29, H.cv_3_34, H.cv_5_3, H.cv_5_29, H.cv_29_3, H.cv_29_5, H.cv_33_3]
    refine hN _ ?_; clear hN N
    simp (disch := first | omega | (simp only [List.length_cons, List.length_nil, List.length_append, u8s_len]; omega)) only [go_sem, ↓reduceIte, Nat.reduceEqDiff, Nat.reduceAdd, Nat.reduceBEq, Int.reduceEq, H.cv_3_29, H.cv_3_34, H.cv_5_3, H.cv_5_29, H.cv_29_3, H.cv_29_5, H.cv_33_3]
  by_cases hlt : k < L.length
  · have hg := nums_get (l := ends L L.length) (i := k) (by omega)
    have hgv : (ends L L.length)[k]'(by omega) = (cat (L.take (k + 1))).length := by
      have := hend k hlt
      rw [List.getElem?_eq_getElem (by omega)] at this
      simpa using this
    rw [hgv] at hg
    by_cases hle2 : (cat (L.take (k + 1))).length ≤ to
    · (refine W_seq_gen fun N hN => ?_); simp (disch := first | omega | (simp only [List.length_cons, List.length_nil, List.length_append, u8s_len]; omega)) only [go_sem, ↓reduceIte, Nat.reduceEqDiff, Nat.reduceAdd, Nat.reduceBEq, Int.reduceEq, H.cv_3_29, H.cv_3_34, H.cv_5_3, H.cv_5_29, H.cv_29_3, H.cv_29_5, H.cv_33_3, t0, t8, t12, t13, hv.same, hv.sl.len, e1, hlt, hb.sl.dis.ia, hg, hle2]
      refine hN _ ?_; clear hN N
      simp (disch := first | omega | (simp only [List.length_cons, List.length_nil, List.length_append, u8s_len]; omega)) only [go_sem, ↓reduceIte, Nat.reduceEqDiff, Nat.reduceAdd, Nat.reduceBEq, Int.reduceEq, H.cv_3_29, H.cv_3_34, H.cv_5_3, H.cv_5_29, H.cv_29_3, H.cv_29_5, H.cv_33_3, t13, nat_add]
      refine ⟨L.length - (k + 1), by omega, k + 1, rfl, by omega, t0, t7, t8, t12, rfl, fun j hj => ?_⟩
      rcases Nat.lt_or_ge j k with h | h
      · exact hle j h
      · obtain rfl : j = k := by omega
        exact hle2
    · (refine W_seq_gen fun N hN => ?_); simp (disch := first | omega | (simp only [List.length_cons, List.length_nil, List.length_append, u8s_len]; omega)) only [go_sem, ↓reduceIte, Nat.reduceEqDiff, Nat.reduceAdd, Nat.reduceBEq, Int.reduceEq, H.cv_3_29, H.cv_3_34, H.cv_5_3, H.cv_5_29, H.cv_29_3, H.cv_29_5, H.cv_33_3, t0, t8, t12, t13, hv.same, hv.sl.len, e1, hlt, hb.sl.dis.ia, hg, hle2]
      refine fin (fun _ => by omega) _ rfl ?_ ?_ ?_ ?_
      · simpa [upd_at] using t0
      · simpa [upd_at] using t7
      · simpa [upd_at] using t12
      · simpa [upd_at] using t13
  · (refine W_seq_gen fun N hN => ?_); simp (disch := first | omega | (simp only [List.length_cons, List.length_nil, List.length_append, u8s_len]; omega)) only [go_sem, ↓reduceIte, Nat.reduceEqDiff, Nat.reduceAdd, Nat.reduceBEq, Int.reduceEq, H.cv_3_29, H.cv_3_34, H.cv_5_3, H.cv_5_29, H.cv_29_3, H.cv_29_5, H.cv_33_3, t0, t8, t12, t13, hv.same, hv.sl.len, e1, hlt]
    refine fin (fun h => absurd h hlt) _ rfl ?_ ?_ ?_ ?_
    · simpa [upd_at] using t0
    · simpa [upd_at] using t7
    · simpa [upd_at] using t12
    · simpa [upd_at] using t13

theorem runs_law {v w : AV} {es fs : List (List AV)} {A B : List (List UInt8)} (hv : SF 1 v es) (hA : RR bytesR es A) (hw : SF 1 w fs) (hB : RR bytesR fs B) (hlA : A.length < 2 ^ 40) (hlB : B.length < 2 ^ 40)
    (hls : ∀ a ∈ A ++ B, a.length < 2 ^ 60) (h : Heap) : AWF P ann 0 7 [v, w] h fun r h' => r = .sc (.bool true) := by
  refine AWF.fnc H.f0_7 rfl ?_
  have e1 := hA.len
  have e2 := hB.len
  (refine W_seq_gen fun N hN => ?_); simp (disch := first | omega | (simp only [List.length_cons, List.length_nil, List.length_append, u8s_len]; omega)) only [go_sem, ↓reduceIte, Nat.reduceEqDiff, Nat.reduceAdd, Nat.reduceBEq, Int.reduceEq, H.cv_3_29, H.cv_3_34, H.cv_5_3, H.cv_5_29, H.cv_29_3, H.cv_29_5, H.cv_33_3]
  refine hN _ ?_; clear hN N
  (refine W_seq_gen fun N hN => ?_); simp (disch := first | omega | (simp only [List.length_cons, List.length_nil, List.length_append, u8s_len]; omega)) only [go_sem, ↓reduceIte, Nat.reduceEqDiff, Nat.reduceAdd, Nat.reduceBEq, Int.reduceEq, H.cv_3_29, H.cv_3_34, H.cv_5_3, H.cv_5_29, H.cv_29_3, H.cv_29_5, H.cv_33_3]
  refine hN _ ?_; clear hN N
  have h0 : SG 1 (.bs true 1 [] (some 0)) [] := SG.bs
  have h1 := h0.cat es
  have h2 := h1.cat fs
  rw [List.nil_append] at h1 h2
  have hL := hA.append hB
  generalize hes : es ++ fs = gs at hL h2
  generalize hAB : A ++ B = L at hL hls
  have hLl : L.length = A.length + B.length := by rw [← hAB]; simp
  have e3 := hL.len
  (refine W_seq_gen fun N hN => ?_); simp (disch := first | omega | (simp only [List.length_cons, List.length_nil, List.length_append, u8s_len]; omega)) only [go_sem, ↓reduceIte, Nat.reduceEqDiff, Nat.reduceAdd, Nat.reduceBEq, Int.reduceEq, H.cv_3_29, H.cv_3_34, H.cv_5_3, H.cv_5_29, H.cv_29_3, H.cv_29_5, H.cv_33_3, hv.same, hw.same, hv.sl.elems, hw.sl.elems, h0.app (ys := es) (bytes := 24) (by simp; omega), h1.app (ys := fs) (bytes := 24) (by simp; omega)]
  generalize catV 1 fs (catV 1 es (.bs true 1 [] (some 0))) = g at h2
  refine hN _ ?_; clear hN N
  by_cases hb1 : 30 < A.length
  · (refine W_seq_gen fun N hN => ?_); simp (disch := first | omega | (simp only [List.length_cons, List.length_nil, List.length_append, u8s_len]; omega)) only [go_sem, ↓reduceIte, Nat.reduceEqDiff, Nat.reduceAdd, Nat.reduceBEq, Int.reduceEq, H.cv_3_29, H.cv_3_34, H.cv_5_3, H.cv_5_29, H.cv_29_3, H.cv_29_5, H.cv_33_3, hv.same, hw.same, hv.sl.len, hw.sl.len, e1, e2, hb1]
    refine (awake_ok H _).mono ?_
    rintro _ _ ⟨rfl, hh⟩; subst hh
    rw [contK_some]; simp (disch := first | omega | (simp only [List.length_cons, List.length_nil, List.length_append, u8s_len]; omega)) only [go_sem, ↓reduceIte, Nat.reduceEqDiff, Nat.reduceAdd, Nat.reduceBEq, Int.reduceEq, H.cv_3_29, H.cv_3_34, H.cv_5_3, H.cv_5_29, H.cv_29_3, H.cv_29_5, H.cv_33_3]
  by_cases hb2 : 30 < B.length
  · (refine W_seq_gen fun N hN => ?_); simp (disch := first | omega | (simp only [List.length_cons, List.length_nil, List.length_append, u8s_len]; omega)) only [go_sem, ↓reduceIte, Nat.reduceEqDiff, Nat.reduceAdd, Nat.reduceBEq, Int.reduceEq, H.cv_3_29, H.cv_3_34, H.cv_5_3, H.cv_5_29, H.cv_29_3, H.cv_29_5, H.cv_33_3, hv.same, hw.same, hv.sl.len, hw.sl.len, e1, e2, hb1, hb2]
    refine (awake_ok H _).mono ?_
    rintro _ _ ⟨rfl, hh⟩; subst hh
    rw [contK_some]; simp (disch := first | omega | (simp only [List.length_cons, List.length_nil, List.length_append, u8s_len]; omega)) only [go_sem, ↓reduceIte, Nat.reduceEqDiff, Nat.reduceAdd, Nat.reduceBEq, Int.reduceEq, H.cv_3_29, H.cv_3_34, H.cv_5_3, H.cv_5_29, H.cv_29_3, H.cv_29_5, H.cv_33_3]
  (refine W_seq_gen fun N hN => ?_); simp (disch := first | omega | (simp only [List.length_cons, List.length_nil, List.length_append, u8s_len]; omega)) only [go_sem, ↓reduceIte, Nat.reduceEqDiff, Nat.reduceAdd, Nat.reduceBEq, Int.reduceEq, H.cv_3_29, H.cv_3_34, H.cv_5_3, H.cv_5_29, H.cv_29_3, H.cv_29_5, H.cv_33_3, hv.same, hw.same, hv.sl.len, hw.sl.len, e1, e2, hb1, hb2]
  refine hN _ ?_; clear hN N
  (refine W_seq_gen fun N hN => ?_); simp (disch := first | omega | (simp only [List.length_cons, List.length_nil, List.length_append, u8s_len]; omega)) only [go_sem, ↓reduceIte, Nat.reduceEqDiff, Nat.reduceAdd, Nat.reduceBEq, Int.reduceEq, H.cv_3_29, H.cv_3_34, H.cv_5_3, H.cv_5_29, H.cv_29_3, H.cv_29_5, H.cv_33_3]
  refine hN _ ?_; clear hN N
  (refine W_seq_gen fun M hM => ?_)
  (refine W_seq_gen fun N hN => ?_); simp (disch := first | omega | (simp only [List.length_cons, List.length_nil, List.length_append, u8s_len]; omega)) only [go_sem, ↓reduceIte, Nat.reduceEqDiff, Nat.reduceAdd, Nat.reduceBEq, Int.reduceEq, H.cv_3_29, H.cv_3_34, H.cv_5_3, H.cv_5_29, H.cv_29_3, H.cv_29_5, H.cv_33_3]
  refine hN _ ?_; clear hN N
  simp (disch := first | omega | (simp only [List.length_cons, List.length_nil, List.length_append, u8s_len]; omega)) only [go_sem, ↓reduceIte, Nat.reduceEqDiff, Nat.reduceAdd, Nat.reduceBEq, Int.reduceEq, H.cv_3_29, H.cv_3_34, H.cv_5_3, H.cv_5_29, H.cv_29_3, H.cv_29_5, H.cv_33_3]
  refine AW_loopN (fun n t h' => ∃ i a, n = L.length - i ∧ i ≤ L.length ∧ t 6 = g ∧ t 8 = .sc (.int .i64 (i : Nat)) ∧ t 5 = .sc (.int .i64 (total (L.take i) : Nat)) ∧ total (L.take i) ≤ 3000 ∧ t 7 = a ∧ SG 1 a (u8s (cat (L.take i))))
    (n := L.length) ⟨0, _, rfl, Nat.zero_le _, rfl, rfl, rfl, by simp [total], rfl, SG.bs⟩ ?_
  rintro n t h' ⟨i, a, rfl, hi, t6, t8, t5, ht, t7, ha⟩
  have hcl := cat_len (L.take i)
  have hcl2 : (L.take i).length ≤ 60 := by simp; omega
  rcases Nat.lt_or_ge i L.length with hlt | hge
  · obtain ⟨_, g1, x, rfl, hx⟩ := hL.lt hlt
    have hxl := hls L[i] (List.getElem_mem _)
    have hn : L.take (i + 1) = L.take i ++ [L[i]] := by rw [List.take_add_one]; simp [hlt]
    have hsn : total (L.take (i + 1)) = total (L.take i) + L[i].length := by rw [hn, total_snoc]
    have e4 : ((3000 : Nat) : Int) - ((total (L.take i) : Nat) : Int) = ((3000 - total (L.take i) : Nat) : Int) := by omega
    (refine W_seq_gen fun N hN => ?_); simp (disch := first | omega | (simp only [List.length_cons, List.length_nil, List.length_append, u8s_len]; omega)) only [go_sem, ↓reduceIte, Nat.reduceEqDiff, Nat.reduceAdd, Nat.reduceBEq, Int.reduceEq, H.cv_3_29, H.cv_3_34, H.cv_5_3, H.cv_5_29, H.cv_29_3, H.cv_29_5, H.cv_33_3, t6, t8, h2.sl.dis.len, e3, hlt]
    refine hN _ ?_; clear hN N
    (refine W_seq_gen fun N hN => ?_)
    rw [W_block]
    (refine W_seq_gen fun N hN => ?_); simp (disch := first | omega | (simp only [List.length_cons, List.length_nil, List.length_append, u8s_len]; omega)) only [go_sem, ↓reduceIte, Nat.reduceEqDiff, Nat.reduceAdd, Nat.reduceBEq, Int.reduceEq, H.cv_3_29, H.cv_3_34, H.cv_5_3, H.cv_5_29, H.cv_29_3, H.cv_29_5, H.cv_33_3, t5, t6, t8, h2.sl.dis.ia, g1, hx.same, hx.sl.len, u8s_len, e4]
    refine ⟨fun hbig => ?_, fun hsm => ?_⟩
    · refine (awake_ok H _).mono ?_
      rintro _ _ ⟨rfl, hh⟩; subst hh
      rw [contK_some]; simp (disch := first | omega | (simp only [List.length_cons, List.length_nil, List.length_append, u8s_len]; omega)) only [go_sem, ↓reduceIte, Nat.reduceEqDiff, Nat.reduceAdd, Nat.reduceBEq, Int.reduceEq, H.cv_3_29, H.cv_3_34, H.cv_5_3, H.cv_5_29, H.cv_29_3, H.cv_29_5, H.cv_33_3]
    refine hN _ ?_; clear hN N
    (refine W_seq_gen fun N hN => ?_); simp (disch := first | omega | (simp only [List.length_cons, List.length_nil, List.length_append, u8s_len]; omega)) only [go_sem, ↓reduceIte, Nat.reduceEqDiff, Nat.reduceAdd, Nat.reduceBEq, Int.reduceEq, H.cv_3_29, H.cv_3_34, H.cv_5_3, H.cv_5_29, H.cv_29_3, H.cv_29_5, H.cv_33_3, t5, t6, t8, h2.sl.dis.ia, g1, hx.same, hx.sl.len, u8s_len, nat_add]
    refine hN _ ?_; clear hN N
    (refine W_seq_gen fun N hN => ?_); simp (disch := first | omega | (simp only [List.length_cons, List.length_nil, List.length_append, u8s_len]; omega)) only [go_sem, ↓reduceIte, Nat.reduceEqDiff, Nat.reduceAdd, Nat.reduceBEq, Int.reduceEq, H.cv_3_29, H.cv_3_34, H.cv_5_3, H.cv_5_29, H.cv_29_3, H.cv_29_5, H.cv_33_3, t6, t8, h2.sl.dis.ia, g1, hx.same]
    refine (record_ok H hx.sl (by omega) _).mono ?_
    rintro _ _ ⟨⟨s, rfl, hs⟩, hh⟩; subst hh
    rw [contK_some]; simp (disch := first | omega | (simp only [List.length_cons, List.length_nil, List.length_append, u8s_len]; omega)) only [go_sem, ↓reduceIte, Nat.reduceEqDiff, Nat.reduceAdd, Nat.reduceBEq, Int.reduceEq, H.cv_3_29, H.cv_3_34, H.cv_5_3, H.cv_5_29, H.cv_29_3, H.cv_29_5, H.cv_33_3, hs.disc, hs.same]
    refine hN _ ?_; clear hN N
    (refine W_seq_gen fun N hN => ?_); simp (disch := first | omega | (simp only [List.length_cons, List.length_nil, List.length_append, u8s_len]; omega)) only [go_sem, ↓reduceIte, Nat.reduceEqDiff, Nat.reduceAdd, Nat.reduceBEq, Int.reduceEq, H.cv_3_29, H.cv_3_34, H.cv_5_3, H.cv_5_29, H.cv_29_3, H.cv_29_5, H.cv_33_3]
    refine hN _ ?_; clear hN N
    have hrl := recS_len L[i]
    simp (disch := first | omega | (simp only [List.length_cons, List.length_nil, List.length_append, u8s_len]; omega)) only [go_sem, ↓reduceIte, Nat.reduceEqDiff, Nat.reduceAdd, Nat.reduceBEq, Int.reduceEq, H.cv_3_29, H.cv_3_34, H.cv_5_3, H.cv_5_29, H.cv_29_3, H.cv_29_5, H.cv_33_3, t7, hs.same, hs.sl.elems, ha.app (ys := u8s (recS L[i])) (bytes := 1) (by simp [u8s_len]; omega)]
    refine hN _ ?_; clear hN N
    have ha2 := ha.cat (u8s (recS L[i]))
    rw [u8s_app, ← cat_snoc, ← hn] at ha2
    simp (disch := first | omega | (simp only [List.length_cons, List.length_nil, List.length_append, u8s_len]; omega)) only [go_sem, ↓reduceIte, Nat.reduceEqDiff, Nat.reduceAdd, Nat.reduceBEq, Int.reduceEq, H.cv_3_29, H.cv_3_34, H.cv_5_3, H.cv_5_29, H.cv_29_3, H.cv_29_5, H.cv_33_3, t8, nat_add]
    exact ⟨L.length - (i + 1), by omega, i + 1, _, rfl, by omega, t6, rfl, by rw [hsn], by omega, rfl, ha2⟩
  have hi' : i = L.length := by omega
  subst hi'
  rw [List.take_length] at ha ht hcl
  (refine W_seq_gen fun N hN => ?_); simp (disch := first | omega | (simp only [List.length_cons, List.length_nil, List.length_append, u8s_len]; omega)) only [go_sem, ↓reduceIte, Nat.reduceEqDiff, Nat.reduceAdd, Nat.reduceBEq, Int.reduceEq, H.cv_3_29, H.cv_3_34, H.cv_5_3, H.cv_5_29, H.cv_29_3, H.cv_29_5, H.cv_33_3, t6, t8, h2.sl.dis.len, e3, Nat.lt_irrefl]
  refine hM _ ?_; clear hN N hM M
  (refine W_seq_gen fun N hN => ?_); simp (disch := first | omega | (simp only [List.length_cons, List.length_nil, List.length_append, u8s_len]; omega)) only [go_sem, ↓reduceIte, Nat.reduceEqDiff, Nat.reduceAdd, Nat.reduceBEq, Int.reduceEq, H.cv_3_29, H.cv_3_34, H.cv_5_3, H.cv_5_29, H.cv_29_3, H.cv_29_5, H.cv_33_3, t7]
  refine (row_ok H ha.sl.dis (by omega) _).mono ?_
  rintro _ _ ⟨⟨z, zs, rfl, hz, hzs⟩, hh⟩; subst hh
  rw [row_cat L (fun a ha => Nat.le_trans (Nat.le_trans (total_mem ha) ht) (by omega))] at hzs ⊢
  rw [contK_some]; simp (disch := first | omega | (simp only [List.length_cons, List.length_nil, List.length_append, u8s_len]; omega)) only [go_sem, ↓reduceIte, Nat.reduceEqDiff, Nat.reduceAdd, Nat.reduceBEq, Int.reduceEq, H.cv_3_29, H.cv_3_34, H.cv_5_3, H.cv_5_29, H.cv_29_3, H.cv_29_5, H.cv_33_3, hz.disc, hz.same]
  refine hN _ ?_; clear hN N
  (refine W_seq_gen fun N hN => ?_); simp (disch := first | omega | (simp only [List.length_cons, List.length_nil, List.length_append, u8s_len]; omega)) only [go_sem, ↓reduceIte, Nat.reduceEqDiff, Nat.reduceAdd, Nat.reduceBEq, Int.reduceEq, H.cv_3_29, H.cv_3_34, H.cv_5_3, H.cv_5_29, H.cv_29_3, H.cv_29_5, H.cv_33_3, t6, t7, hz.same, hz.own, ha.sl.dis.len, u8s_len]
  refine (same_ok H hz.sl hzs h2.sl.dis hL (by simp; omega) (by omega) _).mono ?_
  rintro _ _ ⟨rfl, hh⟩; subst hh
  rw [contK_some]; simp (disch := first | omega | (simp only [List.length_cons, List.length_nil, List.length_append, u8s_len]; omega)) only [go_sem, ↓reduceIte, Nat.reduceEqDiff, Nat.reduceAdd, Nat.reduceBEq, Int.reduceEq, H.cv_3_29, H.cv_3_34, H.cv_5_3, H.cv_5_29, H.cv_29_3, H.cv_29_5, H.cv_33_3, t6, t7, ha.sl.dis.len, u8s_len]
  refine (awake_ok H _).mono ?_
  rintro _ _ ⟨rfl, hh⟩; subst hh
  rw [contK_some]; simp (disch := first | omega | (simp only [List.length_cons, List.length_nil, List.length_append, u8s_len]; omega)) only [go_sem, ↓reduceIte, Nat.reduceEqDiff, Nat.reduceAdd, Nat.reduceBEq, Int.reduceEq, H.cv_3_29, H.cv_3_34, H.cv_5_3, H.cv_5_29, H.cv_29_3, H.cv_29_5, H.cv_33_3]
  refine hN _ ?_; clear hN N
  simp (disch := first | omega | (simp only [List.length_cons, List.length_nil, List.length_append, u8s_len]; omega)) only [go_sem, ↓reduceIte, Nat.reduceEqDiff, Nat.reduceAdd, Nat.reduceBEq, Int.reduceEq, H.cv_3_29, H.cv_3_34, H.cv_5_3, H.cv_5_29, H.cv_29_3, H.cv_29_5, H.cv_33_3]
end Go.Proofs.Ytfiaekgmblbmiaa
