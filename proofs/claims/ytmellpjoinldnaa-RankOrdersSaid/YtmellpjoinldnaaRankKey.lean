/- Keys. -/
import Derived.Test.YtmellpjoinldnaaRankFn
set_option linter.unusedVariables false
set_option linter.unusedSimpArgs false
namespace Go.Proofs.Ytmellpjoinldnaa
open Go.Am

/-- A number, lifted. -/
def liftN (n : Int) : Nat := ((n + 4611686018427387904) % 18446744073709551616).toNat
def numB (n : Int) : List UInt8 := (List.range 8).map fun j => UInt8.ofNat (liftN n / 2 ^ (56 - 8 * j))
def zeros (n : Nat) : List UInt8 := List.replicate n 0
def textB (s : List UInt8) : List UInt8 :=
  if h : 7 ≤ s.length then s.take 7 ++ 8 :: textB (s.drop 7) else s ++ zeros (7 - s.length) ++ [UInt8.ofNat s.length]
termination_by s.length
decreasing_by simp; omega
def keyB (v : Vl) : List UInt8 := UInt8.ofNat (v.kind % 256).toNat :: (if v.kind = 1 then numB v.num else if v.kind = 2 then textB v.text else numB v.re ++ numB v.im)
theorem textB_len (s : List UInt8) : (textB s).length ≤ 8 * s.length + 8 := by
  rw [textB]
  split
  · have := textB_len (s.drop 7)
    simp at this ⊢
    omega
  · simp [zeros]; omega
termination_by s.length
decreasing_by simp; omega
theorem numB_len (n : Int) : (numB n).length = 8 := by simp [numB]
theorem numB_get (n : Int) (j : Nat) (hj : j < 8) : (numB n).take (j + 1) = (numB n).take j ++ [UInt8.ofNat (liftN n / 2 ^ (56 - 8 * j))] := by
  rw [List.take_add_one]
  have : (numB n)[j]? = some (UInt8.ofNat (liftN n / 2 ^ (56 - 8 * j))) := by simp [numB, hj]
  rw [this]
  rfl

theorem u8_one {m : Nat} : [[AV.sc (.int .u8 ((m : Int) % 256))]] = u8s [UInt8.ofNat m] := by
  simp [u8s, UInt8.toNat_ofNat']

def growB (v : AV) (l : List UInt8) : AV := l.foldl (fun v b => catV 1 (u8s [b]) v) v
theorem growB_snoc (v : AV) (l : List UInt8) (b : UInt8) : growB v (l ++ [b]) = catV 1 (u8s [b]) (growB v l) := by simp [growB]
theorem growB_ok : ∀ (l m : List UInt8) (v : AV), SG 1 v (u8s m) → SG 1 (growB v l) (u8s (m ++ l))
  | [], m, v, h => by rw [List.append_nil]; exact h
  | b :: l, m, v, h => by
    have h2 := h.cat (u8s [b])
    rw [u8s_app] at h2
    have := growB_ok l _ _ h2
    rw [List.append_assoc] at this
    exact this
variable {P : Program} (H : Has P)
include H

theorem number_ok {v : AV} {l : List UInt8} (hv : SG 1 v (u8s l)) (hl : l.length < 2 ^ 40) (n : Int) (h : Heap) : AWF P ann 0 18 [v, .sc (.int .i64 n)] h fun r h' => r = growB v (numB n) ∧ h' = h := by
  refine AWF.fnc H.f0_18 rfl ?_
  have hU : IntKind.u64.wrap (IntKind.u64.wrap n + ((4611686018427387904 : Nat) : Int)) = ((liftN n : Nat) : Int) := by
    rw [wrap_u64m, wrap_u64m, liftN]
    omega
  (refine W_seq_gen fun N hN => ?_); simp (disch := first | omega | (simp only [List.length_cons, List.length_nil, List.length_append, u8s_len]; omega)) only [go_sem, ↓reduceIte, true_and, Nat.reduceLeDiff, Nat.reduceEqDiff, Nat.reduceAdd, Nat.reduceBEq, Int.reduceEq, H.cv_3_5, H.cv_3_49, H.cv_49_5]
  refine hN _ ?_; clear hN N
  (refine W_seq_gen fun N hN => ?_); simp (disch := first | omega | (simp only [List.length_cons, List.length_nil, List.length_append, u8s_len]; omega)) only [go_sem, ↓reduceIte, true_and, Nat.reduceLeDiff, Nat.reduceEqDiff, Nat.reduceAdd, Nat.reduceBEq, Int.reduceEq, H.cv_3_5, H.cv_3_49, H.cv_49_5, hU]
  refine hN _ ?_; clear hN N
  (refine W_seq_gen fun M hM => ?_)
  (refine W_seq_gen fun N hN => ?_); simp (disch := first | omega | (simp only [List.length_cons, List.length_nil, List.length_append, u8s_len]; omega)) only [go_sem, ↓reduceIte, true_and, Nat.reduceLeDiff, Nat.reduceEqDiff, Nat.reduceAdd, Nat.reduceBEq, Int.reduceEq, H.cv_3_5, H.cv_3_49, H.cv_49_5]
  refine hN _ ?_; clear hN N
  simp (disch := first | omega | (simp only [List.length_cons, List.length_nil, List.length_append, u8s_len]; omega)) only [go_sem, ↓reduceIte, true_and, Nat.reduceLeDiff, Nat.reduceEqDiff, Nat.reduceAdd, Nat.reduceBEq, Int.reduceEq, H.cv_3_5, H.cv_3_49, H.cv_49_5]
  have hUl : liftN n < 18446744073709551616 := by unfold liftN; omega
  refine AW_loopN (fun k t h' => h' = h ∧ ∃ j z, k = 8 - j ∧ j ≤ 8 ∧ t 0 = z ∧ t 5 = .sc (.int .u64 (liftN n : Nat)) ∧ t 6 = .sc (.int .i64 (56 - 8 * (j : Int))) ∧ z = growB v ((numB n).take j))
    (n := 8) ⟨rfl, 0, v, rfl, Nat.zero_le _, rfl, rfl, rfl, by simp [growB]⟩ ?_
  rintro k t h' ⟨rfl, j, z, rfl, hj, t0, t5, t6, hzq⟩
  have hz : SG 1 z (u8s (l ++ (numB n).take j)) := by rw [hzq]; exact growB_ok _ _ _ hv
  rcases Nat.lt_or_ge j 8 with hlt | hge
  · have q1 : (56 - 8 * (j : Int)) ≥ ((0 : Nat) : Int) := by omega
    have q2 : scalarBin P .shr 49 (.int .u64 (liftN n : Nat)) (.int .i64 (56 - 8 * (j : Int))) = some (.int .u64 ((liftN n / 2 ^ (56 - 8 * j) : Nat) : Int)) := by
      rw [sb_shr (by omega)]
      have e : (56 - 8 * (j : Int)).toNat = 56 - 8 * j := by omega
      have e2 : min (56 - 8 * j) IntKind.u64.bits = 56 - 8 * j := by show min _ 64 = _; omega
      have e3 : ((2 : Int) ^ (56 - 8 * j)) = ((2 ^ (56 - 8 * j) : Nat) : Int) := by push_cast; rfl
      rw [e, e2, e3, Int.fdiv_eq_ediv_of_nonneg _ (Int.natCast_nonneg _), ← Int.natCast_ediv]
    have hz2 : catV 1 (u8s [UInt8.ofNat (liftN n / 2 ^ (56 - 8 * j))]) z = growB v ((numB n).take (j + 1)) := by rw [numB_get n j hlt, growB_snoc, hzq]
    have hzl : (u8s (l ++ (numB n).take j)).length ≤ l.length + 8 := by rw [u8s_len]; simp; omega
    (refine W_seq_gen fun N hN => ?_); simp (disch := first | omega | (simp only [List.length_cons, List.length_nil, List.length_append, u8s_len]; omega)) only [go_sem, ↓reduceIte, true_and, Nat.reduceLeDiff, Nat.reduceEqDiff, Nat.reduceAdd, Nat.reduceBEq, Int.reduceEq, H.cv_3_5, H.cv_3_49, H.cv_49_5, t6, q1]
    refine hN _ ?_; clear hN N
    (refine W_seq_gen fun N hN => ?_)
    rw [W_block]
    simp (disch := first | omega | (simp only [List.length_cons, List.length_nil, List.length_append, u8s_len]; omega)) only [go_sem, ↓reduceIte, true_and, Nat.reduceLeDiff, Nat.reduceEqDiff, Nat.reduceAdd, Nat.reduceBEq, Int.reduceEq, H.cv_3_5, H.cv_3_49, H.cv_49_5, t0, t5, t6, q2, wrap_u8m, u8_one, hz.app (ys := u8s [UInt8.ofNat (liftN n / 2 ^ (56 - 8 * j))]) (bytes := 1) (by simp [u8s_len] at hzl ⊢; omega)]
    refine hN _ ?_; clear hN N
    have e8 : (56 - 8 * (j : Int)) - ((8 : Nat) : Int) = 56 - 8 * ((j + 1 : Nat) : Int) := by omega
    simp (disch := first | omega | (simp only [List.length_cons, List.length_nil, List.length_append, u8s_len]; omega)) only [go_sem, ↓reduceIte, true_and, Nat.reduceLeDiff, Nat.reduceEqDiff, Nat.reduceAdd, Nat.reduceBEq, Int.reduceEq, H.cv_3_5, H.cv_3_49, H.cv_49_5, t6, e8]
    exact ⟨8 - (j + 1), by omega, j + 1, _, rfl, by omega, rfl, t5, rfl, hz2⟩
  obtain rfl : j = 8 := by omega
  have q1 : ¬ (56 - 8 * ((8 : Nat) : Int)) ≥ ((0 : Nat) : Int) := by omega
  have e9 : (numB n).take 8 = numB n := List.take_of_length_le (by rw [numB_len]; omega)
  rw [e9] at hzq
  (refine W_seq_gen fun N hN => ?_); simp (disch := first | omega | (simp only [List.length_cons, List.length_nil, List.length_append, u8s_len]; omega)) only [go_sem, ↓reduceIte, true_and, Nat.reduceLeDiff, Nat.reduceEqDiff, Nat.reduceAdd, Nat.reduceBEq, Int.reduceEq, H.cv_3_5, H.cv_3_49, H.cv_49_5, t6, q1]
  refine hM _ ?_; clear hN N hM M
  simp (disch := first | omega | (simp only [List.length_cons, List.length_nil, List.length_append, u8s_len]; omega)) only [go_sem, ↓reduceIte, true_and, Nat.reduceLeDiff, Nat.reduceEqDiff, Nat.reduceAdd, Nat.reduceBEq, Int.reduceEq, H.cv_3_5, H.cv_3_49, H.cv_49_5, t0]
  exact hzq

theorem text_key {v : AV} {l s : List UInt8} (hv : SG 1 v (u8s l)) (hl : l.length + 16 * s.length < 2 ^ 40) (h : Heap) : AWF P ann 0 19 [v, .sc (.string (str s))] h fun r h' => SG 1 r (u8s (l ++ textB s)) ∧ h' = h := by
  refine AWF.fnc H.f0_19 rfl ?_
  (refine W_seq_gen fun N hN => ?_); simp (disch := first | omega | (simp only [List.length_cons, List.length_nil, List.length_append, u8s_len]; omega)) only [go_sem, ↓reduceIte, true_and, Nat.reduceLeDiff, Nat.reduceEqDiff, Nat.reduceAdd, Nat.reduceBEq, Int.reduceEq, H.cv_3_5, H.cv_3_49, H.cv_49_5]
  refine hN _ ?_; clear hN N
  (refine W_seq_gen fun M hM => ?_)
  simp (disch := first | omega | (simp only [List.length_cons, List.length_nil, List.length_append, u8s_len]; omega)) only [go_sem, ↓reduceIte, true_and, Nat.reduceLeDiff, Nat.reduceEqDiff, Nat.reduceAdd, Nat.reduceBEq, Int.reduceEq, H.cv_3_5, H.cv_3_49, H.cv_49_5]
  refine AW_loopN (fun k t h' => h' = h ∧ ∃ m s' z, k = s'.length ∧ t 0 = z ∧ t 1 = .sc (.string (str s')) ∧ SG 1 z (u8s m) ∧ l ++ textB s = m ++ textB s' ∧ m.length + 16 * s'.length < 2 ^ 40)
    (n := s.length) ⟨rfl, l, s, v, rfl, rfl, rfl, hv, rfl, hl⟩ ?_
  rintro k t h' ⟨rfl, m, s', z, rfl, t0, t1, hz, he, hml⟩
  by_cases h7 : 7 ≤ s'.length
  · have q1 : s'.length ≥ 7 := h7
    have ht : textB s' = s'.take 7 ++ 8 :: textB (s'.drop 7) := by rw [textB, dif_pos h7]
    have ht7 : (s'.take 7).length = 7 := by simp; omega
    have a1 := fun (t : Nat → AV) (h : Heap) => hz.app (t := t) (h := h) (ys := u8s (s'.take 7)) (bytes := 1) (by rw [u8s_len, u8s_len]; omega)
    have hz1 := hz.cat (u8s (s'.take 7))
    rw [u8s_app] at hz1
    have a2 := fun (t : Nat → AV) (h : Heap) => hz1.app (t := t) (h := h) (ys := u8s [8]) (bytes := 1) (by rw [u8s_len, u8s_len]; simp; omega)
    have hz2 := hz1.cat (u8s [8])
    rw [u8s_app] at hz2
    have e8 : [[AV.sc (.int .u8 ((8 : Nat) : Int))]] = u8s [8] := rfl
    (refine W_seq_gen fun N hN => ?_); simp (disch := first | omega | (simp only [List.length_cons, List.length_nil, List.length_append, u8s_len]; omega)) only [go_sem, ↓reduceIte, true_and, Nat.reduceLeDiff, Nat.reduceEqDiff, Nat.reduceAdd, Nat.reduceBEq, Int.reduceEq, H.cv_3_5, H.cv_3_49, H.cv_49_5, t1, q1]
    refine hN _ ?_; clear hN N
    simp (disch := first | omega | (simp only [List.length_cons, List.length_nil, List.length_append, u8s_len]; omega)) only [go_sem, ↓reduceIte, true_and, Nat.reduceLeDiff, Nat.reduceEqDiff, Nat.reduceAdd, Nat.reduceBEq, Int.reduceEq, H.cv_3_5, H.cv_3_49, H.cv_49_5, t0, t1, sls_u (l := s') (u := 7) h7, sls_l (l := s') (u := 7) h7, a1, e8, a2]
    refine ⟨(s'.drop 7).length, by simp; omega, _, _, _, rfl, rfl, rfl, hz2, ?_, ?_⟩
    · rw [he, ht]; simp
    · simp; omega
  · have q1 : ¬ s'.length ≥ 7 := h7
    have ht : textB s' = s' ++ zeros (7 - s'.length) ++ [UInt8.ofNat s'.length] := by rw [textB, dif_neg h7]
    have a1 := fun (t : Nat → AV) (h : Heap) => hz.app (t := t) (h := h) (ys := u8s s') (bytes := 1) (by rw [u8s_len, u8s_len]; omega)
    have hz1 := hz.cat (u8s s')
    rw [u8s_app] at hz1
    have e0 : List.replicate (7 - s'.length) [AV.sc (.int .u8 ((0 : Nat) : Int))] = u8s (zeros (7 - s'.length)) := by simp [u8s, zeros]
    have a2 := fun (t : Nat → AV) (h : Heap) => hz1.app (t := t) (h := h) (ys := u8s (zeros (7 - s'.length))) (bytes := 1) (by rw [u8s_len, u8s_len]; simp [zeros]; omega)
    have hz2 := hz1.cat (u8s (zeros (7 - s'.length)))
    rw [u8s_app] at hz2
    have a3 := fun (t : Nat → AV) (h : Heap) => hz2.app (t := t) (h := h) (ys := u8s [UInt8.ofNat s'.length]) (bytes := 1) (by rw [u8s_len, u8s_len]; simp [zeros]; omega)
    have hz3 := hz2.cat (u8s [UInt8.ofNat s'.length])
    rw [u8s_app] at hz3
    have e7 : ((7 : Nat) : Int) - ((s'.length : Nat) : Int) = ((7 - s'.length : Nat) : Int) := by omega
    (refine W_seq_gen fun N hN => ?_); simp (disch := first | omega | (simp only [List.length_cons, List.length_nil, List.length_append, u8s_len]; omega)) only [go_sem, ↓reduceIte, true_and, Nat.reduceLeDiff, Nat.reduceEqDiff, Nat.reduceAdd, Nat.reduceBEq, Int.reduceEq, H.cv_3_5, H.cv_3_49, H.cv_49_5, t1, q1]
    refine hM _ ?_; clear hN N hM M
    (refine W_seq_gen fun N hN => ?_); simp (disch := first | omega | (simp only [List.length_cons, List.length_nil, List.length_append, u8s_len]; omega)) only [go_sem, ↓reduceIte, true_and, Nat.reduceLeDiff, Nat.reduceEqDiff, Nat.reduceAdd, Nat.reduceBEq, Int.reduceEq, H.cv_3_5, H.cv_3_49, H.cv_49_5, t0, t1, a1, e7, e0, a2]
    refine hN _ ?_; clear hN N
    (refine W_seq_gen fun N hN => ?_); simp (disch := first | omega | (simp only [List.length_cons, List.length_nil, List.length_append, u8s_len]; omega)) only [go_sem, ↓reduceIte, true_and, Nat.reduceLeDiff, Nat.reduceEqDiff, Nat.reduceAdd, Nat.reduceBEq, Int.reduceEq, H.cv_3_5, H.cv_3_49, H.cv_49_5, wrap_u8m, u8_one, t1, a3]
    refine hN _ ?_; clear hN N
    simp (disch := first | omega | (simp only [List.length_cons, List.length_nil, List.length_append, u8s_len]; omega)) only [go_sem, ↓reduceIte, true_and, Nat.reduceLeDiff, Nat.reduceEqDiff, Nat.reduceAdd, Nat.reduceBEq, Int.reduceEq, H.cv_3_5, H.cv_3_49, H.cv_49_5]
    rw [he, ht]
    simpa using hz3

omit H in
def vls (l : List Vl) : List (List AV) := l.map Vl.cells
omit H in
theorem vls_len {l : List Vl} : (vls l).length = l.length := by simp [vls]
omit H in
theorem vls_get {l : List Vl} {i : Nat} (h : i < l.length) : (vls l)[i]? = some l[i].cells := by simp [vls, h]
omit H in
def keyE : List Vl → Nat
  | [] => 0
  | v :: r => if checkS v = 0 then keyE r else checkS v
omit H in
def keyBs (l : List Vl) : List UInt8 := (l.map keyB).flatten
omit H in
theorem keyBs_snoc (l : List Vl) (v : Vl) : keyBs (l ++ [v]) = keyBs l ++ keyB v := by simp [keyBs]
omit H in
theorem check_kind {v : Vl} (h : checkS v = 0) : v.kind = 1 ∨ v.kind = 3 ∨ (v.kind = 2 ∧ v.text.length ≤ 256) := by
  unfold checkS at h
  split at h
  · exact .inl ‹_›
  · split at h
    · exact .inr (.inl ‹_›)
    · split at h
      · rename_i k2
        split at h
        · cases h
        · exact .inr (.inr ⟨k2, by omega⟩)
      · cases h
omit H in
theorem keyB_len {v : Vl} (h : checkS v = 0) : (keyB v).length ≤ 2100 := by
  have := textB_len v.text
  rcases check_kind h with k | k | ⟨k, hl⟩
  · simp [keyB, k, numB_len]
  · simp [keyB, k, numB_len]
  · simp [keyB, k]; omega

theorem key_ok (HC : HasC P) {v : AV} {l : List Vl} (hv : SL 5 v (vls l)) (hl : l.length < 2 ^ 60) (h : Heap) :
    AWF P ann 0 8 [v] h fun r h' => r = .tu [.sc (.string (str (if l.length > 16 then [] else if keyE l = 0 then keyBs l else []))), .sc (.int .i64 ((if l.length > 16 then 3 else keyE l : Nat) : Nat))] ∧ h' = h := by
  refine AWF.fnPurec H.f0_8 rfl ?_
  have e1 := @vls_len l
  (refine W_seq_gen fun N hN => ?_); simp (disch := first | omega | (simp only [List.length_cons, List.length_nil, List.length_append, u8s_len]; omega)) only [go_sem, ↓reduceIte, true_and, Nat.reduceLeDiff, Nat.reduceEqDiff, Nat.reduceAdd, Nat.reduceBEq, Int.reduceEq, H.cv_3_5, H.cv_3_49, H.cv_49_5]
  refine hN _ ?_; clear hN N
  by_cases h16 : 16 < l.length
  · have h16' : l.length > 16 := h16
    rw [if_pos h16', if_pos h16']
    (refine W_seq_gen fun N hN => ?_); simp (disch := first | omega | (simp only [List.length_cons, List.length_nil, List.length_append, u8s_len]; omega)) only [go_sem, ↓reduceIte, true_and, Nat.reduceLeDiff, Nat.reduceEqDiff, Nat.reduceAdd, Nat.reduceBEq, Int.reduceEq, H.cv_3_5, H.cv_3_49, H.cv_49_5, hv.dis.len, e1, h16]
    rfl
  have h16' : ¬ l.length > 16 := h16
  rw [if_neg h16', if_neg h16']
  (refine W_seq_gen fun N hN => ?_); simp (disch := first | omega | (simp only [List.length_cons, List.length_nil, List.length_append, u8s_len]; omega)) only [go_sem, ↓reduceIte, true_and, Nat.reduceLeDiff, Nat.reduceEqDiff, Nat.reduceAdd, Nat.reduceBEq, Int.reduceEq, H.cv_3_5, H.cv_3_49, H.cv_49_5, hv.dis.len, e1, h16]
  refine hN _ ?_; clear hN N
  (refine W_seq_gen fun N hN => ?_); simp (disch := first | omega | (simp only [List.length_cons, List.length_nil, List.length_append, u8s_len]; omega)) only [go_sem, ↓reduceIte, true_and, Nat.reduceLeDiff, Nat.reduceEqDiff, Nat.reduceAdd, Nat.reduceBEq, Int.reduceEq, H.cv_3_5, H.cv_3_49, H.cv_49_5]
  refine hN _ ?_; clear hN N
  (refine W_seq_gen fun M hM => ?_)
  (refine W_seq_gen fun N hN => ?_); simp (disch := first | omega | (simp only [List.length_cons, List.length_nil, List.length_append, u8s_len]; omega)) only [go_sem, ↓reduceIte, true_and, Nat.reduceLeDiff, Nat.reduceEqDiff, Nat.reduceAdd, Nat.reduceBEq, Int.reduceEq, H.cv_3_5, H.cv_3_49, H.cv_49_5, hv.dis.len, e1]
  refine hN _ ?_; clear hN N
  simp (disch := first | omega | (simp only [List.length_cons, List.length_nil, List.length_append, u8s_len]; omega)) only [go_sem, ↓reduceIte, true_and, Nat.reduceLeDiff, Nat.reduceEqDiff, Nat.reduceAdd, Nat.reduceBEq, Int.reduceEq, H.cv_3_5, H.cv_3_49, H.cv_49_5]
  refine AW_loopN (fun n t h' => (∀ o, ¬ h o = none → h' o = h o) ∧ ∃ i z, n = l.length - i ∧ i ≤ l.length ∧ t 11 = v.dis ∧ t 12 = .sc (.int .i64 (l.length : Nat)) ∧ t 13 = .sc (.int .i64 (i : Nat)) ∧ t 4 = z ∧ SG 1 z (u8s (keyBs (l.take i))) ∧ (keyBs (l.take i)).length ≤ 2100 * i ∧ keyE l = keyE (l.drop i))
    (n := l.length) ⟨fun _ _ => rfl, 0, _, rfl, Nat.zero_le _, by simp [upd_at], rfl, rfl, rfl, SG.nil, by simp [keyBs], rfl⟩ ?_
  rintro n t h' ⟨hh, i, z, rfl, hi, t11, t12, t13, t4, hz, hzl, he⟩
  rcases Nat.lt_or_ge i l.length with hlt | hge
  · have g0 := vls_get hlt
    have hd : l.drop i = l[i] :: l.drop (i + 1) := List.drop_eq_getElem_cons hlt
    have hn : l.take (i + 1) = l.take i ++ [l[i]] := by rw [List.take_add_one]; simp [hlt]
    (refine W_seq_gen fun N hN => ?_); simp (disch := first | omega | (simp only [List.length_cons, List.length_nil, List.length_append, u8s_len]; omega)) only [go_sem, ↓reduceIte, true_and, Nat.reduceLeDiff, Nat.reduceEqDiff, Nat.reduceAdd, Nat.reduceBEq, Int.reduceEq, H.cv_3_5, H.cv_3_49, H.cv_49_5, t12, t13, hlt]
    refine hN _ ?_; clear hN N
    (refine W_seq_gen fun N hN => ?_); simp (disch := first | omega | (simp only [List.length_cons, List.length_nil, List.length_append, u8s_len]; omega)) only [go_sem, ↓reduceIte, true_and, Nat.reduceLeDiff, Nat.reduceEqDiff, Nat.reduceAdd, Nat.reduceBEq, Int.reduceEq, H.cv_3_5, H.cv_3_49, H.cv_49_5]
    refine hN _ ?_; clear hN N
    (refine W_seq_gen fun N hN => ?_)
    rw [W_block]
    (refine W_seq_gen fun N hN => ?_); simp (disch := first | omega | (simp only [List.length_cons, List.length_nil, List.length_append, u8s_len]; omega)) only [go_sem, ↓reduceIte, true_and, Nat.reduceLeDiff, Nat.reduceEqDiff, Nat.reduceAdd, Nat.reduceBEq, Int.reduceEq, H.cv_3_5, H.cv_3_49, H.cv_49_5, t11, t13, hv.dd, hv.dis.ia, g0, Vl.cells]
    intro b hb
    have hh2 : ∀ o, ¬ h o = none → upd h' b (some (.arr l[i].cells)) o = h o := fun o ho => by
      have := hh o ho
      rw [upd_keep hb o (by rw [this]; exact ho), this]
    have f1 : upd h' b (some (.arr l[i].cells)) b = some (.arr l[i].cells) := upd_same _ _ _
    rw [Vl.cells] at hh2 f1
    refine hN _ ?_; clear hN N
    generalize upd h' b (some (.arr [.sc (.int .i64 l[i].kind), .sc (.int .i64 l[i].num), .sc (.string (str l[i].text)), .sc (.int .i64 l[i].re), .sc (.int .i64 l[i].im)])) = h2 at hh2 f1
    clear hb hh
    (refine W_seq_gen fun N hN => ?_)
    (refine W_seq_gen fun N hN => ?_); simp (disch := first | omega | (simp only [List.length_cons, List.length_nil, List.length_append, u8s_len]; omega)) only [go_sem, ↓reduceIte, true_and, Nat.reduceLeDiff, Nat.reduceEqDiff, Nat.reduceAdd, Nat.reduceBEq, Int.reduceEq, H.cv_3_5, H.cv_3_49, H.cv_49_5, f1]
    refine (check_ok H HC l[i] _).mono ?_
    rintro _ _ ⟨rfl, hh'⟩; subst hh'
    by_cases hc : checkS l[i] = 0
    · have hkl := keyB_len hc
      rw [contK_some]; simp (disch := first | omega | (simp only [List.length_cons, List.length_nil, List.length_append, u8s_len]; omega)) only [go_sem, ↓reduceIte, true_and, Nat.reduceLeDiff, Nat.reduceEqDiff, Nat.reduceAdd, Nat.reduceBEq, Int.reduceEq, H.cv_3_5, H.cv_3_49, H.cv_49_5, hc]
      refine hN _ ?_; clear hN N
      simp (disch := first | omega | (simp only [List.length_cons, List.length_nil, List.length_append, u8s_len]; omega)) only [go_sem, ↓reduceIte, true_and, Nat.reduceLeDiff, Nat.reduceEqDiff, Nat.reduceAdd, Nat.reduceBEq, Int.reduceEq, H.cv_3_5, H.cv_3_49, H.cv_49_5]
      refine hN _ ?_; clear hN N
      rcases check_kind hc with k | k | ⟨k, hlen⟩
      · have hk : IntKind.u8.wrap l[i].kind = ((1 : Nat) : Int) := by rw [k]; rfl
        have hu : [[AV.sc (.int .u8 ((1 : Nat) : Int))]] = u8s [1] := rfl
        have q1 : (l[i].kind == ((1 : Nat) : Int)) = true := by rw [k]; rfl
        have a1 := fun (t : Nat → AV) (h : Heap) => hz.app (t := t) (h := h) (ys := u8s [1]) (bytes := 1) (by rw [u8s_len, u8s_len]; simp; omega)
        have hz1 := hz.cat (u8s [1])
        rw [u8s_app] at hz1
        (refine W_seq_gen fun N hN => ?_); simp (disch := first | omega | (simp only [List.length_cons, List.length_nil, List.length_append, u8s_len]; omega)) only [go_sem, ↓reduceIte, true_and, Nat.reduceLeDiff, Nat.reduceEqDiff, Nat.reduceAdd, Nat.reduceBEq, Int.reduceEq, H.cv_3_5, H.cv_3_49, H.cv_49_5, t4, f1, hk, hu, a1]
        refine hN _ ?_; clear hN N
        (refine W_seq_gen fun N hN => ?_); simp (disch := first | omega | (simp only [List.length_cons, List.length_nil, List.length_append, u8s_len]; omega)) only [go_sem, ↓reduceIte, true_and, Nat.reduceLeDiff, Nat.reduceEqDiff, Nat.reduceAdd, Nat.reduceBEq, Int.reduceEq, H.cv_3_5, H.cv_3_49, H.cv_49_5, f1]
        refine hN _ ?_; clear hN N
        simp (disch := first | omega | (simp only [List.length_cons, List.length_nil, List.length_append, u8s_len]; omega)) only [go_sem, ↓reduceIte, true_and, Nat.reduceLeDiff, Nat.reduceEqDiff, Nat.reduceAdd, Nat.reduceBEq, Int.reduceEq, H.cv_3_5, H.cv_3_49, H.cv_49_5, q1, f1]
        refine (number_ok H hz1 (by simp; omega) _ _).mono ?_
        rintro r _ ⟨hr0, hh'⟩; subst hh'
        have hr : SG 1 r (u8s (keyBs (l.take i) ++ [1] ++ numB l[i].num)) := by rw [hr0]; exact growB_ok _ _ _ hz1
        have hkb : keyB l[i] = 1 :: numB l[i].num := by rw [keyB, if_pos k, k]; rfl
        rw [contK_some]; simp (disch := first | omega | (simp only [List.length_cons, List.length_nil, List.length_append, u8s_len]; omega)) only [go_sem, ↓reduceIte, true_and, Nat.reduceLeDiff, Nat.reduceEqDiff, Nat.reduceAdd, Nat.reduceBEq, Int.reduceEq, H.cv_3_5, H.cv_3_49, H.cv_49_5]
        refine hN _ ?_; clear hN N
        simp (disch := first | omega | (simp only [List.length_cons, List.length_nil, List.length_append, u8s_len]; omega)) only [go_sem, ↓reduceIte, true_and, Nat.reduceLeDiff, Nat.reduceEqDiff, Nat.reduceAdd, Nat.reduceBEq, Int.reduceEq, H.cv_3_5, H.cv_3_49, H.cv_49_5, t13, nat_add]
        exact ⟨l.length - (i + 1), by omega, hh2, i + 1, _, rfl, by omega, t11, t12, rfl, rfl, by rw [hn, keyBs_snoc, hkb]; simpa using hr, by rw [hn, keyBs_snoc, List.length_append]; omega, by rw [he, hd, keyE, if_pos hc]⟩
      · have hk : IntKind.u8.wrap l[i].kind = ((3 : Nat) : Int) := by rw [k]; rfl
        have hu : [[AV.sc (.int .u8 ((3 : Nat) : Int))]] = u8s [3] := rfl
        have q1 : (l[i].kind == ((1 : Nat) : Int)) = false := by rw [k]; rfl
        have q2 : (l[i].kind == ((2 : Nat) : Int)) = false := by rw [k]; rfl
        have a1 := fun (t : Nat → AV) (h : Heap) => hz.app (t := t) (h := h) (ys := u8s [3]) (bytes := 1) (by rw [u8s_len, u8s_len]; simp; omega)
        have hz1 := hz.cat (u8s [3])
        rw [u8s_app] at hz1
        (refine W_seq_gen fun N hN => ?_); simp (disch := first | omega | (simp only [List.length_cons, List.length_nil, List.length_append, u8s_len]; omega)) only [go_sem, ↓reduceIte, true_and, Nat.reduceLeDiff, Nat.reduceEqDiff, Nat.reduceAdd, Nat.reduceBEq, Int.reduceEq, H.cv_3_5, H.cv_3_49, H.cv_49_5, t4, f1, hk, hu, a1]
        refine hN _ ?_; clear hN N
        (refine W_seq_gen fun N hN => ?_); simp (disch := first | omega | (simp only [List.length_cons, List.length_nil, List.length_append, u8s_len]; omega)) only [go_sem, ↓reduceIte, true_and, Nat.reduceLeDiff, Nat.reduceEqDiff, Nat.reduceAdd, Nat.reduceBEq, Int.reduceEq, H.cv_3_5, H.cv_3_49, H.cv_49_5, f1]
        refine hN _ ?_; clear hN N
        simp (disch := first | omega | (simp only [List.length_cons, List.length_nil, List.length_append, u8s_len]; omega)) only [go_sem, ↓reduceIte, true_and, Nat.reduceLeDiff, Nat.reduceEqDiff, Nat.reduceAdd, Nat.reduceBEq, Int.reduceEq, H.cv_3_5, H.cv_3_49, H.cv_49_5, q1, q2, f1]
        refine ⟨_, number_ok H hz1 (by simp; omega) _ _, ?_⟩
        have hz3 := growB_ok (numB l[i].re) _ _ hz1
        rw [contK_some]; simp (disch := first | omega | (simp only [List.length_cons, List.length_nil, List.length_append, u8s_len]; omega)) only [go_sem, ↓reduceIte, true_and, Nat.reduceLeDiff, Nat.reduceEqDiff, Nat.reduceAdd, Nat.reduceBEq, Int.reduceEq, H.cv_3_5, H.cv_3_49, H.cv_49_5, f1]
        refine ⟨_, number_ok H hz3 (by simp [numB_len]; omega) _ _, ?_⟩
        have hr := growB_ok (numB l[i].im) _ _ hz3
        have hkb : keyB l[i] = 3 :: (numB l[i].re ++ numB l[i].im) := by rw [keyB, k]; rfl
        rw [contK_some]; simp (disch := first | omega | (simp only [List.length_cons, List.length_nil, List.length_append, u8s_len]; omega)) only [go_sem, ↓reduceIte, true_and, Nat.reduceLeDiff, Nat.reduceEqDiff, Nat.reduceAdd, Nat.reduceBEq, Int.reduceEq, H.cv_3_5, H.cv_3_49, H.cv_49_5]
        refine hN _ ?_; clear hN N
        simp (disch := first | omega | (simp only [List.length_cons, List.length_nil, List.length_append, u8s_len]; omega)) only [go_sem, ↓reduceIte, true_and, Nat.reduceLeDiff, Nat.reduceEqDiff, Nat.reduceAdd, Nat.reduceBEq, Int.reduceEq, H.cv_3_5, H.cv_3_49, H.cv_49_5, t13, nat_add]
        exact ⟨l.length - (i + 1), by omega, hh2, i + 1, _, rfl, by omega, t11, t12, rfl, rfl, by rw [hn, keyBs_snoc, hkb]; simpa using hr, by rw [hn, keyBs_snoc, List.length_append]; omega, by rw [he, hd, keyE, if_pos hc]⟩
      · have hk : IntKind.u8.wrap l[i].kind = ((2 : Nat) : Int) := by rw [k]; rfl
        have hu : [[AV.sc (.int .u8 ((2 : Nat) : Int))]] = u8s [2] := rfl
        have q1 : (l[i].kind == ((1 : Nat) : Int)) = false := by rw [k]; rfl
        have q2 : (l[i].kind == ((2 : Nat) : Int)) = true := by rw [k]; rfl
        have a1 := fun (t : Nat → AV) (h : Heap) => hz.app (t := t) (h := h) (ys := u8s [2]) (bytes := 1) (by rw [u8s_len, u8s_len]; simp; omega)
        have hz1 := hz.cat (u8s [2])
        rw [u8s_app] at hz1
        (refine W_seq_gen fun N hN => ?_); simp (disch := first | omega | (simp only [List.length_cons, List.length_nil, List.length_append, u8s_len]; omega)) only [go_sem, ↓reduceIte, true_and, Nat.reduceLeDiff, Nat.reduceEqDiff, Nat.reduceAdd, Nat.reduceBEq, Int.reduceEq, H.cv_3_5, H.cv_3_49, H.cv_49_5, t4, f1, hk, hu, a1]
        refine hN _ ?_; clear hN N
        (refine W_seq_gen fun N hN => ?_); simp (disch := first | omega | (simp only [List.length_cons, List.length_nil, List.length_append, u8s_len]; omega)) only [go_sem, ↓reduceIte, true_and, Nat.reduceLeDiff, Nat.reduceEqDiff, Nat.reduceAdd, Nat.reduceBEq, Int.reduceEq, H.cv_3_5, H.cv_3_49, H.cv_49_5, f1]
        refine hN _ ?_; clear hN N
        simp (disch := first | omega | (simp only [List.length_cons, List.length_nil, List.length_append, u8s_len]; omega)) only [go_sem, ↓reduceIte, true_and, Nat.reduceLeDiff, Nat.reduceEqDiff, Nat.reduceAdd, Nat.reduceBEq, Int.reduceEq, H.cv_3_5, H.cv_3_49, H.cv_49_5, q1, q2, f1]
        refine (text_key H hz1 (by simp; omega) _).mono ?_
        rintro r _ ⟨hr, hh'⟩; subst hh'
        have hkb : keyB l[i] = 2 :: textB l[i].text := by rw [keyB, k]; rfl
        rw [contK_some]; simp (disch := first | omega | (simp only [List.length_cons, List.length_nil, List.length_append, u8s_len]; omega)) only [go_sem, ↓reduceIte, true_and, Nat.reduceLeDiff, Nat.reduceEqDiff, Nat.reduceAdd, Nat.reduceBEq, Int.reduceEq, H.cv_3_5, H.cv_3_49, H.cv_49_5]
        refine hN _ ?_; clear hN N
        simp (disch := first | omega | (simp only [List.length_cons, List.length_nil, List.length_append, u8s_len]; omega)) only [go_sem, ↓reduceIte, true_and, Nat.reduceLeDiff, Nat.reduceEqDiff, Nat.reduceAdd, Nat.reduceBEq, Int.reduceEq, H.cv_3_5, H.cv_3_49, H.cv_49_5, t13, nat_add]
        exact ⟨l.length - (i + 1), by omega, hh2, i + 1, _, rfl, by omega, t11, t12, rfl, rfl, by rw [hn, keyBs_snoc, hkb]; simpa using hr, by rw [hn, keyBs_snoc, List.length_append]; omega, by rw [he, hd, keyE, if_pos hc]⟩
    · have hc2 : ((checkS l[i] : Nat) : Int) ≠ ((0 : Nat) : Int) := by omega
      have hc3 : (((checkS l[i] : Nat) : Int) != ((0 : Nat) : Int)) = true := by simpa using hc
      have hE : keyE l = checkS l[i] := by rw [he, hd, keyE, if_neg hc]
      rw [contK_some]; simp (disch := first | omega | (simp only [List.length_cons, List.length_nil, List.length_append, u8s_len]; omega)) only [go_sem, ↓reduceIte, true_and, Nat.reduceLeDiff, Nat.reduceEqDiff, Nat.reduceAdd, Nat.reduceBEq, Int.reduceEq, H.cv_3_5, H.cv_3_49, H.cv_49_5, hc3]
      refine hN _ ?_; clear hN N
      simp (disch := first | omega | (simp only [List.length_cons, List.length_nil, List.length_append, u8s_len]; omega)) only [go_sem, ↓reduceIte, true_and, Nat.reduceLeDiff, Nat.reduceEqDiff, Nat.reduceAdd, Nat.reduceBEq, Int.reduceEq, H.cv_3_5, H.cv_3_49, H.cv_49_5, hc3]
      rw [hE, if_neg hc]
      exact ⟨rfl, hh2⟩
  obtain rfl : i = l.length := by omega
  rw [List.drop_length] at he
  rw [List.take_length] at hz hzl
  (refine W_seq_gen fun N hN => ?_); simp (disch := first | omega | (simp only [List.length_cons, List.length_nil, List.length_append, u8s_len]; omega)) only [go_sem, ↓reduceIte, true_and, Nat.reduceLeDiff, Nat.reduceEqDiff, Nat.reduceAdd, Nat.reduceBEq, Int.reduceEq, H.cv_3_5, H.cv_3_49, H.cv_49_5, t12, t13, Nat.lt_irrefl]
  refine hN _ ?_; clear hN N
  (refine W_seq_gen fun N hN => ?_); simp (disch := first | omega | (simp only [List.length_cons, List.length_nil, List.length_append, u8s_len]; omega)) only [go_sem, ↓reduceIte, true_and, Nat.reduceLeDiff, Nat.reduceEqDiff, Nat.reduceAdd, Nat.reduceBEq, Int.reduceEq, H.cv_3_5, H.cv_3_49, H.cv_49_5]
  refine hM _ ?_; clear hN N hM M
  have he0 : keyE l = 0 := he
  rw [he0, if_pos rfl]
  simp (disch := first | omega | (simp only [List.length_cons, List.length_nil, List.length_append, u8s_len]; omega)) only [go_sem, ↓reduceIte, true_and, Nat.reduceLeDiff, Nat.reduceEqDiff, Nat.reduceAdd, Nat.reduceBEq, Int.reduceEq, H.cv_3_5, H.cv_3_49, H.cv_49_5, t4, hz.sl.dis.b2s]
  exact hh

theorem awake_ok (HC : HasC P) (L : Lb P) (h : Heap) : AWF P ann 0 7 [] h fun r h' => r = .sc (.bool true) ∧ h' = h := by
  refine AWF.fnc H.f0_7 rfl ?_
  (refine W_seq_gen fun N hN => ?_); simp (disch := first | omega | (simp only [List.length_cons, List.length_nil, List.length_append, u8s_len]; omega)) only [go_sem, ↓reduceIte, true_and, Nat.reduceLeDiff, Nat.reduceEqDiff, Nat.reduceAdd, Nat.reduceBEq, Int.reduceEq, H.cv_3_5, H.cv_3_49, H.cv_49_5]
  refine hN _ ?_; clear hN N
  (refine W_seq_gen fun N hN => ?_); simp (disch := first | omega | (simp only [List.length_cons, List.length_nil, List.length_append, u8s_len]; omega)) only [go_sem, ↓reduceIte, true_and, Nat.reduceLeDiff, Nat.reduceEqDiff, Nat.reduceAdd, Nat.reduceBEq, Int.reduceEq, H.cv_3_5, H.cv_3_49, H.cv_49_5]
  refine (text_ok H [97, 98] _).mono ?_
  rintro _ _ ⟨rfl, hh⟩; subst hh
  rw [contK_some]; simp (disch := first | omega | (simp only [List.length_cons, List.length_nil, List.length_append, u8s_len]; omega)) only [go_sem, ↓reduceIte, true_and, Nat.reduceLeDiff, Nat.reduceEqDiff, Nat.reduceAdd, Nat.reduceBEq, Int.reduceEq, H.cv_3_5, H.cv_3_49, H.cv_49_5, textV_av]
  refine (key_ok H HC (v := .bs true 5 (vls [textV [97, 98]]) (some 1)) (l := [textV [97, 98]]) SL.bs (by simp) _).mono ?_
  have e1 : keyE [textV [97, 98]] = 0 := by decide +kernel
  have e2 : keyBs [textV [97, 98]] = [2, 97, 98, 0, 0, 0, 0, 0, 2] := by decide +kernel
  rw [e1, e2]
  intro r h1 hr
  have hr2 : r = .tu [.sc (.string ⟨#[2, 97, 98, 0, 0, 0, 0, 0, 2]⟩), .sc (.int .i64 ((0 : Nat) : Int))] ∧ h1 = _ := hr
  obtain ⟨rfl, hh⟩ := hr2
  subst hh
  rw [contK_some]; simp (disch := first | omega | (simp only [List.length_cons, List.length_nil, List.length_append, u8s_len]; omega)) only [go_sem, ↓reduceIte, true_and, Nat.reduceLeDiff, Nat.reduceEqDiff, Nat.reduceAdd, Nat.reduceBEq, Int.reduceEq, H.cv_3_5, H.cv_3_49, H.cv_49_5]
  refine hN _ ?_; clear hN N
  simp (disch := first | omega | (simp only [List.length_cons, List.length_nil, List.length_append, u8s_len]; omega)) only [go_sem, ↓reduceIte, true_and, Nat.reduceLeDiff, Nat.reduceEqDiff, Nat.reduceAdd, Nat.reduceBEq, Int.reduceEq, H.cv_3_5, H.cv_3_49, H.cv_49_5]
  refine (num_ok H _ _).mono ?_
  rintro _ _ ⟨rfl, hh⟩; subst hh
  rw [contK_some]; simp (disch := first | omega | (simp only [List.length_cons, List.length_nil, List.length_append, u8s_len]; omega)) only [go_sem, ↓reduceIte, true_and, Nat.reduceLeDiff, Nat.reduceEqDiff, Nat.reduceAdd, Nat.reduceBEq, Int.reduceEq, H.cv_3_5, H.cv_3_49, H.cv_49_5]
  refine (num_ok H _ _).mono ?_
  rintro _ _ ⟨rfl, hh⟩; subst hh
  rw [contK_some]; simp (disch := first | omega | (simp only [List.length_cons, List.length_nil, List.length_append, u8s_len]; omega)) only [go_sem, ↓reduceIte, true_and, Nat.reduceLeDiff, Nat.reduceEqDiff, Nat.reduceAdd, Nat.reduceBEq, Int.reduceEq, H.cv_3_5, H.cv_3_49, H.cv_49_5, numV_av]
  refine (compare_ok H L (numV 1) (numV 2) _).mono ?_
  have e3 : cmpV (numV 1) (numV 2) = -1 := by decide +kernel
  rw [e3]
  rintro _ _ ⟨rfl, hh⟩; subst hh
  rw [contK_some]; simp (disch := first | omega | (simp only [List.length_cons, List.length_nil, List.length_append, u8s_len]; omega)) only [go_sem, ↓reduceIte, true_and, Nat.reduceLeDiff, Nat.reduceEqDiff, Nat.reduceAdd, Nat.reduceBEq, Int.reduceEq, H.cv_3_5, H.cv_3_49, H.cv_49_5]
end Go.Proofs.Ytmellpjoinldnaa
