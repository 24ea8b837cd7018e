/- The reference makes and reads keys. -/
import Derived.Test.YtcdfdnmnnepnoaaDoorRankM2
import Derived.Test.YtcdfdnmnnepnoaaDoorAmRow
import Derived.Test.YtcdfdnmnnepnoaaDoorAmGhost
import Derived.Test.YtcdfdnmnnepnoaaDoorRankM1
import Derived.Test.YtcdfdnmnnepnoaaDoorAmOb
section
set_option linter.unusedVariables false
set_option linter.unusedSimpArgs false
namespace Go.Proofs.YtcdfdnmnnepnoaaDoor
open Go.Am
theorem flat_u8s (q : List UInt8) : (u8s q).flatten = q.map fun b => AV.sc (.int .u8 (b.toNat : Int)) := by
  induction q with
  | nil => rfl
  | cons b q ih => rw [u8s, List.map_cons, List.flatten_cons, List.map_cons, ← ih]; rfl
theorem iad_rs {o n i : Nat} {lim : Option Nat} {t : Nat → AV} {h : Heap} (hi : i < n) : aexIad 1 ((i : Nat) : Int) t h (.rs o 0 1 n lim) = some (.val (.op o i) t h) := by
  have h1 : 0 ≤ ((i : Nat) : Int) ∧ ((i : Nat) : Int).toNat < n := ⟨Int.natCast_nonneg _, by rw [Int.toNat_natCast]; exact hi⟩
  simp [aexIad, h1.2, hi]
theorem setC {q : List UInt8} {i : Nat} {b : UInt8} (hi : i < q.length) : setRange (u8s q).flatten i [.sc (.int .u8 (b.toNat : Nat))] = (u8s (q.set i b)).flatten := by
  rw [flat_u8s, flat_u8s, List.map_set]
  apply List.ext_getElem
  · simp [setRange]; omega
  · intro j h1 h2
    have hj : j < q.length := by simpa using h2
    simp only [setRange]
    rw [List.getElem_set]
    by_cases hji : j < i
    · rw [List.getElem_append_left (by simp; omega), List.getElem_append_left (by simp; omega)]
      simp; omega
    · by_cases he : j = i
      · subst he
        rw [List.getElem_append_left (by simp; omega), List.getElem_append_right (by simp; omega)]
        simp
      · rw [List.getElem_append_right (by simp; omega)]
        simp
        have e1 : i + 1 + (j - (min i q.length + 1)) = j := by omega
        simp only [e1]
        rw [if_neg (by omega)]
/-- The bytes of a number, the first of them not yet there. -/
def nbq (n : Int) (m : Nat) : List UInt8 := zeros m ++ (numB n).drop m
theorem nbq_len {n : Int} {m : Nat} (hm : m ≤ 8) : (nbq n m).length = 8 := by simp [nbq, zeros, numB_len]; omega
theorem nbq_set {n : Int} {m : Nat} (hm : m < 8) : (nbq n (m + 1)).set m (UInt8.ofNat (liftN n / 2 ^ (56 - 8 * m))) = nbq n m := by
  have h1 : (numB n).drop m = UInt8.ofNat (liftN n / 2 ^ (56 - 8 * m)) :: (numB n).drop (m + 1) := by
    rw [List.drop_eq_getElem_cons (by rw [numB_len]; exact hm)]
    simp [numB]
  unfold nbq
  rw [h1]
  generalize (numB n).drop (m + 1) = d
  have h2 : zeros (m + 1) = zeros m ++ [0] := by simp [zeros, List.replicate_succ']
  rw [h2, List.append_assoc, List.set_append_right _ _ (by simp [zeros])]
  simp [zeros]
variable {P : Program} (H : Has P)
include H
theorem rnumber_ok (n : Int) (hn : -4611686018427387904 ≤ n ∧ n < 4611686018427387904) (h : Heap) : AWF P ann 0 27 [.sc (.int .i64 n)] h fun r h' => r = .bs false 1 (u8s (numB n)) none ∧ h' = h := by
  refine AWF.fnPureA H.f0_27 rfl ?_
  refine A_seq_gen fun N hN => W_sound ?_
  simp (disch := first | omega | (simp only [List.length_cons, List.length_nil, List.length_append, u8s_len]; omega)) only [go_sem, ↓reduceIte, true_and, Nat.reduceLeDiff, Nat.reduceEqDiff, Nat.reduceAdd, Nat.reduceBEq, Int.reduceEq, H.cv_3_5, H.cv_3_56, H.cv_5_3, H.cv_5_56, H.cv_56_3, H.cv_56_5]
  refine hN _ ?_; clear hN N
  refine A_seq_gen fun N hN => W_sound ?_
  simp (disch := first | omega | (simp only [List.length_cons, List.length_nil, List.length_append, u8s_len]; omega)) only [go_sem, ↓reduceIte, true_and, Nat.reduceLeDiff, Nat.reduceEqDiff, Nat.reduceAdd, Nat.reduceBEq, Int.reduceEq, H.cv_3_5, H.cv_3_56, H.cv_5_3, H.cv_5_56, H.cv_56_3, H.cv_56_5]
  intro o ho
  have hk0 : ∀ x, h x ≠ none → upd h o (some (.arr (u8s (nbq n 8)).flatten)) x = h x := upd_keep ho
  have f1 : upd h o (some (.arr (u8s (nbq n 8)).flatten)) o = some (.arr (u8s (nbq n 8)).flatten) := upd_same _ _ _
  have e0 : (u8s (nbq n 8)).flatten = (List.replicate 8 [AV.sc (.int .u8 ((0 : Nat) : Int))]).flatten := by
    have : (numB n).drop 8 = [] := List.drop_eq_nil_of_le (by rw [numB_len]; omega)
    rw [nbq, this]; rfl
  rw [Int.toNat_natCast, ← e0]
  generalize upd h o (some (.arr (u8s (nbq n 8)).flatten)) = h1 at hk0 f1
  have ho0 := ho
  clear ho e0
  simp (disch := first | omega | (simp only [List.length_cons, List.length_nil, List.length_append, u8s_len]; omega)) only [go_sem, ↓reduceIte, true_and, Nat.reduceLeDiff, Nat.reduceEqDiff, Nat.reduceAdd, Nat.reduceBEq, Int.reduceEq, H.cv_3_5, H.cv_3_56, H.cv_5_3, H.cv_5_56, H.cv_56_3, H.cv_56_5]
  refine hN _ ?_; clear hN N
  refine A_seq_gen fun N hN => W_sound ?_
  have hU : (n + ((2305843009213693952 : Nat) : Int)) + ((2305843009213693952 : Nat) : Int) = ((liftN n : Nat) : Int) := by unfold liftN; omega
  have hUl : liftN n < 9223372036854775808 := by unfold liftN; omega
  have hq0 : liftN n / 2 ^ (64 - 8 * 8) = liftN n := by simp
  refine W_forget (fun t => t 0 = .sc (.int .i64 n) ∧ t 3 = .rs o 0 1 8 (some 8) ∧ True) (by simp [upd_at, *] <;> (first | rfl | exact ⟨rfl, rfl⟩ | exact ⟨rfl, rfl, rfl⟩ | exact ⟨rfl, rfl, rfl, rfl⟩ | exact ⟨rfl, rfl, rfl, rfl, rfl⟩)) ?_; rintro t ⟨t0, t3, -⟩
  simp (disch := first | omega | (simp only [List.length_cons, List.length_nil, List.length_append, u8s_len]; omega)) only [go_sem, ↓reduceIte, true_and, Nat.reduceLeDiff, Nat.reduceEqDiff, Nat.reduceAdd, Nat.reduceBEq, Int.reduceEq, H.cv_3_5, H.cv_3_56, H.cv_5_3, H.cv_5_56, H.cv_56_3, H.cv_56_5, t0, hU]
  refine hN _ ?_; clear hN N
  refine A_seq_gen fun M hM => W_sound ?_
  refine W_forget (fun t => t 3 = .rs o 0 1 8 (some 8) ∧ t 4 = .sc (.int .i64 (liftN n : Nat)) ∧ True) (by simp [upd_at, *] <;> (first | rfl | exact ⟨rfl, rfl⟩ | exact ⟨rfl, rfl, rfl⟩ | exact ⟨rfl, rfl, rfl, rfl⟩ | exact ⟨rfl, rfl, rfl, rfl, rfl⟩)) ?_; rintro t ⟨t3, t4, -⟩
  (refine W_seq_gen fun N hN => ?_); simp (disch := first | omega | (simp only [List.length_cons, List.length_nil, List.length_append, u8s_len]; omega)) only [go_sem, ↓reduceIte, true_and, Nat.reduceLeDiff, Nat.reduceEqDiff, Nat.reduceAdd, Nat.reduceBEq, Int.reduceEq, H.cv_3_5, H.cv_3_56, H.cv_5_3, H.cv_5_56, H.cv_56_3, H.cv_56_5]
  refine hN _ ?_; clear hN N
  simp (disch := first | omega | (simp only [List.length_cons, List.length_nil, List.length_append, u8s_len]; omega)) only [go_sem, ↓reduceIte, true_and, Nat.reduceLeDiff, Nat.reduceEqDiff, Nat.reduceAdd, Nat.reduceBEq, Int.reduceEq, H.cv_3_5, H.cv_3_56, H.cv_5_3, H.cv_5_56, H.cv_56_3, H.cv_56_5]
  refine AW_loopN (fun k t h' => ∃ m : Nat, k = m ∧ m ≤ 8 ∧ (∀ x, h x ≠ none → h' x = h x) ∧ h' o = some (.arr (u8s (nbq n m)).flatten) ∧ t 3 = .rs o 0 1 8 (some 8) ∧ t 4 = .sc (.int .i64 (liftN n / 2 ^ (64 - 8 * m) : Nat)) ∧ t 5 = .sc (.int .i64 ((m : Int) - 1)))
    (n := 8) ⟨8, rfl, by omega, hk0, f1, by simp [upd_at, t3], by simp [upd_at, t4], by simp [upd_at]⟩ ?_
  clear t3 t4 hk0 f1 t
  rintro m t h' ⟨_, rfl, hm, hk0, f1, t3, t4, t5⟩
  cases m with
  | zero =>
    have q1 : ¬ ((((0 : Nat) : Int) - 1) ≥ ((0 : Nat) : Int)) := by omega
    (refine W_seq_gen fun N hN => ?_); simp (disch := first | omega | (simp only [List.length_cons, List.length_nil, List.length_append, u8s_len]; omega)) only [go_sem, ↓reduceIte, true_and, Nat.reduceLeDiff, Nat.reduceEqDiff, Nat.reduceAdd, Nat.reduceBEq, Int.reduceEq, H.cv_3_5, H.cv_3_56, H.cv_5_3, H.cv_5_56, H.cv_56_3, H.cv_56_5, t5, q1]
    refine hM _ ?_
    have hcl : 0 + 8 * 1 ≤ (u8s (nbq n 0)).flatten.length := by rw [flat_u8s, List.length_map, nbq_len (by omega)]; omega
    have hnb : nbq n 0 = numB n := by simp [nbq, zeros]
    have hch : chunks 1 8 (((u8s (nbq n 0)).flatten.drop 0).map AV.disc) = u8s (numB n) := by
      have := (ge_u8s (l := numB n)).chunks []
      rw [u8s_len, numB_len, List.append_nil] at this
      rw [List.drop_zero, hnb, (ge_u8s (l := numB n)).disc, this]
    refine .ghost (.slot (i := 3) (o := o) (c := 0) (sz := 1) (n := 8) (lim := some 8) false (by simp [upd_at, t3]) f1 hcl (fun q => by cases q)) ?_
    rw [hch]
    refine .ghost (.lim (i := 3) (own := false) (sz := 1) (es := u8s (numB n)) (lim := some 8) (by simp [upd_at])) (W_sound ?_)
    simp (disch := first | omega | (simp only [List.length_cons, List.length_nil, List.length_append, u8s_len]; omega)) only [go_sem, ↓reduceIte, true_and, Nat.reduceLeDiff, Nat.reduceEqDiff, Nat.reduceAdd, Nat.reduceBEq, Int.reduceEq, H.cv_3_5, H.cv_3_56, H.cv_5_3, H.cv_5_56, H.cv_56_3, H.cv_56_5]
    exact fun x hx => by rw [if_neg (fun e => hx (by rw [e]; exact ho0))]; exact hk0 x hx
  | succ m =>
    have e5 : (((m + 1 : Nat) : Int) - 1) = ((m : Nat) : Int) := by omega
    rw [e5] at t5
    have hd : liftN n / 2 ^ (64 - 8 * (m + 1)) = liftN n / 2 ^ (56 - 8 * m) := by congr 2; omega
    rw [hd] at t4
    have hd2 : liftN n / 2 ^ (56 - 8 * m) / 256 = liftN n / 2 ^ (64 - 8 * m) := by
      rw [Nat.div_div_eq_div_mul]
      have : 2 ^ (56 - 8 * m) * 256 = 2 ^ (64 - 8 * m) := by
        have e : 64 - 8 * m = (56 - 8 * m) + 8 := by omega
        rw [e, Nat.pow_add]
      rw [this]
    have hx : liftN n / 2 ^ (56 - 8 * m) < 9223372036854775808 := Nat.lt_of_le_of_lt (Nat.div_le_self _ _) hUl
    have hset := setC (q := nbq n (m + 1)) (i := m) (b := UInt8.ofNat (liftN n / 2 ^ (56 - 8 * m))) (by rw [nbq_len hm]; omega)
    rw [nbq_set (by omega), UInt8.toNat_ofNat'] at hset
    generalize liftN n / 2 ^ (56 - 8 * m) = x at t4 hd2 hx hset
    have m0 : decide (0 ≤ m) = true := by simp
    (refine W_seq_gen fun N hN => ?_); simp (disch := first | omega | (simp only [List.length_cons, List.length_nil, List.length_append, u8s_len]; omega)) only [go_sem, ↓reduceIte, true_and, Nat.reduceLeDiff, Nat.reduceEqDiff, Nat.reduceAdd, Nat.reduceBEq, Int.reduceEq, H.cv_3_5, H.cv_3_56, H.cv_5_3, H.cv_5_56, H.cv_56_3, H.cv_56_5, t5, m0]
    refine hN _ ?_; clear hN N
    (refine W_seq_gen fun N hN => ?_)
    rw [W_block]
    have hiad := fun (t : Nat → AV) (h : Heap) => iad_rs (o := o) (n := 8) (lim := some 8) (t := t) (h := h) (show m < 8 by omega)
    have r256 : ((x : Nat) : Int).tmod ((256 : Nat) : Int) = ((x % 256 : Nat) : Int) := rfl
    have q256 : ((x : Nat) : Int).tdiv ((256 : Nat) : Int) = ((x / 256 : Nat) : Int) := rfl
    have w8 : IntKind.u8.wrap ((x % 256 : Nat) : Int) = ((x % 2 ^ 8 : Nat) : Int) := by rw [wrap_u8m]; omega
    have hll : m + 1 ≤ (u8s (nbq n (m + 1))).flatten.length := by rw [flat_u8s, List.length_map, nbq_len hm]; omega
    (refine W_seq_gen fun N hN => ?_); simp (disch := first | omega | (simp only [List.length_cons, List.length_nil, List.length_append, u8s_len]; omega)) only [go_sem, ↓reduceIte, true_and, Nat.reduceLeDiff, Nat.reduceEqDiff, Nat.reduceAdd, Nat.reduceBEq, Int.reduceEq, H.cv_3_5, H.cv_3_56, H.cv_5_3, H.cv_5_56, H.cv_56_3, H.cv_56_5, t3, t4, t5, r256, w8, hiad, f1, hll, hset]
    refine hN _ ?_; clear hN N
    simp (disch := first | omega | (simp only [List.length_cons, List.length_nil, List.length_append, u8s_len]; omega)) only [go_sem, ↓reduceIte, true_and, Nat.reduceLeDiff, Nat.reduceEqDiff, Nat.reduceAdd, Nat.reduceBEq, Int.reduceEq, H.cv_3_5, H.cv_3_56, H.cv_5_3, H.cv_5_56, H.cv_56_3, H.cv_56_5, t4, q256, hd2]
    refine hN _ ?_; clear hN N
    simp (disch := first | omega | (simp only [List.length_cons, List.length_nil, List.length_append, u8s_len]; omega)) only [go_sem, ↓reduceIte, true_and, Nat.reduceLeDiff, Nat.reduceEqDiff, Nat.reduceAdd, Nat.reduceBEq, Int.reduceEq, H.cv_3_5, H.cv_3_56, H.cv_5_3, H.cv_5_56, H.cv_56_3, H.cv_56_5, t5]
    exact ⟨m, by omega, by omega, fun x hx => by rw [if_neg (fun e => hx (by rw [e]; exact ho0))]; exact hk0 x hx, rfl, t3, rfl, rfl⟩
end Go.Proofs.YtcdfdnmnnepnoaaDoor
end

section
set_option linter.unusedVariables false
set_option linter.unusedSimpArgs false
namespace Go.Proofs.YtcdfdnmnnepnoaaDoor
open Go.Am
section
variable {P : Program} {t : Nat → AV} {h : Heap}
def aexS2b (t : Nat → AV) (h : Heap) : AV → Option AR
  | .sc (.string b) => some (.val (.bs true 1 (b.data.toList.map fun c => [AV.sc (.int .u8 c.toNat)]) none) t h)
  | _ => none
theorem aex_s2b {x : Opd} : aex P (.s2b false x) ⟨t, h⟩ = aexS2b t h (x.ev t) := by
  simp only [aex, aexS2b]
  cases x.ev t <;> first | rfl | (rename_i v; cases v <;> rfl)
theorem s2b_str {l : List UInt8} : aexS2b t h (.sc (.string (str l))) = some (.val (.bs true 1 (u8s l) none) t h) := by
  simp [aexS2b, str, u8s]
end
attribute [go_sem ↓] aex_s2b
attribute [go_sem] s2b_str
variable {P : Program} (H : Has P)
include H
theorem rtext_small (s : List UInt8) (h7 : ¬ 7 ≤ s.length) : ∃ r, SG 1 r (u8s (textB s)) ∧ ∀ h, AWF P ann 0 28 [.sc (.string (str s))] h fun v h' => v = r ∧ h' = h := by
  have hz0 : SG 1 (.bs true 1 (u8s s) none) (u8s s) := SG.bs
  have hz := growB_ok (zeros (7 - s.length)) s _ hz0
  have ht : textB s = s ++ zeros (7 - s.length) ++ [UInt8.ofNat s.length] := by rw [textB, dif_neg h7]
  have hz1 := hz.cat (u8s [UInt8.ofNat s.length])
  rw [u8s_app, ← ht] at hz1
  refine ⟨_, hz1, fun h => AWF.fnc H.f0_28 rfl ?_⟩
  (refine W_seq_gen fun N hN => ?_); simp (disch := first | omega | (simp only [List.length_cons, List.length_nil, List.length_append, u8s_len]; omega)) only [go_sem, ↓reduceIte, true_and, Nat.reduceLeDiff, Nat.reduceEqDiff, Nat.reduceAdd, Nat.reduceBEq, Int.reduceEq, H.cv_3_5, H.cv_3_56, H.cv_5_3, H.cv_5_56, H.cv_56_3, H.cv_56_5]
  refine hN _ ?_; clear hN N
  (refine W_seq_gen fun N hN => ?_); simp (disch := first | omega | (simp only [List.length_cons, List.length_nil, List.length_append, u8s_len]; omega)) only [go_sem, ↓reduceIte, true_and, Nat.reduceLeDiff, Nat.reduceEqDiff, Nat.reduceAdd, Nat.reduceBEq, Int.reduceEq, H.cv_3_5, H.cv_3_56, H.cv_5_3, H.cv_5_56, H.cv_56_3, H.cv_56_5, h7]
  refine hN _ ?_; clear hN N
  (refine W_seq_gen fun N hN => ?_); simp (disch := first | omega | (simp only [List.length_cons, List.length_nil, List.length_append, u8s_len]; omega)) only [go_sem, ↓reduceIte, true_and, Nat.reduceLeDiff, Nat.reduceEqDiff, Nat.reduceAdd, Nat.reduceBEq, Int.reduceEq, H.cv_3_5, H.cv_3_56, H.cv_5_3, H.cv_5_56, H.cv_56_3, H.cv_56_5]
  refine hN _ ?_; clear hN N
  (refine W_seq_gen fun M hM => ?_)
  simp (disch := first | omega | (simp only [List.length_cons, List.length_nil, List.length_append, u8s_len]; omega)) only [go_sem, ↓reduceIte, true_and, Nat.reduceLeDiff, Nat.reduceEqDiff, Nat.reduceAdd, Nat.reduceBEq, Int.reduceEq, H.cv_3_5, H.cv_3_56, H.cv_5_3, H.cv_5_56, H.cv_56_3, H.cv_56_5]
  refine AW_loopN (fun k t h' => h' = h ∧ ∃ (j : Nat) (z : AV), k = 7 - s.length - j ∧ j ≤ 7 - s.length ∧ t 0 = .sc (.string (str s)) ∧ t 3 = z ∧ z = growB (.bs true 1 (u8s s) none) (zeros j))
    (n := 7 - s.length) ⟨rfl, 0, _, by omega, Nat.zero_le _, rfl, rfl, rfl⟩ ?_
  rintro k t h' ⟨rfl, j, z, rfl, hj, t0, t3, hzq⟩
  have hzj : SG 1 z (u8s (s ++ zeros j)) := by rw [hzq]; exact growB_ok _ _ _ hz0
  have hlen : (u8s (s ++ zeros j)).length = s.length + j := by rw [u8s_len]; simp [zeros]
  by_cases hlt : s.length + j < 7
  · have a1 := fun (t : Nat → AV) (h : Heap) => hzj.app (t := t) (h := h) (ys := u8s [0]) (bytes := 1) (by rw [hlen, u8s_len]; simp; omega)
    have e8 : [[AV.sc (.int .u8 ((0 : Nat) : Int))]] = u8s [0] := rfl
    have hq : catV 1 (u8s [0]) z = growB (.bs true 1 (u8s s) none) (zeros (j + 1)) := by
      have : zeros (j + 1) = zeros j ++ [0] := by simp [zeros, List.replicate_succ']
      rw [this, growB_snoc, hzq]
    (refine W_seq_gen fun N hN => ?_); simp (disch := first | omega | (simp only [List.length_cons, List.length_nil, List.length_append, u8s_len]; omega)) only [go_sem, ↓reduceIte, true_and, Nat.reduceLeDiff, Nat.reduceEqDiff, Nat.reduceAdd, Nat.reduceBEq, Int.reduceEq, H.cv_3_5, H.cv_3_56, H.cv_5_3, H.cv_5_56, H.cv_56_3, H.cv_56_5, t3, hzj.sl.dis.len, hlen, hlt]
    refine hN _ ?_; clear hN N
    rw [W_block]
    simp (disch := first | omega | (simp only [List.length_cons, List.length_nil, List.length_append, u8s_len]; omega)) only [go_sem, ↓reduceIte, true_and, Nat.reduceLeDiff, Nat.reduceEqDiff, Nat.reduceAdd, Nat.reduceBEq, Int.reduceEq, H.cv_3_5, H.cv_3_56, H.cv_5_3, H.cv_5_56, H.cv_56_3, H.cv_56_5, t3, e8, a1]
    exact ⟨7 - s.length - (j + 1), by omega, j + 1, _, rfl, by omega, t0, rfl, hq⟩
  · obtain rfl : j = 7 - s.length := by omega
    have w8 : IntKind.u8.wrap ((s.length : Nat) : Int) = ((s.length : Nat) : Int) := by rw [wrap_u8m]; omega
    have e8 : [[AV.sc (.int .u8 ((s.length : Nat) : Int))]] = u8s [UInt8.ofNat s.length] := by
      have : (UInt8.ofNat s.length).toNat = s.length := by simp; omega
      simp [u8s, this]
    have a1 := fun (t : Nat → AV) (h : Heap) => hzj.app (t := t) (h := h) (ys := u8s [UInt8.ofNat s.length]) (bytes := 1) (by rw [hlen, u8s_len]; simp; omega)
    (refine W_seq_gen fun N hN => ?_); simp (disch := first | omega | (simp only [List.length_cons, List.length_nil, List.length_append, u8s_len]; omega)) only [go_sem, ↓reduceIte, true_and, Nat.reduceLeDiff, Nat.reduceEqDiff, Nat.reduceAdd, Nat.reduceBEq, Int.reduceEq, H.cv_3_5, H.cv_3_56, H.cv_5_3, H.cv_5_56, H.cv_56_3, H.cv_56_5, t3, hzj.sl.dis.len, hlen, hlt]
    refine hM _ ?_; clear hN N hM M
    simp (disch := first | omega | (simp only [List.length_cons, List.length_nil, List.length_append, u8s_len]; omega)) only [go_sem, ↓reduceIte, true_and, Nat.reduceLeDiff, Nat.reduceEqDiff, Nat.reduceAdd, Nat.reduceBEq, Int.reduceEq, H.cv_3_5, H.cv_3_56, H.cv_5_3, H.cv_5_56, H.cv_56_3, H.cv_56_5, t0, t3, w8, e8, a1]
    rw [hzq]
theorem rtext_ok : ∀ (n : Nat) (s : List UInt8), s.length ≤ n → s.length < 2 ^ 40 → ∃ r, SG 1 r (u8s (textB s)) ∧ ∀ h, AWF P ann 0 28 [.sc (.string (str s))] h fun v h' => v = r ∧ h' = h
  | n, s, hn, hs => by
    by_cases h7 : 7 ≤ s.length
    · obtain ⟨n, rfl⟩ : ∃ m, n = m + 1 := ⟨n - 1, by omega⟩
      obtain ⟨r, hr, hf⟩ := rtext_ok n (s.drop 7) (by simp; omega) (by simp; omega)
      have hlen := textB_len (s.drop 7)
      rw [List.length_drop] at hlen
      have ht : textB s = s.take 7 ++ [8] ++ textB (s.drop 7) := by rw [textB_big h7]; simp
      have hz : SG 1 (.bs true 1 (u8s (s.take 7)) none) (u8s (s.take 7)) := SG.bs
      have a1 := fun (t : Nat → AV) (h : Heap) => hz.app (t := t) (h := h) (ys := u8s [8]) (bytes := 1) (by rw [u8s_len, u8s_len]; simp; omega)
      have hz1 := hz.cat (u8s [8])
      rw [u8s_app] at hz1
      have a2 := fun (t : Nat → AV) (h : Heap) => hz1.app (t := t) (h := h) (ys := u8s (textB (s.drop 7))) (bytes := 1) (by rw [u8s_len, u8s_len]; simp; omega)
      have hz2 := hz1.cat (u8s (textB (s.drop 7)))
      rw [u8s_app, ← ht] at hz2
      have e8 : [[AV.sc (.int .u8 ((8 : Nat) : Int))]] = u8s [8] := rfl
      refine ⟨_, hz2, fun h => AWF.fnc H.f0_28 rfl ?_⟩
      have h7' : s.length ≥ 7 := h7
      (refine W_seq_gen fun N hN => ?_); simp (disch := first | omega | (simp only [List.length_cons, List.length_nil, List.length_append, u8s_len]; omega)) only [go_sem, ↓reduceIte, true_and, Nat.reduceLeDiff, Nat.reduceEqDiff, Nat.reduceAdd, Nat.reduceBEq, Int.reduceEq, H.cv_3_5, H.cv_3_56, H.cv_5_3, H.cv_5_56, H.cv_56_3, H.cv_56_5]
      refine hN _ ?_; clear hN N
      simp (disch := first | omega | (simp only [List.length_cons, List.length_nil, List.length_append, u8s_len]; omega)) only [go_sem, ↓reduceIte, true_and, Nat.reduceLeDiff, Nat.reduceEqDiff, Nat.reduceAdd, Nat.reduceBEq, Int.reduceEq, H.cv_3_5, H.cv_3_56, H.cv_5_3, H.cv_5_56, H.cv_56_3, H.cv_56_5, h7, sls_u (l := s) (u := 7) h7, sls_l (l := s) (u := 7) h7, e8, a1]
      refine ⟨_, hf _, ?_⟩
      rw [contK_some]; simp (disch := first | omega | (simp only [List.length_cons, List.length_nil, List.length_append, u8s_len]; omega)) only [go_sem, ↓reduceIte, true_and, Nat.reduceLeDiff, Nat.reduceEqDiff, Nat.reduceAdd, Nat.reduceBEq, Int.reduceEq, H.cv_3_5, H.cv_3_56, H.cv_5_3, H.cv_5_56, H.cv_56_3, H.cv_56_5, hr.sl.dis.elems, hr.sl.elems, a2]
    · exact rtext_small H s h7
end Go.Proofs.YtcdfdnmnnepnoaaDoor
end

section
set_option linter.unusedVariables false
set_option linter.unusedSimpArgs false
namespace Go.Proofs.YtcdfdnmnnepnoaaDoor
open Go.Am
/-- More of what the program needs to know of values that are compared. -/
structure HasD (P : Program) : Prop where
  ne : ∀ a b : Vl, scalarBin P .neq 31 (.agg #[.int .i64 a.kind, .int .i64 a.num, .string (str a.text), .int .i64 a.re, .int .i64 a.im]) (.agg #[.int .i64 b.kind, .int .i64 b.num, .string (str b.text), .int .i64 b.re, .int .i64 b.im]) = some (.bool (!decide (a = b)))
  pt : ∀ a b c d : Int, scalarBin P .eql 29 (.agg #[.int .i64 a, .int .i64 b]) (.agg #[.int .i64 c, .int .i64 d]) = some (.bool (decide (a = c ∧ b = d)))
variable {P : Program} (H : Has P)
include H
theorem eight_ok (s : List UInt8) (h8 : 8 ≤ s.length) (h : Heap) : AWF P ann 0 23 [.sc (.string (str s))] h fun v h' => v = .sc (.int .i64 (eigI (s.take 8))) ∧ h' = h := by
  refine AWF.fnc H.f0_23 rfl ?_
  (refine W_seq_gen fun N hN => ?_); simp (disch := first | omega | (simp only [List.length_cons, List.length_nil, List.length_append, u8s_len]; omega)) only [go_sem, ↓reduceIte, true_and, Nat.reduceLeDiff, Nat.reduceEqDiff, Nat.reduceAdd, Nat.reduceBEq, Int.reduceEq, H.cv_3_5, H.cv_3_56, H.cv_5_3, H.cv_5_56, H.cv_56_3, H.cv_56_5]
  refine hN _ ?_; clear hN N
  (refine W_seq_gen fun N hN => ?_); simp (disch := first | omega | (simp only [List.length_cons, List.length_nil, List.length_append, u8s_len]; omega)) only [go_sem, ↓reduceIte, true_and, Nat.reduceLeDiff, Nat.reduceEqDiff, Nat.reduceAdd, Nat.reduceBEq, Int.reduceEq, H.cv_3_5, H.cv_3_56, H.cv_5_3, H.cv_5_56, H.cv_56_3, H.cv_56_5]
  refine hN _ ?_; clear hN N
  (refine W_seq_gen fun M hM => ?_)
  (refine W_seq_gen fun N hN => ?_); simp (disch := first | omega | (simp only [List.length_cons, List.length_nil, List.length_append, u8s_len]; omega)) only [go_sem, ↓reduceIte, true_and, Nat.reduceLeDiff, Nat.reduceEqDiff, Nat.reduceAdd, Nat.reduceBEq, Int.reduceEq, H.cv_3_5, H.cv_3_56, H.cv_5_3, H.cv_5_56, H.cv_56_3, H.cv_56_5]
  refine hN _ ?_; clear hN N
  simp (disch := first | omega | (simp only [List.length_cons, List.length_nil, List.length_append, u8s_len]; omega)) only [go_sem, ↓reduceIte, true_and, Nat.reduceLeDiff, Nat.reduceEqDiff, Nat.reduceAdd, Nat.reduceBEq, Int.reduceEq, H.cv_3_5, H.cv_3_56, H.cv_5_3, H.cv_5_56, H.cv_56_3, H.cv_56_5]
  refine AW_loopN (fun n t h' => h' = h ∧ ∃ i, n = 8 - i ∧ i ≤ 8 ∧ t 0 = .sc (.string (str s)) ∧ t 3 = .sc (.int .u64 (be (s.take i) : Nat)) ∧ t 4 = .sc (.int .i64 (i : Nat)))
    (n := 8) ⟨rfl, 0, rfl, Nat.zero_le _, rfl, rfl, rfl⟩ ?_
  rintro n t h' ⟨rfl, i, rfl, hi, t0, t3, t4⟩
  rcases Nat.lt_or_ge i 8 with hlt | hge
  · have g0 : s[i]? = some s[i] := List.getElem?_eq_getElem (by omega)
    have hbl := s[i].toNat_lt
    have hp : be (s.take i) < 72057594037927936 := by
      have h1 := be_pow (s.take i)
      have h2 : (s.take i).length ≤ 7 := by simp; omega
      exact Nat.lt_of_lt_of_le h1 (Nat.le_trans (Nat.pow_le_pow_right (by decide) h2) (by decide))
    have hsn : be (s.take (i + 1)) = be (s.take i) * 256 + s[i].toNat := by rw [List.take_add_one, g0, ← be_snoc]; rfl
    have q3 : IntKind.u64.wrap ((s[i].toNat : Nat) : Int) = ((s[i].toNat : Nat) : Int) := by rw [wrap_u64m]; omega
    have q1 : IntKind.u64.wrap (((be (s.take i) : Nat) : Int) * ((256 : Nat) : Int)) = ((be (s.take i) * 256 : Nat) : Int) := by rw [wrap_u64m]; omega
    have q2 : IntKind.u64.wrap (((be (s.take i) * 256 : Nat) : Int) + ((s[i].toNat : Nat) : Int)) = ((be (s.take (i + 1)) : Nat) : Int) := by rw [wrap_u64m, hsn]; omega
    (refine W_seq_gen fun N hN => ?_); simp (disch := first | omega | (simp only [List.length_cons, List.length_nil, List.length_append, u8s_len]; omega)) only [go_sem, ↓reduceIte, true_and, Nat.reduceLeDiff, Nat.reduceEqDiff, Nat.reduceAdd, Nat.reduceBEq, Int.reduceEq, H.cv_3_5, H.cv_3_56, H.cv_5_3, H.cv_5_56, H.cv_56_3, H.cv_56_5, t4, hlt]
    refine hN _ ?_; clear hN N
    (refine W_seq_gen fun N hN => ?_)
    rw [W_block]
    simp (disch := first | omega | (simp only [List.length_cons, List.length_nil, List.length_append, u8s_len]; omega)) only [go_sem, ↓reduceIte, true_and, Nat.reduceLeDiff, Nat.reduceEqDiff, Nat.reduceAdd, Nat.reduceBEq, Int.reduceEq, H.cv_3_5, H.cv_3_56, H.cv_5_3, H.cv_5_56, H.cv_56_3, H.cv_56_5, t0, t3, t4, q1, g0, Option.bind_some, q3, q2]
    refine hN _ ?_; clear hN N
    simp (disch := first | omega | (simp only [List.length_cons, List.length_nil, List.length_append, u8s_len]; omega)) only [go_sem, ↓reduceIte, true_and, Nat.reduceLeDiff, Nat.reduceEqDiff, Nat.reduceAdd, Nat.reduceBEq, Int.reduceEq, H.cv_3_5, H.cv_3_56, H.cv_5_3, H.cv_5_56, H.cv_56_3, H.cv_56_5, t4, nat_add]
    exact ⟨8 - (i + 1), by omega, i + 1, rfl, by omega, t0, rfl, rfl⟩
  obtain rfl : i = 8 := by omega
  have hb := be_lt (l := s.take 8) (by simp; omega)
  (refine W_seq_gen fun N hN => ?_); simp (disch := first | omega | (simp only [List.length_cons, List.length_nil, List.length_append, u8s_len]; omega)) only [go_sem, ↓reduceIte, true_and, Nat.reduceLeDiff, Nat.reduceEqDiff, Nat.reduceAdd, Nat.reduceBEq, Int.reduceEq, H.cv_3_5, H.cv_3_56, H.cv_5_3, H.cv_5_56, H.cv_56_3, H.cv_56_5, t4, Nat.lt_irrefl]
  refine hM _ ?_; clear hN N hM M
  unfold eigI
  generalize be (s.take 8) = x at t3 hb
  by_cases c1 : x < 2305843009213693952
  · (refine W_seq_gen fun N hN => ?_); simp (disch := first | omega | (simp only [List.length_cons, List.length_nil, List.length_append, u8s_len]; omega)) only [go_sem, ↓reduceIte, true_and, Nat.reduceLeDiff, Nat.reduceEqDiff, Nat.reduceAdd, Nat.reduceBEq, Int.reduceEq, H.cv_3_5, H.cv_3_56, H.cv_5_3, H.cv_5_56, H.cv_56_3, H.cv_56_5, t3, c1]
    simp [c1]
  · by_cases c2 : x > 6917529027641081856
    · have c2' : 6917529027641081856 < x := c2
      (refine W_seq_gen fun N hN => ?_); simp (disch := first | omega | (simp only [List.length_cons, List.length_nil, List.length_append, u8s_len]; omega)) only [go_sem, ↓reduceIte, true_and, Nat.reduceLeDiff, Nat.reduceEqDiff, Nat.reduceAdd, Nat.reduceBEq, Int.reduceEq, H.cv_3_5, H.cv_3_56, H.cv_5_3, H.cv_5_56, H.cv_56_3, H.cv_56_5, t3, c1, c2']
      simp [c2]
    · have c2' : ¬ 6917529027641081856 < x := c2
      have w1 : IntKind.i64.wrap ((x : Nat) : Int) = ((x : Nat) : Int) := wrap_i64u (by omega) (by omega)
      have w2 : IntKind.i64.wrap (((x : Nat) : Int) - ((2305843009213693952 : Nat) : Int)) = ((x : Nat) : Int) - ((2305843009213693952 : Nat) : Int) := by simp only [IntKind.wrap, IntKind.bits, IntKind.signed]; simp; omega
      have w3 : IntKind.i64.wrap (((x : Nat) : Int) - ((2305843009213693952 : Nat) : Int) - ((2305843009213693952 : Nat) : Int)) = ((x : Nat) : Int) - 4611686018427387904 := by simp only [IntKind.wrap, IntKind.bits, IntKind.signed]; simp; omega
      (refine W_seq_gen fun N hN => ?_); simp (disch := first | omega | (simp only [List.length_cons, List.length_nil, List.length_append, u8s_len]; omega)) only [go_sem, ↓reduceIte, true_and, Nat.reduceLeDiff, Nat.reduceEqDiff, Nat.reduceAdd, Nat.reduceBEq, Int.reduceEq, H.cv_3_5, H.cv_3_56, H.cv_5_3, H.cv_5_56, H.cv_56_3, H.cv_56_5, t3, c1, c2']
      refine hN _ ?_; clear hN N
      simp (disch := first | omega | (simp only [List.length_cons, List.length_nil, List.length_append, u8s_len]; omega)) only [go_sem, ↓reduceIte, true_and, Nat.reduceLeDiff, Nat.reduceEqDiff, Nat.reduceAdd, Nat.reduceBEq, Int.reduceEq, H.cv_3_5, H.cv_3_56, H.cv_5_3, H.cv_5_56, H.cv_56_3, H.cv_56_5, t3, w1, w2, w3]
      simp [c1, c2]
end Go.Proofs.YtcdfdnmnnepnoaaDoor
end

section
set_option linter.unusedVariables false
set_option linter.unusedSimpArgs false
namespace Go.Proofs.YtcdfdnmnnepnoaaDoor
open Go.Am
theorem vls_take (l : List Vl) (i : Nat) : (vls l).take i = vls (l.take i) := by simp [vls]
variable {P : Program} (H : Has P) (HD : HasD P)
include H HD
theorem same_ok {v w : AV} {l m : List Vl} (hv : SL 5 v (vls l)) (hw : SL 5 w (vls m)) (hl : l.length < 2 ^ 60) (hm : m.length < 2 ^ 60) (h : Heap) : AWF P ann 0 11 [v, w] h fun r h' => r = .sc (.bool (decide (l = m))) ∧ h' = h := by
  refine AWF.fnc H.f0_11 rfl ?_
  have e1 := @vls_len l
  have e2 := @vls_len m
  (refine W_seq_gen fun N hN => ?_); simp (disch := first | omega | (simp only [List.length_cons, List.length_nil, List.length_append, u8s_len]; omega)) only [go_sem, ↓reduceIte, true_and, Nat.reduceLeDiff, Nat.reduceEqDiff, Nat.reduceAdd, Nat.reduceBEq, Int.reduceEq, H.cv_3_5, H.cv_3_56, H.cv_5_3, H.cv_5_56, H.cv_56_3, H.cv_56_5]
  refine hN _ ?_; clear hN N
  (refine W_seq_gen fun M hM => ?_)
  (refine W_seq_gen fun N hN => ?_); simp (disch := first | omega | (simp only [List.length_cons, List.length_nil, List.length_append, u8s_len]; omega)) only [go_sem, ↓reduceIte, true_and, Nat.reduceLeDiff, Nat.reduceEqDiff, Nat.reduceAdd, Nat.reduceBEq, Int.reduceEq, H.cv_3_5, H.cv_3_56, H.cv_5_3, H.cv_5_56, H.cv_56_3, H.cv_56_5]
  refine hN _ ?_; clear hN N
  simp (disch := first | omega | (simp only [List.length_cons, List.length_nil, List.length_append, u8s_len]; omega)) only [go_sem, ↓reduceIte, true_and, Nat.reduceLeDiff, Nat.reduceEqDiff, Nat.reduceAdd, Nat.reduceBEq, Int.reduceEq, H.cv_3_5, H.cv_3_56, H.cv_5_3, H.cv_5_56, H.cv_56_3, H.cv_56_5]
  refine AW_loopN (fun n t h' => h' = h ∧ ∃ i, n = l.length - i ∧ i ≤ l.length ∧ i ≤ m.length ∧ t 0 = v ∧ t 1 = w ∧ t 5 = .sc (.int .i64 (i : Nat)) ∧ l.take i = m.take i)
    (n := l.length) ⟨rfl, 0, rfl, Nat.zero_le _, Nat.zero_le _, rfl, rfl, rfl, rfl⟩ ?_
  rintro n t h' ⟨rfl, i, rfl, hi, hi2, t0, t1, t5, he⟩
  have fin : (i = l.length ∨ i = m.length) → ∀ t : Nat → AV, t 0 = v → t 1 = w → M ⟨t, h'⟩ := by
    intro hq t t0 t1
    refine hM _ ?_; clear hM M
    have hlm : l.length = m.length ↔ l = m := ⟨fun e => by
      have hi3 : i = l.length := by omega
      rw [hi3, List.take_length, e, List.take_length] at he
      exact he, fun e => by rw [e]⟩
    simp (disch := first | omega | (simp only [List.length_cons, List.length_nil, List.length_append, u8s_len]; omega)) only [go_sem, ↓reduceIte, true_and, Nat.reduceLeDiff, Nat.reduceEqDiff, Nat.reduceAdd, Nat.reduceBEq, Int.reduceEq, H.cv_3_5, H.cv_3_56, H.cv_5_3, H.cv_5_56, H.cv_56_3, H.cv_56_5, t0, t1, hv.dis.len, hw.dis.len, e1, e2]
    simpa using hlm
  by_cases h1 : i < l.length
  · by_cases h2 : i < m.length
    · have g0 := vls_get h1
      have g1 := vls_get h2
      (refine W_seq_gen fun N hN => ?_); simp (disch := first | omega | (simp only [List.length_cons, List.length_nil, List.length_append, u8s_len]; omega)) only [go_sem, ↓reduceIte, true_and, Nat.reduceLeDiff, Nat.reduceEqDiff, Nat.reduceAdd, Nat.reduceBEq, Int.reduceEq, H.cv_3_5, H.cv_3_56, H.cv_5_3, H.cv_5_56, H.cv_56_3, H.cv_56_5, t0, t1, t5, hv.dis.len, hw.dis.len, e1, e2, h1, h2]
      refine hN _ ?_; clear hN N
      (refine W_seq_gen fun N hN => ?_)
      rw [W_block]
      by_cases hq : l[i] = m[i]
      · have q := HD.ne l[i] m[i]
        rw [decide_eq_true hq] at q
        (refine W_seq_gen fun N hN => ?_); simp (disch := first | omega | (simp only [List.length_cons, List.length_nil, List.length_append, u8s_len]; omega)) only [go_sem, ↓reduceIte, true_and, Nat.reduceLeDiff, Nat.reduceEqDiff, Nat.reduceAdd, Nat.reduceBEq, Int.reduceEq, H.cv_3_5, H.cv_3_56, H.cv_5_3, H.cv_5_56, H.cv_56_3, H.cv_56_5, t0, t1, t5, hv.dis.ia, hw.dis.ia, g0, g1, Vl.cells, q]
        refine hN _ ?_; clear hN N
        simp (disch := first | omega | (simp only [List.length_cons, List.length_nil, List.length_append, u8s_len]; omega)) only [go_sem, ↓reduceIte, true_and, Nat.reduceLeDiff, Nat.reduceEqDiff, Nat.reduceAdd, Nat.reduceBEq, Int.reduceEq, H.cv_3_5, H.cv_3_56, H.cv_5_3, H.cv_5_56, H.cv_56_3, H.cv_56_5]
        refine hN _ ?_; clear hN N
        simp (disch := first | omega | (simp only [List.length_cons, List.length_nil, List.length_append, u8s_len]; omega)) only [go_sem, ↓reduceIte, true_and, Nat.reduceLeDiff, Nat.reduceEqDiff, Nat.reduceAdd, Nat.reduceBEq, Int.reduceEq, H.cv_3_5, H.cv_3_56, H.cv_5_3, H.cv_5_56, H.cv_56_3, H.cv_56_5, t5, nat_add]
        exact ⟨l.length - (i + 1), by omega, i + 1, rfl, by omega, by omega, t0, t1, rfl, by rw [List.take_add_one, List.take_add_one, he]; simp [h1, h2, hq]⟩
      · have q := HD.ne l[i] m[i]
        rw [decide_eq_false hq] at q
        (refine W_seq_gen fun N hN => ?_); simp (disch := first | omega | (simp only [List.length_cons, List.length_nil, List.length_append, u8s_len]; omega)) only [go_sem, ↓reduceIte, true_and, Nat.reduceLeDiff, Nat.reduceEqDiff, Nat.reduceAdd, Nat.reduceBEq, Int.reduceEq, H.cv_3_5, H.cv_3_56, H.cv_5_3, H.cv_5_56, H.cv_56_3, H.cv_56_5, t0, t1, t5, hv.dis.ia, hw.dis.ia, g0, g1, Vl.cells, q]
        refine hN _ ?_; clear hN N
        simp (disch := first | omega | (simp only [List.length_cons, List.length_nil, List.length_append, u8s_len]; omega)) only [go_sem, ↓reduceIte, true_and, Nat.reduceLeDiff, Nat.reduceEqDiff, Nat.reduceAdd, Nat.reduceBEq, Int.reduceEq, H.cv_3_5, H.cv_3_56, H.cv_5_3, H.cv_5_56, H.cv_56_3, H.cv_56_5]
        have : l ≠ m := fun e => hq (by simp [e])
        simp [this]
    · (refine W_seq_gen fun N hN => ?_); simp (disch := first | omega | (simp only [List.length_cons, List.length_nil, List.length_append, u8s_len]; omega)) only [go_sem, ↓reduceIte, true_and, Nat.reduceLeDiff, Nat.reduceEqDiff, Nat.reduceAdd, Nat.reduceBEq, Int.reduceEq, H.cv_3_5, H.cv_3_56, H.cv_5_3, H.cv_5_56, H.cv_56_3, H.cv_56_5, t0, t1, t5, hv.dis.len, hw.dis.len, e1, e2, h1, h2]
      refine fin (by omega) _ ?_ ?_
      · simpa [upd_at] using t0
      · simpa [upd_at] using t1
  · (refine W_seq_gen fun N hN => ?_); simp (disch := first | omega | (simp only [List.length_cons, List.length_nil, List.length_append, u8s_len]; omega)) only [go_sem, ↓reduceIte, true_and, Nat.reduceLeDiff, Nat.reduceEqDiff, Nat.reduceAdd, Nat.reduceBEq, Int.reduceEq, H.cv_3_5, H.cv_3_56, H.cv_5_3, H.cv_5_56, H.cv_56_3, H.cv_56_5, t0, t1, t5, hv.dis.len, hw.dis.len, e1, e2, h1]
    refine fin (by omega) _ ?_ ?_
    · simpa [upd_at] using t0
    · simpa [upd_at] using t1


theorem rcheck_ok (v : Vl) (h : Heap) : AWF P ann 0 9 [v.av] h fun r h' => r = .sc (.int .i64 (checkS v : Nat)) ∧ h' = h := by
  refine AWF.fnPurec H.f0_9 rfl ?_
  have hO := OB.nil (h := h)
  (refine W_seq_gen fun N hN => ?_); simp (disch := first | omega | (simp only [List.length_cons, List.length_nil, List.length_append, u8s_len]; omega)) only [go_sem, ↓reduceIte, true_and, Nat.reduceLeDiff, Nat.reduceEqDiff, Nat.reduceAdd, Nat.reduceBEq, Int.reduceEq, H.cv_3_5, H.cv_3_56, H.cv_5_3, H.cv_5_56, H.cv_56_3, H.cv_56_5, Vl.av, Vl.cells]
  intro o1 h1
  refine hN _ ?_; clear hN N; refine W_ob (hO.new (X := .arr v.cells) h1) fun hc hO => ?_
  have f1 : hc o1 = some (.arr [.sc (.int .i64 v.kind), .sc (.int .i64 v.num), .sc (.string (str v.text)), .sc (.int .i64 v.re), .sc (.int .i64 v.im)]) := hO.get0
  by_cases c1 : v.kind = 2 ∧ 256 < v.text.length
  · have k2 : (v.kind == ((2 : Nat) : Int)) = true := by rw [c1.1]; rfl
    have hcs : checkS v = 3 := by rw [checkS, if_neg (by omega), if_neg (by omega), if_pos c1.1, if_pos c1.2]
    (refine W_seq_gen fun N hN => ?_); simp (disch := first | omega | (simp only [List.length_cons, List.length_nil, List.length_append, u8s_len]; omega)) only [go_sem, ↓reduceIte, true_and, Nat.reduceLeDiff, Nat.reduceEqDiff, Nat.reduceAdd, Nat.reduceBEq, Int.reduceEq, H.cv_3_5, H.cv_3_56, H.cv_5_3, H.cv_5_56, H.cv_56_3, H.cv_56_5, f1, k2, c1.2]
    rw [hcs]
    exact ⟨rfl, hO.keep⟩
  (refine W_seq_gen fun N hN => ?_)
  have rest : ∀ (t : Nat → AV), t 1 = .op o1 0 → N ⟨t, hc⟩ := by
    intro t t1
    refine hN _ ?_; clear hN N
    (refine W_seq_gen fun N hN => ?_); simp (disch := first | omega | (simp only [List.length_cons, List.length_nil, List.length_append, u8s_len]; omega)) only [go_sem, ↓reduceIte, true_and, Nat.reduceLeDiff, Nat.reduceEqDiff, Nat.reduceAdd, Nat.reduceBEq, Int.reduceEq, H.cv_3_5, H.cv_3_56, H.cv_5_3, H.cv_5_56, H.cv_56_3, H.cv_56_5]
    intro o2 h2
    refine hN _ ?_; clear hN N; refine W_ob (hO.new (X := .arr [.sc (.int .i64 (0 : Nat)), .sc (.int .i64 (0 : Nat))]) h2) fun hc hO => ?_
    have g1 := hO.get1
    have g2 := hO.get0
    have keep := hO.keep
    rw [Vl.cells] at g1
    refine W_forget (fun t => t 1 = .op o1 0 ∧ t 3 = .op o2 0 ∧ True) (by simp [upd_at, *] <;> (first | rfl | exact ⟨rfl, rfl⟩ | exact ⟨rfl, rfl, rfl⟩ | exact ⟨rfl, rfl, rfl, rfl⟩ | exact ⟨rfl, rfl, rfl, rfl, rfl⟩)) ?_; rintro t ⟨t1, t3, -⟩
    clear f1 h1 h2
    (refine W_seq_gen fun M hM => ?_)
    have bad : ∀ (t : Nat → AV) (h' : Heap), (∀ o, ¬ h o = none → h' o = h o) → checkS v = 1 → M ⟨t, h'⟩ := by
      intro t h' hk hcs
      refine hM _ ?_
      simp (disch := first | omega | (simp only [List.length_cons, List.length_nil, List.length_append, u8s_len]; omega)) only [go_sem, ↓reduceIte, true_and, Nat.reduceLeDiff, Nat.reduceEqDiff, Nat.reduceAdd, Nat.reduceBEq, Int.reduceEq, H.cv_3_5, H.cv_3_56, H.cv_5_3, H.cv_5_56, H.cv_56_3, H.cv_56_5]
      rw [hcs]
      exact ⟨rfl, hk⟩
    clear hM
    (refine W_seq_gen fun N hN => ?_); simp (disch := first | omega | (simp only [List.length_cons, List.length_nil, List.length_append, u8s_len]; omega)) only [go_sem, ↓reduceIte, true_and, Nat.reduceLeDiff, Nat.reduceEqDiff, Nat.reduceAdd, Nat.reduceBEq, Int.reduceEq, H.cv_3_5, H.cv_3_56, H.cv_5_3, H.cv_5_56, H.cv_56_3, H.cv_56_5, t1, g1]
    refine hN _ ?_; clear hN N
    rw [W_block]
    by_cases k1 : v.kind = 1
    · have q1 : (v.kind == ((1 : Nat) : Int)) = true := by rw [k1]; rfl
      have hp := HD.pt v.re v.im ((0 : Nat) : Int) ((0 : Nat) : Int)
      have hv : v = numV v.num ↔ v.text = [] ∧ v.re = 0 ∧ v.im = 0 := by
        cases v
        simp only at k1
        subst k1
        simp [numV]
      have hcs : checkS v = if (decide (v = numV v.num) && okNum v.num) = true then 0 else 1 := by rw [checkS, if_pos k1]
      by_cases e1 : v.text = []
      · by_cases e2 : v.re = ((0 : Nat) : Int) ∧ v.im = ((0 : Nat) : Int)
        · rw [decide_eq_true e2] at hp
          have e3 : v = numV v.num := hv.2 ⟨e1, e2.1, e2.2⟩
          by_cases b1 : v.num ≤ ((9007199254740992 : Nat) : Int)
          · by_cases b2 : v.num ≥ -9007199254740992
            · simp (disch := first | omega | (simp only [List.length_cons, List.length_nil, List.length_append, u8s_len]; omega)) only [go_sem, ↓reduceIte, true_and, Nat.reduceLeDiff, Nat.reduceEqDiff, Nat.reduceAdd, Nat.reduceBEq, Int.reduceEq, H.cv_3_5, H.cv_3_56, H.cv_5_3, H.cv_5_56, H.cv_56_3, H.cv_56_5, q1, t1, t3, g1, g2, e1, str_nil, hp, b1, b2]
              rw [hcs, okNum, decide_eq_true e3, decide_eq_true b1, decide_eq_true b2]
              exact ⟨rfl, keep⟩
            · simp (disch := first | omega | (simp only [List.length_cons, List.length_nil, List.length_append, u8s_len]; omega)) only [go_sem, ↓reduceIte, true_and, Nat.reduceLeDiff, Nat.reduceEqDiff, Nat.reduceAdd, Nat.reduceBEq, Int.reduceEq, H.cv_3_5, H.cv_3_56, H.cv_5_3, H.cv_5_56, H.cv_56_3, H.cv_56_5, q1, t1, t3, g1, g2, e1, str_nil, hp, b1, b2]
              exact bad _ _ keep (by rw [hcs, okNum, decide_eq_false b2]; simp)
          · simp (disch := first | omega | (simp only [List.length_cons, List.length_nil, List.length_append, u8s_len]; omega)) only [go_sem, ↓reduceIte, true_and, Nat.reduceLeDiff, Nat.reduceEqDiff, Nat.reduceAdd, Nat.reduceBEq, Int.reduceEq, H.cv_3_5, H.cv_3_56, H.cv_5_3, H.cv_5_56, H.cv_56_3, H.cv_56_5, q1, t1, t3, g1, g2, e1, str_nil, hp, b1]
            exact bad _ _ keep (by rw [hcs, okNum, decide_eq_false b1]; simp)
        · rw [decide_eq_false e2] at hp
          simp (disch := first | omega | (simp only [List.length_cons, List.length_nil, List.length_append, u8s_len]; omega)) only [go_sem, ↓reduceIte, true_and, Nat.reduceLeDiff, Nat.reduceEqDiff, Nat.reduceAdd, Nat.reduceBEq, Int.reduceEq, H.cv_3_5, H.cv_3_56, H.cv_5_3, H.cv_5_56, H.cv_56_3, H.cv_56_5, q1, t1, t3, g1, g2, e1, str_nil, hp]
          exact bad _ _ keep (by rw [hcs, decide_eq_false (fun q => e2 (hv.1 q).2)]; rfl)
      · have e1s : (str v.text = ⟨#[]⟩) = False := by
          cases ht : v.text with
          | nil => exact absurd ht e1
          | cons a l => exact str_ne
        simp (disch := first | omega | (simp only [List.length_cons, List.length_nil, List.length_append, u8s_len]; omega)) only [go_sem, ↓reduceIte, true_and, Nat.reduceLeDiff, Nat.reduceEqDiff, Nat.reduceAdd, Nat.reduceBEq, Int.reduceEq, H.cv_3_5, H.cv_3_56, H.cv_5_3, H.cv_5_56, H.cv_56_3, H.cv_56_5, q1, t1, t3, g1, g2, e1s]
        exact bad _ _ keep (by rw [hcs, decide_eq_false (fun q => e1 (hv.1 q).1)]; rfl)
    have q1 : (v.kind == ((1 : Nat) : Int)) = false := by simpa using k1
    by_cases k2 : v.kind = 2
    · have q2 : (v.kind == ((2 : Nat) : Int)) = true := by rw [k2]; rfl
      have hp := HD.pt v.re v.im ((0 : Nat) : Int) ((0 : Nat) : Int)
      have hv : v = textV v.text ↔ v.num = 0 ∧ v.re = 0 ∧ v.im = 0 := by
        cases v
        simp only at k2
        subst k2
        simp [textV]
      have hcs : checkS v = if v = textV v.text then 0 else 1 := by rw [checkS, if_neg k1, if_neg (by omega), if_pos k2, if_neg (fun q => c1 ⟨k2, q⟩)]
      by_cases e1 : v.num = 0
      · have e1b : (v.num == ((0 : Nat) : Int)) = true := by rw [e1]; rfl
        by_cases e2 : v.re = ((0 : Nat) : Int) ∧ v.im = ((0 : Nat) : Int)
        · rw [decide_eq_true e2] at hp
          simp (disch := first | omega | (simp only [List.length_cons, List.length_nil, List.length_append, u8s_len]; omega)) only [go_sem, ↓reduceIte, true_and, Nat.reduceLeDiff, Nat.reduceEqDiff, Nat.reduceAdd, Nat.reduceBEq, Int.reduceEq, H.cv_3_5, H.cv_3_56, H.cv_5_3, H.cv_5_56, H.cv_56_3, H.cv_56_5, q1, q2, t1, t3, g1, g2, e1b, hp]
          rw [hcs, if_pos (hv.2 ⟨e1, e2.1, e2.2⟩)]
          exact ⟨rfl, keep⟩
        · rw [decide_eq_false e2] at hp
          simp (disch := first | omega | (simp only [List.length_cons, List.length_nil, List.length_append, u8s_len]; omega)) only [go_sem, ↓reduceIte, true_and, Nat.reduceLeDiff, Nat.reduceEqDiff, Nat.reduceAdd, Nat.reduceBEq, Int.reduceEq, H.cv_3_5, H.cv_3_56, H.cv_5_3, H.cv_5_56, H.cv_56_3, H.cv_56_5, q1, q2, t1, t3, g1, g2, e1b, hp]
          exact bad _ _ keep (by rw [hcs, if_neg (fun q => e2 (hv.1 q).2)])
      · have e1b : (v.num == ((0 : Nat) : Int)) = false := by simpa using e1
        simp (disch := first | omega | (simp only [List.length_cons, List.length_nil, List.length_append, u8s_len]; omega)) only [go_sem, ↓reduceIte, true_and, Nat.reduceLeDiff, Nat.reduceEqDiff, Nat.reduceAdd, Nat.reduceBEq, Int.reduceEq, H.cv_3_5, H.cv_3_56, H.cv_5_3, H.cv_5_56, H.cv_56_3, H.cv_56_5, q1, q2, t1, t3, g1, g2, e1b]
        exact bad _ _ keep (by rw [hcs, if_neg (fun q => e1 (hv.1 q).1)])
    have q2 : (v.kind == ((2 : Nat) : Int)) = false := by simpa using k2
    by_cases k3 : v.kind = 3
    · have q3 : (v.kind == ((3 : Nat) : Int)) = true := by rw [k3]; rfl
      have hv : v = pointV v.re v.im ↔ v.num = 0 ∧ v.text = [] := by
        cases v
        simp only at k3
        subst k3
        simp [pointV]
      have hcs : checkS v = if (decide (v = pointV v.re v.im) && (okPart v.re && okPart v.im)) = true then 0 else 1 := by rw [checkS, if_neg k1, if_pos k3]
      (refine W_seq_gen fun N hN => ?_); simp (disch := first | omega | (simp only [List.length_cons, List.length_nil, List.length_append, u8s_len]; omega)) only [go_sem, ↓reduceIte, true_and, Nat.reduceLeDiff, Nat.reduceEqDiff, Nat.reduceAdd, Nat.reduceBEq, Int.reduceEq, H.cv_3_5, H.cv_3_56, H.cv_5_3, H.cv_5_56, H.cv_56_3, H.cv_56_5, q1]
      refine hN _ ?_; clear hN N
      refine ⟨false, rfl, fun h => Bool.noConfusion h, fun _ => ?_⟩
      (refine W_seq_gen fun N hN => ?_); simp (disch := first | omega | (simp only [List.length_cons, List.length_nil, List.length_append, u8s_len]; omega)) only [go_sem, ↓reduceIte, true_and, Nat.reduceLeDiff, Nat.reduceEqDiff, Nat.reduceAdd, Nat.reduceBEq, Int.reduceEq, H.cv_3_5, H.cv_3_56, H.cv_5_3, H.cv_5_56, H.cv_56_3, H.cv_56_5, q2]
      refine hN _ ?_; clear hN N
      refine ⟨false, rfl, fun h => Bool.noConfusion h, fun _ => ?_⟩
      (refine W_seq_gen fun N hN => ?_); simp (disch := first | omega | (simp only [List.length_cons, List.length_nil, List.length_append, u8s_len]; omega)) only [go_sem, ↓reduceIte, true_and, Nat.reduceLeDiff, Nat.reduceEqDiff, Nat.reduceAdd, Nat.reduceBEq, Int.reduceEq, H.cv_3_5, H.cv_3_56, H.cv_5_3, H.cv_5_56, H.cv_56_3, H.cv_56_5, q3]
      refine hN _ ?_; clear hN N
      refine ⟨true, rfl, fun _ => ?_, fun h => Bool.noConfusion h⟩
      (refine W_seq_gen fun N hN => ?_); simp (disch := first | omega | (simp only [List.length_cons, List.length_nil, List.length_append, u8s_len]; omega)) only [go_sem, ↓reduceIte, true_and, Nat.reduceLeDiff, Nat.reduceEqDiff, Nat.reduceAdd, Nat.reduceBEq, Int.reduceEq, H.cv_3_5, H.cv_3_56, H.cv_5_3, H.cv_5_56, H.cv_56_3, H.cv_56_5, t1, g1]
      intro o3 h3
      refine hN _ ?_; clear hN N; refine W_ob (hO.new (X := .arr [.sc (.int .i64 v.re), .sc (.int .i64 v.im)]) h3) fun hc hO => ?_
      have g4 := hO.get0
      have g1 := hO.get2
      have keep := hO.keep
      rw [Vl.cells] at g1
      refine W_forget (fun t => t 1 = .op o1 0 ∧ t 4 = .op o3 0 ∧ True) (by simp [upd_at, *] <;> (first | rfl | exact ⟨rfl, rfl⟩ | exact ⟨rfl, rfl, rfl⟩ | exact ⟨rfl, rfl, rfl, rfl⟩ | exact ⟨rfl, rfl, rfl, rfl, rfl⟩)) ?_; rintro t ⟨t1, t4, -⟩
      have hpt : v.num = 0 → v.text = [] → checkS v = if (okPart v.re && okPart v.im) = true then 0 else 1 := fun a b => by rw [hcs, decide_eq_true (hv.2 ⟨a, b⟩)]; rfl
      have hpd : ∀ n : Int, okPart n = (decide (n ≤ ((1048576 : Nat) : Int)) && decide (n ≥ -1048576)) := fun n => by
        unfold okPart
        by_cases a : n ≤ 1048576 <;> by_cases b : n ≥ -1048576 <;> simp [a, b]
      have hno : ∀ n : Int, ¬ n ≤ ((1048576 : Nat) : Int) → okPart n = false := fun n q => by rw [hpd, decide_eq_false q]; rfl
      have hno2 : ∀ n : Int, ¬ n ≥ -1048576 → okPart n = false := fun n q => by rw [hpd, decide_eq_false q]; simp
      by_cases e1 : v.num = 0
      · have e1b : (v.num == ((0 : Nat) : Int)) = true := by rw [e1]; rfl
        by_cases e2 : v.text = []
        · have hcs := hpt e1 e2
          by_cases b1 : v.re ≤ ((1048576 : Nat) : Int)
          · by_cases b2 : v.re ≥ -1048576
            · by_cases b3 : v.im ≤ ((1048576 : Nat) : Int)
              · by_cases b4 : v.im ≥ -1048576
                · simp (disch := first | omega | (simp only [List.length_cons, List.length_nil, List.length_append, u8s_len]; omega)) only [go_sem, ↓reduceIte, true_and, Nat.reduceLeDiff, Nat.reduceEqDiff, Nat.reduceAdd, Nat.reduceBEq, Int.reduceEq, H.cv_3_5, H.cv_3_56, H.cv_5_3, H.cv_5_56, H.cv_56_3, H.cv_56_5, t1, t4, g1, g4, e1b, e2, str_nil, b1, b2, b3, b4]
                  rw [hcs, hpd, hpd, decide_eq_true b1, decide_eq_true b2, decide_eq_true b3, decide_eq_true b4]
                  exact ⟨rfl, keep⟩
                · simp (disch := first | omega | (simp only [List.length_cons, List.length_nil, List.length_append, u8s_len]; omega)) only [go_sem, ↓reduceIte, true_and, Nat.reduceLeDiff, Nat.reduceEqDiff, Nat.reduceAdd, Nat.reduceBEq, Int.reduceEq, H.cv_3_5, H.cv_3_56, H.cv_5_3, H.cv_5_56, H.cv_56_3, H.cv_56_5, t1, t4, g1, g4, e1b, e2, str_nil, b1, b2, b3, b4]
                  exact bad _ _ keep (by rw [hcs, hno2 _ b4]; simp)
              · simp (disch := first | omega | (simp only [List.length_cons, List.length_nil, List.length_append, u8s_len]; omega)) only [go_sem, ↓reduceIte, true_and, Nat.reduceLeDiff, Nat.reduceEqDiff, Nat.reduceAdd, Nat.reduceBEq, Int.reduceEq, H.cv_3_5, H.cv_3_56, H.cv_5_3, H.cv_5_56, H.cv_56_3, H.cv_56_5, t1, t4, g1, g4, e1b, e2, str_nil, b1, b2, b3]
                exact bad _ _ keep (by rw [hcs, hno _ b3]; simp)
            · simp (disch := first | omega | (simp only [List.length_cons, List.length_nil, List.length_append, u8s_len]; omega)) only [go_sem, ↓reduceIte, true_and, Nat.reduceLeDiff, Nat.reduceEqDiff, Nat.reduceAdd, Nat.reduceBEq, Int.reduceEq, H.cv_3_5, H.cv_3_56, H.cv_5_3, H.cv_5_56, H.cv_56_3, H.cv_56_5, t1, t4, g1, g4, e1b, e2, str_nil, b1, b2]
              exact bad _ _ keep (by rw [hcs, hno2 _ b2]; simp)
          · simp (disch := first | omega | (simp only [List.length_cons, List.length_nil, List.length_append, u8s_len]; omega)) only [go_sem, ↓reduceIte, true_and, Nat.reduceLeDiff, Nat.reduceEqDiff, Nat.reduceAdd, Nat.reduceBEq, Int.reduceEq, H.cv_3_5, H.cv_3_56, H.cv_5_3, H.cv_5_56, H.cv_56_3, H.cv_56_5, t1, t4, g1, g4, e1b, e2, str_nil, b1]
            exact bad _ _ keep (by rw [hcs, hno _ b1]; simp)
        · have e2s : (str v.text = ⟨#[]⟩) = False := by
            cases ht : v.text with
            | nil => exact absurd ht e2
            | cons a l => exact str_ne
          simp (disch := first | omega | (simp only [List.length_cons, List.length_nil, List.length_append, u8s_len]; omega)) only [go_sem, ↓reduceIte, true_and, Nat.reduceLeDiff, Nat.reduceEqDiff, Nat.reduceAdd, Nat.reduceBEq, Int.reduceEq, H.cv_3_5, H.cv_3_56, H.cv_5_3, H.cv_5_56, H.cv_56_3, H.cv_56_5, t1, t4, g1, g4, e1b, e2s]
          exact bad _ _ keep (by rw [hcs, decide_eq_false (fun q => e2 (hv.1 q).2)]; rfl)
      · have e1b : (v.num == ((0 : Nat) : Int)) = false := by simpa using e1
        simp (disch := first | omega | (simp only [List.length_cons, List.length_nil, List.length_append, u8s_len]; omega)) only [go_sem, ↓reduceIte, true_and, Nat.reduceLeDiff, Nat.reduceEqDiff, Nat.reduceAdd, Nat.reduceBEq, Int.reduceEq, H.cv_3_5, H.cv_3_56, H.cv_5_3, H.cv_5_56, H.cv_56_3, H.cv_56_5, t1, t4, g1, g4, e1b]
        exact bad _ _ keep (by rw [hcs, decide_eq_false (fun q => e1 (hv.1 q).1)]; rfl)
    have q3 : (v.kind == ((3 : Nat) : Int)) = false := by simpa using k3
    have hcs : checkS v = 1 := by rw [checkS, if_neg k1, if_neg k3, if_neg k2]
    simp (disch := first | omega | (simp only [List.length_cons, List.length_nil, List.length_append, u8s_len]; omega)) only [go_sem, ↓reduceIte, true_and, Nat.reduceLeDiff, Nat.reduceEqDiff, Nat.reduceAdd, Nat.reduceBEq, Int.reduceEq, H.cv_3_5, H.cv_3_56, H.cv_5_3, H.cv_5_56, H.cv_56_3, H.cv_56_5, q1, q2, q3]
    exact bad _ _ keep hcs
  by_cases k : v.kind = 2
  · have q2 : (v.kind == ((2 : Nat) : Int)) = true := by rw [k]; rfl
    have hl : ¬ 256 < v.text.length := fun q => c1 ⟨k, q⟩
    simp (disch := first | omega | (simp only [List.length_cons, List.length_nil, List.length_append, u8s_len]; omega)) only [go_sem, ↓reduceIte, true_and, Nat.reduceLeDiff, Nat.reduceEqDiff, Nat.reduceAdd, Nat.reduceBEq, Int.reduceEq, H.cv_3_5, H.cv_3_56, H.cv_5_3, H.cv_5_56, H.cv_56_3, H.cv_56_5, f1, q2, hl]
    exact rest _ rfl
  · have q2 : (v.kind == ((2 : Nat) : Int)) = false := by simpa using k
    simp (disch := first | omega | (simp only [List.length_cons, List.length_nil, List.length_append, u8s_len]; omega)) only [go_sem, ↓reduceIte, true_and, Nat.reduceLeDiff, Nat.reduceEqDiff, Nat.reduceAdd, Nat.reduceBEq, Int.reduceEq, H.cv_3_5, H.cv_3_56, H.cv_5_3, H.cv_5_56, H.cv_56_3, H.cv_56_5, f1, q2]
    exact rest _ rfl
end Go.Proofs.YtcdfdnmnnepnoaaDoor
end

section
set_option linter.unusedVariables false
set_option linter.unusedSimpArgs false
namespace Go.Proofs.YtcdfdnmnnepnoaaDoor
open Go.Am
variable {P : Program} (H : Has P)
include H
theorem one_ok (v : Vl) (hg : Good v) (ht : v.text.length < 2 ^ 40) (h : Heap) : AWF P ann 0 18 [v.av] h fun r h' => SG 1 r (u8s (keyB v)) ∧ h' = h := by
  refine AWF.fnPurec H.f0_18 rfl ?_
  have hO := OB.nil (h := h)
  (refine W_seq_gen fun N hN => ?_); simp (disch := first | omega | (simp only [List.length_cons, List.length_nil, List.length_append, u8s_len]; omega)) only [go_sem, ↓reduceIte, true_and, Nat.reduceLeDiff, Nat.reduceEqDiff, Nat.reduceAdd, Nat.reduceBEq, Int.reduceEq, H.cv_3_5, H.cv_3_56, H.cv_5_3, H.cv_5_56, H.cv_56_3, H.cv_56_5, Vl.av, Vl.cells]
  intro o1 h1
  refine hN _ ?_; clear hN N; refine W_ob (hO.new (X := .arr v.cells) h1) fun hc hO => ?_
  have f1 : hc o1 = some (.arr [.sc (.int .i64 v.kind), .sc (.int .i64 v.num), .sc (.string (str v.text)), .sc (.int .i64 v.re), .sc (.int .i64 v.im)]) := hO.get0
  have keep := hO.keep
  cases hg with
  | num n hn =>
    have hw : IntKind.u8.wrap (1 : Int) = ((1 : Nat) : Int) := rfl
    have hu : [[AV.sc (.int .u8 ((1 : Nat) : Int))]] = u8s [1] := rfl
    have hz : SG 1 (.bs true 1 (u8s [1]) (some 1)) (u8s [1]) := SG.bs
    have hk : keyB (numV n) = [1] ++ numB n := by rw [keyB_num]; rfl
    have a1 := fun (t : Nat → AV) (h : Heap) => hz.app (t := t) (h := h) (ys := u8s (numB n)) (bytes := 1) (by rw [u8s_len, u8s_len, numB_len]; simp)
    have hz1 := hz.cat (u8s (numB n))
    rw [u8s_app, ← hk] at hz1
    have hs : SL 1 (.bs false 1 (u8s (numB n)) none) (u8s (numB n)) := .inr ⟨_, _, rfl⟩
    have e0 : (numV n).kind = 1 := rfl
    have e2 : (numV n).num = n := rfl
    have q1 : ((1 : Int) == ((1 : Nat) : Int)) = true := rfl
    rw [e0, e2] at f1
    (refine W_seq_gen fun N hN => ?_); simp (disch := first | omega | (simp only [List.length_cons, List.length_nil, List.length_append, u8s_len]; omega)) only [go_sem, ↓reduceIte, true_and, Nat.reduceLeDiff, Nat.reduceEqDiff, Nat.reduceAdd, Nat.reduceBEq, Int.reduceEq, H.cv_3_5, H.cv_3_56, H.cv_5_3, H.cv_5_56, H.cv_56_3, H.cv_56_5, f1, hw, hu]
    refine hN _ ?_; clear hN N
    (refine W_seq_gen fun N hN => ?_); simp (disch := first | omega | (simp only [List.length_cons, List.length_nil, List.length_append, u8s_len]; omega)) only [go_sem, ↓reduceIte, true_and, Nat.reduceLeDiff, Nat.reduceEqDiff, Nat.reduceAdd, Nat.reduceBEq, Int.reduceEq, H.cv_3_5, H.cv_3_56, H.cv_5_3, H.cv_5_56, H.cv_56_3, H.cv_56_5, f1, q1]
    refine (rnumber_ok H n (by omega) _).mono ?_
    rintro _ _ ⟨rfl, hh⟩; subst hh
    rw [contK_some]; simp (disch := first | omega | (simp only [List.length_cons, List.length_nil, List.length_append, u8s_len]; omega)) only [go_sem, ↓reduceIte, true_and, Nat.reduceLeDiff, Nat.reduceEqDiff, Nat.reduceAdd, Nat.reduceBEq, Int.reduceEq, H.cv_3_5, H.cv_3_56, H.cv_5_3, H.cv_5_56, H.cv_56_3, H.cv_56_5, hs.dis.elems, hs.elems, a1]
    exact ⟨hz1, keep⟩
  | text s =>
    have hw : IntKind.u8.wrap (2 : Int) = ((2 : Nat) : Int) := rfl
    have hu : [[AV.sc (.int .u8 ((2 : Nat) : Int))]] = u8s [2] := rfl
    have hz : SG 1 (.bs true 1 (u8s [2]) (some 1)) (u8s [2]) := SG.bs
    have hk : keyB (textV s) = [2] ++ textB s := by rw [keyB_text]; rfl
    have htl : s.length < 2 ^ 40 := ht
    obtain ⟨r, hr, hf⟩ := rtext_ok H _ s (Nat.le_refl _) htl
    have hl := textB_len s
    have a1 := fun (t : Nat → AV) (h : Heap) => hz.app (t := t) (h := h) (ys := u8s (textB s)) (bytes := 1) (by rw [u8s_len, u8s_len]; simp; omega)
    have hz1 := hz.cat (u8s (textB s))
    rw [u8s_app, ← hk] at hz1
    have e0 : (textV s).kind = 2 := rfl
    have e2 : (textV s).text = s := rfl
    have q1 : ((2 : Int) == ((1 : Nat) : Int)) = false := rfl
    have q2 : ((2 : Int) == ((2 : Nat) : Int)) = true := rfl
    rw [e0, e2] at f1
    (refine W_seq_gen fun N hN => ?_); simp (disch := first | omega | (simp only [List.length_cons, List.length_nil, List.length_append, u8s_len]; omega)) only [go_sem, ↓reduceIte, true_and, Nat.reduceLeDiff, Nat.reduceEqDiff, Nat.reduceAdd, Nat.reduceBEq, Int.reduceEq, H.cv_3_5, H.cv_3_56, H.cv_5_3, H.cv_5_56, H.cv_56_3, H.cv_56_5, f1, hw, hu]
    refine hN _ ?_; clear hN N
    (refine W_seq_gen fun N hN => ?_); simp (disch := first | omega | (simp only [List.length_cons, List.length_nil, List.length_append, u8s_len]; omega)) only [go_sem, ↓reduceIte, true_and, Nat.reduceLeDiff, Nat.reduceEqDiff, Nat.reduceAdd, Nat.reduceBEq, Int.reduceEq, H.cv_3_5, H.cv_3_56, H.cv_5_3, H.cv_5_56, H.cv_56_3, H.cv_56_5, f1, q1, q2]
    refine (hf _).mono ?_
    rintro _ _ ⟨rfl, hh⟩; subst hh
    rw [contK_some]; simp (disch := first | omega | (simp only [List.length_cons, List.length_nil, List.length_append, u8s_len]; omega)) only [go_sem, ↓reduceIte, true_and, Nat.reduceLeDiff, Nat.reduceEqDiff, Nat.reduceAdd, Nat.reduceBEq, Int.reduceEq, H.cv_3_5, H.cv_3_56, H.cv_5_3, H.cv_5_56, H.cv_56_3, H.cv_56_5, hr.sl.dis.elems, hr.sl.elems, a1]
    exact ⟨hz1, keep⟩
  | point a b ha hb =>
    have hw : IntKind.u8.wrap (3 : Int) = ((3 : Nat) : Int) := rfl
    have hu : [[AV.sc (.int .u8 ((3 : Nat) : Int))]] = u8s [3] := rfl
    have hz : SG 1 (.bs true 1 (u8s [3]) (some 1)) (u8s [3]) := SG.bs
    have hk : keyB (pointV a b) = [3] ++ numB a ++ numB b := by rw [keyB_point]; simp
    have a1 := fun (t : Nat → AV) (h : Heap) => hz.app (t := t) (h := h) (ys := u8s (numB a)) (bytes := 1) (by rw [u8s_len, u8s_len, numB_len]; simp)
    have hz1 := hz.cat (u8s (numB a))
    rw [u8s_app] at hz1
    have a2 := fun (t : Nat → AV) (h : Heap) => hz1.app (t := t) (h := h) (ys := u8s (numB b)) (bytes := 1) (by rw [u8s_len, u8s_len, numB_len]; simp [numB_len])
    have hz2 := hz1.cat (u8s (numB b))
    rw [u8s_app, ← hk] at hz2
    have hs : SL 1 (.bs false 1 (u8s (numB a)) none) (u8s (numB a)) := .inr ⟨_, _, rfl⟩
    have hs2 : SL 1 (.bs false 1 (u8s (numB b)) none) (u8s (numB b)) := .inr ⟨_, _, rfl⟩
    have e0 : (pointV a b).kind = 3 := rfl
    have e2 : (pointV a b).re = a := rfl
    have e3 : (pointV a b).im = b := rfl
    have q1 : ((3 : Int) == ((1 : Nat) : Int)) = false := rfl
    have q2 : ((3 : Int) == ((2 : Nat) : Int)) = false := rfl
    rw [e0, e2, e3] at f1
    (refine W_seq_gen fun N hN => ?_); simp (disch := first | omega | (simp only [List.length_cons, List.length_nil, List.length_append, u8s_len]; omega)) only [go_sem, ↓reduceIte, true_and, Nat.reduceLeDiff, Nat.reduceEqDiff, Nat.reduceAdd, Nat.reduceBEq, Int.reduceEq, H.cv_3_5, H.cv_3_56, H.cv_5_3, H.cv_5_56, H.cv_56_3, H.cv_56_5, f1, hw, hu]
    refine hN _ ?_; clear hN N
    (refine W_seq_gen fun N hN => ?_); simp (disch := first | omega | (simp only [List.length_cons, List.length_nil, List.length_append, u8s_len]; omega)) only [go_sem, ↓reduceIte, true_and, Nat.reduceLeDiff, Nat.reduceEqDiff, Nat.reduceAdd, Nat.reduceBEq, Int.reduceEq, H.cv_3_5, H.cv_3_56, H.cv_5_3, H.cv_5_56, H.cv_56_3, H.cv_56_5, f1, q1, q2]
    refine hN _ ?_; clear hN N
    simp (disch := first | omega | (simp only [List.length_cons, List.length_nil, List.length_append, u8s_len]; omega)) only [go_sem, ↓reduceIte, true_and, Nat.reduceLeDiff, Nat.reduceEqDiff, Nat.reduceAdd, Nat.reduceBEq, Int.reduceEq, H.cv_3_5, H.cv_3_56, H.cv_5_3, H.cv_5_56, H.cv_56_3, H.cv_56_5, f1]
    refine ⟨_, rnumber_ok H a (by omega) _, ?_⟩
    rw [contK_some]; simp (disch := first | omega | (simp only [List.length_cons, List.length_nil, List.length_append, u8s_len]; omega)) only [go_sem, ↓reduceIte, true_and, Nat.reduceLeDiff, Nat.reduceEqDiff, Nat.reduceAdd, Nat.reduceBEq, Int.reduceEq, H.cv_3_5, H.cv_3_56, H.cv_5_3, H.cv_5_56, H.cv_56_3, H.cv_56_5, f1, hs.dis.elems, hs.elems, a1]
    refine ⟨_, rnumber_ok H b (by omega) _, ?_⟩
    rw [contK_some]; simp (disch := first | omega | (simp only [List.length_cons, List.length_nil, List.length_append, u8s_len]; omega)) only [go_sem, ↓reduceIte, true_and, Nat.reduceLeDiff, Nat.reduceEqDiff, Nat.reduceAdd, Nat.reduceBEq, Int.reduceEq, H.cv_3_5, H.cv_3_56, H.cv_5_3, H.cv_5_56, H.cv_56_3, H.cv_56_5, f1, hs2.dis.elems, hs2.elems, a2]
    exact ⟨hz2, keep⟩
end Go.Proofs.YtcdfdnmnnepnoaaDoor
end

section
set_option linter.unusedVariables false
set_option linter.unusedSimpArgs false
namespace Go.Proofs.YtcdfdnmnnepnoaaDoor
open Go.Am
theorem check_text {v : Vl} (h : checkS v = 0) : v.text.length ≤ 256 := by
  have hg := good_of h
  cases hg with
  | num n hn => exact Nat.zero_le _
  | text s =>
    rcases check_kind h with k | k | k
    · cases k
    · cases k
    · exact k.2
  | point a b ha hb => exact Nat.zero_le _
variable {P : Program} (H : Has P) (HD : HasD P)
include H HD
theorem rkey_ok {v : AV} {l : List Vl} (hv : SL 5 v (vls l)) (hl : l.length < 2 ^ 60) (h : Heap) :
    AWF P ann 0 7 [v] h fun r h' => r = .tu [.sc (.string (str (if l.length > 16 then [] else if keyE l = 0 then keyBs l else []))), .sc (.int .i64 ((if l.length > 16 then 3 else keyE l : Nat) : Nat))] ∧ h' = h := by
  refine AWF.fnPurec H.f0_7 rfl ?_
  have e1 := @vls_len l
  (refine W_seq_gen fun N hN => ?_); simp (disch := first | omega | (simp only [List.length_cons, List.length_nil, List.length_append, u8s_len]; omega)) only [go_sem, ↓reduceIte, true_and, Nat.reduceLeDiff, Nat.reduceEqDiff, Nat.reduceAdd, Nat.reduceBEq, Int.reduceEq, H.cv_3_5, H.cv_3_56, H.cv_5_3, H.cv_5_56, H.cv_56_3, H.cv_56_5]
  refine hN _ ?_; clear hN N
  by_cases h16 : 16 < l.length
  · have h16' : l.length > 16 := h16
    rw [if_pos h16', if_pos h16']
    (refine W_seq_gen fun N hN => ?_); simp (disch := first | omega | (simp only [List.length_cons, List.length_nil, List.length_append, u8s_len]; omega)) only [go_sem, ↓reduceIte, true_and, Nat.reduceLeDiff, Nat.reduceEqDiff, Nat.reduceAdd, Nat.reduceBEq, Int.reduceEq, H.cv_3_5, H.cv_3_56, H.cv_5_3, H.cv_5_56, H.cv_56_3, H.cv_56_5, hv.dis.len, e1, h16]
    rfl
  have h16' : ¬ l.length > 16 := h16
  rw [if_neg h16', if_neg h16']
  (refine W_seq_gen fun N hN => ?_); simp (disch := first | omega | (simp only [List.length_cons, List.length_nil, List.length_append, u8s_len]; omega)) only [go_sem, ↓reduceIte, true_and, Nat.reduceLeDiff, Nat.reduceEqDiff, Nat.reduceAdd, Nat.reduceBEq, Int.reduceEq, H.cv_3_5, H.cv_3_56, H.cv_5_3, H.cv_5_56, H.cv_56_3, H.cv_56_5, hv.dis.len, e1, h16]
  refine hN _ ?_; clear hN N
  (refine W_seq_gen fun N hN => ?_); simp (disch := first | omega | (simp only [List.length_cons, List.length_nil, List.length_append, u8s_len]; omega)) only [go_sem, ↓reduceIte, true_and, Nat.reduceLeDiff, Nat.reduceEqDiff, Nat.reduceAdd, Nat.reduceBEq, Int.reduceEq, H.cv_3_5, H.cv_3_56, H.cv_5_3, H.cv_5_56, H.cv_56_3, H.cv_56_5]
  refine hN _ ?_; clear hN N
  (refine W_seq_gen fun M hM => ?_)
  simp (disch := first | omega | (simp only [List.length_cons, List.length_nil, List.length_append, u8s_len]; omega)) only [go_sem, ↓reduceIte, true_and, Nat.reduceLeDiff, Nat.reduceEqDiff, Nat.reduceAdd, Nat.reduceBEq, Int.reduceEq, H.cv_3_5, H.cv_3_56, H.cv_5_3, H.cv_5_56, H.cv_56_3, H.cv_56_5]
  refine AW_loopN (fun n t h' => h' = h ∧ ∃ i z, n = l.length - i ∧ i ≤ l.length ∧ t 0 = v ∧ t 5 = .sc (.int .i64 (i : Nat)) ∧ t 4 = z ∧ SG 1 z (u8s (keyBs (l.take i))) ∧ (keyBs (l.take i)).length ≤ 2100 * i ∧ keyE l = keyE (l.drop i))
    (n := l.length) ⟨rfl, 0, _, rfl, Nat.zero_le _, rfl, rfl, rfl, SG.bs, by simp [keyBs], rfl⟩ ?_
  rintro n t h' ⟨rfl, i, z, rfl, hi, t0, t5, t4, hz, hzl, he⟩
  rcases Nat.lt_or_ge i l.length with hlt | hge
  · have g0 := vls_get hlt
    have hd : l.drop i = l[i] :: l.drop (i + 1) := List.drop_eq_getElem_cons hlt
    have hn : l.take (i + 1) = l.take i ++ [l[i]] := by rw [List.take_add_one]; simp [hlt]
    (refine W_seq_gen fun N hN => ?_); simp (disch := first | omega | (simp only [List.length_cons, List.length_nil, List.length_append, u8s_len]; omega)) only [go_sem, ↓reduceIte, true_and, Nat.reduceLeDiff, Nat.reduceEqDiff, Nat.reduceAdd, Nat.reduceBEq, Int.reduceEq, H.cv_3_5, H.cv_3_56, H.cv_5_3, H.cv_5_56, H.cv_56_3, H.cv_56_5, t0, t5, hv.dis.len, e1, hlt]
    refine hN _ ?_; clear hN N
    (refine W_seq_gen fun N hN => ?_)
    rw [W_block]
    (refine W_seq_gen fun R hR => ?_)
    simp (disch := first | omega | (simp only [List.length_cons, List.length_nil, List.length_append, u8s_len]; omega)) only [go_sem, ↓reduceIte, true_and, Nat.reduceLeDiff, Nat.reduceEqDiff, Nat.reduceAdd, Nat.reduceBEq, Int.reduceEq, H.cv_3_5, H.cv_3_56, H.cv_5_3, H.cv_5_56, H.cv_56_3, H.cv_56_5, t0, t5, hv.dis.ia, g0, Vl.cells]
    refine (rcheck_ok H HD l[i] _).mono ?_
    rintro _ _ ⟨rfl, hh'⟩; subst hh'
    by_cases hc : checkS l[i] = 0
    · have hkl := keyB_len hc
      rw [contK_some]; simp (disch := first | omega | (simp only [List.length_cons, List.length_nil, List.length_append, u8s_len]; omega)) only [go_sem, ↓reduceIte, true_and, Nat.reduceLeDiff, Nat.reduceEqDiff, Nat.reduceAdd, Nat.reduceBEq, Int.reduceEq, H.cv_3_5, H.cv_3_56, H.cv_5_3, H.cv_5_56, H.cv_56_3, H.cv_56_5, hc]
      refine hR _ ?_; clear hR R
      have hg := good_of hc
      have htl : l[i].text.length < 2 ^ 40 := by
        have := check_text hc
        omega
      simp (disch := first | omega | (simp only [List.length_cons, List.length_nil, List.length_append, u8s_len]; omega)) only [go_sem, ↓reduceIte, true_and, Nat.reduceLeDiff, Nat.reduceEqDiff, Nat.reduceAdd, Nat.reduceBEq, Int.reduceEq, H.cv_3_5, H.cv_3_56, H.cv_5_3, H.cv_5_56, H.cv_56_3, H.cv_56_5, t0, t4, t5, hv.dis.ia, g0, Vl.cells]
      refine (one_ok H l[i] hg htl _).mono ?_
      rintro r _ ⟨hr, hh'⟩; subst hh'
      have a1 := fun (t : Nat → AV) (h : Heap) => hz.app (t := t) (h := h) (ys := u8s (keyB l[i])) (bytes := 1) (by rw [u8s_len, u8s_len]; omega)
      have hz1 := hz.cat (u8s (keyB l[i]))
      rw [u8s_app, ← keyBs_snoc, ← hn] at hz1
      rw [contK_some]; simp (disch := first | omega | (simp only [List.length_cons, List.length_nil, List.length_append, u8s_len]; omega)) only [go_sem, ↓reduceIte, true_and, Nat.reduceLeDiff, Nat.reduceEqDiff, Nat.reduceAdd, Nat.reduceBEq, Int.reduceEq, H.cv_3_5, H.cv_3_56, H.cv_5_3, H.cv_5_56, H.cv_56_3, H.cv_56_5, hr.sl.dis.elems, hr.sl.elems, t4, a1]
      refine hN _ ?_; clear hN N
      simp (disch := first | omega | (simp only [List.length_cons, List.length_nil, List.length_append, u8s_len]; omega)) only [go_sem, ↓reduceIte, true_and, Nat.reduceLeDiff, Nat.reduceEqDiff, Nat.reduceAdd, Nat.reduceBEq, Int.reduceEq, H.cv_3_5, H.cv_3_56, H.cv_5_3, H.cv_5_56, H.cv_56_3, H.cv_56_5, t5, nat_add]
      exact ⟨l.length - (i + 1), by omega, i + 1, _, rfl, by omega, t0, rfl, rfl, hz1, by rw [hn, keyBs_snoc, List.length_append]; omega, by rw [he, hd, keyE, if_pos hc]⟩
    · have hc2 : ((checkS l[i] : Nat) : Int) ≠ ((0 : Nat) : Int) := by omega
      have hc3 : (((checkS l[i] : Nat) : Int) != ((0 : Nat) : Int)) = true := by simpa using hc
      have hE : keyE l = checkS l[i] := by rw [he, hd, keyE, if_neg hc]
      rw [contK_some]; simp (disch := first | omega | (simp only [List.length_cons, List.length_nil, List.length_append, u8s_len]; omega)) only [go_sem, ↓reduceIte, true_and, Nat.reduceLeDiff, Nat.reduceEqDiff, Nat.reduceAdd, Nat.reduceBEq, Int.reduceEq, H.cv_3_5, H.cv_3_56, H.cv_5_3, H.cv_5_56, H.cv_56_3, H.cv_56_5, hc3]
      rw [hE, if_neg hc]
      rfl
  obtain rfl : i = l.length := by omega
  rw [List.drop_length] at he
  rw [List.take_length] at hz hzl
  (refine W_seq_gen fun N hN => ?_); simp (disch := first | omega | (simp only [List.length_cons, List.length_nil, List.length_append, u8s_len]; omega)) only [go_sem, ↓reduceIte, true_and, Nat.reduceLeDiff, Nat.reduceEqDiff, Nat.reduceAdd, Nat.reduceBEq, Int.reduceEq, H.cv_3_5, H.cv_3_56, H.cv_5_3, H.cv_5_56, H.cv_56_3, H.cv_56_5, t0, t5, hv.dis.len, e1, Nat.lt_irrefl]
  refine hM _ ?_; clear hN N hM M
  have he0 : keyE l = 0 := he
  rw [he0, if_pos rfl]
  simp (disch := first | omega | (simp only [List.length_cons, List.length_nil, List.length_append, u8s_len]; omega)) only [go_sem, ↓reduceIte, true_and, Nat.reduceLeDiff, Nat.reduceEqDiff, Nat.reduceAdd, Nat.reduceBEq, Int.reduceEq, H.cv_3_5, H.cv_3_56, H.cv_5_3, H.cv_5_56, H.cv_56_3, H.cv_56_5, t4, hz.sl.dis.b2s]
end Go.Proofs.YtcdfdnmnnepnoaaDoor
end

section
set_option linter.unusedVariables false
set_option linter.unusedSimpArgs false
namespace Go.Proofs.YtcdfdnmnnepnoaaDoor
open Go.Am
theorem str_app (a b : List UInt8) : str a ++ str b = str (a ++ b) := by
  simp only [str]
  apply ByteArray.ext
  simp
theorem ltx_last {s : List UInt8} (h8 : 8 ≤ s.length) (h : s[7]! ≠ 8) : ltx s = some (s.take (min 7 s[7]!.toNat), s.drop 8) := by rw [ltx, dif_neg (by omega), if_neg h]
theorem ltx_more {s : List UInt8} (h8 : 8 ≤ s.length) (h : s[7]! = 8) : ltx s = (ltx (s.drop 8)).map fun p => (s.take 7 ++ p.1, p.2) := by rw [ltx, dif_neg (by omega), if_pos h]
theorem ltx_none {s : List UInt8} (h8 : ¬ 8 ≤ s.length) : ltx s = none := by rw [ltx, dif_pos (by omega)]
/-- What the reference's reading of a key comes to. -/
def RefR (s : List UInt8) (r : AV) : Prop :=
  match lprs (s.length + 1) s with
  | none => r = .tu [.sc (.slice none 0 0), .sc (.bool false)]
  | some l => ∃ v, r = .tu [v, .sc (.bool (decide (l.length ≤ 16 ∧ keyE l = 0 ∧ keyBs l = s)))] ∧ SL 5 v (vls l)
variable {P : Program} (H : Has P) (HD : HasD P)
include H HD
set_option maxHeartbeats 4000000 in
theorem rparse_ok (s : List UInt8) (hs : s.length ≤ 1099511627776) (h : Heap) : AWF P ann 0 12 [.sc (.string (str s))] h fun r h' => RefR s r ∧ h' = h := by
  refine AWF.fnPurec H.f0_12 rfl ?_
  (refine W_seq_gen fun N hN => ?_); simp (disch := first | omega | (simp only [List.length_cons, List.length_nil, List.length_append, u8s_len]; omega)) only [go_sem, ↓reduceIte, true_and, Nat.reduceLeDiff, Nat.reduceEqDiff, Nat.reduceAdd, Nat.reduceBEq, Int.reduceEq, H.cv_3_5, H.cv_3_56, H.cv_5_3, H.cv_5_56, H.cv_56_3, H.cv_56_5]
  refine hN _ ?_; clear hN N
  (refine W_seq_gen fun N hN => ?_); simp (disch := first | omega | (simp only [List.length_cons, List.length_nil, List.length_append, u8s_len]; omega)) only [go_sem, ↓reduceIte, true_and, Nat.reduceLeDiff, Nat.reduceEqDiff, Nat.reduceAdd, Nat.reduceBEq, Int.reduceEq, H.cv_3_5, H.cv_3_56, H.cv_5_3, H.cv_5_56, H.cv_56_3, H.cv_56_5]
  refine hN _ ?_; clear hN N
  (refine W_seq_gen fun N hN => ?_); simp (disch := first | omega | (simp only [List.length_cons, List.length_nil, List.length_append, u8s_len]; omega)) only [go_sem, ↓reduceIte, true_and, Nat.reduceLeDiff, Nat.reduceEqDiff, Nat.reduceAdd, Nat.reduceBEq, Int.reduceEq, H.cv_3_5, H.cv_3_56, H.cv_5_3, H.cv_5_56, H.cv_56_3, H.cv_56_5]
  refine hN _ ?_; clear hN N
  (refine W_seq_gen fun M hM => ?_)
  simp (disch := first | omega | (simp only [List.length_cons, List.length_nil, List.length_append, u8s_len]; omega)) only [go_sem, ↓reduceIte, true_and, Nat.reduceLeDiff, Nat.reduceEqDiff, Nat.reduceAdd, Nat.reduceBEq, Int.reduceEq, H.cv_3_5, H.cv_3_56, H.cv_5_3, H.cv_5_56, H.cv_56_3, H.cv_56_5]
  refine AW_loopN (fun n t h' => (∀ o, ¬ h o = none → h' o = h o) ∧ ∃ (s' : List UInt8) (ls : List Vl) (f : Nat) (z : AV), n = s'.length ∧ t 0 = .sc (.string (str s)) ∧ t 5 = .sc (.string (str s')) ∧ t 4 = z ∧ SG 5 z (vls ls) ∧ s'.length < f ∧ s'.length + ls.length ≤ s.length ∧ lprs (s.length + 1) s = (lprs f s').map (ls ++ ·))
    (n := s.length) ⟨fun _ _ => rfl, s, [], s.length + 1, _, rfl, rfl, rfl, rfl, SG.bs, by omega, by simp, by simp⟩ ?_
  rintro n t h' ⟨hh, s', ls, f, z, rfl, t0, t5, t4, hz, hf, hsl, he⟩
  cases s' with
  | nil =>
    have hp : lprs f [] = some [] := by rw [lprs]
    rw [hp] at he
    have he2 : lprs (s.length + 1) s = some ls := by rw [he]; simp
    (refine W_seq_gen fun N hN => ?_); simp (disch := first | omega | (simp only [List.length_cons, List.length_nil, List.length_append, u8s_len]; omega)) only [go_sem, ↓reduceIte, true_and, Nat.reduceLeDiff, Nat.reduceEqDiff, Nat.reduceAdd, Nat.reduceBEq, Int.reduceEq, H.cv_3_5, H.cv_3_56, H.cv_5_3, H.cv_5_56, H.cv_56_3, H.cv_56_5, t5, List.length_nil, Nat.lt_irrefl]
    refine hM _ ?_; clear hN N hM M
    (refine W_seq_gen fun N hN => ?_); simp (disch := first | omega | (simp only [List.length_cons, List.length_nil, List.length_append, u8s_len]; omega)) only [go_sem, ↓reduceIte, true_and, Nat.reduceLeDiff, Nat.reduceEqDiff, Nat.reduceAdd, Nat.reduceBEq, Int.reduceEq, H.cv_3_5, H.cv_3_56, H.cv_5_3, H.cv_5_56, H.cv_56_3, H.cv_56_5, t4]
    refine (rkey_ok H HD hz.sl.dis (by omega) _).mono ?_
    rintro _ _ ⟨rfl, hh'⟩; subst hh'
    by_cases h16 : ls.length > 16
    · rw [if_pos h16, if_pos h16]
      rw [contK_some]; simp (disch := first | omega | (simp only [List.length_cons, List.length_nil, List.length_append, u8s_len]; omega)) only [go_sem, ↓reduceIte, true_and, Nat.reduceLeDiff, Nat.reduceEqDiff, Nat.reduceAdd, Nat.reduceBEq, Int.reduceEq, H.cv_3_5, H.cv_3_56, H.cv_5_3, H.cv_5_56, H.cv_56_3, H.cv_56_5]
      refine hN _ ?_; clear hN N
      simp (disch := first | omega | (simp only [List.length_cons, List.length_nil, List.length_append, u8s_len]; omega)) only [go_sem, ↓reduceIte, true_and, Nat.reduceLeDiff, Nat.reduceEqDiff, Nat.reduceAdd, Nat.reduceBEq, Int.reduceEq, H.cv_3_5, H.cv_3_56, H.cv_5_3, H.cv_5_56, H.cv_56_3, H.cv_56_5, t4, t0]
      refine ⟨?_, hh⟩
      rw [RefR, he2]
      exact ⟨_, by rw [decide_eq_false (fun q => by omega)], hz.sl.dis⟩
    rw [if_neg h16, if_neg h16]
    by_cases hk : keyE ls = 0
    · rw [if_pos hk]
      by_cases hb : keyBs ls = s
      · rw [contK_some]; simp (disch := first | omega | (simp only [List.length_cons, List.length_nil, List.length_append, u8s_len]; omega)) only [go_sem, ↓reduceIte, true_and, Nat.reduceLeDiff, Nat.reduceEqDiff, Nat.reduceAdd, Nat.reduceBEq, Int.reduceEq, H.cv_3_5, H.cv_3_56, H.cv_5_3, H.cv_5_56, H.cv_56_3, H.cv_56_5, hk, hb]
        refine hN _ ?_; clear hN N
        simp (disch := first | omega | (simp only [List.length_cons, List.length_nil, List.length_append, u8s_len]; omega)) only [go_sem, ↓reduceIte, true_and, Nat.reduceLeDiff, Nat.reduceEqDiff, Nat.reduceAdd, Nat.reduceBEq, Int.reduceEq, H.cv_3_5, H.cv_3_56, H.cv_5_3, H.cv_5_56, H.cv_56_3, H.cv_56_5, t4, t0, hb]
        refine ⟨?_, hh⟩
        rw [RefR, he2]
        exact ⟨_, by rw [decide_eq_true ⟨by omega, hk, hb⟩], hz.sl.dis⟩
      · have hsb : (str (keyBs ls) = str s) = False := by simpa [str_inj] using hb
        rw [contK_some]; simp (disch := first | omega | (simp only [List.length_cons, List.length_nil, List.length_append, u8s_len]; omega)) only [go_sem, ↓reduceIte, true_and, Nat.reduceLeDiff, Nat.reduceEqDiff, Nat.reduceAdd, Nat.reduceBEq, Int.reduceEq, H.cv_3_5, H.cv_3_56, H.cv_5_3, H.cv_5_56, H.cv_56_3, H.cv_56_5, hk]
        refine hN _ ?_; clear hN N
        simp (disch := first | omega | (simp only [List.length_cons, List.length_nil, List.length_append, u8s_len]; omega)) only [go_sem, ↓reduceIte, true_and, Nat.reduceLeDiff, Nat.reduceEqDiff, Nat.reduceAdd, Nat.reduceBEq, Int.reduceEq, H.cv_3_5, H.cv_3_56, H.cv_5_3, H.cv_5_56, H.cv_56_3, H.cv_56_5, t4, t0, hsb]
        refine ⟨?_, hh⟩
        rw [RefR, he2]
        exact ⟨_, by rw [decide_eq_false (fun q => hb q.2.2)], hz.sl.dis⟩
    · rw [if_neg hk]
      have hk2 : (((keyE ls : Nat) : Int) == ((0 : Nat) : Int)) = false := by simpa using hk
      rw [contK_some]; simp (disch := first | omega | (simp only [List.length_cons, List.length_nil, List.length_append, u8s_len]; omega)) only [go_sem, ↓reduceIte, true_and, Nat.reduceLeDiff, Nat.reduceEqDiff, Nat.reduceAdd, Nat.reduceBEq, Int.reduceEq, H.cv_3_5, H.cv_3_56, H.cv_5_3, H.cv_5_56, H.cv_56_3, H.cv_56_5, hk2]
      refine hN _ ?_; clear hN N
      simp (disch := first | omega | (simp only [List.length_cons, List.length_nil, List.length_append, u8s_len]; omega)) only [go_sem, ↓reduceIte, true_and, Nat.reduceLeDiff, Nat.reduceEqDiff, Nat.reduceAdd, Nat.reduceBEq, Int.reduceEq, H.cv_3_5, H.cv_3_56, H.cv_5_3, H.cv_5_56, H.cv_56_3, H.cv_56_5, t4, t0, hk2]
      refine ⟨?_, hh⟩
      rw [RefR, he2]
      exact ⟨_, by rw [decide_eq_false (fun q => hk q.2.1)], hz.sl.dis⟩
  | cons k s1 =>
    have hl0 : decide (0 < s1.length + 1) = true := by simp
    (refine W_seq_gen fun N hN => ?_); simp (disch := first | omega | (simp only [List.length_cons, List.length_nil, List.length_append, u8s_len]; omega)) only [go_sem, ↓reduceIte, true_and, Nat.reduceLeDiff, Nat.reduceEqDiff, Nat.reduceAdd, Nat.reduceBEq, Int.reduceEq, H.cv_3_5, H.cv_3_56, H.cv_5_3, H.cv_5_56, H.cv_56_3, H.cv_56_5, t5, List.length_cons, hl0]
    refine hN _ ?_; clear hN N
    rw [W_block]
    have g0 : (k :: s1)[(0 : Nat)]? = some k := rfl
    have hk : IntKind.i64.wrap ((k.toNat : Nat) : Int) = ((k.toNat : Nat) : Int) := wrap_i64u (by omega) (by have := k.toNat_lt; omega)
    (refine W_seq_gen fun N hN => ?_); simp (disch := first | omega | (simp only [List.length_cons, List.length_nil, List.length_append, u8s_len]; omega)) only [go_sem, ↓reduceIte, true_and, Nat.reduceLeDiff, Nat.reduceEqDiff, Nat.reduceAdd, Nat.reduceBEq, Int.reduceEq, H.cv_3_5, H.cv_3_56, H.cv_5_3, H.cv_5_56, H.cv_56_3, H.cv_56_5, t5, g0, Option.bind_some, hk]
    intro b hb
    have hh2 : ∀ o, ¬ h o = none → upd h' b (some (.arr [.sc (.int .i64 (k.toNat : Nat)), .sc (.int .i64 (0 : Nat)), .sc (.string ⟨#[]⟩), .sc (.int .i64 (0 : Nat)), .sc (.int .i64 (0 : Nat))])) o = h o := fun o ho => by
      have := hh o ho
      rw [upd_keep hb o (by rw [this]; exact ho), this]
    have hnb : h b = none := by
      apply Classical.byContradiction
      intro hq
      exact hq (by rw [← hh b hq]; exact hb)
    have f1 : upd h' b (some (.arr [.sc (.int .i64 (k.toNat : Nat)), .sc (.int .i64 (0 : Nat)), .sc (.string ⟨#[]⟩), .sc (.int .i64 (0 : Nat)), .sc (.int .i64 (0 : Nat))])) b = some (.arr [.sc (.int .i64 (k.toNat : Nat)), .sc (.int .i64 (0 : Nat)), .sc (.string ⟨#[]⟩), .sc (.int .i64 (0 : Nat)), .sc (.int .i64 (0 : Nat))]) := upd_same _ _ _
    refine hN _ ?_; clear hN N
    generalize upd h' b (some (.arr [.sc (.int .i64 (k.toNat : Nat)), .sc (.int .i64 (0 : Nat)), .sc (.string ⟨#[]⟩), .sc (.int .i64 (0 : Nat)), .sc (.int .i64 (0 : Nat))])) = h2 at hh2 f1
    clear hb hh
    have a1 : ∀ (t : Nat → AV) (h : Heap), aexSls t h (some (.sc (.int .i64 ((1 : Nat) : Int)))) none (.sc (.string (str (k :: s1)))) = some (.val (.sc (.string (str s1))) t h) := fun t h => sls_l (l := k :: s1) (u := 1) (by simp)
    refine W_forget (fun t => t 0 = .sc (.string (str s)) ∧ t 4 = z ∧ t 5 = .sc (.string (str (k :: s1))) ∧ t 6 = .op b 0 ∧ True) (by simp [upd_at, *] <;> (first | rfl | exact ⟨rfl, rfl⟩ | exact ⟨rfl, rfl, rfl⟩ | exact ⟨rfl, rfl, rfl, rfl⟩ | exact ⟨rfl, rfl, rfl, rfl, rfl⟩)) ?_; rintro t ⟨t0, t4, t5, t6, -⟩
    (refine W_seq_gen fun N hN => ?_); simp (disch := first | omega | (simp only [List.length_cons, List.length_nil, List.length_append, u8s_len]; omega)) only [go_sem, ↓reduceIte, true_and, Nat.reduceLeDiff, Nat.reduceEqDiff, Nat.reduceAdd, Nat.reduceBEq, Int.reduceEq, H.cv_3_5, H.cv_3_56, H.cv_5_3, H.cv_5_56, H.cv_56_3, H.cv_56_5, t5, a1]
    refine hN _ ?_; clear hN N
    refine W_forget (fun t => t 0 = .sc (.string (str s)) ∧ t 4 = z ∧ t 5 = .sc (.string (str s1)) ∧ t 6 = .op b 0 ∧ True) (by simp [upd_at, *] <;> (first | rfl | exact ⟨rfl, rfl⟩ | exact ⟨rfl, rfl, rfl⟩ | exact ⟨rfl, rfl, rfl, rfl⟩ | exact ⟨rfl, rfl, rfl, rfl, rfl⟩)) ?_; rintro t ⟨t0, t4, t5, t6, -⟩
    (refine W_seq_gen fun K hK => ?_)
    obtain ⟨f, rfl⟩ : ∃ g, f = g + 1 := ⟨f - 1, by omega⟩
    rw [lprs_cons] at he
    have bad : lrV (k :: s1) = none → RefR s (.tu [.sc (.slice none 0 0), .sc (.bool false)]) := fun hr => by
      rw [hr] at he
      rw [RefR, he]
      rfl
    have fin : ∀ (t : Nat → AV) (h3 : Heap) (v : Vl) (r : List UInt8), t 0 = .sc (.string (str s)) → t 4 = z → t 5 = .sc (.string (str r)) → t 6 = .op b 0 → h3 b = some (.arr v.cells) → (∀ o, ¬ h o = none → h3 o = h o) → lrV (k :: s1) = some (v, r) → K ⟨t, h3⟩ := by
      intro t h3 v r t0 t4 t5 t6 f1 hk3 hr
      refine hK _ ?_; clear hK bad K
      have hrl := lrV_len hr
      rw [hr] at he
      simp only at he
      rw [Vl.cells] at f1
      have e1 := @vls_len ls
      have e2 : vls ls ++ [v.cells] = vls (ls ++ [v]) := by simp [vls]
      have hz2 := hz.cat [v.cells]
      rw [e2] at hz2
      simp only [List.length_cons] at hrl hsl hf
      have a2 := fun (t : Nat → AV) (h : Heap) => hz.app (t := t) (h := h) (ys := [v.cells]) (bytes := 48) (by rw [e1]; simp; omega)
      rw [Vl.cells] at a2 hz2
      simp (disch := first | omega | (simp only [List.length_cons, List.length_nil, List.length_append, u8s_len]; omega)) only [go_sem, ↓reduceIte, true_and, Nat.reduceLeDiff, Nat.reduceEqDiff, Nat.reduceAdd, Nat.reduceBEq, Int.reduceEq, H.cv_3_5, H.cv_3_56, H.cv_5_3, H.cv_5_56, H.cv_56_3, H.cv_56_5, t4, t6, f1, a2]
      refine ⟨r.length, by omega, hk3, r, ls ++ [v], f, _, rfl, t0, t5, rfl, hz2, by omega, by rw [List.length_append, List.length_singleton]; omega, ?_⟩
      rw [he, Option.map_map]
      congr 1
      funext l
      simp
    clear hK hM
    have hs1 : s1.length ≤ 1099511627776 := by simp only [List.length_cons] at hsl; omega
    clear hz he hf hsl
    have hkl := k.toNat_lt
    have keep : ∀ (h3 : Heap) (x : Option AObj), (∀ o, ¬ h o = none → h3 o = h o) → ∀ o, ¬ h o = none → upd h3 b x o = h o := fun h3 x hk o ho => (upd_ne _ _ fun e => ho (by rw [e]; exact hnb)).trans (hk o ho)
    rw [W_block]
    have kf : ∀ c : UInt8, k ≠ c → (((k.toNat : Nat) : Int) == ((c.toNat : Nat) : Int)) = false := fun c hc => by
      rw [beq_eq_false_iff_ne]
      intro e
      exact hc (UInt8.toNat_inj.1 (by omega))
    by_cases k1 : k = 1
    · have q1 : (((k.toNat : Nat) : Int) == ((1 : Nat) : Int)) = true := by rw [k1]; rfl
      have q2 : (((k.toNat : Nat) : Int) == ((2 : Nat) : Int)) = false := by rw [k1]; rfl
      have q3 : (((k.toNat : Nat) : Int) == ((3 : Nat) : Int)) = false := by rw [k1]; rfl
      have hk1 : ((k.toNat : Nat) : Int) = 1 := by rw [k1]; rfl
      by_cases h8 : 8 ≤ s1.length
      · have a8 := fun (t : Nat → AV) (h : Heap) => sls_l (t := t) (h := h) (l := s1) (u := 8) (k := .i64) h8
        simp (disch := first | omega | (simp only [List.length_cons, List.length_nil, List.length_append, u8s_len]; omega)) only [go_sem, ↓reduceIte, true_and, Nat.reduceLeDiff, Nat.reduceEqDiff, Nat.reduceAdd, Nat.reduceBEq, Int.reduceEq, H.cv_3_5, H.cv_3_56, H.cv_5_3, H.cv_5_56, H.cv_56_3, H.cv_56_5, t5, t6, f1, q1, h8]
        refine (eight_ok H s1 h8 _).mono ?_
        rintro _ _ ⟨rfl, hh'⟩; subst hh'
        rw [contK_some]; simp (disch := first | omega | (simp only [List.length_cons, List.length_nil, List.length_append, u8s_len]; omega)) only [go_sem, ↓reduceIte, true_and, Nat.reduceLeDiff, Nat.reduceEqDiff, Nat.reduceAdd, Nat.reduceBEq, Int.reduceEq, H.cv_3_5, H.cv_3_56, H.cv_5_3, H.cv_5_56, H.cv_56_3, H.cv_56_5, t5, t6, f1, a8]
        exact fin _ _ (numV (eigI (s1.take 8))) (s1.drop 8) t0 t4 rfl t6 ((upd_same _ _ _).trans (by rw [hk1]; rfl)) (keep _ _ hh2) (by rw [lrV, if_pos ⟨k1, h8⟩])
      · simp (disch := first | omega | (simp only [List.length_cons, List.length_nil, List.length_append, u8s_len]; omega)) only [go_sem, ↓reduceIte, true_and, Nat.reduceLeDiff, Nat.reduceEqDiff, Nat.reduceAdd, Nat.reduceBEq, Int.reduceEq, H.cv_3_5, H.cv_3_56, H.cv_5_3, H.cv_5_56, H.cv_56_3, H.cv_56_5, t5, t6, f1, q1, q2, q3, h8]
        exact ⟨bad (by rw [lrV, if_neg (fun q => h8 q.2), if_neg (fun q => absurd (k1.symm.trans q.1) (by decide)), if_neg (fun q => absurd (k1.symm.trans q) (by decide))]), hh2⟩
    have q1 : (((k.toNat : Nat) : Int) == ((1 : Nat) : Int)) = false := kf 1 k1
    by_cases k3 : k = 3
    · have q2 : (((k.toNat : Nat) : Int) == ((2 : Nat) : Int)) = false := by rw [k3]; rfl
      have q3 : (((k.toNat : Nat) : Int) == ((3 : Nat) : Int)) = true := by rw [k3]; rfl
      have hk3 : ((k.toNat : Nat) : Int) = 3 := by rw [k3]; rfl
      by_cases h16 : 16 ≤ s1.length
      · have h8 : 8 ≤ s1.length := by omega
        have a8 := fun (t : Nat → AV) (h : Heap) => sls_l (t := t) (h := h) (l := s1) (u := 8) (k := .i64) h8
        have a16 := fun (t : Nat → AV) (h : Heap) => sls_l (t := t) (h := h) (l := s1) (u := 16) (k := .i64) h16
        simp (disch := first | omega | (simp only [List.length_cons, List.length_nil, List.length_append, u8s_len]; omega)) only [go_sem, ↓reduceIte, true_and, Nat.reduceLeDiff, Nat.reduceEqDiff, Nat.reduceAdd, Nat.reduceBEq, Int.reduceEq, H.cv_3_5, H.cv_3_56, H.cv_5_3, H.cv_5_56, H.cv_56_3, H.cv_56_5, t5, t6, f1, q1, q3, h16, a8]
        refine ⟨_, fun h => eight_ok H s1 h8 h, ?_⟩
        rw [contK_some]; simp (disch := first | omega | (simp only [List.length_cons, List.length_nil, List.length_append, u8s_len]; omega)) only [go_sem, ↓reduceIte, true_and, Nat.reduceLeDiff, Nat.reduceEqDiff, Nat.reduceAdd, Nat.reduceBEq, Int.reduceEq, H.cv_3_5, H.cv_3_56, H.cv_5_3, H.cv_5_56, H.cv_56_3, H.cv_56_5, t5, t6, f1, a8]
        refine ⟨_, fun h => eight_ok H (s1.drop 8) (by simp; omega) h, ?_⟩
        rw [contK_some]; simp (disch := first | omega | (simp only [List.length_cons, List.length_nil, List.length_append, u8s_len]; omega)) only [go_sem, ↓reduceIte, true_and, Nat.reduceLeDiff, Nat.reduceEqDiff, Nat.reduceAdd, Nat.reduceBEq, Int.reduceEq, H.cv_3_5, H.cv_3_56, H.cv_5_3, H.cv_5_56, H.cv_56_3, H.cv_56_5, t5, t6, f1, a16]
        exact fin _ _ (pointV (eigI (s1.take 8)) (eigI ((s1.drop 8).take 8))) (s1.drop 16) t0 t4 rfl t6 ((upd_same _ _ _).trans (by rw [hk3]; rfl)) (keep _ _ hh2) (by rw [lrV, if_neg (fun q => k1 q.1), if_pos ⟨k3, h16⟩])
      · simp (disch := first | omega | (simp only [List.length_cons, List.length_nil, List.length_append, u8s_len]; omega)) only [go_sem, ↓reduceIte, true_and, Nat.reduceLeDiff, Nat.reduceEqDiff, Nat.reduceAdd, Nat.reduceBEq, Int.reduceEq, H.cv_3_5, H.cv_3_56, H.cv_5_3, H.cv_5_56, H.cv_56_3, H.cv_56_5, t5, t6, f1, q1, q2, q3, h16]
        exact ⟨bad (by rw [lrV, if_neg (fun q => k1 q.1), if_neg (fun q => h16 q.2), if_neg (fun q => absurd (k3.symm.trans q) (by decide))]), hh2⟩
    have q3 : (((k.toNat : Nat) : Int) == ((3 : Nat) : Int)) = false := kf 3 k3
    by_cases k2 : k = 2
    · have q2 : (((k.toNat : Nat) : Int) == ((2 : Nat) : Int)) = true := by rw [k2]; rfl
      have hk2 : ((k.toNat : Nat) : Int) = 2 := by rw [k2]; rfl
      (refine W_seq_gen fun N hN => ?_); simp (disch := first | omega | (simp only [List.length_cons, List.length_nil, List.length_append, u8s_len]; omega)) only [go_sem, ↓reduceIte, true_and, Nat.reduceLeDiff, Nat.reduceEqDiff, Nat.reduceAdd, Nat.reduceBEq, Int.reduceEq, H.cv_3_5, H.cv_3_56, H.cv_5_3, H.cv_5_56, H.cv_56_3, H.cv_56_5, t6, f1, q1]
      refine hN _ ?_; clear hN N
      refine ⟨false, rfl, fun h => Bool.noConfusion h, fun _ => ?_⟩
      (refine W_seq_gen fun N hN => ?_); simp (disch := first | omega | (simp only [List.length_cons, List.length_nil, List.length_append, u8s_len]; omega)) only [go_sem, ↓reduceIte, true_and, Nat.reduceLeDiff, Nat.reduceEqDiff, Nat.reduceAdd, Nat.reduceBEq, Int.reduceEq, H.cv_3_5, H.cv_3_56, H.cv_5_3, H.cv_5_56, H.cv_56_3, H.cv_56_5, t6, f1, q3]
      refine hN _ ?_; clear hN N
      refine ⟨false, rfl, fun h => Bool.noConfusion h, fun _ => ?_⟩
      (refine W_seq_gen fun N hN => ?_); simp (disch := first | omega | (simp only [List.length_cons, List.length_nil, List.length_append, u8s_len]; omega)) only [go_sem, ↓reduceIte, true_and, Nat.reduceLeDiff, Nat.reduceEqDiff, Nat.reduceAdd, Nat.reduceBEq, Int.reduceEq, H.cv_3_5, H.cv_3_56, H.cv_5_3, H.cv_5_56, H.cv_56_3, H.cv_56_5, t6, f1, q2]
      refine hN _ ?_; clear hN N
      refine ⟨true, rfl, fun _ => ?_, fun h => Bool.noConfusion h⟩
      (refine W_seq_gen fun N hN => ?_); simp (disch := first | omega | (simp only [List.length_cons, List.length_nil, List.length_append, u8s_len]; omega)) only [go_sem, ↓reduceIte, true_and, Nat.reduceLeDiff, Nat.reduceEqDiff, Nat.reduceAdd, Nat.reduceBEq, Int.reduceEq, H.cv_3_5, H.cv_3_56, H.cv_5_3, H.cv_5_56, H.cv_56_3, H.cv_56_5]
      refine hN _ ?_; clear hN N
      refine W_forget (fun t => t 0 = .sc (.string (str s)) ∧ t 4 = z ∧ t 5 = .sc (.string (str s1)) ∧ t 6 = .op b 0 ∧ t 7 = .sc (.bool false) ∧ True) (by simp [upd_at, *] <;> (first | rfl | exact ⟨rfl, rfl⟩ | exact ⟨rfl, rfl, rfl⟩ | exact ⟨rfl, rfl, rfl, rfl⟩ | exact ⟨rfl, rfl, rfl, rfl, rfl⟩)) ?_; rintro t ⟨t0, t4, t5, t6, t7, -⟩
      rw [hk2] at f1
      (refine W_seq_gen fun R hR => ?_)
      simp (disch := first | omega | (simp only [List.length_cons, List.length_nil, List.length_append, u8s_len]; omega)) only [go_sem, ↓reduceIte, true_and, Nat.reduceLeDiff, Nat.reduceEqDiff, Nat.reduceAdd, Nat.reduceBEq, Int.reduceEq, H.cv_3_5, H.cv_3_56, H.cv_5_3, H.cv_5_56, H.cv_56_3, H.cv_56_5]
      refine AW_loopN (fun n t h' => (∀ o, ¬ h o = none → h' o = h o) ∧ ∃ (s' a : List UInt8) (q : Bool), n = s'.length ∧ t 0 = .sc (.string (str s)) ∧ t 4 = z ∧ t 5 = .sc (.string (str s')) ∧ t 6 = .op b 0 ∧ t 7 = .sc (.bool q) ∧ h' b = some (.arr (textV a).cells) ∧ a.length + s'.length ≤ s1.length ∧ ltx s1 = if q then some (a, s') else (ltx s').map fun p => (a ++ p.1, p.2))
        (n := s1.length) ⟨hh2, s1, [], false, rfl, by simp [upd_at, t0], by simp [upd_at, t4], by simp [upd_at, t5], by simp [upd_at, t6], by simp [upd_at, t7], f1, by simp, by simp⟩ ?_
      clear t0 t4 t5 t6 t7 hh2 f1 t
      rintro n t h' ⟨hh2, s', a, q, rfl, t0, t4, t5, t6, t7, f1, hal, hlt⟩
      have out : ∀ t : Nat → AV, t 0 = .sc (.string (str s)) → t 4 = z → t 5 = .sc (.string (str s')) → t 6 = .op b 0 → t 7 = .sc (.bool q) → (q = false → ltx s' = none) → R ⟨t, h'⟩ := by
        clear t0 t4 t5 t6 t7
        intro t t0 t4 t5 t6 t7 hn
        refine hR _ ?_; clear hR R
        cases q with
        | true =>
          simp (disch := first | omega | (simp only [List.length_cons, List.length_nil, List.length_append, u8s_len]; omega)) only [go_sem, ↓reduceIte, true_and, Nat.reduceLeDiff, Nat.reduceEqDiff, Nat.reduceAdd, Nat.reduceBEq, Int.reduceEq, H.cv_3_5, H.cv_3_56, H.cv_5_3, H.cv_5_56, H.cv_56_3, H.cv_56_5, t7]
          exact fin _ _ (textV a) s' t0 t4 t5 t6 f1 hh2 (by rw [lrV, if_neg (fun q => k1 q.1), if_neg (fun q => k3 q.1), if_pos k2, hlt]; rfl)
        | false =>
          rw [hn rfl] at hlt
          simp (disch := first | omega | (simp only [List.length_cons, List.length_nil, List.length_append, u8s_len]; omega)) only [go_sem, ↓reduceIte, true_and, Nat.reduceLeDiff, Nat.reduceEqDiff, Nat.reduceAdd, Nat.reduceBEq, Int.reduceEq, H.cv_3_5, H.cv_3_56, H.cv_5_3, H.cv_5_56, H.cv_56_3, H.cv_56_5, t7]
          exact ⟨bad (by rw [lrV, if_neg (fun q => k1 q.1), if_neg (fun q => k3 q.1), if_pos k2, hlt]; rfl), hh2⟩
      clear fin bad
      by_cases h8 : 8 ≤ s'.length
      case neg =>
        clear hR
        simp (disch := first | omega | (simp only [List.length_cons, List.length_nil, List.length_append, u8s_len]; omega)) only [go_sem, ↓reduceIte, true_and, Nat.reduceLeDiff, Nat.reduceEqDiff, Nat.reduceAdd, Nat.reduceBEq, Int.reduceEq, H.cv_3_5, H.cv_3_56, H.cv_5_3, H.cv_5_56, H.cv_56_3, H.cv_56_5, t5, h8]
        exact out _ t0 t4 t5 t6 t7 (fun _ => ltx_none h8)
      cases q with
      | true =>
        clear hR
        simp (disch := first | omega | (simp only [List.length_cons, List.length_nil, List.length_append, u8s_len]; omega)) only [go_sem, ↓reduceIte, true_and, Nat.reduceLeDiff, Nat.reduceEqDiff, Nat.reduceAdd, Nat.reduceBEq, Int.reduceEq, H.cv_3_5, H.cv_3_56, H.cv_5_3, H.cv_5_56, H.cv_56_3, H.cv_56_5, t5, h8, t7]
        exact out _ t0 t4 t5 t6 t7 (fun e => by cases e)
      | false =>
        clear out hR
        (refine W_seq_gen fun N hN => ?_); simp (disch := first | omega | (simp only [List.length_cons, List.length_nil, List.length_append, u8s_len]; omega)) only [go_sem, ↓reduceIte, true_and, Nat.reduceLeDiff, Nat.reduceEqDiff, Nat.reduceAdd, Nat.reduceBEq, Int.reduceEq, H.cv_3_5, H.cv_3_56, H.cv_5_3, H.cv_5_56, H.cv_56_3, H.cv_56_5, t5, h8, t7]
        refine hN _ ?_; clear hN N
        rw [W_block]
        refine W_forget (fun t => t 0 = .sc (.string (str s)) ∧ t 4 = z ∧ t 5 = .sc (.string (str s')) ∧ t 6 = .op b 0 ∧ True) (by simp [upd_at, *] <;> (first | rfl | exact ⟨rfl, rfl⟩ | exact ⟨rfl, rfl, rfl⟩ | exact ⟨rfl, rfl, rfl, rfl⟩ | exact ⟨rfl, rfl, rfl, rfl, rfl⟩)) ?_; rintro t ⟨t0, t4, t5, t6, -⟩
        have g7 : s'[7]? = some s'[7]! := by
          have : 7 < s'.length := by omega
          simp [this]
        have hbt := (s'[7]!).toNat_lt
        have w7 : IntKind.i64.wrap (((s'[7]!).toNat : Nat) : Int) = (((s'[7]!).toNat : Nat) : Int) := wrap_i64u (by omega) (by omega)
        by_cases hb : s'[7]! = 8
        · have n8 : (((s'[7]!).toNat : Int) != ((8 : Nat) : Int)) = false := by rw [hb]; rfl
          have hlt2 := hlt.trans (by rw [if_neg (by decide), ltx_more h8 hb, Option.map_map]; rfl : _ = (ltx (s'.drop 8)).map fun p => (a ++ (s'.take 7 ++ p.1), p.2))
          (refine W_seq_gen fun N hN => ?_); simp (disch := first | omega | (simp only [List.length_cons, List.length_nil, List.length_append, u8s_len]; omega)) only [go_sem, ↓reduceIte, true_and, Nat.reduceLeDiff, Nat.reduceEqDiff, Nat.reduceAdd, Nat.reduceBEq, Int.reduceEq, H.cv_3_5, H.cv_3_56, H.cv_5_3, H.cv_5_56, H.cv_56_3, H.cv_56_5, t5, g7, Option.bind_some, n8]
          refine hN _ ?_; clear hN N
          (refine W_seq_gen fun N hN => ?_); simp (disch := first | omega | (simp only [List.length_cons, List.length_nil, List.length_append, u8s_len]; omega)) only [go_sem, ↓reduceIte, true_and, Nat.reduceLeDiff, Nat.reduceEqDiff, Nat.reduceAdd, Nat.reduceBEq, Int.reduceEq, H.cv_3_5, H.cv_3_56, H.cv_5_3, H.cv_5_56, H.cv_56_3, H.cv_56_5]
          refine hN _ ?_; clear hN N
          (refine W_seq_gen fun N hN => ?_); simp (disch := first | omega | (simp only [List.length_cons, List.length_nil, List.length_append, u8s_len]; omega)) only [go_sem, ↓reduceIte, true_and, Nat.reduceLeDiff, Nat.reduceEqDiff, Nat.reduceAdd, Nat.reduceBEq, Int.reduceEq, H.cv_3_5, H.cv_3_56, H.cv_5_3, H.cv_5_56, H.cv_56_3, H.cv_56_5]
          refine hN _ ?_; clear hN N
          refine W_forget (fun t => t 0 = .sc (.string (str s)) ∧ t 4 = z ∧ t 5 = .sc (.string (str s')) ∧ t 6 = .op b 0 ∧ t 7 = .sc (.bool false) ∧ t 8 = .sc (.int .i64 ((7 : Nat) : Int)) ∧ True) (by simp [upd_at, *] <;> (first | rfl | exact ⟨rfl, rfl⟩ | exact ⟨rfl, rfl, rfl⟩ | exact ⟨rfl, rfl, rfl, rfl⟩ | exact ⟨rfl, rfl, rfl, rfl, rfl⟩)) ?_; rintro t ⟨t0, t4, t5, t6, t7, t8, -⟩
          rw [Vl.cells] at f1
          have a7 := fun (t : Nat → AV) (h : Heap) => sls_u (t := t) (h := h) (l := s') (u := 7) (k := .i64) (by omega)
          have a8 := fun (t : Nat → AV) (h : Heap) => sls_l (t := t) (h := h) (l := s') (u := 8) (k := .i64) h8
          have hadd : scalarBin P .add 9 (.string (str (textV a).text)) (.string (str (s'.take 7))) = some (.string (str (a ++ s'.take 7))) := by
            rw [sb_sadd (by rw [str_size, str_size]; simp [textV]; omega), str_app]; rfl
          simp (disch := first | omega | (simp only [List.length_cons, List.length_nil, List.length_append, u8s_len]; omega)) only [go_sem, ↓reduceIte, true_and, Nat.reduceLeDiff, Nat.reduceEqDiff, Nat.reduceAdd, Nat.reduceBEq, Int.reduceEq, H.cv_3_5, H.cv_3_56, H.cv_5_3, H.cv_5_56, H.cv_56_3, H.cv_56_5, t5, t6, t8, f1, a7, hadd, a8]
          refine ⟨(s'.drop 8).length, by simp; omega, keep _ _ hh2, s'.drop 8, a ++ s'.take 7, false, rfl, t0, t4, rfl, t7, rfl, by simp; omega, ?_⟩
          rw [hlt2, if_neg (by decide)]
          congr 1
          funext p
          simp
        · have n8 : (((s'[7]!).toNat : Int) != ((8 : Nat) : Int)) = true := by
            rw [bne_iff_ne]
            intro e
            exact hb (UInt8.toNat_inj.1 (by show _ = 8; omega))
          have hlt2 := hlt.trans (by rw [if_neg (by decide), ltx_last h8 hb]; rfl : _ = some (a ++ s'.take (min 7 s'[7]!.toNat), s'.drop 8))
          (refine W_seq_gen fun N hN => ?_); simp (disch := first | omega | (simp only [List.length_cons, List.length_nil, List.length_append, u8s_len]; omega)) only [go_sem, ↓reduceIte, true_and, Nat.reduceLeDiff, Nat.reduceEqDiff, Nat.reduceAdd, Nat.reduceBEq, Int.reduceEq, H.cv_3_5, H.cv_3_56, H.cv_5_3, H.cv_5_56, H.cv_56_3, H.cv_56_5, t5, g7, Option.bind_some, n8]
          refine hN _ ?_; clear hN N
          (refine W_seq_gen fun N hN => ?_); simp (disch := first | omega | (simp only [List.length_cons, List.length_nil, List.length_append, u8s_len]; omega)) only [go_sem, ↓reduceIte, true_and, Nat.reduceLeDiff, Nat.reduceEqDiff, Nat.reduceAdd, Nat.reduceBEq, Int.reduceEq, H.cv_3_5, H.cv_3_56, H.cv_5_3, H.cv_5_56, H.cv_56_3, H.cv_56_5]
          refine hN _ ?_; clear hN N
          (refine W_seq_gen fun N hN => ?_)
          have last : ∀ (m : Nat) (t : Nat → AV), m = min 7 s'[7]!.toNat → t 0 = .sc (.string (str s)) → t 4 = z → t 5 = .sc (.string (str s')) → t 6 = .op b 0 → t 7 = .sc (.bool true) → t 8 = .sc (.int .i64 (m : Nat)) → N ⟨t, h'⟩ := by
            intro m t hm t0 t4 t5 t6 t7 t8
            refine hN _ ?_; clear hN N
            rw [Vl.cells] at f1
            have a7 := fun (t : Nat → AV) (h : Heap) => sls_u (t := t) (h := h) (l := s') (u := m) (k := .i64) (by omega)
            have a8 := fun (t : Nat → AV) (h : Heap) => sls_l (t := t) (h := h) (l := s') (u := 8) (k := .i64) h8
            have hadd : scalarBin P .add 9 (.string (str (textV a).text)) (.string (str (s'.take m))) = some (.string (str (a ++ s'.take m))) := by
              rw [sb_sadd (by rw [str_size, str_size]; simp [textV]; omega), str_app]; rfl
            simp (disch := first | omega | (simp only [List.length_cons, List.length_nil, List.length_append, u8s_len]; omega)) only [go_sem, ↓reduceIte, true_and, Nat.reduceLeDiff, Nat.reduceEqDiff, Nat.reduceAdd, Nat.reduceBEq, Int.reduceEq, H.cv_3_5, H.cv_3_56, H.cv_5_3, H.cv_5_56, H.cv_56_3, H.cv_56_5, t5, t6, t8, f1, a7, hadd, a8]
            refine ⟨(s'.drop 8).length, by simp; omega, keep _ _ hh2, s'.drop 8, a ++ s'.take m, true, rfl, t0, t4, rfl, t7, rfl, by simp; omega, ?_⟩
            rw [hlt2, if_pos rfl, hm]
          by_cases l7 : s'[7]!.toNat < 7
          · simp (disch := first | omega | (simp only [List.length_cons, List.length_nil, List.length_append, u8s_len]; omega)) only [go_sem, ↓reduceIte, true_and, Nat.reduceLeDiff, Nat.reduceEqDiff, Nat.reduceAdd, Nat.reduceBEq, Int.reduceEq, H.cv_3_5, H.cv_3_56, H.cv_5_3, H.cv_5_56, H.cv_56_3, H.cv_56_5, t5, g7, Option.bind_some, l7, w7]
            exact last _ _ (Nat.min_eq_right (by omega)).symm t0 t4 t5 t6 rfl rfl
          · simp (disch := first | omega | (simp only [List.length_cons, List.length_nil, List.length_append, u8s_len]; omega)) only [go_sem, ↓reduceIte, true_and, Nat.reduceLeDiff, Nat.reduceEqDiff, Nat.reduceAdd, Nat.reduceBEq, Int.reduceEq, H.cv_3_5, H.cv_3_56, H.cv_5_3, H.cv_5_56, H.cv_56_3, H.cv_56_5, t5, g7, Option.bind_some, l7]
            exact last 7 _ (Nat.min_eq_left (by omega)).symm t0 t4 t5 t6 rfl rfl
    have q2 : (((k.toNat : Nat) : Int) == ((2 : Nat) : Int)) = false := kf 2 k2
    simp (disch := first | omega | (simp only [List.length_cons, List.length_nil, List.length_append, u8s_len]; omega)) only [go_sem, ↓reduceIte, true_and, Nat.reduceLeDiff, Nat.reduceEqDiff, Nat.reduceAdd, Nat.reduceBEq, Int.reduceEq, H.cv_3_5, H.cv_3_56, H.cv_5_3, H.cv_5_56, H.cv_56_3, H.cv_56_5, t5, t6, f1, q1, q2, q3]
    exact ⟨bad (by rw [lrV, if_neg (fun q => k1 q.1), if_neg (fun q => k3 q.1), if_neg k2]), hh2⟩
end Go.Proofs.YtcdfdnmnnepnoaaDoor
end
