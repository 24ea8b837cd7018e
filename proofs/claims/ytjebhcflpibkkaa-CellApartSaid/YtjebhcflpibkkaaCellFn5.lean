/- What the functions come to: bytes. -/
import Derived.Test.YtjebhcflpibkkaaCellFn4
set_option linter.unusedVariables false
set_option linter.unusedSimpArgs false
namespace Go.Proofs.Ytjebhcflpibkkaa
open Go.Am
/-- A count's bytes. -/
def numB (n : Nat) : List UInt8 := if n < 128 then [UInt8.ofNat n] else UInt8.ofNat (n % 128 + 128) :: numB (n / 128)
termination_by n
decreasing_by omega
theorem or128 : ∀ m, m < 256 → m ||| 128 = m % 128 + 128 := by decide +kernel
theorem numB_len {n : Nat} (h : n < 2 ^ 63) : (numB n).length ≤ 9 := by
  have key : ∀ k n, n < 128 ^ k → 0 < k → (numB n).length ≤ k := by
    intro k
    induction k with
    | zero => intro n _ h; omega
    | succ k ih =>
      intro n hn _
      rw [numB]
      split
      · simp
      · have : n / 128 < 128 ^ k := by rw [Nat.pow_succ] at hn; omega
        rcases Nat.eq_zero_or_pos k with rfl | hk
        · simp at this; omega
        · have := ih _ this hk
          simp; omega
  exact key 9 n (by have : (128 : Nat) ^ 9 = 2 ^ 63 := by decide
                    omega) (by omega)
/-- Bytes behind a row, one by one. -/
def snocs (v : AV) (l : List UInt8) : AV := l.foldl (fun v b => catV 1 (u8s [b]) v) v
theorem snocs_ok {v : AV} {l : List UInt8} (hv : SG 1 v (u8s l)) : ∀ (m : List UInt8), SG 1 (snocs v m) (u8s (l ++ m)) := by
  intro m
  induction m generalizing v l with
  | nil => rw [List.append_nil]; exact hv
  | cons b m ih =>
    have := ih (v := catV 1 (u8s [b]) v) (l := l ++ [b]) (by rw [← u8s_app]; exact hv.cat _)
    rw [List.append_assoc] at this
    exact this
theorem snocs_snoc (v : AV) (l : List UInt8) (b : UInt8) : snocs v (l ++ [b]) = catV 1 (u8s [b]) (snocs v l) := by
  unfold snocs
  rw [List.foldl_append]
  rfl
theorem u8w (n : Nat) : IntKind.u8.wrap (n : Int) = ((n % 256 : Nat) : Int) := by rw [wrap_u8m]; omega
theorem sb_or8 {P : Program} {ty : TypeId} {a b : Nat} (ha : a < 256) (hb : b < 256) : scalarBin P .or ty (.int .u8 a) (.int .u8 b) = some (.int .u8 ((a ||| b : Nat) : Int)) := sb_or rfl ha hb
theorem sb_shr7 {P : Program} {ty : TypeId} {q : IntKind} {n : Nat} : scalarBin P .shr ty (.int .i64 n) (.int q ((7 : Nat) : Int)) = some (.int .i64 ((n / 128 : Nat) : Int)) := by
  rw [sb_shr (by omega)]
  congr 2
  rw [Int.fdiv_eq_ediv_of_nonneg _ (by decide)]
  have : (2 : Int) ^ (min ((7 : Nat) : Int).toNat IntKind.i64.bits) = 128 := by decide
  rw [this]
  omega
variable {P : Program} (H : Has P)
include H
theorem number_ok {v : AV} {l : List UInt8} {n : Nat} (hv : SG 1 v (u8s l)) (hl : l.length ≤ 2 ^ 40) (hn : n < 2 ^ 62) (h : Heap) : AWF P ann 0 28 [v, .sc (.int .i64 (n : Nat))] h fun r h' => r = snocs v (numB n) ∧ h' = h := by
  refine AWF.fnc H.f0_28 rfl ?_
  (refine W_seq_gen fun N hN => ?_); simp (disch := first | omega | (simp only [List.length_cons, List.length_nil, List.length_append, u8s_len]; omega)) only [go_sem, ↓reduceIte, true_and, Nat.reduceLeDiff, Nat.reduceEqDiff, Nat.reduceAdd, Nat.reduceBEq, Int.reduceEq, H.cv_3_5, H.cv_5_3]
  refine hN _ ?_; clear hN N
  refine W_forget (fun t => t 0 = v ∧ t 1 = .sc (.int .i64 (n : Nat)) ∧ True) (by simp [upd_at, *] <;> (first | rfl | exact ⟨rfl, rfl⟩ | exact ⟨rfl, rfl, rfl⟩)) ?_; rintro t ⟨t0, t1, -⟩
  (refine W_seq_gen fun M hM => ?_)
  rw [W_block]
  simp (disch := first | omega | (simp only [List.length_cons, List.length_nil, List.length_append, u8s_len]; omega)) only [go_sem, ↓reduceIte, true_and, Nat.reduceLeDiff, Nat.reduceEqDiff, Nat.reduceAdd, Nat.reduceBEq, Int.reduceEq, H.cv_3_5, H.cv_5_3]
  refine AW_loopN (fun m t h' => h' = h ∧ ∃ (p : List UInt8) (k : Nat), m = k ∧ k < 2 ^ 62 ∧ p ++ numB k = numB n ∧ t 0 = snocs v p ∧ t 1 = .sc (.int .i64 (k : Nat)))
    (n := n) ⟨rfl, [], n, rfl, hn, rfl, t0, t1⟩ ?_
  clear t0 t1
  rintro m t h' ⟨rfl, p, k, rfl, hk, hp, t0, t1⟩
  have hg := snocs_ok hv p
  have hpl : p.length ≤ 9 := by have := numB_len (n := n) (by omega); rw [← hp] at this; simp at this; omega
  by_cases c : 128 ≤ m
  · have hb := numB m
    have e1 : m % 256 ||| 128 = (UInt8.ofNat (m % 128 + 128)).toNat := by rw [or128 _ (by omega)]; simp; omega
    have hnum : numB m = UInt8.ofNat (m % 128 + 128) :: numB (m / 128) := by rw [numB, if_neg (by omega)]
    have happ := fun (t : Nat → AV) (h : Heap) => hg.app (t := t) (h := h) (ys := u8s [UInt8.ofNat (m % 128 + 128)]) (bytes := 1) (by simp [u8s_len]; omega)
    have hu : u8s [UInt8.ofNat (m % 128 + 128)] = [[.sc (.int .u8 ((UInt8.ofNat (m % 128 + 128)).toNat : Nat))]] := rfl
    rw [hu] at happ
    (refine W_seq_gen fun N hN => ?_); simp (disch := first | omega | (simp only [List.length_cons, List.length_nil, List.length_append, u8s_len]; omega)) only [go_sem, ↓reduceIte, true_and, Nat.reduceLeDiff, Nat.reduceEqDiff, Nat.reduceAdd, Nat.reduceBEq, Int.reduceEq, H.cv_3_5, H.cv_5_3, t1, c]
    refine hN _ ?_; clear hN N
    rw [W_block]
    simp (disch := first | omega | (simp only [List.length_cons, List.length_nil, List.length_append, u8s_len]; omega)) only [go_sem, ↓reduceIte, true_and, Nat.reduceLeDiff, Nat.reduceEqDiff, Nat.reduceAdd, Nat.reduceBEq, Int.reduceEq, H.cv_3_5, H.cv_5_3, t0, t1, u8w, sb_or8, sb_shr7, e1, happ]
    refine ⟨m / 128, by omega, p ++ [UInt8.ofNat (m % 128 + 128)], by omega, ?_, ?_⟩
    · rw [List.append_assoc, ← hp, hnum]; rfl
    · exact ⟨by rw [snocs_snoc, hu], rfl⟩
  have hnum : numB m = [UInt8.ofNat m] := by rw [numB, if_pos (by omega)]
  have e1 : m % 256 = (UInt8.ofNat m).toNat := by simp
  have happ := fun (t : Nat → AV) (h : Heap) => hg.app (t := t) (h := h) (ys := u8s [UInt8.ofNat m]) (bytes := 1) (by simp [u8s_len]; omega)
  have hu : u8s [UInt8.ofNat m] = [[.sc (.int .u8 ((UInt8.ofNat m).toNat : Nat))]] := rfl
  rw [hu] at happ
  (refine W_seq_gen fun N hN => ?_); simp (disch := first | omega | (simp only [List.length_cons, List.length_nil, List.length_append, u8s_len]; omega)) only [go_sem, ↓reduceIte, true_and, Nat.reduceLeDiff, Nat.reduceEqDiff, Nat.reduceAdd, Nat.reduceBEq, Int.reduceEq, H.cv_3_5, H.cv_5_3, t1, c]
  refine hM _ ?_; clear hN N hM M
  simp (disch := first | omega | (simp only [List.length_cons, List.length_nil, List.length_append, u8s_len]; omega)) only [go_sem, ↓reduceIte, true_and, Nat.reduceLeDiff, Nat.reduceEqDiff, Nat.reduceAdd, Nat.reduceBEq, Int.reduceEq, H.cv_3_5, H.cv_5_3, t0, t1, u8w, e1, happ]
  rw [← hp, hnum, snocs_snoc, hu]
end Go.Proofs.Ytjebhcflpibkkaa
