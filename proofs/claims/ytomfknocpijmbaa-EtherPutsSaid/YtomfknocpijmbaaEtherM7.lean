/- Are ethers alike; the law; arguments. -/
import Derived.Test.YtomfknocpijmbaaEtherM4
import Derived.Test.YtomfknocpijmbaaEtherM1
import Derived.Test.YtomfknocpijmbaaEtherM6
import Derived.Test.YtomfknocpijmbaaEtherM5
import Derived.Test.YtomfknocpijmbaaAmArg
import Derived.Test.YtomfknocpijmbaaAmExt
section
set_option linter.unusedVariables false
set_option linter.unusedSimpArgs false
namespace Go.Proofs.Ytomfknocpijmbaa
open Go.Am
variable {P : Program} (H : Has P)
include H
theorem at_ok (a : Int) {n : Nat} (h0 : 0 < n) (hn : n < 2 ^ 40) (h : Heap) : AWF P ann 0 31 [.sc (.int .i64 a), .sc (.int .i64 (n : Nat))] h fun r h' => r = .sc (.int .i64 (a % (n : Int))) ∧ h' = h := by
 refine AWF.fnc H.f0_31 rfl ?_
 have e := emod_rem (a := a) h0
 have hne : ((n : Nat) : Int) ≠ 0 := by omega
 have b1 := Int.tmod_lt_of_pos a (show (0 : Int) < n by omega)
 by_cases c : a.tmod (n : Int) < 0
 ·have d : decide (a.tmod (n : Int) < ((0 : Nat) : Int)) = true := by simpa using c
  have b2 := Int.lt_tmod_of_pos a (show (0 : Int) < n by omega)
  have w : IntKind.i64.wrap (a.tmod (n : Int) + (n : Int)) = a.tmod (n : Int) + (n : Int) := wrap_i64u (by omega) (by omega)
  simp (disch := omega) only [go_sem, ↓reduceIte, true_and, Nat.reduceLeDiff, Nat.reduceEqDiff, Nat.reduceAdd, Nat.reduceBEq, Int.reduceEq, H.cv_3_66, H.cv_3_68, H.cv_68_3, sb_rem hne, d, w]
  rw [← e, if_pos c]
 ·have d : decide (a.tmod (n : Int) < ((0 : Nat) : Int)) = false := by simpa using c
  simp (disch := omega) only [go_sem, ↓reduceIte, true_and, Nat.reduceLeDiff, Nat.reduceEqDiff, Nat.reduceAdd, Nat.reduceBEq, Int.reduceEq, H.cv_3_66, H.cv_3_68, H.cv_68_3, sb_rem hne, d]
  rw [← e, if_neg c]
set_option maxHeartbeats 1000000 in
theorem rbend_ok {v : AV} {b : List UInt8} (hv : SF 1 v (u8s b)) (hl : b.length ≤ 2 ^ 30) (w : Int) (h : Heap) : AWF P ann 0 11 [v, .sc (.int .i64 w)] h fun r h' => r = .bs false 1 (u8s (bendB b w)) none ∧ h' = h := by
 refine AWF.fnPureA H.f0_11 rfl ?_
 have hO := OB.nil (h := h)
 have hlen := @u8s_len b
 refine A_seq_gen fun N hN => W_sound ?_
 simp (disch := omega) only [go_sem, ↓reduceIte, true_and, Nat.reduceLeDiff, Nat.reduceEqDiff, Nat.reduceAdd, Nat.reduceBEq, Int.reduceEq, H.cv_3_66, H.cv_3_68, H.cv_68_3]
 refine hN _ ?_; clear hN N
 refine A_seq_gen fun N hN => W_sound ?_
 refine W_forget (fun t => t 0 = v ∧ t 1 = .sc (.int .i64 w) ∧ True) (by simp [upd_at, *] <;> and_intros <;> rfl) ?_; rintro t ⟨t0, t1, -⟩
 by_cases cb : b = []
 ·subst cb
  have happ := fun (t : Nat → AV) (h : Heap) (z : List AV) (own : Bool) => appO_none (own := own) (sz := 1) (bytes := 1) (z := z) (t := t) (h := h)
  have e0 : u8s [] = [] := rfl
  simp (disch := omega) only [go_sem, ↓reduceIte, true_and, Nat.reduceLeDiff, Nat.reduceEqDiff, Nat.reduceAdd, Nat.reduceBEq, Int.reduceEq, H.cv_3_66, H.cv_3_68, H.cv_68_3, t0, hv.same, hv.disc, hv.sl.elems, e0, happ]
  refine hN _ ?_; clear hN N
  refine .ghost (.lim (i := 5) (own := true) (sz := 1) (es := []) (lim := some 0) (by simp [upd_at])) ?_
  refine A_seq_gen fun N hN => W_sound ?_
  refine W_forget (fun t => t 0 = v ∧ t 5 = .bs false 1 [] none ∧ True) (by simp [upd_at, *] <;> and_intros <;> rfl) ?_; rintro t ⟨t0, t5, -⟩
  have hvl := fun (t : Nat → AV) (h : Heap) => hv.sl.len (t := t) (h := h)
  simp (disch := omega) only [go_sem, ↓reduceIte, true_and, Nat.reduceLeDiff, Nat.reduceEqDiff, Nat.reduceAdd, Nat.reduceBEq, Int.reduceEq, H.cv_3_66, H.cv_3_68, H.cv_68_3, t0, hv.same, hv.disc, hvl, t5, nat_mul, Nat.mul_zero, List.length_nil, e0]
  rfl
 ·have hb0 : 0 < b.length := List.length_pos_iff.2 cb
  have hbv : bendB b w = bendN b (w % ((8 * b.length : Nat) : Int)).toNat (patW w) 24 := by
   unfold bendB
   rw [if_neg cb]
  have happ := fun (t : Nat → AV) (h : Heap) (z : List AV) (own : Bool) => appO_new (own := own) (sz := 1) (bytes := 1) (z := z) (t := t) (h := h) (ys := u8s b) (by rw [hlen]; omega) (by rw [hlen]; omega)
  rw [ge_u8s.disc] at happ
  simp (disch := omega) only [go_sem, ↓reduceIte, true_and, Nat.reduceLeDiff, Nat.reduceEqDiff, Nat.reduceAdd, Nat.reduceBEq, Int.reduceEq, H.cv_3_66, H.cv_3_68, H.cv_68_3, t0, hv.same, hv.disc, hv.sl.elems, happ]
  intro o cap ho0 hle
  have hk0 : ∀ x, h x ≠ none → (upd h o (some (.arr ((u8s b).flatten ++ (List.replicate (cap - b.length) [AV.sc (Value.int IntKind.u8 ((0 : Nat) : Int))]).flatten)))) x = h x := fun x hx => upd_ne _ _ fun e => hx (by rw [e]; exact ho0)
  have ho : (upd h o (some (.arr ((u8s b).flatten ++ (List.replicate (cap - b.length) [AV.sc (Value.int IntKind.u8 ((0 : Nat) : Int))]).flatten)))) o = some (.arr ((u8s b).flatten ++ (List.replicate (cap - b.length) [AV.sc (Value.int IntKind.u8 ((0 : Nat) : Int))]).flatten)) := upd_same ..
  refine hN _ ?_; clear hN N
  refine A_seq_gen fun N hN => W_sound ?_
  refine W_forget (fun t => t 0 = v ∧ t 1 = .sc (.int .i64 w) ∧ t 5 = .rs o 0 1 b.length (some cap) ∧ True) (by simp [upd_at, *] <;> and_intros <;> rfl) ?_; rintro t ⟨t0, t1, t5, -⟩
  generalize (upd h o (some (.arr ((u8s b).flatten ++ (List.replicate (cap - b.length) [AV.sc (Value.int IntKind.u8 ((0 : Nat) : Int))]).flatten)))) = h1 at hk0 ho
  generalize (List.replicate (cap - b.length) [AV.sc (Value.int IntKind.u8 ((0 : Nat) : Int))]).flatten = z at ho
  have c8 : decide (b.length = 0) = false := decide_eq_false (by omega)
  simp (disch := omega) only [go_sem, ↓reduceIte, true_and, Nat.reduceLeDiff, Nat.reduceEqDiff, Nat.reduceAdd, Nat.reduceBEq, Int.reduceEq, H.cv_3_66, H.cv_3_68, H.cv_68_3, t0, hv.same, hv.disc, hv.sl.len, hlen, c8]
  refine hN _ ?_; clear hN N
  refine A_seq_gen fun N hN => W_sound ?_
  refine W_forget (fun t => t 0 = v ∧ t 1 = .sc (.int .i64 w) ∧ t 5 = .rs o 0 1 b.length (some cap) ∧ True) (by simp [upd_at, *] <;> and_intros <;> rfl) ?_; rintro t ⟨t0, t1, t5, -⟩
  obtain ⟨p, hp⟩ : ∃ p, p = (w % ((8 * b.length : Nat) : Int)).toNat := ⟨_, rfl⟩
  have hpi : w % ((8 * b.length : Nat) : Int) = (p : Int) := by
   have := Int.emod_nonneg w (show ((8 * b.length : Nat) : Int) ≠ 0 by omega)
   omega
  have hpl : p < 8 * b.length := by
   have := Int.emod_lt_of_pos w (show (0 : Int) < ((8 * b.length : Nat) : Int) by omega)
   omega
  rw [← hp] at hbv
  simp (disch := omega) only [go_sem, ↓reduceIte, true_and, Nat.reduceLeDiff, Nat.reduceEqDiff, Nat.reduceAdd, Nat.reduceBEq, Int.reduceEq, H.cv_3_66, H.cv_3_68, H.cv_68_3, t0, t1, hv.same, hv.disc, hv.sl.len, hlen, nat_mul]
  refine (at_ok H w (n := 8 * b.length) (by omega) (by omega) _).mono ?_
  rw [hpi]
  rintro _ _ ⟨rfl, hh⟩; subst hh
  rw [contK_some]; simp (disch := omega) only [go_sem, ↓reduceIte, true_and, Nat.reduceLeDiff, Nat.reduceEqDiff, Nat.reduceAdd, Nat.reduceBEq, Int.reduceEq, H.cv_3_66, H.cv_3_68, H.cv_68_3]
  refine hN _ ?_; clear hN N
  refine A_seq_gen fun N hN => W_sound ?_
  refine W_forget (fun t => t 0 = v ∧ t 1 = .sc (.int .i64 w) ∧ t 5 = .rs o 0 1 b.length (some cap) ∧ t 6 = .sc (.int .i64 (p : Nat)) ∧ True) (by simp [upd_at, *] <;> and_intros <;> rfl) ?_; rintro t ⟨t0, t1, t5, t6, -⟩
  obtain ⟨m, hm⟩ : ∃ m, m = patW w := ⟨_, rfl⟩
  have hml : m < 4294967296 := by rw [hm]; unfold patW; omega
  have hw1 : IntKind.u32.wrap (((((w % 4294967296).toNat * 40503) % 4294967296 : Nat) : Int) + ((1 : Nat) : Int)) = (m : Int) := by rw [nat_add, u32_nat, hm]; rfl
  have hw2 : IntKind.u32.wrap ((((w % 4294967296).toNat : Nat) : Int) * ((40503 : Nat) : Int)) = ((((w % 4294967296).toNat * 40503) % 4294967296 : Nat) : Int) := by rw [nat_mul, u32_nat]
  have hw3 := @u32_of w
  rw [← hm] at hbv
  generalize ((w % 4294967296).toNat) = y at hw1 hw2 hw3
  generalize y * 40503 % 4294967296 = y2 at hw1 hw2
  simp (disch := omega) only [go_sem, ↓reduceIte, true_and, Nat.reduceLeDiff, Nat.reduceEqDiff, Nat.reduceAdd, Nat.reduceBEq, Int.reduceEq, H.cv_3_66, H.cv_3_68, H.cv_68_3, t1, hw3, hw2, hw1]
  refine hN _ ?_; clear hN N
  refine A_seq_gen fun M hM => W_sound ?_
  refine W_forget (fun t => t 0 = v ∧ t 5 = .rs o 0 1 b.length (some cap) ∧ t 6 = .sc (.int .i64 (p : Nat)) ∧ t 7 = .sc (.int .u32 (m : Nat)) ∧ True) (by simp [upd_at, *] <;> and_intros <;> rfl) ?_; rintro t ⟨t0, t5, t6, t7, -⟩
  simp (disch := omega) only [go_sem, ↓reduceIte, true_and, Nat.reduceLeDiff, Nat.reduceEqDiff, Nat.reduceAdd, Nat.reduceBEq, Int.reduceEq, H.cv_3_66, H.cv_3_68, H.cv_68_3]
  refine AW_loopN (fun k t h' => ∃ i q, k = 24 - i ∧ i ≤ 24 ∧ q = bendN b p m i ∧ (∀ x, h x ≠ none → h' x = h x) ∧ h' o = some (.arr ((u8s q).flatten ++ z)) ∧ t 0 = v ∧ t 5 = .rs o 0 1 b.length (some cap) ∧ t 6 = .sc (.int .i64 (p : Nat)) ∧ t 7 = .sc (.int .u32 (m : Nat)) ∧ t 8 = .sc (.int .i64 (i : Nat)))
   (n := 24) ⟨0, b, rfl, by omega, rfl, hk0, ho, by simp [upd_at, t0], by simp [upd_at, t5], by simp [upd_at, t6], by simp [upd_at, t7], by simp [upd_at]⟩ ?_
  clear t0 t5 t6 t7 hk0 ho t
  rintro k t h' ⟨i, q, rfl, hi, hqe, hk0, ho, t0, t5, t6, t7, t8⟩
  have hq : q.length = b.length := by rw [hqe, bendN_len]
  have hvl := fun (t : Nat → AV) (h : Heap) => hv.sl.len (t := t) (h := h)
  by_cases c : i < 24
  ·(refine W_seq_gen fun N hN => ?_); simp (disch := omega) only [go_sem, ↓reduceIte, true_and, Nat.reduceLeDiff, Nat.reduceEqDiff, Nat.reduceAdd, Nat.reduceBEq, Int.reduceEq, H.cv_3_66, H.cv_3_68, H.cv_68_3, t8, c]
   refine hN _ ?_; clear hN N
   (refine W_seq_gen fun K hK => ?_)
   rw [W_block]
   (refine W_seq_gen fun N hN => ?_); simp (disch := omega) only [go_sem, ↓reduceIte, true_and, Nat.reduceLeDiff, Nat.reduceEqDiff, Nat.reduceAdd, Nat.reduceBEq, Int.reduceEq, H.cv_3_66, H.cv_3_68, H.cv_68_3, t6, t8, nat_add]
   refine hN _ ?_; clear hN N
   have hsucc : bendN b p m (i + 1) = stepW p m q i := by rw [bendN_succ, hqe]
   have wu : IntKind.u64.wrap ((i : Nat) : Int) = ((i : Nat) : Int) := by rw [wrap_u64m]; omega
   have r2 : (((m / 2 ^ i : Nat) : Int)).tmod ((2 : Nat) : Int) = ((m / 2 ^ i % 2 : Nat) : Int) := rfl
   by_cases d2 : p + i < 8 * b.length
   ·have dd2 : decide (p + i < 8 * b.length) = true := decide_eq_true d2
    by_cases d : m / 2 ^ i % 2 = 1
    ·have dd : decide (m / 2 ^ i % 2 = 1) = true := decide_eq_true d
     have hp8 : (p + i) / 8 < q.length := by omega
     have hat := at_u8s q z hp8
     have hlt := q[(p + i) / 8].toNat_lt
     have h2e : 2 ^ (7 - (p + i) % 8) < 256 := Nat.pow_lt_pow_right (n := 8) (by decide) (by omega)
     have hx := sb_xor (P := P) (ty := 5) (k := .u8) (a := q[(p + i) / 8].toNat) (b := 2 ^ (7 - (p + i) % 8)) rfl (by exact hlt) (by exact h2e)
     have r8 : (((p + i : Nat) : Int)).tmod ((8 : Nat) : Int) = (((p + i) % 8 : Nat) : Int) := rfl
     have s7 : ((7 : Nat) : Int) - (((p + i) % 8 : Nat) : Int) = ((7 - (p + i) % 8 : Nat) : Int) := by omega
     have w7 : IntKind.u64.wrap ((7 - (p + i) % 8 : Nat) : Int) = ((7 - (p + i) % 8 : Nat) : Int) := by rw [wrap_u64m]; omega
     have hset := setW (z := z) hp8
     have hll : (p + i) / 8 + 1 ≤ ((u8s q).flatten ++ z).length := by rw [List.length_append, flat_u8s, List.length_map]; omega
     have hiad := fun (t : Nat → AV) (h : Heap) => iad_rs (o := o) (n := b.length) (lim := some cap) (t := t) (h := h) (show (p + i) / 8 < b.length by omega)
     simp (disch := omega) only [go_sem, ↓reduceIte, true_and, Nat.reduceLeDiff, Nat.reduceEqDiff, Nat.reduceAdd, Nat.reduceBEq, Int.reduceEq, H.cv_3_66, H.cv_3_68, H.cv_68_3, t0, t5, t7, t8, hv.same, hv.disc, hvl, hlen, nat_mul, sb_shr32, wu, r2, d, dd, d2, dd2, nat_add, r8, s7, w7, sb_q8, hiad, sb_sh8, ho, hll, hat, single1, hx, hset]
     refine hK _ ?_; clear hK K
     simp (disch := omega) only [go_sem, ↓reduceIte, true_and, Nat.reduceLeDiff, Nat.reduceEqDiff, Nat.reduceAdd, Nat.reduceBEq, Int.reduceEq, H.cv_3_66, H.cv_3_68, H.cv_68_3, t8, nat_add]
     exact ⟨24 - (i + 1), by omega, i + 1, turn q (p + i), rfl, by omega, by rw [hsucc]; unfold stepW; rw [if_pos ⟨d, by omega⟩], fun x hx => by rw [if_neg (fun e => hx (by rw [e]; exact ho0))]; exact hk0 x hx, by simp [upd, ho], by simp [upd_at, t0], by simp [upd_at, t5], by simp [upd_at, t6], by simp [upd_at, t7], by simp [upd_at]⟩
    ·have dd : decide (m / 2 ^ i % 2 = 1) = false := decide_eq_false d
     simp (disch := omega) only [go_sem, ↓reduceIte, true_and, Nat.reduceLeDiff, Nat.reduceEqDiff, Nat.reduceAdd, Nat.reduceBEq, Int.reduceEq, H.cv_3_66, H.cv_3_68, H.cv_68_3, t0, t7, t8, hv.same, hv.disc, hvl, hlen, nat_mul, sb_shr32, wu, r2, d, dd, d2, dd2]
     refine hK _ ?_; clear hK K
     simp (disch := omega) only [go_sem, ↓reduceIte, true_and, Nat.reduceLeDiff, Nat.reduceEqDiff, Nat.reduceAdd, Nat.reduceBEq, Int.reduceEq, H.cv_3_66, H.cv_3_68, H.cv_68_3, t8, nat_add]
     exact ⟨24 - (i + 1), by omega, i + 1, q, rfl, by omega, by rw [hsucc]; unfold stepW; rw [if_neg (fun q => d q.1)], hk0, by simp [upd, ho], by simp [upd_at, t0], by simp [upd_at, t5], by simp [upd_at, t6], by simp [upd_at, t7], by simp [upd_at]⟩
   ·have dd2 : decide (p + i < 8 * b.length) = false := decide_eq_false d2
    simp (disch := omega) only [go_sem, ↓reduceIte, true_and, Nat.reduceLeDiff, Nat.reduceEqDiff, Nat.reduceAdd, Nat.reduceBEq, Int.reduceEq, H.cv_3_66, H.cv_3_68, H.cv_68_3, t0, t7, t8, hv.same, hv.disc, hvl, hlen, nat_mul, d2, dd2]
    refine hK _ ?_; clear hK K
    simp (disch := omega) only [go_sem, ↓reduceIte, true_and, Nat.reduceLeDiff, Nat.reduceEqDiff, Nat.reduceAdd, Nat.reduceBEq, Int.reduceEq, H.cv_3_66, H.cv_3_68, H.cv_68_3, t8, nat_add]
    exact ⟨24 - (i + 1), by omega, i + 1, q, rfl, by omega, by rw [hsucc]; unfold stepW; rw [if_neg (fun q => d2 (by omega))], hk0, by simp [upd, ho], by simp [upd_at, t0], by simp [upd_at, t5], by simp [upd_at, t6], by simp [upd_at, t7], by simp [upd_at]⟩
  ·(refine W_seq_gen fun N hN => ?_); simp (disch := omega) only [go_sem, ↓reduceIte, true_and, Nat.reduceLeDiff, Nat.reduceEqDiff, Nat.reduceAdd, Nat.reduceBEq, Int.reduceEq, H.cv_3_66, H.cv_3_68, H.cv_68_3, t8, c]
   refine hM _ ?_
   obtain rfl : i = 24 := by omega
   have hcl : 0 + b.length * 1 ≤ ((u8s q).flatten ++ z).length := by rw [List.length_append, flat_u8s, List.length_map]; omega
   have hch : chunks 1 b.length ((((u8s q).flatten ++ z).drop 0).map AV.disc) = u8s q := by
    have := (ge_u8s (l := q)).chunks (z.map AV.disc)
    rw [u8s_len, hq] at this
    rw [List.drop_zero, List.map_append, (ge_u8s (l := q)).disc, this]
   refine .ghost (.slot (i := 5) (o := o) (c := 0) (sz := 1) (n := b.length) (lim := some cap) false (by simp [upd_at, t5]) ho hcl (fun q => by cases q)) ?_
   rw [hch]
   refine .ghost (.lim (i := 5) (own := false) (sz := 1) (es := u8s q) (lim := some cap) (by simp [upd_at])) (W_sound ?_)
   simp (disch := omega) only [go_sem, ↓reduceIte, true_and, Nat.reduceLeDiff, Nat.reduceEqDiff, Nat.reduceAdd, Nat.reduceBEq, Int.reduceEq, H.cv_3_66, H.cv_3_68, H.cv_68_3]
   exact ⟨by rw [hbv, hqe], fun x hx => by rw [if_neg (fun e => hx (by rw [e]; exact ho0))]; exact hk0 x hx⟩
end Go.Proofs.Ytomfknocpijmbaa
end
section
set_option linter.unusedVariables false
set_option linter.unusedSimpArgs false
namespace Go.Proofs.Ytomfknocpijmbaa
open Go.Am
noncomputable def sameB (E E' : Eth) : Bool := @decide (E = E') (Classical.propDecidable _)
theorem sameB_true {E E' : Eth} : sameB E E' = true ↔ E = E' := by unfold sameB; simp
theorem sameB_no {E E' : Eth} (h : E ≠ E') : sameB E E' = false := by
 cases c : sameB E E' with
 | false => rfl
 | true => exact absurd (sameB_true.1 c) h
theorem neN {a b : Nat} : ((a : Int) != (b : Int)) = !decide (a = b) := by
 by_cases c : a = b
 ·subst c; simp
 ·have : (a : Int) ≠ (b : Int) := by omega
  simp [c, this]
theorem neI {a b : Int} : (a != b) = !decide (a = b) := by
 by_cases c : a = b
 ·subst c; simp
 ·simp [c]
variable {P : Program} (H : Has P)
include H
set_option maxHeartbeats 2000000 in
theorem same_ok (hNE : ∀ p q : Bool, scalarBin P .neq 4 (.bool p) (.bool q) = some (.bool (p != q)))
  (hA : ∀ a b c d : Int, scalarBin P .neq 69 (.agg #[.int .i64 a, .int .i64 b]) (.agg #[.int .i64 c, .int .i64 d]) = some (.bool (!(a == c && b == d))))
  {bv cv bv' cv' : AV} {E E' : Eth} {bes ces bes' ces' : List (List AV)} (hbv : SF 3 bv bes) (hB : RR BgR bes E.bags) (hcv : SF 2 cv ces) (hC : RR CK ces E.cuts)
  (hbv' : SF 3 bv' bes') (hB' : RR BgR bes' E'.bags) (hcv' : SF 2 cv' ces') (hC' : RR CK ces' E'.cuts) (hz : Szd E) (h : Heap) :
  AWF P ann 0 14 [.ag [bv, cv], .ag [bv', cv']] h fun r h' => r = .sc (.bool (sameB E E')) ∧ h' = h := by
 refine AWF.fnPurec H.f0_14 rfl ?_
 have e1 := hC.len
 have e2 := hB.len
 have e1' := hC'.len
 have e2' := hB'.len
 obtain ⟨z1, z2, z3⟩ := hz
 (refine W_seq_gen fun N hN => ?_); simp (disch := omega) only [go_sem, ↓reduceIte, true_and, Nat.reduceLeDiff, Nat.reduceEqDiff, Nat.reduceAdd, Nat.reduceBEq, Int.reduceEq, H.cv_3_66, H.cv_3_68, H.cv_68_3, hbv.disc, hcv.disc, hbv'.disc, hcv'.disc]
 intro o2 ho2 o3 ho3
 obtain ⟨h2, hh, f2, f3, hk⟩ := box2 ho2 ho3 (Y := some (.arr [bv', cv']))
 refine hN _ ?_; clear hN N
 rw [hh]
 clear hh ho2 ho3
 refine W_forget (fun t => t 2 = .op o2 0 ∧ t 3 = .op o3 0 ∧ True) (by simp [upd_at, *] <;> and_intros <;> rfl) ?_; rintro t ⟨t2, t3, -⟩
 rcases (Decidable.em (E.cuts.length = E'.cuts.length)).symm with c1 | c1
 ·have hn : sameB E E' = false := sameB_no fun q => c1 (by rw [q])
  (refine W_seq_gen fun N hN => ?_); simp (disch := omega) only [go_sem, ↓reduceIte, true_and, Nat.reduceLeDiff, Nat.reduceEqDiff, Nat.reduceAdd, Nat.reduceBEq, Int.reduceEq, H.cv_3_66, H.cv_3_68, H.cv_68_3, t2, t3, f2, f3, hcv.same, hcv'.same, hcv.disc, hcv'.disc, hcv.sl.len, hcv'.sl.len, e1, e1', neN, c1]
  exact ⟨hn.symm, hk⟩
 rcases (Decidable.em (E.bags.length = E'.bags.length)).symm with c2 | c2
 ·have hn : sameB E E' = false := sameB_no fun q => c2 (by rw [q])
  (refine W_seq_gen fun N hN => ?_); simp (disch := omega) only [go_sem, ↓reduceIte, true_and, Nat.reduceLeDiff, Nat.reduceEqDiff, Nat.reduceAdd, Nat.reduceBEq, Int.reduceEq, H.cv_3_66, H.cv_3_68, H.cv_68_3, t2, t3, f2, f3, hcv.same, hcv'.same, hcv.disc, hcv'.disc, hcv.sl.len, hcv'.sl.len, hbv.same, hbv'.same, hbv.disc, hbv'.disc, hbv.sl.len, hbv'.sl.len, e1, e1', e2, e2', neN, c1, c2]
  exact ⟨hn.symm, hk⟩
 have d1 : decide (E.cuts.length = E'.cuts.length) = true := decide_eq_true c1
 have d2 : decide (E.bags.length = E'.bags.length) = true := decide_eq_true c2
 (refine W_seq_gen fun N hN => ?_); simp (disch := omega) only [go_sem, ↓reduceIte, true_and, Nat.reduceLeDiff, Nat.reduceEqDiff, Nat.reduceAdd, Nat.reduceBEq, Int.reduceEq, H.cv_3_66, H.cv_3_68, H.cv_68_3, t2, t3, f2, f3, hcv.same, hcv'.same, hcv.disc, hcv'.disc, hcv.sl.len, hcv'.sl.len, hbv.same, hbv'.same, hbv.disc, hbv'.disc, hbv.sl.len, hbv'.sl.len, e1, e1', e2, e2', neN, d1, d2]
 refine hN _ ?_; clear hN N
 clear d1 d2
 refine W_forget (fun t => t 2 = .op o2 0 ∧ t 3 = .op o3 0 ∧ True) (by simp [upd_at, *] <;> and_intros <;> rfl) ?_; rintro t ⟨t2, t3, -⟩
 (refine W_seq_gen fun M hM => ?_)
 (refine W_seq_gen fun N hN => ?_); simp (disch := omega) only [go_sem, ↓reduceIte, true_and, Nat.reduceLeDiff, Nat.reduceEqDiff, Nat.reduceAdd, Nat.reduceBEq, Int.reduceEq, H.cv_3_66, H.cv_3_68, H.cv_68_3]
 refine hN _ ?_; clear hN N
 simp (disch := omega) only [go_sem, ↓reduceIte, true_and, Nat.reduceLeDiff, Nat.reduceEqDiff, Nat.reduceAdd, Nat.reduceBEq, Int.reduceEq, H.cv_3_66, H.cv_3_68, H.cv_68_3]
 refine AW_loopN (fun m t h' => (∀ x, ¬ h x = none → h' x = h x) ∧ h' o2 = some (.arr [bv, cv]) ∧ h' o3 = some (.arr [bv', cv']) ∧ ∃ i, m = E.cuts.length - i ∧ i ≤ E.cuts.length ∧ t 2 = .op o2 0 ∧ t 3 = .op o3 0 ∧ t 5 = .sc (.int .i64 (i : Nat)) ∧ ∀ j, j < i → E.cuts[j]? = E'.cuts[j]?)
  (n := E.cuts.length) ⟨hk, f2, f3, 0, rfl, Nat.zero_le _, by simp [upd_at, t2], by simp [upd_at, t3], by simp [upd_at], fun j hj => by omega⟩ ?_
 clear t2 t3 t hk f2 f3
 rintro m t h' ⟨hk, f2, f3, i, rfl, hi, t2, t3, t5, hgood⟩
 rcases Nat.lt_or_ge i E.cuts.length with hlt | hge
 ·obtain ⟨e, g0, rfl⟩ := hC.lt hlt
  obtain ⟨e', g0', rfl⟩ := hC'.lt (i := i) (by omega)
  have d0 : decide (i < E.cuts.length) = true := by simpa using hlt
  (refine W_seq_gen fun N hN => ?_); simp (disch := omega) only [go_sem, ↓reduceIte, true_and, Nat.reduceLeDiff, Nat.reduceEqDiff, Nat.reduceAdd, Nat.reduceBEq, Int.reduceEq, H.cv_3_66, H.cv_3_68, H.cv_68_3, t2, t5, f2, hcv.same, hcv.disc, hcv.sl.len, e1, d0]
  refine hN _ ?_; clear hN N
  (refine W_seq_gen fun R hR => ?_)
  rw [W_block]
  cases c3 : (E.cuts[i].1 == E'.cuts[i].1 && E.cuts[i].2 == E'.cuts[i].2) with
  | true =>
   simp (disch := omega) only [go_sem, ↓reduceIte, true_and, Nat.reduceLeDiff, Nat.reduceEqDiff, Nat.reduceAdd, Nat.reduceBEq, Int.reduceEq, H.cv_3_66, H.cv_3_68, H.cv_68_3, t2, t3, t5, f2, f3, hcv.same, hcv'.same, hcv.disc, hcv'.disc, hcv.sl.ia, hcv'.sl.ia, g0, g0', hA, c3]
   refine hR _ ?_; clear hR R
   simp (disch := omega) only [go_sem, ↓reduceIte, true_and, Nat.reduceLeDiff, Nat.reduceEqDiff, Nat.reduceAdd, Nat.reduceBEq, Int.reduceEq, H.cv_3_66, H.cv_3_68, H.cv_68_3, t5, nat_add]
   refine ⟨E.cuts.length - (i + 1), by omega, hk, f2, f3, i + 1, rfl, by omega, by simp [upd_at, t2], by simp [upd_at, t3], by simp [upd_at], fun j hj => ?_⟩
   rcases Nat.lt_or_ge j i with q | q
   ·exact hgood j q
   ·obtain rfl : j = i := by omega
    rw [Bool.and_eq_true, beq_iff_eq, beq_iff_eq] at c3
    rw [List.getElem?_eq_getElem hlt, List.getElem?_eq_getElem (by omega)]
    exact congrArg some (Prod.ext c3.1 c3.2)
  | false =>
   simp (disch := omega) only [go_sem, ↓reduceIte, true_and, Nat.reduceLeDiff, Nat.reduceEqDiff, Nat.reduceAdd, Nat.reduceBEq, Int.reduceEq, H.cv_3_66, H.cv_3_68, H.cv_68_3, t2, t3, t5, f2, f3, hcv.same, hcv'.same, hcv.disc, hcv'.disc, hcv.sl.ia, hcv'.sl.ia, g0, g0', hA, c3]
   have hn : sameB E E' = false := sameB_no fun q => by
    subst q
    simp at c3
   exact ⟨hn.symm, hk⟩
 ·obtain rfl : i = E.cuts.length := by omega
  have hcut : E.cuts = E'.cuts := by
   refine List.ext_getElem? fun j => ?_
   rcases Nat.lt_or_ge j E.cuts.length with q | q
   ·exact hgood j q
   ·rw [List.getElem?_eq_none q, List.getElem?_eq_none (by omega)]
  (refine W_seq_gen fun N hN => ?_); simp (disch := omega) only [go_sem, ↓reduceIte, true_and, Nat.reduceLeDiff, Nat.reduceEqDiff, Nat.reduceAdd, Nat.reduceBEq, Int.reduceEq, H.cv_3_66, H.cv_3_68, H.cv_68_3, t2, t5, f2, hcv.same, hcv.disc, hcv.sl.len, e1, Nat.lt_irrefl]
  refine hM _ ?_; clear hN N hM M
  clear hgood
  refine W_forget (fun t => t 2 = .op o2 0 ∧ t 3 = .op o3 0 ∧ True) (by simp [upd_at, *] <;> and_intros <;> rfl) ?_; rintro t ⟨t2, t3, -⟩
  (refine W_seq_gen fun M hM => ?_)
  (refine W_seq_gen fun N hN => ?_); simp (disch := omega) only [go_sem, ↓reduceIte, true_and, Nat.reduceLeDiff, Nat.reduceEqDiff, Nat.reduceAdd, Nat.reduceBEq, Int.reduceEq, H.cv_3_66, H.cv_3_68, H.cv_68_3]
  refine hN _ ?_; clear hN N
  simp (disch := omega) only [go_sem, ↓reduceIte, true_and, Nat.reduceLeDiff, Nat.reduceEqDiff, Nat.reduceAdd, Nat.reduceBEq, Int.reduceEq, H.cv_3_66, H.cv_3_68, H.cv_68_3]
  refine AW_loopN (fun m t h' => (∀ x, ¬ h x = none → h' x = h x) ∧ h' o2 = some (.arr [bv, cv]) ∧ h' o3 = some (.arr [bv', cv']) ∧ ∃ i, m = E.bags.length - i ∧ i ≤ E.bags.length ∧ t 2 = .op o2 0 ∧ t 3 = .op o3 0 ∧ t 6 = .sc (.int .i64 (i : Nat)) ∧ ∀ j, j < i → E.bags[j]? = E'.bags[j]?)
   (n := E.bags.length) ⟨hk, f2, f3, 0, rfl, Nat.zero_le _, by simp [upd_at, t2], by simp [upd_at, t3], by simp [upd_at], fun j hj => by omega⟩ ?_
  clear t2 t3 t hk f2 f3
  rintro m t h' ⟨hk, f2, f3, i, rfl, hi, t2, t3, t6, hgood⟩
  rcases Nat.lt_or_ge i E.bags.length with hlt | hge
  ·obtain ⟨e, g0, lv, xs, rfl, hlv, hxs⟩ := hB.lt hlt
   obtain ⟨e', g0', lv', xs', rfl, hlv', hxs'⟩ := hB'.lt (i := i) (by omega)
   have d0 : decide (i < E.bags.length) = true := by simpa using hlt
   (refine W_seq_gen fun N hN => ?_); simp (disch := omega) only [go_sem, ↓reduceIte, true_and, Nat.reduceLeDiff, Nat.reduceEqDiff, Nat.reduceAdd, Nat.reduceBEq, Int.reduceEq, H.cv_3_66, H.cv_3_68, H.cv_68_3, t2, t6, f2, hbv.same, hbv.disc, hbv.sl.len, e2, d0]
   refine hN _ ?_; clear hN N
   (refine W_seq_gen fun R hR => ?_)
   rw [W_block]
   (refine W_seq_gen fun N hN => ?_); refine ln14_51 ?_; simp (disch := omega) only [go_sem, ↓reduceIte, true_and, Nat.reduceLeDiff, Nat.reduceEqDiff, Nat.reduceAdd, Nat.reduceBEq, Int.reduceEq, H.cv_3_66, H.cv_3_68, H.cv_68_3, t2, t3, t6, f2, f3, hbv.same, hbv'.same, hbv.disc, hbv'.disc, hbv.sl.ia, hbv'.sl.ia, g0, g0', hlv.disc, hlv'.disc]
   intro o7 ho7 o8 ho8
   obtain ⟨h3, hh, f7, f8, hk3⟩ := box2 ho7 ho8 (Y := some (.arr [.sc (.int .i64 ((0 : Nat) : Int)), .sc (.int .i64 ((0 : Nat) : Int)), .sc (.slice none 0 0)]))
   rw [hh]
   have n2 : h3 o2 = some (.arr [bv, cv]) := (hk3 o2 (by rw [f2]; simp)).trans f2
   have n3 : h3 o3 = some (.arr [bv', cv']) := (hk3 o3 (by rw [f3]; simp)).trans f3
   have n78 : o7 ≠ o8 := fun e => by subst e; simp at ho8
   have n72 : o7 ≠ o2 := fun e => by subst e; rw [f2] at ho7; cases ho7
   have n73 : o7 ≠ o3 := fun e => by subst e; rw [f3] at ho7; cases ho7
   have n8 : h' o8 = none := by simpa [n78.symm] using ho8
   have n82 : o8 ≠ o2 := fun e => by subst e; rw [f2] at n8; cases n8
   have n83 : o8 ≠ o3 := fun e => by subst e; rw [f3] at n8; cases n8
   have n87 := n78.symm
   have setR3 : ∀ (a b c x y z : AV), setRange [a, b, c] 0 [x, y, z] = [x, y, z] := fun _ _ _ _ _ _ => rfl
   simp (disch := omega) only [go_sem, ↓reduceIte, true_and, Nat.reduceLeDiff, Nat.reduceEqDiff, Nat.reduceAdd, Nat.reduceBEq, Int.reduceEq, H.cv_3_66, H.cv_3_68, H.cv_68_3, f7, f8, n78, n87, setR3, hlv.disc, hlv'.disc]
   refine ⟨⟨by rw [if_neg n73.symm], fun _ q => by cases q⟩, ?_⟩
   have g7 : (upd (upd h3 o7 (some (.arr [.sc (.int .i64 E.bags[i].k.1), .sc (.int .i64 E.bags[i].k.2), lv]))) o8 (some (.arr [.sc (.int .i64 E'.bags[i].k.1), .sc (.int .i64 E'.bags[i].k.2), lv']))) o7 = some (.arr [.sc (.int .i64 E.bags[i].k.1), .sc (.int .i64 E.bags[i].k.2), lv]) := by rw [upd_ne _ _ n78, upd_same]
   have g8 : (upd (upd h3 o7 (some (.arr [.sc (.int .i64 E.bags[i].k.1), .sc (.int .i64 E.bags[i].k.2), lv]))) o8 (some (.arr [.sc (.int .i64 E'.bags[i].k.1), .sc (.int .i64 E'.bags[i].k.2), lv']))) o8 = some (.arr [.sc (.int .i64 E'.bags[i].k.1), .sc (.int .i64 E'.bags[i].k.2), lv']) := upd_same ..
   have gk : ∀ x, h' x ≠ none → (upd (upd h3 o7 (some (.arr [.sc (.int .i64 E.bags[i].k.1), .sc (.int .i64 E.bags[i].k.2), lv]))) o8 (some (.arr [.sc (.int .i64 E'.bags[i].k.1), .sc (.int .i64 E'.bags[i].k.2), lv']))) x = h' x := fun x hx => by
    rw [upd_ne _ _ (fun e => hx (by rw [e]; exact n8)), upd_ne _ _ (fun e => hx (by rw [e]; exact ho7))]
    exact hk3 x hx
   generalize upd (upd h3 o7 (some (.arr [.sc (.int .i64 E.bags[i].k.1), .sc (.int .i64 E.bags[i].k.2), lv]))) o8 (some (.arr [.sc (.int .i64 E'.bags[i].k.1), .sc (.int .i64 E'.bags[i].k.2), lv'])) = h4 at g7 g8 gk
   have g2 := (gk o2 (by rw [f2]; simp)).trans f2
   have g3 := (gk o3 (by rw [f3]; simp)).trans f3
   have gkk : ∀ x, ¬ h x = none → h4 x = h x := fun x hx => (gk x (by rw [hk x hx]; exact hx)).trans (hk x hx)
   clear n2 n3 n78 n72 n73 n8 n82 n83 n87 f7 f8 hk3 hh gk ho7 ho8 h3 hk f2 f3
   refine hN _ ?_; clear hN N
   refine W_forget (fun t => t 2 = .op o2 0 ∧ t 3 = .op o3 0 ∧ t 6 = .sc (.int .i64 (i : Nat)) ∧ t 7 = .op o7 0 ∧ t 8 = .op o8 0 ∧ True) (by simp [upd_at, *] <;> and_intros <;> rfl) ?_; rintro t ⟨t2, t3, t6, t7, t8, -⟩
   have e4 := hxs.len
   have e4' := hxs'.len
   have no : E.bags[i] ≠ E'.bags[i] → sameB E E' = false := fun q => sameB_no fun r => q (by subst r; rfl)
   generalize hb : E.bags[i] = b at *
   generalize hb' : E'.bags[i] = b' at *
   rcases (Decidable.em (b.k.1 = b'.k.1)).symm with c3 | c3
   ·simp (disch := omega) only [go_sem, ↓reduceIte, true_and, Nat.reduceLeDiff, Nat.reduceEqDiff, Nat.reduceAdd, Nat.reduceBEq, Int.reduceEq, H.cv_3_66, H.cv_3_68, H.cv_68_3, t7, t8, g7, g8, neI, c3]
    exact ⟨(no fun q => c3 (by rw [q])).symm, gkk⟩
   rcases (Decidable.em (b.k.2 = b'.k.2)).symm with c4 | c4
   ·simp (disch := omega) only [go_sem, ↓reduceIte, true_and, Nat.reduceLeDiff, Nat.reduceEqDiff, Nat.reduceAdd, Nat.reduceBEq, Int.reduceEq, H.cv_3_66, H.cv_3_68, H.cv_68_3, t7, t8, g7, g8, neI, c3, c4]
    exact ⟨(no fun q => c4 (by rw [q])).symm, gkk⟩
   rcases (Decidable.em (b.l.length = b'.l.length)).symm with c5 | c5
   ·have c5i : ¬ ((b.l.length : Int) = (b'.l.length : Int)) := by omega
    simp (disch := omega) only [go_sem, ↓reduceIte, true_and, Nat.reduceLeDiff, Nat.reduceEqDiff, Nat.reduceAdd, Nat.reduceBEq, Int.reduceEq, H.cv_3_66, H.cv_3_68, H.cv_68_3, t7, t8, g7, g8, neI, c3, c4, c5i, hlv.same, hlv'.same, hlv.disc, hlv'.disc, hlv.sl.len, hlv'.sl.len, e4, e4']
    exact ⟨(no fun q => c5 (by rw [q])).symm, gkk⟩
   (refine W_seq_gen fun N hN => ?_); simp (disch := omega) only [go_sem, ↓reduceIte, true_and, Nat.reduceLeDiff, Nat.reduceEqDiff, Nat.reduceAdd, Nat.reduceBEq, Int.reduceEq, H.cv_3_66, H.cv_3_68, H.cv_68_3, t7, t8, g7, g8, neI, neN, c3, c4, c5, hlv.same, hlv'.same, hlv.disc, hlv'.disc, hlv.sl.len, hlv'.sl.len, e4, e4']
   refine hN _ ?_; clear hN N
   refine W_forget (fun t => t 2 = .op o2 0 ∧ t 3 = .op o3 0 ∧ t 6 = .sc (.int .i64 (i : Nat)) ∧ t 7 = .op o7 0 ∧ t 8 = .op o8 0 ∧ True) (by simp [upd_at, *] <;> and_intros <;> rfl) ?_; rintro t ⟨t2, t3, t6, t7, t8, -⟩
   have zb := (z3 b (by rw [← hb]; exact List.getElem_mem hlt)).1
   have step : b.l = b'.l → ∀ j, j < i + 1 → E.bags[j]? = E'.bags[j]? := fun q j hj => by
    rcases Nat.lt_or_ge j i with r | r
    ·exact hgood j r
    ·obtain rfl : j = i := by omega
     rw [List.getElem?_eq_getElem hlt, List.getElem?_eq_getElem (by omega), hb, hb']
     cases b
     cases b'
     cases q
     exact congrArg (fun k => some (Bg.mk k _)) (Prod.ext c3 c4)
   clear hgood
   (refine W_seq_gen fun N hN => ?_); simp (disch := omega) only [go_sem, ↓reduceIte, true_and, Nat.reduceLeDiff, Nat.reduceEqDiff, Nat.reduceAdd, Nat.reduceBEq, Int.reduceEq, H.cv_3_66, H.cv_3_68, H.cv_68_3]
   refine hN _ ?_; clear hN N
   simp (disch := omega) only [go_sem, ↓reduceIte, true_and, Nat.reduceLeDiff, Nat.reduceEqDiff, Nat.reduceAdd, Nat.reduceBEq, Int.reduceEq, H.cv_3_66, H.cv_3_68, H.cv_68_3]
   refine AW_loopN (fun m t h' => (∀ x, ¬ h x = none → h' x = h x) ∧ h' o2 = some (.arr [bv, cv]) ∧ h' o3 = some (.arr [bv', cv']) ∧ h' o7 = some (.arr [.sc (.int .i64 b.k.1), .sc (.int .i64 b.k.2), lv]) ∧ h' o8 = some (.arr [.sc (.int .i64 b'.k.1), .sc (.int .i64 b'.k.2), lv']) ∧
     ∃ n, m = b.l.length - n ∧ n ≤ b.l.length ∧ t 2 = .op o2 0 ∧ t 3 = .op o3 0 ∧ t 6 = .sc (.int .i64 (i : Nat)) ∧ t 7 = .op o7 0 ∧ t 8 = .op o8 0 ∧ t 9 = .sc (.int .i64 (n : Nat)) ∧ ∀ j, j < n → b.l[j]? = b'.l[j]?)
    (n := b.l.length) ⟨gkk, g2, g3, g7, g8, 0, rfl, Nat.zero_le _, by simp [upd_at, t2], by simp [upd_at, t3], by simp [upd_at, t6], by simp [upd_at, t7], by simp [upd_at, t8], by simp [upd_at], fun j hj => by omega⟩ ?_
   clear t2 t3 t6 t7 t8 t gkk g2 g3 g7 g8 h4
   rintro m t h4 ⟨gkk, g2, g3, g7, g8, n, rfl, hn, t2, t3, t6, t7, t8, t9, hgood⟩
   rcases Nat.lt_or_ge n b.l.length with hlt2 | hge2
   ·obtain ⟨e, g0, w, rfl, hw⟩ := hxs.lt hlt2
    obtain ⟨e', g0', w', rfl, hw'⟩ := hxs'.lt (i := n) (by omega)
    have d0 : decide (n < b.l.length) = true := by simpa using hlt2
    (refine W_seq_gen fun N hN => ?_); simp (disch := omega) only [go_sem, ↓reduceIte, true_and, Nat.reduceLeDiff, Nat.reduceEqDiff, Nat.reduceAdd, Nat.reduceBEq, Int.reduceEq, H.cv_3_66, H.cv_3_68, H.cv_68_3, t7, t9, g7, hlv.same, hlv.disc, hlv.sl.len, e4, d0]
    refine hN _ ?_; clear hN N
    (refine W_seq_gen fun R2 hR2 => ?_)
    rw [W_block]
    have no2 : b.l[n] ≠ b'.l[n] → sameB E E' = false := fun q => no fun r => q (by subst r; rfl)
    generalize hp : b.l[n] = p at *
    generalize hp' : b'.l[n] = p' at *
    rcases (Decidable.em (p.2 = p'.2)).symm with c6 | c6
    ·have d6 : (p.2 != p'.2) = true := by simpa using c6
     simp (disch := omega) only [go_sem, ↓reduceIte, true_and, Nat.reduceLeDiff, Nat.reduceEqDiff, Nat.reduceAdd, Nat.reduceBEq, Int.reduceEq, H.cv_3_66, H.cv_3_68, H.cv_68_3, t7, t8, t9, g7, g8, hlv.same, hlv'.same, hlv.disc, hlv'.disc, hlv.sl.ia, hlv'.sl.ia, g0, g0', hNE, d6]
     exact ⟨(no2 fun q => c6 (by rw [q])).symm, gkk⟩
    have d6 : (p.2 != p'.2) = false := by simpa using c6
    rcases (Decidable.em (p.1 = p'.1)).symm with c7 | c7
    ·simp (disch := omega) only [go_sem, ↓reduceIte, true_and, Nat.reduceLeDiff, Nat.reduceEqDiff, Nat.reduceAdd, Nat.reduceBEq, Int.reduceEq, H.cv_3_66, H.cv_3_68, H.cv_68_3, t7, t8, t9, g7, g8, hlv.same, hlv'.same, hlv.disc, hlv'.disc, hlv.sl.ia, hlv'.sl.ia, g0, g0', hNE, d6, hw.same, hw.disc, hw.sl.b2s, hw'.same, hw'.disc, hw'.sl.b2s, str_inj, c7]
     exact ⟨(no2 fun q => c7 (by rw [q])).symm, gkk⟩
    simp (disch := omega) only [go_sem, ↓reduceIte, true_and, Nat.reduceLeDiff, Nat.reduceEqDiff, Nat.reduceAdd, Nat.reduceBEq, Int.reduceEq, H.cv_3_66, H.cv_3_68, H.cv_68_3, t7, t8, t9, g7, g8, hlv.same, hlv'.same, hlv.disc, hlv'.disc, hlv.sl.ia, hlv'.sl.ia, g0, g0', hNE, d6, hw.same, hw.disc, hw.sl.b2s, hw'.same, hw'.disc, hw'.sl.b2s, str_inj, c7]
    refine hR2 _ ?_; clear hR2 R2
    simp (disch := omega) only [go_sem, ↓reduceIte, true_and, Nat.reduceLeDiff, Nat.reduceEqDiff, Nat.reduceAdd, Nat.reduceBEq, Int.reduceEq, H.cv_3_66, H.cv_3_68, H.cv_68_3, t9, nat_add]
    refine ⟨b.l.length - (n + 1), by omega, gkk, g2, g3, g7, g8, n + 1, rfl, by omega, by simp [upd_at, t2], by simp [upd_at, t3], by simp [upd_at, t6], by simp [upd_at, t7], by simp [upd_at, t8], by simp [upd_at], fun j hj => ?_⟩
    rcases Nat.lt_or_ge j n with q | q
    ·exact hgood j q
    ·obtain rfl : j = n := by omega
     rw [List.getElem?_eq_getElem hlt2, List.getElem?_eq_getElem (by omega), hp, hp']
     exact congrArg some (Prod.ext c7 c6)
   ·obtain rfl : n = b.l.length := by omega
    have hbl : b.l = b'.l := by
     refine List.ext_getElem? fun j => ?_
     rcases Nat.lt_or_ge j b.l.length with q | q
     ·exact hgood j q
     ·rw [List.getElem?_eq_none q, List.getElem?_eq_none (by omega)]
    (refine W_seq_gen fun N hN => ?_); simp (disch := omega) only [go_sem, ↓reduceIte, true_and, Nat.reduceLeDiff, Nat.reduceEqDiff, Nat.reduceAdd, Nat.reduceBEq, Int.reduceEq, H.cv_3_66, H.cv_3_68, H.cv_68_3, t7, t9, g7, hlv.same, hlv.disc, hlv.sl.len, e4, Nat.lt_irrefl]
    refine hR _ ?_
    simp (disch := omega) only [go_sem, ↓reduceIte, true_and, Nat.reduceLeDiff, Nat.reduceEqDiff, Nat.reduceAdd, Nat.reduceBEq, Int.reduceEq, H.cv_3_66, H.cv_3_68, H.cv_68_3, t6, nat_add]
    exact ⟨E.bags.length - (i + 1), by omega, gkk, g2, g3, i + 1, rfl, by omega, by simp [upd_at, t2], by simp [upd_at, t3], by simp [upd_at], step hbl⟩
  ·obtain rfl : i = E.bags.length := by omega
   have hbag : E.bags = E'.bags := by
    refine List.ext_getElem? fun j => ?_
    rcases Nat.lt_or_ge j E.bags.length with q | q
    ·exact hgood j q
    ·rw [List.getElem?_eq_none q, List.getElem?_eq_none (by omega)]
   have hs : sameB E E' = true := sameB_true.2 (by cases E; cases E'; cases hcut; cases hbag; rfl)
   (refine W_seq_gen fun N hN => ?_); simp (disch := omega) only [go_sem, ↓reduceIte, true_and, Nat.reduceLeDiff, Nat.reduceEqDiff, Nat.reduceAdd, Nat.reduceBEq, Int.reduceEq, H.cv_3_66, H.cv_3_68, H.cv_68_3, t2, t6, f2, hbv.same, hbv.disc, hbv.sl.len, e2, Nat.lt_irrefl]
   refine hM _ ?_; clear hN N hM M
   simp (disch := omega) only [go_sem, ↓reduceIte, true_and, Nat.reduceLeDiff, Nat.reduceEqDiff, Nat.reduceAdd, Nat.reduceBEq, Int.reduceEq, H.cv_3_66, H.cv_3_68, H.cv_68_3]
   exact ⟨hs.symm, hk⟩
end Go.Proofs.Ytomfknocpijmbaa
end
section
set_option linter.unusedVariables false
set_option linter.unusedSimpArgs false
namespace Go.Proofs.Ytomfknocpijmbaa
open Go.Am
theorem light_szd {E : Eth} (h : LightP E) : Szd E := by
 obtain ⟨l1, l2, l3⟩ := h
 refine ⟨by omega, by omega, fun b hb => ⟨?_, fun x hx => ?_⟩⟩
 ·have := (l3 b hb).1
  omega
 ·have := (l3 b hb).2 x hx
  omega
theorem szd_put {E : Eth} {p : Int × Int} {x : List UInt8} (h : LightP E) (hx : x.length ≤ 3000) : Szd (putP E p x) := by
 have hz := light_szd h
 obtain ⟨l1, l2, l3⟩ := h
 unfold putP
 split
 ·exact hz
 ·have hm : ∀ b ∈ (if there E p = true then E else insBag E p).bags, b.l.length ≤ 70 ∧ ∀ y ∈ b.l, y.1.length ≤ 5000 := by
   intro b hb
   split at hb
   ·exact l3 b hb
   ·simp only [insBag, List.mem_append, List.mem_cons] at hb
    rcases hb with hb | rfl | hb
    ·exact l3 b (List.mem_of_mem_take hb)
    ·exact ⟨by simp, fun y hy => by simp at hy⟩
    ·exact l3 b (List.mem_of_mem_drop hb)
  have hn : (if there E p = true then E else insBag E p).bags.length ≤ 41 := by
   split
   ·omega
   ·have : (insBag E p).bags.length ≤ E.bags.length + 1 := by
     simp only [insBag, List.length_append, List.length_cons, List.length_take, List.length_drop]
     omega
    omega
  have hc : (if there E p = true then E else insBag E p).cuts = E.cuts := by split <;> rfl
  generalize (if there E p = true then E else insBag E p) = E2 at hm hn hc
  refine ⟨?_, ?_, fun b hb => ?_⟩
  ·simp only [modL, List.length_modify]; omega
  ·show E2.cuts.length ≤ _
   rw [hc]; omega
  ·rcases mem_modL hb with hb | ⟨c, hc, rfl⟩
   ·obtain ⟨m1, m2⟩ := hm b hb
    exact ⟨by omega, fun y hy => by have := m2 y hy; omega⟩
   ·obtain ⟨m1, m2⟩ := hm c (List.mem_of_getElem? hc)
    refine ⟨by simp; omega, fun y hy => ?_⟩
    rcases List.mem_append.1 hy with hy | hy
    ·have := m2 y hy
     omega
    ·simp at hy
     subst hy
     show x.length ≤ _
     omega
variable {P : Program} (H : Has P)
include H
set_option maxHeartbeats 4000000 in
theorem puts_law (hQ : ∀ p q : Bool, scalarBin P .neq 4 (.bool p) (.bool q) = some (.bool (p != q)))
  (hA : ∀ a b c d : Int, scalarBin P .neq 69 (.agg #[.int .i64 a, .int .i64 b]) (.agg #[.int .i64 c, .int .i64 d]) = some (.bool (!(a == c && b == d))))
  (hE : ∀ {f : Nat}, f = 55 ∨ f = 57 → ∀ {o1 c1 s1 n1 o2 c2 s2 n2 : Nat} {l1 l2 : Option Nat} {cs1 cs2 : List AV} {h : Heap}, h o1 = some (.arr cs1) → h o2 = some (.arr cs2) → o1 ≠ o2 → cs2 ≠ [] → AWF P ann 0 f [.rs o1 c1 s1 n1 l1, .rs o2 c2 s2 n2 l2] h fun v h' => v = .sc (.bool false) ∧ h' = h)
  {bv cv xv : AV} {E : Eth} {bes ces : List (List AV)} {x : List UInt8} (hbv : SF 3 bv bes) (hB : RR BgR bes E.bags) (hcv : SF 2 cv ces) (hC : RR CK ces E.cuts) (hx : SF 1 xv (u8s x)) (x0 x1 w : Int) (h : Heap) :
  AWF P ann 0 3 [.ag [bv, cv], .ag [.sc (.int .i64 x0), .sc (.int .i64 x1), .sc (.int .i64 w)], xv] h fun r h' => r = .sc (.bool true) := by
 refine AWF.fnc H.f0_3 rfl ?_
 (refine W_seq_gen fun N hN => ?_); simp (disch := omega) only [go_sem, ↓reduceIte, true_and, Nat.reduceLeDiff, Nat.reduceEqDiff, Nat.reduceAdd, Nat.reduceBEq, Int.reduceEq, H.cv_3_66, H.cv_3_68, H.cv_68_3, hbv.disc, hcv.disc]
 intro o3 ho3 o4 ho4
 obtain ⟨h2, hh, f3, f4, hk⟩ := box2 ho3 ho4 (Y := some (.arr [.sc (.int .i64 x0), .sc (.int .i64 x1), .sc (.int .i64 w)]))
 refine hN _ ?_; clear hN N
 rw [hh]
 clear hh ho3 ho4 hk
 refine W_forget (fun t => t 2 = xv ∧ t 3 = .op o3 0 ∧ t 4 = .op o4 0 ∧ True) (by simp [upd_at, *] <;> and_intros <;> rfl) ?_; rintro t ⟨t2, t3, t4, -⟩
 (refine W_seq_gen fun M hM => ?_)
 simp (disch := omega) only [go_sem, ↓reduceIte, true_and, Nat.reduceLeDiff, Nat.reduceEqDiff, Nat.reduceAdd, Nat.reduceBEq, Int.reduceEq, H.cv_3_66, H.cv_3_68, H.cv_68_3, t3, f3, hbv.disc, hcv.disc]
 refine (light_ok H hbv hB hcv hC _).mono ?_
 rintro _ hx9 ⟨⟨b, rfl, hL⟩, hh9⟩; rw [hh9]; clear hh9 hx9
 cases b with
 | false =>
  rw [contK_some]; simp (disch := omega) only [go_sem, ↓reduceIte, true_and, Nat.reduceLeDiff, Nat.reduceEqDiff, Nat.reduceAdd, Nat.reduceBEq, Int.reduceEq, H.cv_3_66, H.cv_3_68, H.cv_68_3]
  refine (awake_ok H hE _).mono ?_
  rintro _ hx9 ⟨rfl, hh9⟩; rw [hh9]; clear hh9 hx9
  rw [contK_some]; simp (disch := omega) only [go_sem, ↓reduceIte, true_and, Nat.reduceLeDiff, Nat.reduceEqDiff, Nat.reduceAdd, Nat.reduceBEq, Int.reduceEq, H.cv_3_66, H.cv_3_68, H.cv_68_3]
 | true =>
  have hLp := hL rfl
  have hz := light_szd hLp
  have z1 := hz.1
  have z2 := hz.2.1
  by_cases c1 : x.length > 3000
  ·rw [contK_some]; simp (disch := omega) only [go_sem, ↓reduceIte, true_and, Nat.reduceLeDiff, Nat.reduceEqDiff, Nat.reduceAdd, Nat.reduceBEq, Int.reduceEq, H.cv_3_66, H.cv_3_68, H.cv_68_3, t2, hx.same, hx.disc, hx.sl.len, u8s_len, c1]
   refine (awake_ok H hE _).mono ?_
   rintro _ hx9 ⟨rfl, hh9⟩; rw [hh9]; clear hh9 hx9
   rw [contK_some]; simp (disch := omega) only [go_sem, ↓reduceIte, true_and, Nat.reduceLeDiff, Nat.reduceEqDiff, Nat.reduceAdd, Nat.reduceBEq, Int.reduceEq, H.cv_3_66, H.cv_3_68, H.cv_68_3]
  ·rw [contK_some]; simp (disch := omega) only [go_sem, ↓reduceIte, true_and, Nat.reduceLeDiff, Nat.reduceEqDiff, Nat.reduceAdd, Nat.reduceBEq, Int.reduceEq, H.cv_3_66, H.cv_3_68, H.cv_68_3, t2, hx.same, hx.disc, hx.sl.len, u8s_len, c1]
   refine hM _ ?_; clear hM M
   refine W_forget (fun t => t 2 = xv ∧ t 3 = .op o3 0 ∧ t 4 = .op o4 0 ∧ True) (by simp [upd_at, *] <;> and_intros <;> rfl) ?_; rintro t ⟨t2, t3, t4, -⟩
   (refine W_seq_gen fun N hN => ?_)
   simp (disch := omega) only [go_sem, ↓reduceIte, true_and, Nat.reduceLeDiff, Nat.reduceEqDiff, Nat.reduceAdd, Nat.reduceBEq, Int.reduceEq, H.cv_3_66, H.cv_3_68, H.cv_68_3, t2, t3, t4, f3, f4, hbv.disc, hcv.disc, hx.same, hx.disc]
   refine (put_ok H hbv hB hcv hC hz hx.sl (by omega) (x0, x1) (fun {_ _ _ _ _ _ _ _ _ _ _ _ _} => hE (.inl rfl)) _).mono ?_
   rintro _ hx9 ⟨⟨v, rfl, bv', cv', bes', ces', rfl, hbv', hB', hcv', hC'⟩, hh9⟩; rw [hh9]; clear hh9 hx9
   rw [contK_some]; simp (disch := omega) only [go_sem, ↓reduceIte, true_and, Nat.reduceLeDiff, Nat.reduceEqDiff, Nat.reduceAdd, Nat.reduceBEq, Int.reduceEq, H.cv_3_66, H.cv_3_68, H.cv_68_3, hbv'.disc, hcv'.disc]
   intro o7 ho7
   have g7 : (upd h2 o7 (some (.arr [bv', cv']))) o7 = some (.arr [bv', cv']) := upd_same ..
   have g3 : (upd h2 o7 (some (.arr [bv', cv']))) o3 = some (.arr [bv, cv]) := by rw [upd_ne _ _ (fun e => by rw [← e, f3] at ho7; cases ho7)]; exact f3
   have g4 : (upd h2 o7 (some (.arr [bv', cv']))) o4 = some (.arr [.sc (.int .i64 x0), .sc (.int .i64 x1), .sc (.int .i64 w)]) := by rw [upd_ne _ _ (fun e => by rw [← e, f4] at ho7; cases ho7)]; exact f4
   generalize upd h2 o7 (some (.arr [bv', cv'])) = h7 at g7 g3 g4
   clear f3 f4 ho7 h2
   refine hN _ ?_; clear hN N
   refine W_forget (fun t => t 2 = xv ∧ t 3 = .op o3 0 ∧ t 4 = .op o4 0 ∧ t 7 = .op o7 0 ∧ t 8 = .sc (.int .i64 ((if (checkB E && two x0 x1) = true then 0 else 1 : Nat) : Int)) ∧ True) (by simp [upd_at, *] <;> and_intros <;> rfl) ?_; rintro t ⟨t2, t3, t4, t7, t8, -⟩
   (refine W_seq_gen fun M hM => ?_)
   simp (disch := omega) only [go_sem, ↓reduceIte, true_and, Nat.reduceLeDiff, Nat.reduceEqDiff, Nat.reduceAdd, Nat.reduceBEq, Int.reduceEq, H.cv_3_66, H.cv_3_68, H.cv_68_3, t2, t4, g4, hx.same, hx.disc]
   have hbd := bendV_sf (w := w) hx
   have hrd : SF 1 (.bs false 1 (u8s (bendB x w)) none) (u8s (bendB x w)) := .bs
   have sq : ∀ b : ByteArray, decide (b = b) = true := fun b => decide_eq_true rfl
   refine ⟨_, bend_ok H hx (by omega) w _, ?_⟩
   rw [contK_some]; simp (disch := omega) only [go_sem, ↓reduceIte, true_and, Nat.reduceLeDiff, Nat.reduceEqDiff, Nat.reduceAdd, Nat.reduceBEq, Int.reduceEq, H.cv_3_66, H.cv_3_68, H.cv_68_3, hbd.sl.b2s, t2, t4, g4, hx.same, hx.disc]
   refine ⟨_, rbend_ok H hx (by omega) w _, ?_⟩
   rw [contK_some]; simp (disch := omega) only [go_sem, ↓reduceIte, true_and, Nat.reduceLeDiff, Nat.reduceEqDiff, Nat.reduceAdd, Nat.reduceBEq, Int.reduceEq, H.cv_3_66, H.cv_3_68, H.cv_68_3, hrd.sl.b2s, sq]
   refine hM _ ?_; clear hM M
   clear hbd hrd sq
   refine W_forget (fun t => t 2 = xv ∧ t 3 = .op o3 0 ∧ t 4 = .op o4 0 ∧ t 7 = .op o7 0 ∧ t 8 = .sc (.int .i64 ((if (checkB E && two x0 x1) = true then 0 else 1 : Nat) : Int)) ∧ True) (by simp [upd_at, *] <;> and_intros <;> rfl) ?_; rintro t ⟨t2, t3, t4, t7, t8, -⟩
   have nilE : EthV (.ag [.sc (.slice none 0 0), .sc (.slice none 0 0)]) ⟨[], []⟩ := ⟨_, _, [], [], rfl, .nil, trivial, .nil, trivial⟩
   (refine W_seq_gen fun M hM => ?_)
   cases hm : mayB E with
   | false =>
    have hch : checkB E = false := by rw [← may_check]; exact hm
    rw [hch, Bool.false_and] at t8 hB' hC'
    simp only [Bool.false_eq_true, if_false] at t8 hB' hC'
    have hsame := fun h => same_ok H hQ hA hbv' (E := ⟨[], []⟩) hB' hcv' hC' (E' := ⟨[], []⟩) (.nil : SF 3 (.sc (.slice none 0 0)) []) trivial (.nil : SF 2 (.sc (.slice none 0 0)) []) trivial ⟨by simp, by simp, by simp⟩ h
    rw [sameB_true.2 rfl] at hsame
    simp (disch := omega) only [go_sem, ↓reduceIte, true_and, Nat.reduceLeDiff, Nat.reduceEqDiff, Nat.reduceAdd, Nat.reduceBEq, Int.reduceEq, H.cv_3_66, H.cv_3_68, H.cv_68_3, t3, g3, hbv.disc, hcv.disc]
    refine (may_ok H hbv hB hcv hC (by omega) (by omega) _).mono ?_
    rintro _ hx9 ⟨rfl, hh9⟩; rw [hh9]; clear hh9 hx9
    rw [contK_some]; simp (disch := omega) only [go_sem, ↓reduceIte, true_and, Nat.reduceLeDiff, Nat.reduceEqDiff, Nat.reduceAdd, Nat.reduceBEq, Int.reduceEq, H.cv_3_66, H.cv_3_68, H.cv_68_3, hm, t7, t8, g7, hbv'.disc, hcv'.disc]
    refine (hsame _).mono ?_
    rintro _ hx9 ⟨rfl, hh9⟩; rw [hh9]; clear hh9 hx9
    rw [contK_some]; simp (disch := omega) only [go_sem, ↓reduceIte, true_and, Nat.reduceLeDiff, Nat.reduceEqDiff, Nat.reduceAdd, Nat.reduceBEq, Int.reduceEq, H.cv_3_66, H.cv_3_68, H.cv_68_3]
    refine (awake_ok H hE _).mono ?_
    rintro _ hx9 ⟨rfl, hh9⟩; rw [hh9]; clear hh9 hx9
    rw [contK_some]; simp (disch := omega) only [go_sem, ↓reduceIte, true_and, Nat.reduceLeDiff, Nat.reduceEqDiff, Nat.reduceAdd, Nat.reduceBEq, Int.reduceEq, H.cv_3_66, H.cv_3_68, H.cv_68_3]
   | true =>
    have G := may_good.1 hm
    have hch : checkB E = true := by rw [← may_check]; exact hm
    cases htw : two x0 x1 with
    | false =>
     rw [htw, Bool.and_false] at t8 hB' hC'
     simp only [Bool.false_eq_true, if_false] at t8 hB' hC'
     have hsame := fun h => same_ok H hQ hA hbv' (E := ⟨[], []⟩) hB' hcv' hC' (E' := ⟨[], []⟩) (.nil : SF 3 (.sc (.slice none 0 0)) []) trivial (.nil : SF 2 (.sc (.slice none 0 0)) []) trivial ⟨by simp, by simp, by simp⟩ h
     rw [sameB_true.2 rfl] at hsame
     simp (disch := omega) only [go_sem, ↓reduceIte, true_and, Nat.reduceLeDiff, Nat.reduceEqDiff, Nat.reduceAdd, Nat.reduceBEq, Int.reduceEq, H.cv_3_66, H.cv_3_68, H.cv_68_3, t3, g3, hbv.disc, hcv.disc]
     refine (may_ok H hbv hB hcv hC (by omega) (by omega) _).mono ?_
     rintro _ hx9 ⟨rfl, hh9⟩; rw [hh9]; clear hh9 hx9
     rw [contK_some]; simp (disch := omega) only [go_sem, ↓reduceIte, true_and, Nat.reduceLeDiff, Nat.reduceEqDiff, Nat.reduceAdd, Nat.reduceBEq, Int.reduceEq, H.cv_3_66, H.cv_3_68, H.cv_68_3, hm, t4, t7, t8, g4, g7, hbv'.disc, hcv'.disc]
     refine (Two_ok H x0 x1 _).mono ?_
     rintro _ hx9 ⟨rfl, hh9⟩; rw [hh9]; clear hh9 hx9
     rw [contK_some]; simp (disch := omega) only [go_sem, ↓reduceIte, true_and, Nat.reduceLeDiff, Nat.reduceEqDiff, Nat.reduceAdd, Nat.reduceBEq, Int.reduceEq, H.cv_3_66, H.cv_3_68, H.cv_68_3, htw, t7, t8, g7, hbv'.disc, hcv'.disc]
     refine (hsame _).mono ?_
     rintro _ hx9 ⟨rfl, hh9⟩; rw [hh9]; clear hh9 hx9
     rw [contK_some]; simp (disch := omega) only [go_sem, ↓reduceIte, true_and, Nat.reduceLeDiff, Nat.reduceEqDiff, Nat.reduceAdd, Nat.reduceBEq, Int.reduceEq, H.cv_3_66, H.cv_3_68, H.cv_68_3]
     refine (awake_ok H hE _).mono ?_
     rintro _ hx9 ⟨rfl, hh9⟩; rw [hh9]; clear hh9 hx9
     rw [contK_some]; simp (disch := omega) only [go_sem, ↓reduceIte, true_and, Nat.reduceLeDiff, Nat.reduceEqDiff, Nat.reduceAdd, Nat.reduceBEq, Int.reduceEq, H.cv_3_66, H.cv_3_68, H.cv_68_3]
    | true =>
     rw [hch, htw, Bool.and_true] at t8 hB' hC'
     simp only [if_true] at t8 hB' hC'
     simp (disch := omega) only [go_sem, ↓reduceIte, true_and, Nat.reduceLeDiff, Nat.reduceEqDiff, Nat.reduceAdd, Nat.reduceBEq, Int.reduceEq, H.cv_3_66, H.cv_3_68, H.cv_68_3, t3, g3, hbv.disc, hcv.disc]
     refine (may_ok H hbv hB hcv hC (by omega) (by omega) _).mono ?_
     rintro _ hx9 ⟨rfl, hh9⟩; rw [hh9]; clear hh9 hx9
     rw [contK_some]; simp (disch := omega) only [go_sem, ↓reduceIte, true_and, Nat.reduceLeDiff, Nat.reduceEqDiff, Nat.reduceAdd, Nat.reduceBEq, Int.reduceEq, H.cv_3_66, H.cv_3_68, H.cv_68_3, hm, t4, g4]
     refine (Two_ok H x0 x1 _).mono ?_
     rintro _ hx9 ⟨rfl, hh9⟩; rw [hh9]; clear hh9 hx9
     rw [contK_some]; simp (disch := omega) only [go_sem, ↓reduceIte, true_and, Nat.reduceLeDiff, Nat.reduceEqDiff, Nat.reduceAdd, Nat.reduceBEq, Int.reduceEq, H.cv_3_66, H.cv_3_68, H.cv_68_3, htw]
     refine hM _ ?_; clear hM M
     refine W_forget (fun t => t 2 = xv ∧ t 3 = .op o3 0 ∧ t 4 = .op o4 0 ∧ t 7 = .op o7 0 ∧ t 8 = .sc (.int .i64 ((0 : Nat) : Int)) ∧ True) (by simp [upd_at, *] <;> and_intros <;> rfl) ?_; rintro t ⟨t2, t3, t4, t7, t8, -⟩
     obtain ⟨r0, ⟨bv2, cv2, bes2, ces2, rfl, hbv2, hB2, hcv2, hC2⟩, hput⟩ := rput_ok H hbv hB hcv hC hz hx (x0, x1)
     rw [rput_put G] at hB2 hC2
     have hsame := fun h => same_ok H hQ hA hbv' hB' hcv' hC' hbv2 hB2 hcv2 hC2 (szd_put hLp (by omega)) h
     rw [sameB_true.2 rfl] at hsame
     simp (disch := omega) only [go_sem, ↓reduceIte, true_and, Nat.reduceLeDiff, Nat.reduceEqDiff, Nat.reduceAdd, Nat.reduceBEq, Int.reduceEq, H.cv_3_66, H.cv_3_68, H.cv_68_3, t2, t3, t4, t7, t8, g3, g4, g7, hbv.disc, hcv.disc, hbv'.disc, hcv'.disc, hx.same, hx.disc]
     refine ⟨_, hput _, ?_⟩
     rw [contK_some]; simp (disch := omega) only [go_sem, ↓reduceIte, true_and, Nat.reduceLeDiff, Nat.reduceEqDiff, Nat.reduceAdd, Nat.reduceBEq, Int.reduceEq, H.cv_3_66, H.cv_3_68, H.cv_68_3]
     refine ⟨_, hsame _, ?_⟩
     rw [contK_some]; simp (disch := omega) only [go_sem, ↓reduceIte, true_and, Nat.reduceLeDiff, Nat.reduceEqDiff, Nat.reduceAdd, Nat.reduceBEq, Int.reduceEq, H.cv_3_66, H.cv_3_68, H.cv_68_3]
     refine ⟨_, awake_ok H hE _, ?_⟩
     rw [contK_some]; simp (disch := omega) only [go_sem, ↓reduceIte, true_and, Nat.reduceLeDiff, Nat.reduceEqDiff, Nat.reduceAdd, Nat.reduceBEq, Int.reduceEq, H.cv_3_66, H.cv_3_68, H.cv_68_3]
end Go.Proofs.Ytomfknocpijmbaa
end
section
set_option linter.unusedVariables false
set_option linter.unusedSimpArgs false
namespace Go.Proofs.Ytomfknocpijmbaa
open Go.Am
abbrev slE : TypeId → Nat → Prop := fun e n => n * Try.prog.bytesOf e ≤ reachBytes
abbrev stE : Nat → Prop := fun n => n ≤ reachBytes
theorem hasNE (p q : Bool) : scalarBin Try.prog .neq 4 (.bool p) (.bool q) = some (.bool (p != q)) := by
 have : pureRun Try.prog (Op.equal 4 (.bool p) (.bool q)) = some (p == q) := eqin_bool Try.underlying4 9999 p q
 simp [scalarBin, eqGuard, binOp, pr_bind, pr_prog, pr_pure, pr_map, this]
 cases p <;> cases q <;> rfl
theorem cut_av {m : Nat} {x : List AV} (h : OkAv Try.prog slE stE m 69 x) : ∃ k : Int × Int, CK x k := by
 obtain ⟨k, _, hf⟩ := okav_array Try.underlying69 h
 obtain ⟨a, _, rfl, ha, b, _, rfl, hb, rfl⟩ := hf
 obtain ⟨n, rfl, _⟩ := okav_int Try.underlying3 ha
 obtain ⟨n2, rfl, _⟩ := okav_int Try.underlying3 hb
 exact ⟨(n, n2), rfl⟩
theorem pcl_av {m : Nat} {x : List AV} (h : OkAv Try.prog slE stE m 61 x) : ∃ y : Pcl, PcR x y := by
 obtain ⟨k, _, hf⟩ := okav_struct Try.underlying61 h
 obtain ⟨a, _, rfl, ha, b, _, rfl, hb, rfl⟩ := hf
 obtain ⟨l, ⟨w, rfl, hw⟩, _⟩ := okav_bytes Try.underlying27 Try.underlying5 (by kernel_rfl) ha
 obtain ⟨b, rfl⟩ := okav_bool Try.underlying4 hb
 exact ⟨(l, b), w, rfl, hw⟩
theorem bag_av {m : Nat} {x : List AV} (h : OkAv Try.prog slE stE m 54 x) : ∃ y : Bg, BgR x y := by
 obtain ⟨k, _, hf⟩ := okav_struct Try.underlying54 h
 obtain ⟨a, _, rfl, ha, b, _, rfl, hb, c, _, rfl, hc, rfl⟩ := hf
 obtain ⟨n, rfl, _⟩ := okav_int Try.underlying3 ha
 obtain ⟨n2, rfl, _⟩ := okav_int Try.underlying3 hb
 obtain ⟨lv, es, l, rfl, hlv, hL, _⟩ := okav_slice (R := PcR) Try.underlying52 (by kernel_rfl : Try.prog.cellsOf 61 = 2) (fun m' x' _ hx' => pcl_av hx') hc
 exact ⟨⟨(n, n2), l⟩, lv, es, rfl, hlv, hL⟩
theorem eth_arg {v : AV} (h : OkArg Try.prog slE stE 25 v) : ∃ E, EthV v E := by
 obtain ⟨n, cs, rfl, hf⟩ := okarg_struct Try.underlying25 h
 obtain ⟨a, _, rfl, ha, b, _, rfl, hb, rfl⟩ := hf
 obtain ⟨bv, bes, B, rfl, hbv, hB, _⟩ := okav_slice (R := BgR) Try.underlying22 (by kernel_rfl : Try.prog.cellsOf 54 = 3) (fun m' x' _ hx' => bag_av hx') ha
 obtain ⟨cv, ces, C, rfl, hcv, hC, _⟩ := okav_slice (R := CK) Try.underlying23 (by kernel_rfl : Try.prog.cellsOf 69 = 2) (fun m' x' _ hx' => cut_av hx') hb
 exact ⟨⟨B, C⟩, bv, cv, bes, ces, rfl, hbv, hB, hcv, hC⟩
theorem hasE {f : Nat} (hf : f = 55 ∨ f = 57) {o1 c1 s1 n1 o2 c2 s2 n2 : Nat} {l1 l2 : Option Nat} {cs1 cs2 : List AV} {h : Heap} (h1 : h o1 = some (.arr cs1)) (h2 : h o2 = some (.arr cs2)) (hne : o1 ≠ o2) (hcs : cs2 ≠ []) :
  AWF Try.prog ann 0 f [.rs o1 c1 s1 n1 l1, .rs o2 c2 s2 n2 l2] h fun v h' => v = .sc (.bool false) ∧ h' = h := by
 rcases hf with rfl | rfl
 ·exact overlaps_ext (tS := 22) (tR := 4) (e := 54) Try.func55 (by kernel_rfl) (by kernel_rfl) (by kernel_rfl) (by kernel_rfl) Try.underlying22 (size := 3) (by kernel_rfl) h1 h2 hne hcs
 ·exact overlaps_ext (tS := 23) (tR := 4) (e := 69) Try.func57 (by kernel_rfl) (by kernel_rfl) (by kernel_rfl) (by kernel_rfl) Try.underlying23 (size := 2) (by kernel_rfl) h1 h2 hne hcs
end Go.Proofs.Ytomfknocpijmbaa
end
section
set_option linter.unusedVariables false
set_option linter.unusedSimpArgs false
namespace Go.Proofs.Ytomfknocpijmbaa
open Go.Am
theorem eqin_arr2 {P : Program} {t e : TypeId} (ht : P.underlying t = some (.array 2 e)) {xs ys : Array Value} {a0 a1 b0 b1 : Value} {e0 e1 : Bool} (d n : Nat) (hs : pureRun P (sizeOf e) = some n)
  (p0 : pureRun P (part e xs (0 * n)) = some a0) (p1 : pureRun P (part e xs (1 * n)) = some a1) (q0 : pureRun P (part e ys (0 * n)) = some b0) (q1 : pureRun P (part e ys (1 * n)) = some b1)
  (h0 : pureRun P (Op.equalIn d e a0 b0) = some e0) (h1 : pureRun P (Op.equalIn d e a1 b1) = some e1) : pureRun P (Op.equalIn (d + 1) t (.agg xs) (.agg ys)) = some (e0 && e1) := by
 rw [Op.equalIn, pr_bind, pr_underlying ht]
 simp only [Nat.zero_mul, Nat.one_mul] at p0 p1 q0 q1
 cases e0 <;> cases e1 <;> simp [pr_bind, pr_prog, hs, Std.Legacy.Range.forIn_eq_forIn_range', Std.Legacy.Range.size, List.range', p0, p1, q0, q1, h0, h1, pr_pure]
theorem hasA (a b c d : Int) : scalarBin Try.prog .neq 69 (.agg #[.int .i64 a, .int .i64 b]) (.agg #[.int .i64 c, .int .i64 d]) = some (.bool (!(a == c && b == d))) := by
 have hp : ∀ (x y : Int), pureRun Try.prog (part 3 #[.int .i64 x, .int .i64 y] 0) = some (.int .i64 x) := fun x y => part_sc Try.underlying3 (fun _ => by simp) (fun _ _ => by simp) rfl
 have hq : ∀ (x y : Int), pureRun Try.prog (part 3 #[.int .i64 x, .int .i64 y] 1) = some (.int .i64 y) := fun x y => part_sc Try.underlying3 (fun _ => by simp) (fun _ _ => by simp) rfl
 have ht : ∀ (x y : Int), pureRun Try.prog (Op.equalIn 9999 3 (.int .i64 x) (.int .i64 y)) = some (x == y) := fun x y => eqin_int Try.underlying3 9998 x y
 exact sb_agg_neq (by kernel_rfl) (eqin_arr2 Try.underlying69 9999 1 (by kernel_rfl) (hp a b) (hq a b) (hp c d) (hq c d) (ht a c) (ht b d))
theorem three_arg {v : AV} (h : OkArg Try.prog slE stE 26 v) : ∃ a b c : Int, v = .ag [.sc (.int .i64 a), .sc (.int .i64 b), .sc (.int .i64 c)] := by
 obtain ⟨n, cs, rfl, hf⟩ := okarg_array Try.underlying26 h
 obtain ⟨a, _, rfl, ha, b, _, rfl, hb, c, _, rfl, hc, rfl⟩ := hf
 obtain ⟨x, rfl, _⟩ := okav_int Try.underlying3 ha
 obtain ⟨y, rfl, _⟩ := okav_int Try.underlying3 hb
 obtain ⟨z, rfl, _⟩ := okav_int Try.underlying3 hc
 exact ⟨x, y, z, rfl⟩
set_option maxRecDepth 100000 in
theorem puts_row {avs : List AV} (h : okArgs Try.prog slE stE Try.f3.params.toList avs) : AWF Try.prog ann 0 3 avs (fun _ => none) fun v _ => v = .sc (.bool true) := by
 obtain ⟨a, b, c, rfl, ha, hb, hc⟩ := okArgs3 (t := 25) (u := 26) (v := 27) h
 obtain ⟨E, bv, cv, bes, ces, rfl, hbv, hB, hcv, hC⟩ := eth_arg ha
 obtain ⟨x0, x1, w, rfl⟩ := three_arg hb
 obtain ⟨x, hx, _⟩ := okarg_bytes Try.underlying27 Try.underlying5 (by kernel_rfl) hc
 exact puts_law has hasNE hasA (fun hf => hasE hf) hbv hB hcv hC hx x0 x1 w _
end Go.Proofs.Ytomfknocpijmbaa
end
