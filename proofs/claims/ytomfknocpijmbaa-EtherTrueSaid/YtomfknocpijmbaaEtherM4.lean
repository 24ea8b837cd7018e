/- Bytes bent; a parcel more; bags taken away. -/
import Derived.Test.YtomfknocpijmbaaEtherM3
import Derived.Test.YtomfknocpijmbaaEtherM1
import Derived.Test.YtomfknocpijmbaaAmExt
section
set_option linter.unusedVariables false
set_option linter.unusedSimpArgs false
namespace Go.Proofs.Ytomfknocpijmbaa
open Go.Am
def turn (q : List UInt8) (p : Nat) : List UInt8 := q.set (p / 8) (UInt8.ofNat ((q.getD (p / 8) 0).toNat ^^^ 2 ^ (7 - p % 8)))
theorem turn_len (q : List UInt8) (p : Nat) : (turn q p).length = q.length := by simp [turn]
theorem xor_lt (x : UInt8) (e : Nat) (he : e < 8) : x.toNat ^^^ 2 ^ e < 256 := Nat.xor_lt_two_pow (n := 8) x.toNat_lt (Nat.pow_lt_pow_right (by decide) he)
theorem flat_u8s (q : List UInt8) : (u8s q).flatten = q.map fun b => .sc (.int .u8 (b.toNat : Int)) := by
 induction q with
 | nil => rfl
 | cons b q ih => rw [show u8s (b :: q) = [.sc (.int .u8 (b.toNat : Int))] :: u8s q from rfl, List.flatten_cons, ih]; rfl
theorem at_u8s (q : List UInt8) (z : List AV) {i : Nat} (hi : i < q.length) : (((u8s q).flatten ++ z).drop i).take 1 = [.sc (.int .u8 (q[i].toNat : Int))] := by
 rw [flat_u8s, List.drop_append_of_le_length (by rw [List.length_map]; omega), List.take_append_of_le_length (by rw [List.length_drop, List.length_map]; omega), ← List.map_drop, ← List.map_take, List.drop_eq_getElem_cons hi]
 rfl
theorem set_u8s (q : List UInt8) (z : List AV) {i : Nat} (hi : i < q.length) (x : UInt8) : setRange ((u8s q).flatten ++ z) i [.sc (.int .u8 (x.toNat : Int))] = (u8s (q.set i x)).flatten ++ z := by
 rw [flat_u8s, flat_u8s, List.map_set]
 have hl : i < (q.map fun b => AV.sc (.int .u8 (b.toNat : Int))).length := by rw [List.length_map]; exact hi
 generalize (q.map fun b => AV.sc (.int .u8 (b.toNat : Int))) = w at hl
 unfold setRange
 rw [List.take_append_of_le_length (by omega), List.set_eq_take_append_cons_drop, if_pos hl, List.drop_append_of_le_length (by simp; omega)]
 simp
theorem sb_r8 {P : Program} {ty : TypeId} {q : IntKind} {n : Nat} (hn : n < 8) : scalarBin P .shr ty (.int .u8 ((128 : Nat) : Int)) (.int q (n : Nat)) = some (.int .u8 ((2 ^ (7 - n) : Nat) : Int)) := by
 rw [sb_shr (by omega)]
 rcases (show n = 0 ∨ n = 1 ∨ n = 2 ∨ n = 3 ∨ n = 4 ∨ n = 5 ∨ n = 6 ∨ n = 7 by omega) with rfl | rfl | rfl | rfl | rfl | rfl | rfl | rfl <;> exact congrArg (fun x => some (Value.int IntKind.u8 x)) (by decide)
theorem sb_q8 {P : Program} {ty : TypeId} {n : Nat} (h : n < 2 ^ 63) : scalarBin P .quo ty (.int .i64 n) (.int .i64 ((8 : Nat) : Int)) = some (.int .i64 ((n / 8 : Nat) : Int)) := by
 rw [sb_quo (by decide)]
 have : ((n : Nat) : Int).tdiv ((8 : Nat) : Int) = ((n / 8 : Nat) : Int) := rfl
 rw [this, wrap_i64n (by omega)]
def patW (w : Int) : Nat := (((w % 4294967296).toNat * 40503) % 4294967296 + 1) % 4294967296
def stepW (p m : Nat) (q : List UInt8) (k : Nat) : List UInt8 := if m / 2 ^ k % 2 = 1 ∧ p + k < 8 * q.length then turn q (p + k) else q
def bendN (b : List UInt8) (p m n : Nat) : List UInt8 := (List.range n).foldl (stepW p m) b
def bendB (b : List UInt8) (w : Int) : List UInt8 := if b = [] then [] else bendN b (w % ((8 * b.length : Nat) : Int)).toNat (patW w) 24
theorem stepW_len {p m k : Nat} {q : List UInt8} : (stepW p m q k).length = q.length := by
 unfold stepW
 split
 ·exact turn_len _ _
 ·rfl
theorem bendN_succ {b : List UInt8} {p m n : Nat} : bendN b p m (n + 1) = stepW p m (bendN b p m n) n := by
 unfold bendN
 rw [List.range_succ, List.foldl_append]
 rfl
theorem bendN_len {b : List UInt8} {p m : Nat} : ∀ {n : Nat}, (bendN b p m n).length = b.length
 | 0 => rfl
 | n + 1 => by rw [bendN_succ, stepW_len, bendN_len]
theorem bendB_len {b : List UInt8} {w : Int} : (bendB b w).length = b.length := by
 unfold bendB
 split
 ·rename_i h; rw [h]
 ·exact bendN_len
def bendV (v : AV) (b : List UInt8) (w : Int) : AV := if b = [] then frz v else .bs false 1 (u8s (bendB b w)) none
theorem bendV_sf {v : AV} {b : List UInt8} {w : Int} (hv : SF 1 v (u8s b)) : SF 1 (bendV v b w) (u8s (bendB b w)) := by
 unfold bendV
 by_cases c : b = []
 ·subst c
  rw [if_pos rfl]
  exact frz_sf hv
 ·rw [if_neg c]
  exact .inr ⟨_, rfl⟩
theorem u32_of {w : Int} : IntKind.u32.wrap w = (((w % 4294967296).toNat : Nat) : Int) := by
 have : IntKind.u32.wrap w = w % 4294967296 := by simp [IntKind.wrap, IntKind.bits, IntKind.signed]
 rw [this]; omega
theorem u32_nat {n : Nat} : IntKind.u32.wrap (n : Int) = ((n % 4294967296 : Nat) : Int) := by
 have : IntKind.u32.wrap (n : Int) = (n : Int) % 4294967296 := by simp [IntKind.wrap, IntKind.bits, IntKind.signed]
 rw [this]; rfl
theorem tmod2 {w : Int} {n : Nat} (h0 : 0 < n) (hn : n < 2 ^ 50) : (IntKind.i64.wrap (w.tmod (n : Int) + (n : Int))).tmod (n : Int) = (((w % (n : Int)).toNat : Nat) : Int) := by
 have e := emod_rem (a := w) h0
 have b1 := Int.tmod_lt_of_pos w (show (0 : Int) < n by omega)
 have b2 := Int.lt_tmod_of_pos w (show (0 : Int) < n by omega)
 have b3 := Int.emod_nonneg w (show (n : Int) ≠ 0 by omega)
 rw [wrap_i64u (by omega) (by omega)]
 by_cases c : w.tmod (n : Int) < 0
 ·rw [if_pos c] at e
  rw [e, Int.tmod_eq_of_lt b3 (by omega)]
  omega
 ·rw [if_neg c] at e
  rw [Int.tmod_eq_emod_of_nonneg (by omega), Int.add_emod_right, Int.emod_eq_of_lt (by omega) b1, e]
  omega
def zV : AV → AV
 | .sc x => .sc x
 | _ => .bs false 1 [] (some 0)
theorem single1 (x : AV) : single false [x] = some x := rfl
theorem iad_rs {o n i : Nat} {lim : Option Nat} {t : Nat → AV} {h : Heap} (hi : i < n) : aexIad 1 ((i : Nat) : Int) t h (.rs o 0 1 n lim) = some (.val (.op o i) t h) := by
 have : (1 = 1 ∧ (0 : Int) ≤ (i : Int) ∧ (i : Int) < (n : Int)) := ⟨rfl, by omega, by omega⟩
 simp only [aexIad, this, and_self, if_true, Int.toNat_natCast, Nat.zero_add, Nat.mul_one]
theorem setW {q : List UInt8} {z : List AV} {p : Nat} (hp : p / 8 < q.length) : setRange ((u8s q).flatten ++ z) (p / 8) [.sc (.int .u8 ((q[p / 8].toNat ^^^ 2 ^ (7 - p % 8) : Nat) : Int))] = (u8s (turn q p)).flatten ++ z := by
 have hset := set_u8s q z hp (UInt8.ofNat (q[p / 8].toNat ^^^ 2 ^ (7 - p % 8)))
 have hxl := xor_lt q[p / 8] (7 - p % 8) (by omega)
 have e : (UInt8.ofNat (q[p / 8].toNat ^^^ 2 ^ (7 - p % 8))).toNat = q[p / 8].toNat ^^^ 2 ^ (7 - p % 8) := by
  rw [UInt8.toNat_ofNat']
  exact Nat.mod_eq_of_lt hxl
 rw [e] at hset
 rw [hset]
 unfold turn
 rw [List.getD_eq_getElem?_getD, List.getElem?_eq_getElem hp]
 rfl
variable {P : Program} (H : Has P)
include H
theorem cloY0_ok {v : AV} (hv : SF 1 v []) (h : Heap) : AWF P ann 1 30 [v] h fun r h' => r = zV v ∧ h' = h := by
 refine AWF.disR (R := fun r h' => r.dis = zV v ∧ h' = h) ?_ fun _ _ hr => hr
 refine AWF.fnPurec H.f1_30 rfl ?_
 have hO := OB.nil (h := h)
 (refine W_seq_gen fun N hN => ?_); simp (disch := omega) only [go_sem, ↓reduceIte, Nat.reduceEqDiff, Nat.reduceLeDiff, H.cv_3_5, H.cv_3_66, H.cv_3_68, H.cv_5_3, H.cv_5_66, H.cv_66_3, H.cv_66_5, H.cv_68_3]
 refine hN _ ?_; clear hN N
 refine W_f (fun t => t 0 = v ∧ True) ?_; rintro t ⟨t0, -⟩
 rcases id hv with ⟨rfl, -⟩ | ⟨lim, rfl⟩
 ·simp (disch := omega) only [go_sem, ↓reduceIte, Nat.reduceEqDiff, Nat.reduceLeDiff, H.cv_3_5, H.cv_3_66, H.cv_3_68, H.cv_5_3, H.cv_5_66, H.cv_66_3, H.cv_66_5, H.cv_68_3, t0, isnil_nil, Bool.not_false]
  first | done | rfl
 ·simp (disch := omega) only [go_sem, ↓reduceIte, Nat.reduceEqDiff, Nat.reduceLeDiff, H.cv_3_5, H.cv_3_66, H.cv_3_68, H.cv_5_3, H.cv_5_66, H.cv_66_3, H.cv_66_5, H.cv_68_3, t0, isnil_bs, hv.sl.elems, appO_none]
  first | done | rfl
set_option maxHeartbeats 1000000 in
theorem bend_ok {v : AV} {b : List UInt8} (hv : SF 1 v (u8s b)) (hl : b.length ≤ 2 ^ 40) (w : Int) (h : Heap) : AWF P ann 0 10 [v, .sc (.int .i64 w)] h fun r h' => r = bendV v b w ∧ h' = h := by
 refine AWF.fnPureA H.f0_10 rfl ?_
 have hO := OB.nil (h := h)
 have hlen := @u8s_len b
 refine A_seq_gen fun N hN => W_sound ?_
 simp (disch := omega) only [go_sem, ↓reduceIte, Nat.reduceEqDiff, Nat.reduceLeDiff, H.cv_3_5, H.cv_3_66, H.cv_3_68, H.cv_5_3, H.cv_5_66, H.cv_66_3, H.cv_66_5, H.cv_68_3]
 refine hN _ ?_; clear hN N
 refine A_seq_gen fun N hN => W_sound ?_
 refine W_f (fun t => t 0 = v ∧ t 1 = .sc (.int .i64 w) ∧ t 4 = .sc (.slice none 0 0) ∧ True) ?_; rintro t ⟨t0, t1, t4, -⟩
 by_cases cb : b = []
 ·subst cb
  simp (disch := omega) only [go_sem, ↓reduceIte, Nat.reduceEqDiff, Nat.reduceLeDiff, H.cv_3_5, H.cv_3_66, H.cv_3_68, H.cv_5_3, H.cv_5_66, H.cv_66_3, H.cv_66_5, H.cv_68_3, t0, hv.same, hv.disc]
  refine (cloY0_ok H hv _).mono ?_
  rintro _ _ ⟨rfl, hh⟩; subst hh
  have hz : (zV v = .sc (.slice none 0 0) ∧ v = .sc (.slice none 0 0)) ∨ ((zV v = .bs false 1 [] (some 0)) ∧ frz v = .bs false 1 [] none) := by
   rcases id hv with ⟨rfl, -⟩ | ⟨lim, rfl⟩
   ·exact .inl ⟨rfl, rfl⟩
   ·exact .inr ⟨rfl, rfl⟩
  have hvl := fun (t : Nat → AV) (h : Heap) => hv.sl.len (t := t) (h := h)
  rcases hz with ⟨hz, rfl⟩ | ⟨hz, hf⟩
  ·rw [hz]
   rw [contK_some]; simp (disch := omega) only [go_sem, ↓reduceIte, Nat.reduceEqDiff, Nat.reduceLeDiff, H.cv_3_5, H.cv_3_66, H.cv_3_68, H.cv_5_3, H.cv_5_66, H.cv_66_3, H.cv_66_5, H.cv_68_3]
   refine hN _ ?_; clear hN N
   refine A_seq_gen fun N hN => W_sound ?_
   refine W_f (fun t => t 0 = .sc (.slice none 0 0) ∧ t 1 = .sc (.int .i64 w) ∧ t 5 = .sc (.slice none 0 0) ∧ True) ?_; rintro t ⟨t0, t1, t5, -⟩
   simp (disch := omega) only [go_sem, ↓reduceIte, Nat.reduceEqDiff, Nat.reduceLeDiff, H.cv_3_5, H.cv_3_66, H.cv_3_68, H.cv_5_3, H.cv_5_66, H.cv_66_3, H.cv_66_5, H.cv_68_3, t0]
   refine hN _ ?_; clear hN N
   refine W_sound ?_
   simp (disch := omega) only [go_sem, ↓reduceIte, Nat.reduceEqDiff, Nat.reduceLeDiff, H.cv_3_5, H.cv_3_66, H.cv_3_68, H.cv_5_3, H.cv_5_66, H.cv_66_3, H.cv_66_5, H.cv_68_3, t5, nat_mul, Nat.mul_zero]
   first | done | rfl
  ·rw [hz]
   rw [contK_some]; simp (disch := omega) only [go_sem, ↓reduceIte, Nat.reduceEqDiff, Nat.reduceLeDiff, H.cv_3_5, H.cv_3_66, H.cv_3_68, H.cv_5_3, H.cv_5_66, H.cv_66_3, H.cv_66_5, H.cv_68_3]
   refine hN _ ?_; clear hN N
   refine A_seq_gen fun N hN => W_sound ?_
   refine W_f (fun t => t 0 = v ∧ t 1 = .sc (.int .i64 w) ∧ t 5 = .bs false 1 [] (some 0) ∧ True) ?_; rintro t ⟨t0, t1, t5, -⟩
   simp (disch := omega) only [go_sem, ↓reduceIte, Nat.reduceEqDiff, Nat.reduceLeDiff, H.cv_3_5, H.cv_3_66, H.cv_3_68, H.cv_5_3, H.cv_5_66, H.cv_66_3, H.cv_66_5, H.cv_68_3, t0, hv.same, hv.disc, hvl]
   refine hN _ ?_; clear hN N
   refine .ghost (.lim (i := 5) (own := false) (sz := 1) (es := []) (lim := some 0) (by simp [upd_at, t5])) (W_sound ?_)
   simp (disch := omega) only [go_sem, ↓reduceIte, Nat.reduceEqDiff, Nat.reduceLeDiff, H.cv_3_5, H.cv_3_66, H.cv_3_68, H.cv_5_3, H.cv_5_66, H.cv_66_3, H.cv_66_5, H.cv_68_3, t5, nat_mul, Nat.mul_zero]
   exact (by unfold bendV; rw [if_pos rfl, hf])
 ·have hb0 : 0 < b.length := List.length_pos_iff.2 cb
  have hbv : bendV v b w = .bs false 1 (u8s (bendN b (w % ((8 * b.length : Nat) : Int)).toNat (patW w) 24)) none := by
   unfold bendV bendB
   rw [if_neg cb, if_neg cb]
  simp (disch := omega) only [go_sem, ↓reduceIte, Nat.reduceEqDiff, Nat.reduceLeDiff, H.cv_3_5, H.cv_3_66, H.cv_3_68, H.cv_5_3, H.cv_5_66, H.cv_66_3, H.cv_66_5, H.cv_68_3, t0, hv.same, hv.disc]
  refine (cloY_ok H hv ge_u8s (by rw [hlen]; omega) _).mono ?_
  rintro r h1 ⟨e, hce, hfr, rfl⟩
  rcases hce with ⟨_, he, _⟩ | ⟨o, cap, z, rfl, rfl, hne, hcap, hz⟩
  ·exact absurd (congrArg List.length he) (by rw [hlen]; simp; exact cb)
  have ho0 : h o = none := hfr o _ rfl
  have hk0 : ∀ x, h x ≠ none → (apE (some (o, .arr ((u8s b).flatten ++ z))) h) x = h x := ap_keep hfr
  have ho : (apE (some (o, .arr ((u8s b).flatten ++ z))) h) o = some (.arr ((u8s b).flatten ++ z)) := upd_same ..
  generalize (apE (some (o, .arr ((u8s b).flatten ++ z))) h) = h1 at hk0 ho
  rw [hlen]
  rw [contK_some]; simp (disch := omega) only [go_sem, ↓reduceIte, Nat.reduceEqDiff, Nat.reduceLeDiff, H.cv_3_5, H.cv_3_66, H.cv_3_68, H.cv_5_3, H.cv_5_66, H.cv_66_3, H.cv_66_5, H.cv_68_3]
  refine hN _ ?_; clear hN N
  refine A_seq_gen fun N hN => W_sound ?_
  refine W_f (fun t => t 0 = v ∧ t 1 = .sc (.int .i64 w) ∧ t 5 = .rs o 0 1 b.length (some cap) ∧ True) ?_; rintro t ⟨t0, t1, t5, -⟩
  simp (disch := omega) only [go_sem, ↓reduceIte, Nat.reduceEqDiff, Nat.reduceLeDiff, H.cv_3_5, H.cv_3_66, H.cv_3_68, H.cv_5_3, H.cv_5_66, H.cv_66_3, H.cv_66_5, H.cv_68_3, t0, hv.same, hv.disc, hv.sl.len, hlen, nat_mul]
  refine hN _ ?_; clear hN N
  refine A_seq_gen fun N hN => W_sound ?_
  refine W_f (fun t => t 0 = v ∧ t 1 = .sc (.int .i64 w) ∧ t 5 = .rs o 0 1 b.length (some cap) ∧ t 6 = .sc (.int .i64 ((8 * b.length : Nat) : Int)) ∧ True) ?_; rintro t ⟨t0, t1, t5, t6, -⟩
  have c8 : decide (8 * b.length = 0) = false := decide_eq_false (by omega)
  simp (disch := omega) only [go_sem, ↓reduceIte, Nat.reduceEqDiff, Nat.reduceLeDiff, H.cv_3_5, H.cv_3_66, H.cv_3_68, H.cv_5_3, H.cv_5_66, H.cv_66_3, H.cv_66_5, H.cv_68_3, t6, c8]
  refine hN _ ?_; clear hN N
  refine A_seq_gen fun N hN => W_sound ?_
  have hne8 : ((8 * b.length : Nat) : Int) ≠ 0 := by omega
  have htm := tmod2 (w := w) (n := 8 * b.length) (by omega) (by omega)
  obtain ⟨p, hp⟩ : ∃ p, p = (w % ((8 * b.length : Nat) : Int)).toNat := ⟨_, rfl⟩
  have hpl : p < 8 * b.length := by
   have := Int.emod_lt_of_pos w (show (0 : Int) < ((8 * b.length : Nat) : Int) by omega)
   omega
  rw [← hp] at htm hbv
  obtain ⟨m, hm⟩ : ∃ m, m = patW w := ⟨_, rfl⟩
  have hml : m < 4294967296 := by rw [hm]; unfold patW; omega
  have hw1 : IntKind.u32.wrap (((((w % 4294967296).toNat * 40503) % 4294967296 : Nat) : Int) + ((1 : Nat) : Int)) = (m : Int) := by rw [nat_add, u32_nat, hm]; rfl
  have hw2 : IntKind.u32.wrap ((((w % 4294967296).toNat : Nat) : Int) * ((40503 : Nat) : Int)) = ((((w % 4294967296).toNat * 40503) % 4294967296 : Nat) : Int) := by rw [nat_mul, u32_nat]
  have hw3 := @u32_of w
  rw [← hm] at hbv
  generalize ((w % 4294967296).toNat) = y at hw1 hw2 hw3
  generalize y * 40503 % 4294967296 = y2 at hw1 hw2
  simp (disch := omega) only [go_sem, ↓reduceIte, Nat.reduceEqDiff, Nat.reduceLeDiff, H.cv_3_5, H.cv_3_66, H.cv_3_68, H.cv_5_3, H.cv_5_66, H.cv_66_3, H.cv_66_5, H.cv_68_3, t1, t6, sb_rem hne8, htm, hw3, hw2, hw1]
  refine hN _ ?_; clear hN N
  refine A_seq_gen fun M hM => W_sound ?_
  refine W_f (fun t => t 5 = .rs o 0 1 b.length (some cap) ∧ t 6 = .sc (.int .i64 ((8 * b.length : Nat) : Int)) ∧ t 7 = .sc (.int .i64 (p : Nat)) ∧ t 8 = .sc (.int .u32 (m : Nat)) ∧ True) ?_; rintro t ⟨t5, t6, t7, t8, -⟩
  simp (disch := omega) only [go_sem, ↓reduceIte, Nat.reduceEqDiff, Nat.reduceLeDiff, H.cv_3_5, H.cv_3_66, H.cv_3_68, H.cv_5_3, H.cv_5_66, H.cv_66_3, H.cv_66_5, H.cv_68_3]
  refine AW_loopN (fun k t h' => ∃ i q, k = 24 - i ∧ i ≤ 24 ∧ q = bendN b p m i ∧ (∀ x, h x ≠ none → h' x = h x) ∧ h' o = some (.arr ((u8s q).flatten ++ z)) ∧ t 5 = .rs o 0 1 b.length (some cap) ∧ t 6 = .sc (.int .i64 ((8 * b.length : Nat) : Int)) ∧ t 7 = .sc (.int .i64 (p : Nat)) ∧ t 8 = .sc (.int .u32 (m : Nat)) ∧ t 30 = .sc (.int .i64 (i : Nat)))
   (n := 24) ⟨0, b, rfl, by omega, rfl, hk0, ho, by simp [upd_at, t5], by simp [upd_at, t6], by simp [upd_at, t7], by simp [upd_at, t8], by simp [upd_at]⟩ ?_
  clear t5 t6 t7 t8 hk0 ho t
  rintro k t h' ⟨i, q, rfl, hi, hqe, hk0, ho, t5, t6, t7, t8, t30⟩
  have hq : q.length = b.length := by rw [hqe, bendN_len]
  by_cases c : i < 24
  ·(refine W_seq_gen fun N hN => ?_); simp (disch := omega) only [go_sem, ↓reduceIte, Nat.reduceEqDiff, Nat.reduceLeDiff, H.cv_3_5, H.cv_3_66, H.cv_3_68, H.cv_5_3, H.cv_5_66, H.cv_66_3, H.cv_66_5, H.cv_68_3, t30, c]
   refine hN _ ?_; clear hN N
   (refine W_seq_gen fun N hN => ?_); simp (disch := omega) only [go_sem, ↓reduceIte, Nat.reduceEqDiff, Nat.reduceLeDiff, H.cv_3_5, H.cv_3_66, H.cv_3_68, H.cv_5_3, H.cv_5_66, H.cv_66_3, H.cv_66_5, H.cv_68_3]
   refine hN _ ?_; clear hN N
   (refine W_seq_gen fun M hM => ?_)
   rw [W_block]
   (refine W_seq_gen fun N hN => ?_); simp (disch := omega) only [go_sem, ↓reduceIte, Nat.reduceEqDiff, Nat.reduceLeDiff, H.cv_3_5, H.cv_3_66, H.cv_3_68, H.cv_5_3, H.cv_5_66, H.cv_66_3, H.cv_66_5, H.cv_68_3, t30]
   refine hN _ ?_; clear hN N
   (refine W_seq_gen fun N hN => ?_); simp (disch := omega) only [go_sem, ↓reduceIte, Nat.reduceEqDiff, Nat.reduceLeDiff, H.cv_3_5, H.cv_3_66, H.cv_3_68, H.cv_5_3, H.cv_5_66, H.cv_66_3, H.cv_66_5, H.cv_68_3, t7, nat_add]
   refine hN _ ?_; clear hN N
   have wr := Nat.mod_lt (m / 2 ^ i) (show 2 > 0 by omega)
   have hlt2 : m / 2 ^ i < 4294967296 := Nat.lt_of_le_of_lt (Nat.div_le_self _ _) hml
   have ha := sb_and32 (P := P) (ty := 66) (a := m / 2 ^ i) (b := 1) hlt2 (by omega)
   rw [Nat.and_one_is_mod] at ha
   have hsucc : bendN b p m (i + 1) = stepW p m q i := by rw [bendN_succ, hqe]
   by_cases d : m / 2 ^ i % 2 = 1
   ·by_cases d2 : p + i < 8 * b.length
    ·have hp8 : (p + i) / 8 < q.length := by omega
     have hat := at_u8s q z hp8
     have hlt := q[(p + i) / 8].toNat_lt
     have h2e : 2 ^ (7 - (p + i) % 8) < 256 := Nat.pow_lt_pow_right (n := 8) (by decide) (by omega)
     have hx := sb_xor (P := P) (ty := 5) (k := .u8) (a := q[(p + i) / 8].toNat) (b := 2 ^ (7 - (p + i) % 8)) rfl (by exact hlt) (by exact h2e)
     have r8 : (((p + i : Nat) : Int)).tmod ((8 : Nat) : Int) = (((p + i) % 8 : Nat) : Int) := rfl
     have hset := setW (z := z) hp8
     have hll : (p + i) / 8 + 1 ≤ ((u8s q).flatten ++ z).length := by rw [List.length_append, flat_u8s, List.length_map]; omega
     have hiad := fun (t : Nat → AV) (h : Heap) => iad_rs (o := o) (n := b.length) (lim := some cap) (t := t) (h := h) (show (p + i) / 8 < b.length by omega)
     simp (disch := omega) only [go_sem, ↓reduceIte, Nat.reduceEqDiff, Nat.reduceLeDiff, H.cv_3_5, H.cv_3_66, H.cv_3_68, H.cv_5_3, H.cv_5_66, H.cv_66_3, H.cv_66_5, H.cv_68_3, t5, t6, t8, sb_shr32, ha, d, d2, nat_add, r8, sb_q8, hiad, sb_r8, ho, hll, hat, single1, hx, hset]
     refine hM _ ?_; clear hM M
     simp (disch := omega) only [go_sem, ↓reduceIte, Nat.reduceEqDiff, Nat.reduceLeDiff, H.cv_3_5, H.cv_3_66, H.cv_3_68, H.cv_5_3, H.cv_5_66, H.cv_66_3, H.cv_66_5, H.cv_68_3, t30, nat_add]
     exact ⟨24 - (i + 1), by omega, i + 1, turn q (p + i), rfl, by omega, by rw [hsucc]; unfold stepW; rw [if_pos ⟨d, by omega⟩], fun x hx => by rw [if_neg (fun e => hx (by rw [e]; exact ho0))]; exact hk0 x hx, by simp [upd, ho], by simp [upd_at, t5], by simp [upd_at, t6], by simp [upd_at, t7], by simp [upd_at, t8], by simp [upd_at]⟩
    ·simp (disch := omega) only [go_sem, ↓reduceIte, Nat.reduceEqDiff, Nat.reduceLeDiff, H.cv_3_5, H.cv_3_66, H.cv_3_68, H.cv_5_3, H.cv_5_66, H.cv_66_3, H.cv_66_5, H.cv_68_3, t6, t8, sb_shr32, ha, d, d2]
     refine hM _ ?_; clear hM M
     simp (disch := omega) only [go_sem, ↓reduceIte, Nat.reduceEqDiff, Nat.reduceLeDiff, H.cv_3_5, H.cv_3_66, H.cv_3_68, H.cv_5_3, H.cv_5_66, H.cv_66_3, H.cv_66_5, H.cv_68_3, t30, nat_add]
     exact ⟨24 - (i + 1), by omega, i + 1, q, rfl, by omega, by rw [hsucc]; unfold stepW; rw [if_neg (fun q => d2 (by omega))], hk0, by simp [upd, ho], by simp [upd_at, t5], by simp [upd_at, t6], by simp [upd_at, t7], by simp [upd_at, t8], by simp [upd_at]⟩
   ·simp (disch := omega) only [go_sem, ↓reduceIte, Nat.reduceEqDiff, Nat.reduceLeDiff, H.cv_3_5, H.cv_3_66, H.cv_3_68, H.cv_5_3, H.cv_5_66, H.cv_66_3, H.cv_66_5, H.cv_68_3, t6, t8, sb_shr32, ha, d]
    refine hM _ ?_; clear hM M
    simp (disch := omega) only [go_sem, ↓reduceIte, Nat.reduceEqDiff, Nat.reduceLeDiff, H.cv_3_5, H.cv_3_66, H.cv_3_68, H.cv_5_3, H.cv_5_66, H.cv_66_3, H.cv_66_5, H.cv_68_3, t30, nat_add]
    exact ⟨24 - (i + 1), by omega, i + 1, q, rfl, by omega, by rw [hsucc]; unfold stepW; rw [if_neg (fun q => d q.1)], hk0, by simp [upd, ho], by simp [upd_at, t5], by simp [upd_at, t6], by simp [upd_at, t7], by simp [upd_at, t8], by simp [upd_at]⟩
  ·(refine W_seq_gen fun N hN => ?_); simp (disch := omega) only [go_sem, ↓reduceIte, Nat.reduceEqDiff, Nat.reduceLeDiff, H.cv_3_5, H.cv_3_66, H.cv_3_68, H.cv_5_3, H.cv_5_66, H.cv_66_3, H.cv_66_5, H.cv_68_3, t30, c]
   refine hN _ ?_; clear hN N
   (refine W_seq_gen fun N hN => ?_); simp (disch := omega) only [go_sem, ↓reduceIte, Nat.reduceEqDiff, Nat.reduceLeDiff, H.cv_3_5, H.cv_3_66, H.cv_3_68, H.cv_5_3, H.cv_5_66, H.cv_66_3, H.cv_66_5, H.cv_68_3]
   refine hM _ ?_
   obtain rfl : i = 24 := by omega
   have hcl : 0 + b.length * 1 ≤ ((u8s q).flatten ++ z).length := by rw [List.length_append, flat_u8s, List.length_map]; omega
   have hch : chunks 1 b.length ((((u8s q).flatten ++ z).drop 0).map AV.disc) = u8s q := by
    have := (ge_u8s (l := q)).chunks (z.map AV.disc)
    rw [u8s_len, hq] at this
    rw [List.drop_zero, List.map_append, (ge_u8s (l := q)).disc, this]
   refine .ghost (.slot (i := 5) (o := o) (c := 0) (sz := 1) (n := b.length) (lim := some cap) false (by simp [upd_at, t5]) ho hcl (fun q => by cases q)) ?_
   rw [hch]
   refine .ghost (.lim (i := 5) (own := false) (sz := 1) (es := u8s q) (lim := some cap) (by simp [upd_at])) (W_sound ?_)
   simp (disch := omega) only [go_sem, ↓reduceIte, Nat.reduceEqDiff, Nat.reduceLeDiff, H.cv_3_5, H.cv_3_66, H.cv_3_68, H.cv_5_3, H.cv_5_66, H.cv_66_3, H.cv_66_5, H.cv_68_3]
   exact ⟨by rw [hbv, hqe], fun x hx => by rw [if_neg (fun e => hx (by rw [e]; exact ho0))]; exact hk0 x hx⟩
end Go.Proofs.Ytomfknocpijmbaa
end
section
set_option linter.unusedVariables false
set_option linter.unusedSimpArgs false
namespace Go.Proofs.Ytomfknocpijmbaa
open Go.Am
def OwnS (h0 h1 h : Heap) (j : Nat) (Bv Cv : AV) (E : Eth) : Prop :=
 ∃ es ces, Row h0 h 3 Bv es ∧ Row h0 h 2 Cv ces ∧ RR CK ces E.cuts ∧ dj Bv Cv ∧ (∀ o, oid Bv = some o → h1 o ≠ none) ∧ (∀ o, oid Cv = some o → h1 o ≠ none) ∧ es.length = E.bags.length ∧ GE 3 es ∧ Bags h1 h E.bags j es
theorem rr_mk {α : Type} {R : List AV → α → Prop} : ∀ {es : List (List AV)} {l : List α}, es.length = l.length → (∀ (i : Nat) (e : List AV) (x : α), es[i]? = some e → l[i]? = some x → R e x) → RR R es l
 | [], [], _, _ => trivial
 | e :: es, x :: l, h, H => ⟨H 0 e x rfl rfl, rr_mk (by simpa using h) fun i e' x' h1 h2 => H (i + 1) e' x' (by simpa using h1) (by simpa using h2)⟩
 | [], _ :: _, h, _ => by simp at h
 | _ :: _, [], h, _ => by simp at h
theorem set_id {α : Type} {l : List α} {i : Nat} {x : α} (h : l[i]? = some x) : l.set i x = l := by
 apply List.ext_getElem?
 intro k
 rw [List.getElem?_set]
 split
 ·rename_i e
  subst e
  split
  ·exact h.symm
  ·rename_i hl
   rw [List.getElem?_eq_none (by omega)] at h
   cases h
 ·rfl
theorem fl_at {sz : Nat} : ∀ {es : List (List AV)} {i k : Nat} {e : List AV} {x : AV} (z : List AV), GE sz es → es[i]? = some e → e[k]? = some x → k < sz → (es.flatten ++ z)[i * sz + k]? = some x
 | [], i, k, e, x, z, _, h, _, _ => by simp at h
 | e0 :: es, 0, k, e, x, z, hg, h, hx, hk => by
  simp at h
  subst h
  have hl := (hg e0 (by simp)).1
  rw [List.flatten_cons, Nat.zero_mul, Nat.zero_add, List.append_assoc, List.getElem?_append_left (by omega)]
  exact hx
 | e0 :: es, i + 1, k, e, x, z, hg, h, hx, hk => by
  have hl := (hg e0 (by simp)).1
  have := fl_at (sz := sz) z hg.tail (i := i) (k := k) (e := e) (x := x) (by simpa using h) hx hk
  rw [List.flatten_cons, List.append_assoc, List.getElem?_append_right (by rw [Nat.succ_mul]; omega)]
  rw [← this]
  congr 1
  rw [Nat.succ_mul]; omega
theorem fl_set {sz : Nat} : ∀ {es : List (List AV)} {i k : Nat} {e : List AV} {x : AV} (z : List AV), GE sz es → es[i]? = some e → k < sz → (es.flatten ++ z).set (i * sz + k) x = (es.set i (e.set k x)).flatten ++ z
 | [], i, k, e, x, z, _, h, _ => by simp at h
 | e0 :: es, 0, k, e, x, z, hg, h, hk => by
  simp at h
  subst h
  have hl := (hg e0 (by simp)).1
  rw [List.flatten_cons, Nat.zero_mul, Nat.zero_add, List.append_assoc, List.set_append_left _ _ (by omega)]
  simp
 | e0 :: es, i + 1, k, e, x, z, hg, h, hk => by
  have hl := (hg e0 (by simp)).1
  have := fl_set (sz := sz) (x := x) z hg.tail (i := i) (k := k) (e := e) (by simpa using h) hk
  rw [List.flatten_cons, List.append_assoc, List.set_append_right _ _ (by rw [Nat.succ_mul]; omega)]
  rw [show (i + 1) * sz + k - e0.length = i * sz + k by rw [Nat.succ_mul]; omega, this]
  simp
theorem A_frz {P : Program} {ann : Ann} {c : AC} {t : Nat → AV} {h0 h : Heap} {o4 m sz : Nat} {ds : List AV} {v : AV} {es : List (List AV)} {Q : Ex → St → Prop} (h4 : h o4 = some (.arr ds)) (hm : ds[m]? = some v) (hR : Row h0 h sz v es) (hg : GE sz es) (hne : oid v ≠ some o4)
  (K : ∀ v' h', SF sz v' es → h' o4 = some (.arr (ds.set m v')) → (∀ x, x ≠ o4 → oid v ≠ some x → h' x = h x) → (∀ o, oid v = some o → h' o = none) → AW P ann c ⟨t, h'⟩ Q) : AW P ann c ⟨t, h⟩ Q := by
 rcases hR with ⟨rfl, rfl⟩ | ⟨⟨own, rfl⟩, rfl⟩ | ⟨o, cap, z, a1, rfl, a2, a3, a4, a5⟩
 ·exact K _ h (.inl ⟨rfl, rfl⟩) (by rw [set_id hm]; exact h4) (fun _ _ _ => rfl) (fun _ q => by cases q)
 ·exact .ghost (.clim h4 hm) (K _ _ (.inr ⟨none, rfl⟩) (upd_same ..) (fun x hx _ => upd_ne _ _ hx) (fun _ q => by cases q))
 ·have hoo : o ≠ o4 := fun e => hne (by rw [e]; rfl)
  have hle : 0 + es.length * sz ≤ (es.flatten ++ z).length := by rw [List.length_append, hg.len]; omega
  refine .ghost (.cell h4 hm a5 hoo hle) ?_
  rw [List.drop_zero, List.map_append, hg.disc, hg.chunks]
  refine K _ _ (.inr ⟨some cap, rfl⟩) ?_ (fun x hx hox => ?_) (fun x q => ?_)
  ·rw [upd_ne _ _ hoo.symm, upd_same]
  ·have : x ≠ o := fun e => hox (by rw [e]; rfl)
   rw [upd_ne _ _ this, upd_ne _ _ hx]
  ·cases q
   exact upd_same ..
theorem row_other {h0 h h' : Heap} {sz : Nat} {v : AV} {es : List (List AV)} (hR : Row h0 h sz v es) (hk : ∀ o, oid v = some o → h' o = h o) : Row h0 h' sz v es := by
 rcases hR with h | h | ⟨o, cap, z, a1, rfl, a2, a3, a4, a5⟩
 ·exact .inl h
 ·exact .inr (.inl h)
 ·exact .inr (.inr ⟨o, cap, z, a1, rfl, a2, a3, a4, by rw [hk o rfl]; exact a5⟩)
theorem row_fresh {h0 h : Heap} {sz : Nat} {v : AV} {es : List (List AV)} (hR : Row h0 h sz v es) : ∀ o, oid v = some o → h0 o = none := by
 rcases hR with ⟨rfl, _⟩ | ⟨⟨_, rfl⟩, _⟩ | ⟨o, cap, z, a1, rfl, _⟩
 ·intro o q; cases q
 ·intro o q; cases q
 ·intro o q; cases q; exact a1
theorem ck_row {ces : List (List AV)} {l : List (Int × Int)} (h : RR CK ces l) : GE 2 ces := ck_ge h
theorem A_own {P : Program} {ann : Ann} {c : AC} {t : Nat → AV} {h0 h1 h : Heap} {o4 j : Nat} {Bv Cv : AV} {E : Eth} {Q : Ex → St → Prop} (h4 : h o4 = some (.arr [Bv, Cv])) (h04 : h0 o4 ≠ none) (h01 : ∀ x, h0 x ≠ none → h1 x ≠ none) (S : OwnS h0 h1 h j Bv Cv E)
  (K : ∀ h' bv cv bes ces, (∀ x, x ≠ o4 → h0 x ≠ none → h' x = h x) → h' o4 = some (.arr [bv, cv]) → SF 3 bv bes → RR BgR bes E.bags → SF 2 cv ces → RR CK ces E.cuts → AW P ann c ⟨t, h'⟩ Q) : AW P ann c ⟨t, h⟩ Q := by
 obtain ⟨es, ces, hB, hC, hck, hdj, hB1, hC1, hlen, hge, hbags⟩ := S
 have fB := row_fresh hB
 have fC := row_fresh hC
 have nB4 : oid Bv ≠ some o4 := fun q => h04 (fB _ q)
 have nC4 : oid Cv ≠ some o4 := fun q => h04 (fC _ q)
 have fin : ∀ (h2 : Heap) (es2 : List (List AV)), h2 o4 = some (.arr [Bv, Cv]) → (∀ x, x ≠ o4 → h0 x ≠ none → h2 x = h x) → Row h0 h2 3 Bv es2 → Row h0 h2 2 Cv ces → GE 3 es2 → RR BgR es2 E.bags → AW P ann c ⟨t, h2⟩ Q := by
  intro h2 es2 k4 kk kB kC kg kr
  refine A_frz k4 (m := 0) rfl kB kg nB4 fun bv h3 sB k3 k5 _ => ?_
  have kC3 : Row h0 h3 2 Cv ces := row_other kC fun o ho => k5 o (fun e => nC4 (by rw [← e]; exact ho)) (fun q => hdj o q ho)
  refine A_frz k3 (m := 1) rfl kC3 (ck_row hck) nC4 fun cv h6 sC k6 k7 _ => ?_
  refine K h6 bv cv es2 ces (fun x hx h0x => ?_) k6 sB kr sC hck
  rw [k7 x hx (fun q => h0x (fC _ q)), k5 x hx (fun q => h0x (fB _ q)), kk x hx h0x]
 by_cases hj : j < E.bags.length
 ·have gj : E.bags[j]? = some E.bags[j] := List.getElem?_eq_getElem hj
  obtain ⟨lv, gl, xs, hp, hrow⟩ := hbags j _ gj (by omega)
  simp only [decide_true, if_true] at hrow
  rcases id hB with ⟨rfl, rfl⟩ | ⟨⟨_, rfl⟩, rfl⟩ | ⟨o, cap, z, a1, rfl, a2, a3, a4, a5⟩
  ·simp at hlen; omega
  ·simp at hlen; omega
  ·have h1o : h1 o ≠ none := hB1 o rfl
   have fl := row_fresh hrow
   have nlo : oid lv ≠ some o := fun q => h1o (fl _ q)
   refine A_frz a5 (m := j * 3 + 2) (fl_at z hge gl rfl (by omega)) hrow (pc_ge hp) nlo fun lv' h2 sl k2 k3 _ => ?_
   rw [fl_set (sz := 3) z hge gl (by omega)] at k2
   have e4 : o4 ≠ o := fun e => h04 (by rw [e]; exact a1)
   have kl4 : oid lv ≠ some o4 := fun q => h01 _ h04 (fl _ q)
   have hge2 : GE 3 (es.set j [.sc (.int .i64 E.bags[j].k.1), .sc (.int .i64 E.bags[j].k.2), lv']) := fun e he => by
    rcases List.mem_or_eq_of_mem_set he with q | rfl
    ·exact hge e q
    ·exact ⟨rfl, by rw [List.map_cons, List.map_cons, List.map_cons, sl.disc]; rfl⟩
   refine fin h2 (es.set j [.sc (.int .i64 E.bags[j].k.1), .sc (.int .i64 E.bags[j].k.2), lv']) ?_ (fun x hx h0x => ?_) ?_ ?_ hge2 (rr_mk (by rw [List.length_set, hlen]) fun i e b he hb => ?_)
   ·rw [k3 o4 e4 kl4, h4]
   ·exact k3 x (fun e => h0x (by rw [e]; exact a1)) (fun q => h01 _ h0x (fl _ q))
   ·refine .inr (.inr ⟨o, cap, z, a1, by rw [List.length_set], a2, by rw [List.length_set]; exact a3, by rw [List.length_set]; exact a4, ?_⟩)
    rw [k2]; rfl
   ·exact row_other hC fun x hx => k3 x (fun e => hdj o rfl (by rw [← e]; exact hx)) (fun q => hC1 x hx (fl _ q))
   ·rw [List.getElem?_set] at he
    by_cases q : j = i
    ·subst q
     rw [if_pos rfl, if_pos (by omega)] at he
     cases he
     rw [gj] at hb
     cases hb
     exact ⟨lv', xs, rfl, sl, hp⟩
    ·rw [if_neg q] at he
     obtain ⟨lw, g2, ys, hp2, hrow2⟩ := hbags i b hb (by
      rcases Nat.lt_or_ge i es.length with w | w
      ·exact w
      ·rw [List.getElem?_eq_none w] at he; cases he)
     rw [g2] at he
     cases he
     have : decide (i = j) = false := decide_eq_false (fun e => q e.symm)
     simp only [this, Bool.false_eq_true, if_false] at hrow2
     exact ⟨lw, ys, rfl, hrow2, hp2⟩
 ·refine fin h es h4 (fun _ _ _ => rfl) hB hC hge (rr_mk hlen fun i e b he hb => ?_)
  have hi : i < E.bags.length := by
   rcases Nat.lt_or_ge i E.bags.length with w | w
   ·exact w
   ·rw [List.getElem?_eq_none w] at hb; cases hb
  obtain ⟨lw, g2, ys, hp2, hrow2⟩ := hbags i b hb (by omega)
  rw [g2] at he
  cases he
  have : decide (i = j) = false := decide_eq_false (by omega)
  simp only [this, Bool.false_eq_true, if_false] at hrow2
  exact ⟨lw, ys, rfl, hrow2, hp2⟩
end Go.Proofs.Ytomfknocpijmbaa
end
section
set_option linter.unusedVariables false
set_option linter.unusedSimpArgs false
namespace Go.Proofs.Ytomfknocpijmbaa
open Go.Am
def EthV (v : AV) (E : Eth) : Prop := ∃ bv cv bes ces, v = .ag [bv, cv] ∧ SF 3 bv bes ∧ RR BgR bes E.bags ∧ SF 2 cv ces ∧ RR CK ces E.cuts
def Szd (E : Eth) : Prop := E.bags.length ≤ 2 ^ 20 ∧ E.cuts.length ≤ 2 ^ 20 ∧ ∀ b ∈ E.bags, b.l.length ≤ 2 ^ 20 ∧ ∀ x ∈ b.l, x.1.length ≤ 2 ^ 30
def there (E : Eth) (p : Int × Int) : Bool := decide ((ks E)[ix (ks E) p]? = some p)
def lAt (E : Eth) (j : Nat) : List Pcl := match E.bags[j]? with | some b => b.l | none => []
def insBag (E : Eth) (p : Int × Int) : Eth := ⟨E.bags.take (ix (ks E) p) ++ ⟨p, []⟩ :: E.bags.drop (ix (ks E) p), E.cuts⟩
def modL (E : Eth) (j : Nat) (f : List Pcl → List Pcl) : Eth := ⟨E.bags.modify j fun b => ⟨b.k, f b.l⟩, E.cuts⟩
def putP (E : Eth) (p : Int × Int) (x : List UInt8) : Eth :=
 if cutAt E.cuts (mm p) || ((!there E p && decide (E.bags.length = 1024)) || (there E p && decide ((lAt E (ix (ks E) p)).length = 64))) then E
 else modL (if there E p then E else insBag E p) (ix (ks E) p) (· ++ [(x, false)])
def PutR (ok : Bool) (E' : Eth) (r : AV) : Prop := ∃ v, r = .tu [v, .sc (.int .i64 ((if ok then 0 else 1 : Nat) : Int))] ∧ EthV v (if ok then E' else ⟨[], []⟩)
theorem bag_of {E : Eth} (h : checkB E = true) {i : Nat} (hi : i < E.bags.length) : bagOk E i = true := by
 unfold checkB at h
 rw [Bool.and_eq_true] at h
 exact List.all_eq_true.1 h.2 i (List.mem_range.2 hi)
theorem cuts_of {E : Eth} (h : checkB E = true) : cutsOk E.cuts = true := by
 unfold checkB at h
 rw [Bool.and_eq_true] at h
 exact h.1
theorem bag_of2 {E : Eth} (h : checkB E = true) {i : Nat} (hi : i < E.bags.length) : ¬ i = 1024 ∧ two E.bags[i].k.1 E.bags[i].k.2 = true ∧ cutAt E.cuts (mm E.bags[i].k) = false ∧ ¬ E.bags[i].l.length < 1 ∧ ¬ E.bags[i].l.length > 64 ∧ (0 < i → ahd ((ks E).getD (i - 1) (0, 0)) E.bags[i].k = true) := by
 have := bag_of h hi
 unfold bagOk at this
 rw [List.getElem?_eq_getElem hi] at this
 simp only [Bool.and_eq_true, Bool.or_eq_true, Bool.not_eq_true', decide_eq_false_iff_not] at this
 obtain ⟨a, b, c, d, e, f⟩ := this
 refine ⟨a, b, c, d, e, fun h0 => ?_⟩
 rcases f with f | f
 ·exact absurd h0 f
 ·exact f
theorem ks_len {E : Eth} : (ks E).length = E.bags.length := by simp [ks]
theorem srt_bags {E : Eth} (h : checkB E = true) : Srt (ks E) := srt_of fun i h0 hi => by
 rw [ks_len] at hi
 have := (bag_of2 h hi).2.2.2.2.2 h0
 rw [List.getD_eq_getElem?_getD (l := ks E) (i := i)]
 unfold ks at *
 rw [List.getElem?_map, List.getElem?_eq_getElem hi]
 exact this
theorem le_1024 {E : Eth} (h : checkB E = true) : E.bags.length ≤ 1024 := by
 rcases Nat.lt_or_ge 1024 E.bags.length with q | q
 ·exact absurd rfl (bag_of2 h q).1
 ·exact q
theorem there_lt {E : Eth} {p : Int × Int} (h : there E p = true) : ix (ks E) p < E.bags.length := by
 have := of_decide_eq_true h
 rcases Nat.lt_or_ge (ix (ks E) p) (ks E).length with q | q
 ·rw [ks_len] at q; exact q
 ·rw [List.getElem?_eq_none q] at this; cases this
theorem row_rd {h0 h : Heap} {sz : Nat} {v : AV} {es : List (List AV)} (hR : Row h0 h sz v es) (hg : GE sz es) : RD h sz v es := by
 rcases hR with ⟨rfl, rfl⟩ | ⟨⟨own, rfl⟩, rfl⟩ | ⟨o, cap, z, a1, rfl, a2, a3, a4, a5⟩
 ·exact SL.nil.rd
 ·exact SL.rd (.inr ⟨own, _, rfl⟩)
 ·exact rs_ge hg a5 rfl
theorem row_dis {h0 h : Heap} {sz : Nat} {v : AV} {es : List (List AV)} (hR : Row h0 h sz v es) (hd : v.disc = v) : v.dis = v := by
 rcases hR with ⟨rfl, rfl⟩ | ⟨⟨own, rfl⟩, rfl⟩ | ⟨o, cap, z, a1, rfl, a2, a3, a4, a5⟩
 ·rfl
 ·cases own with
  | true => cases hd
  | false => rfl
 ·rfl
theorem bags_bk {h0 h : Heap} {L : List Bg} {j : Nat} {es : List (List AV)} (hb : Bags h0 h L j es) (hl : es.length = L.length) (hg : GE 3 es) : RR BK es (L.map (·.k)) :=
 rr_mk (by rw [List.length_map, hl]) fun i e k he hk => by
  rw [List.getElem?_map] at hk
  cases hL : L[i]? with
  | none => rw [hL] at hk; cases hk
  | some b =>
   rw [hL] at hk
   cases hk
   have hi : i < es.length := by
    rcases Nat.lt_or_ge i es.length with q | q
    ·exact q
    ·rw [List.getElem?_eq_none q] at he; cases he
   obtain ⟨lv, g, _⟩ := hb i b hL hi
   rw [g] at he
   cases he
   have := (hg _ (List.mem_of_getElem? g)).2
   simp only [List.map_cons, List.map_nil, List.cons.injEq] at this
   exact ⟨lv, rfl, this.2.2.1⟩
theorem iad3 {o n i : Nat} {lim : Option Nat} {t : Nat → AV} {h : Heap} (hi : i < n) : aexIad 3 ((i : Nat) : Int) t h (.rs o 0 3 n lim) = some (.val (.op o (i * 3)) t h) := by
 have : (3 = 3 ∧ (0 : Int) ≤ (i : Int) ∧ (i : Int) < (n : Int)) := ⟨rfl, by omega, by omega⟩
 simp only [aexIad, this, and_self, if_true, Int.toNat_natCast, Nat.zero_add]
theorem ins_get {α : Type} {l : List α} {k : Nat} {x : α} (hk : k ≤ l.length) (i : Nat) : (l.take k ++ x :: l.drop k)[i]? = if i < k then l[i]? else if i = k then some x else l[i - 1]? := by
 have hl : (l.take k).length = k := by rw [List.length_take]; omega
 by_cases h1 : i < k
 ·rw [if_pos h1, List.getElem?_append_left (by omega), List.getElem?_take, if_pos h1]
 ·rw [if_neg h1, List.getElem?_append_right (by omega), hl]
  by_cases h2 : i = k
  ·subst h2
   rw [if_pos rfl, Nat.sub_self]
   rfl
  ·rw [if_neg h2, show i - k = (i - 1 - k) + 1 by omega, List.getElem?_cons_succ, List.getElem?_drop]
   congr 1
   omega
theorem row_ne {h0 h : Heap} {sz : Nat} {v : AV} {es : List (List AV)} (hR : Row h0 h sz v es) (hne : es ≠ []) : v.disc = v ∧ v.dis = v ∧ v.cellsD = [v] ∧ v.isTu = false ∧ ∃ o, oid v = some o ∧ h o ≠ none := by
 rcases hR with ⟨rfl, rfl⟩ | ⟨⟨own, rfl⟩, rfl⟩ | ⟨o, cap, z, a1, rfl, a2, a3, a4, a5⟩
 ·exact absurd rfl hne
 ·exact absurd rfl hne
 ·exact ⟨rfl, rfl, rfl, rfl, o, rfl, by rw [a5]; simp⟩
theorem row_live {h0 h : Heap} {sz : Nat} {v : AV} {es : List (List AV)} (hR : Row h0 h sz v es) : ∀ o, oid v = some o → h o ≠ none := by
 rcases hR with ⟨rfl, _⟩ | ⟨⟨_, rfl⟩, _⟩ | ⟨o, cap, z, a1, rfl, a2, a3, a4, a5⟩
 ·intro o q; cases q
 ·intro o q; cases q
 ·intro o q; cases q; rw [a5]; simp
theorem bags_upd {h1 h7 h9 : Heap} {L : List Bg} {j : Nat} {es : List (List AV)} {b : Bg} {x2 : AV} {ys : List (List AV)} {f : List Pcl → List Pcl} (hb : Bags h1 h7 L j es) (gj : L[j]? = some b) (hj : j < es.length) (hl : es.length = L.length) (hp : RR PcR ys (f b.l)) (hrow : Row h1 h9 2 x2 ys) :
  Bags h1 h9 (L.modify j fun b => ⟨b.k, f b.l⟩) j (es.set j [.sc (.int .i64 b.k.1), .sc (.int .i64 b.k.2), x2]) := by
 intro i b' hb' hi
 rw [List.length_set] at hi
 rw [List.getElem?_modify] at hb'
 rw [List.getElem?_set]
 by_cases q : j = i
 ·subst q
  rw [if_pos rfl, if_pos hi]
  rw [gj] at hb'
  simp only [if_true, Option.map_eq_map, Option.map_some, Option.some.injEq] at hb'
  subst hb'
  refine ⟨x2, rfl, ys, hp, ?_⟩
  simp only [decide_true, if_true]
  exact hrow
 ·rw [if_neg q]
  have hb' : L[i]? = some b' := by
   cases hL : L[i]? with
   | none => rw [hL] at hb'; cases hb'
   | some w => rw [hL] at hb'; simpa [q] using hb'
  obtain ⟨lw, g2, zs, hp2, hrow2⟩ := hb i b' hb' hi
  have e : decide (i = j) = false := decide_eq_false (fun e => q e.symm)
  rw [e] at hrow2 ⊢
  exact ⟨lw, g2, zs, hp2, hrow2⟩
theorem cut_is (E : Eth) (p : Int × Int) : decide (E.cuts[ix E.cuts (min p.1 p.2, max p.1 p.2)]? = some (min p.1 p.2, max p.1 p.2)) = cutAt E.cuts (mm p) := rfl
variable {P : Program} (H : Has P)
include H
theorem put_ok {bv cv xv : AV} {E : Eth} {bes ces : List (List AV)} {x : List UInt8} (hbv : SF 3 bv bes) (hB : RR BgR bes E.bags) (hcv : SF 2 cv ces) (hC : RR CK ces E.cuts) (hz : Szd E) (hx : SL 1 xv (u8s x)) (hxl : x.length ≤ 2 ^ 30) (p : Int × Int)
  (hE : ∀ {o1 c1 s1 n1 o2 c2 s2 n2 : Nat} {l1 l2 : Option Nat} {cs1 cs2 : List AV} {h : Heap}, h o1 = some (.arr cs1) → h o2 = some (.arr cs2) → o1 ≠ o2 → cs2 ≠ [] → AWF P ann 0 55 [.rs o1 c1 s1 n1 l1, .rs o2 c2 s2 n2 l2] h fun v h' => v = .sc (.bool false) ∧ h' = h) (h : Heap) :
  AWF P ann 0 9 [.ag [bv, cv], .sc (.int .i64 p.1), .sc (.int .i64 p.2), xv] h fun r h' => PutR (checkB E && two p.1 p.2) (putP E p x) r ∧ h' = h := by
 refine AWF.fnPureA H.f0_9 rfl ?_
 obtain ⟨z1, z2, z3⟩ := hz
 refine A_seq_gen fun N hN => W_sound ?_
 simp (disch := omega) only [go_sem, ↓reduceIte, Nat.reduceEqDiff, Nat.reduceLeDiff, H.cv_3_5, H.cv_3_66, H.cv_3_68, H.cv_5_3, H.cv_5_66, H.cv_66_3, H.cv_66_5, H.cv_68_3, hbv.disc, hcv.disc]
 intro o4 ho4 o8 ho8
 obtain ⟨h2, hh, f1, f2, f3⟩ := box2 ho4 ho8 (Y := some (.arr [.sc (.slice none 0 0), .sc (.slice none 0 0)]))
 have n48 : o4 ≠ o8 := fun e => by subst e; simp at ho8
 have no4 : h o4 = none := ho4
 have no8 : h o8 = none := by
  simpa [n48.symm] using ho8
 refine hN _ ?_; clear hN N
 rw [hh]
 clear hh ho4 ho8
 refine A_seq_gen fun N hN => W_sound ?_
 refine W_f (fun t => t 1 = .sc (.int .i64 p.1) ∧ t 2 = .sc (.int .i64 p.2) ∧ t 3 = xv ∧ t 4 = .op o4 0 ∧ t 8 = .op o8 0 ∧ True) ?_; rintro t ⟨t1, t2, t3, t4, t8, -⟩
 simp (disch := omega) only [go_sem, ↓reduceIte, Nat.reduceEqDiff, Nat.reduceLeDiff, H.cv_3_5, H.cv_3_66, H.cv_3_68, H.cv_5_3, H.cv_5_66, H.cv_66_3, H.cv_66_5, H.cv_68_3, t4, f1, hbv.disc, hcv.disc]
 refine (check_ok H hbv hB hcv hC (by omega) (by omega) _).to ?_
 by_cases hok : checkB E = true ∧ two p.1 p.2 = true
 ·obtain ⟨hcB, htw⟩ := hok
  simp only [hcB, htw, if_true, Bool.and_true]
  rw [contK_some]; simp (disch := omega) only [go_sem, ↓reduceIte, Nat.reduceEqDiff, Nat.reduceLeDiff, H.cv_3_5, H.cv_3_66, H.cv_3_68, H.cv_5_3, H.cv_5_66, H.cv_66_3, H.cv_66_5, H.cv_68_3, t1, t2]
  refine (two_ok H p.1 p.2 _).to ?_
  rw [htw]
  rw [contK_some]; simp (disch := omega) only [go_sem, ↓reduceIte, Nat.reduceEqDiff, Nat.reduceLeDiff, H.cv_3_5, H.cv_3_66, H.cv_3_68, H.cv_5_3, H.cv_5_66, H.cv_66_3, H.cv_66_5, H.cv_68_3]
  refine hN _ ?_; clear hN N
  refine A_seq_gen fun N hN => W_sound ?_
  refine W_f (fun t => t 1 = .sc (.int .i64 p.1) ∧ t 2 = .sc (.int .i64 p.2) ∧ t 3 = xv ∧ t 4 = .op o4 0 ∧ t 8 = .op o8 0 ∧ True) ?_; rintro t ⟨t1, t2, t3, t4, t8, -⟩
  simp (disch := omega) only [go_sem, ↓reduceIte, Nat.reduceEqDiff, Nat.reduceLeDiff, H.cv_3_5, H.cv_3_66, H.cv_3_68, H.cv_5_3, H.cv_5_66, H.cv_66_3, H.cv_66_5, H.cv_68_3, t4, f1, hbv.disc, hcv.disc]
  obtain ⟨j, hj⟩ : ∃ j, j = if there E p then ix (ks E) p else E.bags.length := ⟨_, rfl⟩
  refine (own_ok H hbv hB hcv hC (by omega) (by omega) z3 j _).mono ?_
  rintro r h5 ⟨Bv, Cv, rfl, h3, es, xs, ⟨hBd, hCd⟩, k35, k3, k5, oB, oC, ock, odj, oB1, oC1, olen, oge, obag⟩
  have g4 : h5 o4 = some (.arr [bv, cv]) := by rw [k5 o4 (by rw [f1]; simp), f1]
  have g8 : h5 o8 = some (.arr [.sc (.slice none 0 0), .sc (.slice none 0 0)]) := by rw [k5 o8 (by rw [f2]; simp), f2]
  rw [contK_some]; simp (disch := omega) only [go_sem, ↓reduceIte, Nat.reduceEqDiff, Nat.reduceLeDiff, H.cv_3_5, H.cv_3_66, H.cv_3_68, H.cv_5_3, H.cv_5_66, H.cv_66_3, H.cv_66_5, H.cv_68_3, hBd, hCd, t4, g4, setRA2]
  have q4 : (upd h5 o4 (some (.arr [Bv, Cv]))) o4 = some (.arr [Bv, Cv]) := upd_same ..
  have qk : ∀ x, x ≠ o4 → (upd h5 o4 (some (.arr [Bv, Cv]))) x = h5 x := fun x hx => upd_ne _ _ hx
  generalize upd h5 o4 (some (.arr [Bv, Cv])) = h6 at q4 qk
  have q8 : h6 o8 = some (.arr [.sc (.slice none 0 0), .sc (.slice none 0 0)]) := by rw [qk o8 n48.symm, g8]
  have S : OwnS h2 h3 h6 j Bv Cv E := ⟨es, xs, row_other oB (fun o ho => qk o (fun e => by have := row_fresh oB o ho; rw [e, f1] at this; cases this)), row_other oC (fun o ho => qk o (fun e => by have := row_fresh oC o ho; rw [e, f1] at this; cases this)), ock, odj, oB1, oC1, olen, oge, bags_mono obag fun o X ho hX => by rw [qk o (fun e => by rw [e, k3 o4 (by rw [f1]; simp), f1] at ho; cases ho)]; exact hX⟩
  have kh : ∀ x, h x ≠ none → h6 x = h x := fun x hx => by
   have c : x ≠ o4 := fun e => hx (by rw [e]; exact no4)
   rw [qk x c, k5 x (by rw [f3 x hx]; exact hx), f3 x hx]
  have h23 : ∀ x, h2 x ≠ none → h3 x ≠ none := fun x hx => by rw [k3 x hx]; exact hx
  have k36 : ∀ x, h3 x ≠ none → h6 x ≠ none := fun x hx => by
   by_cases c : x = o4
   ·rw [c, q4]; simp
   ·rw [qk x c]; exact k35 x hx
  clear g4 g8 qk obag oB1 oC1 ock odj oge oB oC olen k5
  have hcS := srt_cuts (cuts_of hcB)
  have hbS := srt_bags hcB
  obtain ⟨es, xs, oB, oC, ock, odj, oB1, oC1, olen, oge, obag⟩ := id S
  have rdB := row_rd oB oge
  have rdC := row_rd oC (ck_ge ock)
  have sB := row_dis oB hBd
  have sC := row_dis oC hCd
  have rBK : RR BK es (ks E) := bags_bk obag olen oge
  refine hN _ ?_; clear hN N
  refine A_seq_gen fun N hN => W_sound ?_
  refine W_f (fun t => t 1 = .sc (.int .i64 p.1) ∧ t 2 = .sc (.int .i64 p.2) ∧ t 3 = xv ∧ t 4 = .op o4 0 ∧ t 8 = .op o8 0 ∧ True) ?_; rintro t ⟨t1, t2, t3, t4, t8, -⟩
  simp (disch := omega) only [go_sem, ↓reduceIte, Nat.reduceEqDiff, Nat.reduceLeDiff, H.cv_3_5, H.cv_3_66, H.cv_3_68, H.cv_5_3, H.cv_5_66, H.cv_66_3, H.cv_66_5, H.cv_68_3, t1, t2, t4, q4, hBd, hCd]
  refine (bag_ok H rdB sB hBd hCd rBK hbS (by rw [ks_len]; omega) p).to ?_
  rw [show decide ((ks E)[ix (ks E) p]? = some p) = there E p from rfl]
  rw [contK_some]; simp (disch := omega) only [go_sem, ↓reduceIte, Nat.reduceEqDiff, Nat.reduceLeDiff, H.cv_3_5, H.cv_3_66, H.cv_3_68, H.cv_5_3, H.cv_5_66, H.cv_66_3, H.cv_66_5, H.cv_68_3]
  refine hN _ ?_; clear hN N
  by_cases hfull : (cutAt E.cuts (mm p) || ((!there E p && decide (E.bags.length = 1024)) || (there E p && decide ((lAt E (ix (ks E) p)).length = 64)))) = true
  ·have hput : putP E p x = E := by unfold putP; rw [if_pos hfull]
   rw [hput]
   refine A_own q4 (by rw [f1]; simp) h23 S fun h7 bv' cv' bes' ces' m1 m2 sb rb sc rc => ?_
   have hk7 : ∀ x, h x ≠ none → h7 x = h x := fun x hx => by
    have c : x ≠ o4 := fun e => hx (by rw [e]; exact no4)
    rw [m1 x c (by rw [f3 x hx]; exact hx), kh x hx]
   have m8 : h7 o8 = some (.arr [.sc (.slice none 0 0), .sc (.slice none 0 0)]) := by rw [m1 o8 n48.symm (by rw [f2]; simp), q8]
   have lb := rb.len
   refine A_seq_gen fun N hN => W_sound ?_
   refine W_f (fun t => t 1 = .sc (.int .i64 p.1) ∧ t 2 = .sc (.int .i64 p.2) ∧ t 3 = xv ∧ t 4 = .op o4 0 ∧ t 8 = .op o8 0 ∧ t 10 = .sc (.int .i64 (ix (ks E) p : Nat)) ∧ t 11 = .sc (.bool (there E p)) ∧ True) ?_; rintro t ⟨t1, t2, t3, t4, t8, t10, t11, -⟩
   simp (disch := omega) only [go_sem, ↓reduceIte, Nat.reduceEqDiff, Nat.reduceLeDiff, H.cv_3_5, H.cv_3_66, H.cv_3_68, H.cv_5_3, H.cv_5_66, H.cv_66_3, H.cv_66_5, H.cv_68_3, t1, t2, t4, m2, sb.disc, sc.disc]
   refine (isCut_ok H sc.sl.rd sc.same sc.disc sb.disc rc hcS (by omega) p.1 p.2).to ?_
   rw [cut_is]
   cases hcut : cutAt E.cuts (mm p) with
   | true =>
    rw [contK_some]; simp (disch := omega) only [go_sem, ↓reduceIte, Nat.reduceEqDiff, Nat.reduceLeDiff, H.cv_3_5, H.cv_3_66, H.cv_3_68, H.cv_5_3, H.cv_5_66, H.cv_66_3, H.cv_66_5, H.cv_68_3, t4, t8, m2, m8, sb.disc, sc.disc, setRA2]
    exact ⟨⟨_, by rw [hcB, htw]; rfl, by rw [hcB, htw]; exact ⟨bv', cv', bes', ces', rfl, sb, rb, sc, rc⟩⟩, fun x hx => by rw [if_neg (fun e => hx (by rw [e]; exact no8))]; exact hk7 x hx⟩
   | false =>
    cases hth : there E p with
    | false =>
     have hl : E.bags.length = 1024 := by simpa [hcut, hth] using hfull
     have d1 : decide (E.bags.length = 1024) = true := decide_eq_true hl
     rw [contK_some]; simp (disch := omega) only [go_sem, ↓reduceIte, Nat.reduceEqDiff, Nat.reduceLeDiff, H.cv_3_5, H.cv_3_66, H.cv_3_68, H.cv_5_3, H.cv_5_66, H.cv_66_3, H.cv_66_5, H.cv_68_3, t4, t8, t11, hth, m2, m8, sb.disc, sc.disc, setRA2, sb.same, sb.sl.len, lb, d1]
     exact ⟨⟨_, by rw [hcB, htw]; rfl, by rw [hcB, htw]; exact ⟨bv', cv', bes', ces', rfl, sb, rb, sc, rc⟩⟩, fun x hx => by rw [if_neg (fun e => hx (by rw [e]; exact no8))]; exact hk7 x hx⟩
    | true =>
     have hi := there_lt hth
     obtain ⟨e, g0, lv, ys, rfl, sl, rl⟩ := rb.lt hi
     have hl : E.bags[ix (ks E) p].l.length = 64 := by simpa [hcut, hth, lAt, List.getElem?_eq_getElem hi] using hfull
     have d1 : decide (E.bags[ix (ks E) p].l.length = 64) = true := decide_eq_true hl
     have ll := rl.len
     rw [contK_some]; simp (disch := omega) only [go_sem, ↓reduceIte, Nat.reduceEqDiff, Nat.reduceLeDiff, H.cv_3_5, H.cv_3_66, H.cv_3_68, H.cv_5_3, H.cv_5_66, H.cv_66_3, H.cv_66_5, H.cv_68_3, t4, t8, t10, t11, hth, m2, m8, sb.disc, sc.disc, setRA2, sb.same, sb.sl.ia, g0, sl.same, sl.sl.len, ll, d1]
     exact ⟨⟨_, by rw [hcB, htw]; rfl, by rw [hcB, htw]; exact ⟨bv', cv', bes', ces', rfl, sb, rb, sc, rc⟩⟩, fun x hx => by rw [if_neg (fun e => hx (by rw [e]; exact no8))]; exact hk7 x hx⟩
  ·have hput : putP E p x = modL (if there E p then E else insBag E p) (ix (ks E) p) (· ++ [(x, false)]) := by unfold putP; rw [if_neg hfull]
   rw [hput]
   have hcut : cutAt E.cuts (mm p) = false := by
    cases h : cutAt E.cuts (mm p) with
    | false => rfl
    | true => rw [h] at hfull; simp at hfull
   refine A_seq_gen fun N hN => W_sound ?_
   refine W_f (fun t => t 1 = .sc (.int .i64 p.1) ∧ t 2 = .sc (.int .i64 p.2) ∧ t 3 = xv ∧ t 4 = .op o4 0 ∧ t 8 = .op o8 0 ∧ t 10 = .sc (.int .i64 (ix (ks E) p : Nat)) ∧ t 11 = .sc (.bool (there E p)) ∧ True) ?_; rintro t ⟨t1, t2, t3, t4, t8, t10, t11, -⟩
   simp (disch := omega) only [go_sem, ↓reduceIte, Nat.reduceEqDiff, Nat.reduceLeDiff, H.cv_3_5, H.cv_3_66, H.cv_3_68, H.cv_5_3, H.cv_5_66, H.cv_66_3, H.cv_66_5, H.cv_68_3, t1, t2, t4, q4, hBd, hCd]
   refine (isCut_ok H rdC sC hCd hBd ock hcS (by omega) p.1 p.2).to ?_
   rw [cut_is, hcut]
   have go : ∀ t : Nat → AV, t 1 = .sc (.int .i64 p.1) → t 2 = .sc (.int .i64 p.2) → t 3 = xv → t 4 = .op o4 0 → t 8 = .op o8 0 → t 10 = .sc (.int .i64 (ix (ks E) p : Nat)) → t 11 = .sc (.bool (there E p)) → N ⟨t, h6⟩ := by
    clear t1 t2 t3 t4 t8 t10 t11 t
    intro t t1 t2 t3 t4 t8 t10 t11
    refine hN _ ?_; clear hN N
    refine A_seq_gen fun M hM => ?_
    have go2 : ∀ (t : Nat → AV) (h1 h7 : Heap) (B1 : AV) (E1 : Eth), OwnS h2 h1 h7 (ix (ks E) p) B1 Cv E1 → B1.disc = B1 → ix (ks E) p < E1.bags.length → (lAt E1 (ix (ks E) p)).length ≤ 2 ^ 20 → h7 o4 = some (.arr [B1, Cv]) → h7 o8 = some (.arr [.sc (.slice none 0 0), .sc (.slice none 0 0)]) → (∀ x, h x ≠ none → h7 x = h x) → (∀ x, h2 x ≠ none → h1 x ≠ none) → (∀ x, h1 x ≠ none → h7 x ≠ none) →
      E1 = (if there E p then E else insBag E p) → t 3 = xv → t 4 = .op o4 0 → t 8 = .op o8 0 → t 10 = .sc (.int .i64 (ix (ks E) p : Nat)) → M ⟨t, h7⟩ := by
     clear t1 t2 t3 t4 t8 t10 t11 t
     intro t h1 h7 B1 E1 S1 hB1 hi hla n4 n8 kh7 h21 k17 hE1 t3 t4 t8 t10
     refine hM _ ?_
     rw [← hE1]
     obtain ⟨es, xs, oB, oC, ock, odj, oB1, oC1, olen, oge, obag⟩ := S1
     have gj : E1.bags[ix (ks E) p]? = some E1.bags[ix (ks E) p] := List.getElem?_eq_getElem hi
     obtain ⟨lv, gl, ys, hp, hrow⟩ := obag _ _ gj (by omega)
     simp only [decide_true, if_true] at hrow
     generalize hjj : ix (ks E) p = jj at *
     have hla2 : E1.bags[jj].l.length ≤ 2 ^ 20 := by
      unfold lAt at hla
      rw [gj] at hla
      exact hla
     have flv := row_fresh hrow
     rcases id oB with ⟨rfl, rfl⟩ | ⟨⟨_, rfl⟩, rfl⟩ | ⟨o, cap, z, a1, rfl, a2, a3, a4, a5⟩
     ·simp at olen; omega
     ·simp at olen; omega
     ·have hat := fl_at z oge gl (k := 2) rfl (by omega)
      have hll : jj * 3 + 2 + 1 ≤ (es.flatten ++ z).length := by
       obtain ⟨u1, _⟩ := List.getElem?_eq_some_iff.1 hat
       omega
      have hdt : ((es.flatten ++ z).drop (jj * 3 + 2)).take 1 = [lv] := by
       obtain ⟨u1, u2⟩ := List.getElem?_eq_some_iff.1 hat
       rw [List.drop_eq_getElem_cons u1, u2]
       rfl
      have hiad := fun (t : Nat → AV) (h : Heap) => iad3 (o := o) (n := es.length) (lim := some cap) (t := t) (h := h) (show jj < es.length by omega)
      have hlv : lv.disc = lv := by
       have := (oge _ (List.mem_of_getElem? gl)).2
       simp only [List.map_cons, List.map_nil, List.cons.injEq] at this
       exact this.2.2.1
      have ldis := row_dis hrow hlv
      have dB : (AV.rs o 0 3 es.length (some cap)).disc = .rs o 0 3 es.length (some cap) := rfl
      have dB2 : (AV.rs o 0 3 es.length (some cap)).dis = .rs o 0 3 es.length (some cap) := rfl
      have e4 : o4 ≠ o := fun e => by rw [← e, f1] at a1; cases a1
      have e8 : o8 ≠ o := fun e => by rw [← e, f2] at a1; cases a1
      have l4 : oid lv ≠ some o4 := fun q => h21 o4 (by rw [f1]; simp) (flv _ q)
      have l8 : oid lv ≠ some o8 := fun q => h21 o8 (by rw [f2]; simp) (flv _ q)
      have lo : oid lv ≠ some o := fun q => oB1 o rfl (flv _ q)
      have fz := frz_sf hx.df
      refine A_seq_gen fun N hN => W_sound ?_
      refine W_f (fun t => t 3 = xv ∧ t 4 = .op o4 0 ∧ t 8 = .op o8 0 ∧ t 10 = .sc (.int .i64 (jj : Nat)) ∧ True) ?_; rintro t ⟨t3, t4, t8, t10, -⟩
      refine ln9_76 ?_
      simp (disch := omega) only [go_sem, ↓reduceIte, Nat.reduceEqDiff, Nat.reduceLeDiff, H.cv_3_5, H.cv_3_66, H.cv_3_68, H.cv_5_3, H.cv_5_66, H.cv_66_3, H.cv_66_5, H.cv_68_3, t3, t4, t10, n4, dB, dB2, hCd, hiad, a5, hll, hdt, single1, ldis, hlv, hx.dd, hx.disc, hx.ddisc]
      refine (clonev_ok H hx.df (by rw [u8s_len]; omega) _).to ?_
      have elit : elemsOf h7 2 (.bs false 2 [[frz xv.dis, .sc (.bool false)]] (some 1)) = some [[frz xv.dis, .sc (.bool false)]] := rfl
      have c1 : (frz xv.dis).cells = [frz xv.dis] := by rcases fz with ⟨h, _⟩ | ⟨_, h⟩ <;> rw [h] <;> rfl
      have c2 : (frz xv.dis).isTu = false := by rcases fz with ⟨h, _⟩ | ⟨_, h⟩ <;> rw [h] <;> rfl
      have c3 : setRange [AV.sc (.slice none 0 0), AV.sc (.bool false)] 0 [frz xv.dis] = [frz xv.dis, .sc (.bool false)] := rfl
      rw [contK_some]; simp (disch := omega) only [go_sem, ↓reduceIte, Nat.reduceEqDiff, Nat.reduceLeDiff, H.cv_3_5, H.cv_3_66, H.cv_3_68, H.cv_5_3, H.cv_5_66, H.cv_66_3, H.cv_66_5, H.cv_68_3, fz.same, fz.disc, c1, c2, c3]
      have hyl := hp.len
      have hy : GE 2 [[frz xv.dis, .sc (.bool false)]] := fun e he => by
       rw [List.mem_singleton] at he
       subst he
       exact ⟨rfl, by rw [List.map_cons, fz.disc]; rfl⟩
      refine row_app hrow k17 (pc_ge hp) hy (by simp) rfl (by simp; omega) fun x2 h8 r8 hon hoid => ?_
      obtain ⟨x2d, x2s, x2c, x2t, o2, x2o, x2l⟩ := row_ne r8 (by simp)
      have u4 : h8 o4 = some (.arr [.rs o 0 3 es.length (some cap), Cv]) := by rw [hon o4 (by rw [n4]; simp) l4, n4]
      have u8 : h8 o8 = some (.arr [.sc (.slice none 0 0), .sc (.slice none 0 0)]) := by rw [hon o8 (by rw [n8]; simp) l8, n8]
      have uo : h8 o = some (.arr (es.flatten ++ z)) := by rw [hon o (by rw [a5]; simp) lo, a5]
      have hset : setRange (es.flatten ++ z) (jj * 3 + 2) [x2] = (es.set jj [.sc (.int .i64 E1.bags[jj].k.1), .sc (.int .i64 E1.bags[jj].k.2), x2]).flatten ++ z := by
       rw [set_one (by omega), fl_set (sz := 3) z oge gl (by omega)]
       rfl
      simp (disch := omega) only [go_sem, ↓reduceIte, Nat.reduceEqDiff, Nat.reduceLeDiff, H.cv_3_5, H.cv_3_66, H.cv_3_68, H.cv_5_3, H.cv_5_66, H.cv_66_3, H.cv_66_5, H.cv_68_3, hiad, x2d, x2s, x2c, x2t, uo, u4, n4, hll, hset, dB]
      have y4 : (upd h8 o (some (.arr ((es.set jj [.sc (.int .i64 E1.bags[jj].k.1), .sc (.int .i64 E1.bags[jj].k.2), x2]).flatten ++ z)))) o4 = some (.arr [.rs o 0 3 es.length (some cap), Cv]) := by rw [upd_ne _ _ e4, u4]
      have y8 : (upd h8 o (some (.arr ((es.set jj [.sc (.int .i64 E1.bags[jj].k.1), .sc (.int .i64 E1.bags[jj].k.2), x2]).flatten ++ z)))) o8 = some (.arr [.sc (.slice none 0 0), .sc (.slice none 0 0)]) := by rw [upd_ne _ _ e8, u8]
      have yo : (upd h8 o (some (.arr ((es.set jj [.sc (.int .i64 E1.bags[jj].k.1), .sc (.int .i64 E1.bags[jj].k.2), x2]).flatten ++ z)))) o = some (.arr ((es.set jj [.sc (.int .i64 E1.bags[jj].k.1), .sc (.int .i64 E1.bags[jj].k.2), x2]).flatten ++ z)) := upd_same ..
      have yk : ∀ x, x ≠ o → (upd h8 o (some (.arr ((es.set jj [.sc (.int .i64 E1.bags[jj].k.1), .sc (.int .i64 E1.bags[jj].k.2), x2]).flatten ++ z)))) x = h8 x := fun x hx => upd_ne _ _ hx
      generalize (upd h8 o (some (.arr ((es.set jj [.sc (.int .i64 E1.bags[jj].k.1), .sc (.int .i64 E1.bags[jj].k.2), x2]).flatten ++ z)))) = h9 at y4 y8 yo yk
      have r9 : Row h1 h9 2 x2 (ys ++ [[frz xv.dis, .sc (.bool false)]]) := row_other r8 fun o' ho' => yk o' fun e => by
       have := row_fresh r8 o' ho'
       exact oB1 o rfl (by rw [← e]; exact this)
      have k9 : ∀ y, h y ≠ none → h9 y = h y := fun y hy => by
       have c2 : h2 y ≠ none := by rw [f3 y hy]; exact hy
       rw [yk y (fun e => by rw [e, a1] at c2; exact c2 rfl), hon y (by rw [kh7 y hy]; exact hy) (fun q => h21 y c2 (flv _ q)), kh7 y hy]
      have hge2 : GE 3 (es.set jj [.sc (.int .i64 E1.bags[jj].k.1), .sc (.int .i64 E1.bags[jj].k.2), x2]) := fun e he => by
       rcases List.mem_or_eq_of_mem_set he with q | rfl
       ·exact oge e q
       ·exact ⟨rfl, by rw [List.map_cons, List.map_cons, List.map_cons, x2d]; rfl⟩
      have S9 : OwnS h2 h1 h9 jj (.rs o 0 3 es.length (some cap)) Cv (modL E1 jj (· ++ [(x, false)])) := by
       refine ⟨es.set jj [.sc (.int .i64 E1.bags[jj].k.1), .sc (.int .i64 E1.bags[jj].k.2), x2], xs, .inr (.inr ⟨o, cap, z, a1, by rw [List.length_set], a2, by rw [List.length_set]; exact a3, by rw [List.length_set]; exact a4, yo⟩), row_other oC fun o' ho' => ?_, ock, odj, oB1, oC1, by simp [modL, olen], hge2, bags_upd (f := (· ++ [(x, false)])) obag gj (by omega) olen (RR.append (fs := [[frz xv.dis, .sc (.bool false)]]) (ys := [(x, false)]) hp ⟨⟨_, rfl, fz⟩, trivial⟩) r9⟩
       rw [yk o' (fun e => odj o rfl (by rw [← e]; exact ho')), hon o' (by have := row_live oC o' ho'; exact this) (fun q => oC1 o' ho' (flv _ q))]
      refine hN _ ?_; clear hN N
      refine A_own y4 (by rw [f1]; simp) h21 S9 fun h10 bv' cv' bes' ces' m1 m2 sb rb sc rc => ?_
      have m8 : h10 o8 = some (.arr [.sc (.slice none 0 0), .sc (.slice none 0 0)]) := by rw [m1 o8 n48.symm (by rw [f2]; simp), y8]
      refine A_seq_gen fun N hN => W_sound ?_
      refine W_f (fun t => t 4 = .op o4 0 ∧ t 8 = .op o8 0 ∧ True) ?_; rintro t ⟨t4, t8, -⟩
      simp (disch := omega) only [go_sem, ↓reduceIte, Nat.reduceEqDiff, Nat.reduceLeDiff, H.cv_3_5, H.cv_3_66, H.cv_3_68, H.cv_5_3, H.cv_5_66, H.cv_66_3, H.cv_66_5, H.cv_68_3, t4, t8, m2, m8, sb.disc, sc.disc, setRA2]
      refine hN _ ?_; clear hN N
      refine W_sound ?_
      simp (disch := omega) only [go_sem, ↓reduceIte, Nat.reduceEqDiff, Nat.reduceLeDiff, H.cv_3_5, H.cv_3_66, H.cv_3_68, H.cv_5_3, H.cv_5_66, H.cv_66_3, H.cv_66_5, H.cv_68_3, t8, upd_same, sb.disc, sc.disc]
      exact ⟨⟨_, by rw [hcB, htw]; rfl, by rw [hcB, htw]; exact ⟨bv', cv', bes', ces', rfl, sb, rb, sc, rc⟩⟩, fun y hy => by rw [if_neg (fun e => hy (by rw [e]; exact no8)), m1 y (fun e => hy (by rw [e]; exact no4)) (by rw [f3 y hy]; exact hy), k9 y hy]⟩
    cases hth : there E p with
    | false =>
     rw [hth] at t11
     refine W_sound ?_
     simp (disch := omega) only [go_sem, ↓reduceIte, Nat.reduceEqDiff, Nat.reduceLeDiff, H.cv_3_5, H.cv_3_66, H.cv_3_68, H.cv_5_3, H.cv_5_66, H.cv_66_3, H.cv_66_5, H.cv_68_3, t1, t2, t4, t10, t11, q4, hBd, hCd, sB]
     intro oV hoV
     simp (disch := omega) only [go_sem, ↓reduceIte, Nat.reduceEqDiff, Nat.reduceLeDiff, H.cv_3_5, H.cv_3_66, H.cv_3_68, H.cv_5_3, H.cv_5_66, H.cv_66_3, H.cv_66_5, H.cv_68_3]
     have hv0 : setRange (List.replicate 1 [AV.sc (Value.int IntKind.i64 ((0 : Nat) : Int)), AV.sc (Value.int IntKind.i64 ((0 : Nat) : Int)), AV.sc (Value.slice none 0 0)]).flatten 0 [AV.sc (Value.int IntKind.i64 p.1), AV.sc (Value.int IntKind.i64 p.2), AV.sc (Value.slice none 0 0)] = [.sc (.int .i64 p.1), .sc (.int .i64 p.2), .sc (.slice none 0 0)] := rfl
     rw [hv0]
     have lB := row_live oB
     have nBV : oid Bv ≠ some oV := fun q => lB _ q hoV
     have v6 : ∀ x, h6 x ≠ none → (upd h6 oV (some (.arr [.sc (.int .i64 p.1), .sc (.int .i64 p.2), .sc (.slice none 0 0)]))) x = h6 x := fun x hx => upd_ne _ _ fun e => hx (by rw [e]; exact hoV)
     have vV : (upd h6 oV (some (.arr [.sc (.int .i64 p.1), .sc (.int .i64 p.2), .sc (.slice none 0 0)]))) oV = some (.arr [.sc (.int .i64 p.1), .sc (.int .i64 p.2), .sc (.slice none 0 0)]) := upd_same ..
     generalize upd h6 oV (some (.arr [.sc (.int .i64 p.1), .sc (.int .i64 p.2), .sc (.slice none 0 0)])) = h7 at v6 vV
     have rB7 : Row h2 h7 3 Bv es := row_other oB fun o ho => v6 o (lB o ho)
     have ixl : ix (ks E) p ≤ es.length := by have := ix_le (ks E) p; rw [ks_len] at this; omega
     refine (insB_ok H rB7 (fun x hx => by rw [v6 x (k36 x (h23 x hx))]; exact k36 x (h23 x hx)) oge (e := [.sc (.int .i64 p.1), .sc (.int .i64 p.2), .sc (.slice none 0 0)]) ⟨rfl, rfl⟩ ixl (by omega) vV nBV hE).mono ?_
     rintro r h8 ⟨rr8, on8, od8⟩
     obtain ⟨r1, r2, rc, rt, o, r3, r4⟩ := row_ne rr8 (by simp)
     have w4 : h8 o4 = some (.arr [Bv, Cv]) := by
      have : h7 o4 = some (.arr [Bv, Cv]) := by rw [v6 o4 (by rw [q4]; simp), q4]
      rw [on8 o4 (by rw [this]; simp) (fun q => by have := row_fresh oB _ q; rw [f1] at this; cases this), this]
     have w8 : h8 o8 = some (.arr [.sc (.slice none 0 0), .sc (.slice none 0 0)]) := by
      have : h7 o8 = some (.arr [.sc (.slice none 0 0), .sc (.slice none 0 0)]) := by rw [v6 o8 (by rw [q8]; simp), q8]
      rw [on8 o8 (by rw [this]; simp) (fun q => by have := row_fresh oB _ q; rw [f2] at this; cases this), this]
     have sr : setRange [Bv, Cv] 0 [r] = [r, Cv] := rfl
     rw [contK_some]; simp (disch := omega) only [go_sem, ↓reduceIte, Nat.reduceEqDiff, Nat.reduceLeDiff, H.cv_3_5, H.cv_3_66, H.cv_3_68, H.cv_5_3, H.cv_5_66, H.cv_66_3, H.cv_66_5, H.cv_68_3, r1, r2, rc, rt, t4, w4, sr]
     have z4 : (upd h8 o4 (some (.arr [r, Cv]))) o4 = some (.arr [r, Cv]) := upd_same ..
     have zk : ∀ x, x ≠ o4 → (upd h8 o4 (some (.arr [r, Cv]))) x = h8 x := fun x hx => upd_ne _ _ hx
     have k28 : ∀ x, h2 x ≠ none → h8 x ≠ none := fun x hx => by
      have c1 := k36 x (h23 x hx)
      have c2 := v6 x c1
      rw [on8 x (by rw [c2]; exact c1) (fun q => hx (row_fresh oB _ q)), c2]
      exact c1
     generalize (upd h8 o4 (some (.arr [r, Cv]))) = h9 at z4 zk
     have k29 : ∀ x, h2 x ≠ none → h9 x ≠ none := fun x hx => by
      by_cases c : x = o4
      ·rw [c, z4]; simp
      ·rw [zk x c]; exact k28 x hx
     have fr8 := row_fresh rr8
     have lC := row_live oC
     have C8 : ∀ o', oid Cv = some o' → h9 o' = h6 o' := fun o' ho' => by
      have c1 := lC o' ho'
      have c2 := v6 o' c1
      rw [zk o' (fun e => by have := row_fresh oC o' ho'; rw [e, f1] at this; cases this), on8 o' (by rw [c2]; exact c1) (fun q => odj o' q ho'), c2]
     have S9 : OwnS h2 h9 h9 (ix (ks E) p) r Cv (insBag E p) := by
      have hix : ix (ks E) p ≤ E.bags.length := by omega
      refine ⟨_, xs, row_other rr8 (fun o' ho' => zk o' (fun e => by have := fr8 o' ho'; rw [e, f1] at this; cases this)), row_other oC C8, ock, ?_, fun o' ho' => ?_, fun o' ho' => by rw [C8 o' ho']; exact lC o' ho', ?_, GE.app (GE.take oge _) (fun e he => ?_), fun i b hb hi => ?_⟩
      ·intro o' ho' hc'
       rcases od8 with q | q
       ·exact odj o' (by rw [← q]; exact ho') hc'
       ·have c1 := lC o' hc'
        have := q o' ho'
        rw [v6 o' c1] at this
        exact c1 this
      ·rw [zk o' (fun e => by have := fr8 o' ho'; rw [e, f1] at this; cases this)]
       exact row_live rr8 o' ho'
      ·simp only [insBag, List.length_append, List.length_take, List.length_cons, List.length_drop]
       omega
      ·rcases List.mem_cons.1 he with rfl | he
       ·exact ⟨rfl, rfl⟩
       ·exact GE.drop oge _ e he
      ·have hb2 : (E.bags.take (ix (ks E) p) ++ ⟨p, []⟩ :: E.bags.drop (ix (ks E) p))[i]? = some b := hb
       rw [ins_get hix] at hb2
       rw [ins_get ixl]
       have hjn : ¬ there E p = true := by rw [hth]; simp
       have hjv : j = E.bags.length := by rw [hj, if_neg hjn]
       by_cases c1 : i < ix (ks E) p
       ·rw [if_pos c1] at hb2 ⊢
        obtain ⟨lw, g2, zs, hp2, hrow2⟩ := obag i b hb2 (by omega)
        have e1 : decide (i = j) = false := decide_eq_false (by omega)
        have e2 : decide (i = ix (ks E) p) = false := decide_eq_false (by omega)
        rw [e1] at hrow2
        rw [e2]
        exact ⟨lw, g2, zs, hp2, hrow2⟩
       ·rw [if_neg c1] at hb2 ⊢
        by_cases c2 : i = ix (ks E) p
        ·rw [if_pos c2] at hb2 ⊢
         cases hb2
         refine ⟨_, rfl, [], trivial, ?_⟩
         simp only [decide_eq_true c2, if_true]
         exact .inl ⟨rfl, rfl⟩
        ·rw [if_neg c2] at hb2 ⊢
         have hlt : i - 1 < E.bags.length := by
          rcases Nat.lt_or_ge (i - 1) E.bags.length with w | w
          ·exact w
          ·rw [List.getElem?_eq_none w] at hb2; cases hb2
         obtain ⟨lw, g2, zs, hp2, hrow2⟩ := obag (i - 1) b hb2 (by omega)
         have e1 : decide (i - 1 = j) = false := decide_eq_false (by omega)
         have e2 : decide (i = ix (ks E) p) = false := decide_eq_false c2
         rw [e1] at hrow2
         rw [e2]
         exact ⟨lw, g2, zs, hp2, hrow2⟩
     have hix : ix (ks E) p ≤ E.bags.length := by omega
     refine go2 _ h9 h9 r (insBag E p) S9 r1 ?_ ?_ z4 (by rw [zk o8 n48.symm, w8]) (fun x hx => ?_) k29 (fun _ hx => hx) (by simp [hth]) (by simp [upd_at, t3]) (by simp [upd_at, t4]) (by simp [upd_at, t8]) (by simp [upd_at, t10])
     ·simp only [insBag, List.length_append, List.length_take, List.length_cons, List.length_drop]
      omega
     ·unfold lAt insBag
      simp only [ins_get hix, Nat.lt_irrefl, if_false, if_true]
      simp
     ·have c0 : x ≠ o4 := fun e => hx (by rw [e]; exact no4)
      have c1 : h6 x ≠ none := by rw [kh x hx]; exact hx
      have c2 := v6 x c1
      rw [zk x c0, on8 x (by rw [c2]; exact c1) (fun q => by have := row_fresh oB _ q; rw [f3 x hx] at this; exact hx this), c2, kh x hx]
    | true =>
     rw [hth] at t11
     refine W_sound ?_
     simp (disch := omega) only [go_sem, ↓reduceIte, Nat.reduceEqDiff, Nat.reduceLeDiff, H.cv_3_5, H.cv_3_66, H.cv_3_68, H.cv_5_3, H.cv_5_66, H.cv_66_3, H.cv_66_5, H.cv_68_3, t11]
     have hjx : j = ix (ks E) p := by rw [hj, hth]; simp
     refine go2 _ h3 h6 Bv E (by rw [← hjx]; exact S) hBd (there_lt hth) ?_ q4 q8 kh h23 k36 (by simp [hth]) (by simp [upd_at, t3]) (by simp [upd_at, t4]) (by simp [upd_at, t8]) (by simp [upd_at, t10])
     unfold lAt
     rw [List.getElem?_eq_getElem (there_lt hth)]
     exact (z3 _ (List.getElem_mem (there_lt hth))).1
   cases hth : there E p with
   | false =>
    have hl : ¬ E.bags.length = 1024 := by simpa [hcut, hth] using hfull
    have d1 : decide (E.bags.length = 1024) = false := decide_eq_false hl
    rw [contK_some]; simp (disch := omega) only [go_sem, ↓reduceIte, Nat.reduceEqDiff, Nat.reduceLeDiff, H.cv_3_5, H.cv_3_66, H.cv_3_68, H.cv_5_3, H.cv_5_66, H.cv_66_3, H.cv_66_5, H.cv_68_3, t4, t11, hth, q4, hBd, hCd, sB, rdB.len, olen, d1]
    exact go _ (by simp [upd_at, t1]) (by simp [upd_at, t2]) (by simp [upd_at, t3]) (by simp [upd_at, t4]) (by simp [upd_at, t8]) (by simp [upd_at, t10]) (by simp [upd_at, t11])
   | true =>
    have hi := there_lt hth
    have hl : ¬ E.bags[ix (ks E) p].l.length = 64 := by simpa [hcut, hth, lAt, List.getElem?_eq_getElem hi] using hfull
    have d1 : decide (E.bags[ix (ks E) p].l.length = 64) = false := decide_eq_false hl
    have gj : E.bags[ix (ks E) p]? = some E.bags[ix (ks E) p] := List.getElem?_eq_getElem hi
    obtain ⟨lv, gl, ys, hp, hrow⟩ := obag _ _ gj (by omega)
    have hjx : decide (ix (ks E) p = j) = true := by rw [hj, hth]; simp
    rw [hjx] at hrow
    simp only [if_true] at hrow
    rcases id oB with ⟨rfl, rfl⟩ | ⟨⟨_, rfl⟩, rfl⟩ | ⟨o, cap, z, a1, rfl, a2, a3, a4, a5⟩
    ·simp at olen; omega
    ·simp at olen; omega
    ·have hat := fl_at z oge gl (k := 2) rfl (by omega)
     have hll : ix (ks E) p * 3 + 2 + 1 ≤ (es.flatten ++ z).length := by
      obtain ⟨u1, _⟩ := List.getElem?_eq_some_iff.1 hat
      omega
     have hdt : ((es.flatten ++ z).drop (ix (ks E) p * 3 + 2)).take 1 = [lv] := by
      have := List.getElem?_eq_some_iff.1 hat
      obtain ⟨u1, u2⟩ := this
      rw [List.drop_eq_getElem_cons u1, u2]
      rfl
     have hiad := fun (t : Nat → AV) (h : Heap) => iad3 (o := o) (n := es.length) (lim := some cap) (t := t) (h := h) (show ix (ks E) p < es.length by omega)
     have hlv : lv.disc = lv := by
      have := (oge _ (List.mem_of_getElem? gl)).2
      simp only [List.map_cons, List.map_nil, List.cons.injEq] at this
      exact this.2.2.1
     have ldis := row_dis hrow hlv
     have lrd := row_rd hrow (pc_ge hp)
     have ll := hp.len
     rw [contK_some]; simp (disch := omega) only [go_sem, ↓reduceIte, Nat.reduceEqDiff, Nat.reduceLeDiff, H.cv_3_5, H.cv_3_66, H.cv_3_68, H.cv_5_3, H.cv_5_66, H.cv_66_3, H.cv_66_5, H.cv_68_3, t4, t10, t11, hth, q4, hBd, hCd, sB, hiad, a5, hll, hdt, single1, ldis, lrd.len, ll, d1]
     exact go _ (by simp [upd_at, t1]) (by simp [upd_at, t2]) (by simp [upd_at, t3]) (by simp [upd_at, t4]) (by simp [upd_at, t8]) (by simp [upd_at, t10]) (by simp [upd_at, t11])
 ·have hno : (checkB E && two p.1 p.2) = false := by
   cases h1 : checkB E <;> cases h2 : two p.1 p.2 <;> simp_all
  rw [hno]
  cases hcB : checkB E with
  | false =>
   simp only [Bool.false_eq_true, if_false]
   rw [contK_some]; simp (disch := omega) only [go_sem, ↓reduceIte, Nat.reduceEqDiff, Nat.reduceLeDiff, H.cv_3_5, H.cv_3_66, H.cv_3_68, H.cv_5_3, H.cv_5_66, H.cv_66_3, H.cv_66_5, H.cv_68_3, t8, f2, setRA2]
   exact ⟨⟨_, rfl, _, _, [], [], rfl, .inl ⟨rfl, rfl⟩, trivial, .inl ⟨rfl, rfl⟩, trivial⟩, fun x hx => by rw [if_neg (fun e => hx (by rw [e]; exact no8))]; exact f3 x hx⟩
  | true =>
   have htw : two p.1 p.2 = false := by simpa [hcB] using hno
   simp only [if_true]
   rw [contK_some]; simp (disch := omega) only [go_sem, ↓reduceIte, Nat.reduceEqDiff, Nat.reduceLeDiff, H.cv_3_5, H.cv_3_66, H.cv_3_68, H.cv_5_3, H.cv_5_66, H.cv_66_3, H.cv_66_5, H.cv_68_3, t1, t2]
   refine (two_ok H p.1 p.2 _).to ?_
   rw [htw]
   rw [contK_some]; simp (disch := omega) only [go_sem, ↓reduceIte, Nat.reduceEqDiff, Nat.reduceLeDiff, H.cv_3_5, H.cv_3_66, H.cv_3_68, H.cv_5_3, H.cv_5_66, H.cv_66_3, H.cv_66_5, H.cv_68_3, t8, f2, setRA2]
   exact ⟨⟨_, rfl, _, _, [], [], rfl, .inl ⟨rfl, rfl⟩, trivial, .inl ⟨rfl, rfl⟩, trivial⟩, fun x hx => by rw [if_neg (fun e => hx (by rw [e]; exact no8))]; exact f3 x hx⟩
end Go.Proofs.Ytomfknocpijmbaa
end
section
set_option linter.unusedVariables false
set_option linter.unusedSimpArgs false
namespace Go.Proofs.Ytomfknocpijmbaa
open Go.Am
theorem row_diss {h0 h : Heap} {sz : Nat} {v : AV} {es : List (List AV)} (hR : Row h0 h sz v es) : Row h0 h sz v.dis es ∧ oid v.dis = oid v ∧ v.dis.dis = v.dis ∧ v.dis.disc = v.dis ∧ v.dis.cellsD = [v.dis] ∧ v.dis.isTu = false := by
 rcases hR with ⟨rfl, h⟩ | ⟨⟨own, rfl⟩, h⟩ | ⟨o, cap, z, a1, rfl, a2⟩
 ·exact ⟨.inl ⟨rfl, h⟩, rfl, rfl, rfl, rfl, rfl⟩
 ·exact ⟨.inr (.inl ⟨⟨_, rfl⟩, h⟩), rfl, rfl, rfl, rfl, rfl⟩
 ·exact ⟨.inr (.inr ⟨o, cap, z, a1, rfl, a2⟩), rfl, rfl, rfl, rfl, rfl⟩
theorem box4 {h : Heap} {o3 o4 o5 o6 : Nat} {X Y Z W : AObj} (h3 : h o3 = none) (h4 : upd h o3 (some X) o4 = none) (h5 : upd (upd h o3 (some X)) o4 (some Y) o5 = none) (h6 : upd (upd (upd h o3 (some X)) o4 (some Y)) o5 (some Z) o6 = none) :
  ∃ h2, upd (upd (upd (upd h o3 (some X)) o4 (some Y)) o5 (some Z)) o6 (some W) = h2 ∧ h2 o3 = some X ∧ h2 o4 = some Y ∧ h2 o5 = some Z ∧ h2 o6 = some W ∧ (∀ x, h x ≠ none → h2 x = h x) ∧ (h o4 = none ∧ h o5 = none ∧ h o6 = none) ∧ (o3 ≠ o4 ∧ o3 ≠ o5 ∧ o3 ≠ o6 ∧ o4 ≠ o5 ∧ o4 ≠ o6 ∧ o5 ≠ o6) := by
 have n34 : o3 ≠ o4 := fun e => by rw [← e, upd_same] at h4; cases h4
 have n45 : o4 ≠ o5 := fun e => by rw [← e, upd_same] at h5; cases h5
 have n56 : o5 ≠ o6 := fun e => by rw [← e, upd_same] at h6; cases h6
 have n35 : o3 ≠ o5 := fun e => by rw [← e, upd_ne _ _ n34, upd_same] at h5; cases h5
 have n46 : o4 ≠ o6 := fun e => by rw [← e, upd_ne _ _ n45, upd_same] at h6; cases h6
 have n36 : o3 ≠ o6 := fun e => by rw [← e, upd_ne _ _ n35, upd_ne _ _ n34, upd_same] at h6; cases h6
 rw [upd_ne _ _ n34.symm] at h4
 rw [upd_ne _ _ n45.symm, upd_ne _ _ n35.symm] at h5
 rw [upd_ne _ _ n56.symm, upd_ne _ _ n46.symm, upd_ne _ _ n36.symm] at h6
 refine ⟨_, rfl, ?_, ?_, ?_, upd_same .., fun x hx => ?_, ⟨h4, h5, h6⟩, n34, n35, n36, n45, n46, n56⟩
 ·rw [upd_ne _ _ n36, upd_ne _ _ n35, upd_ne _ _ n34, upd_same]
 ·rw [upd_ne _ _ n46, upd_ne _ _ n45, upd_same]
 ·rw [upd_ne _ _ n56, upd_same]
 ·rw [upd_ne _ _ (fun e => hx (by rw [e]; exact h6)), upd_ne _ _ (fun e => hx (by rw [e]; exact h5)), upd_ne _ _ (fun e => hx (by rw [e]; exact h4)), upd_ne _ _ (fun e => hx (by rw [e]; exact h3))]
variable {P : Program} (H : Has P)
include H
theorem dropb_ok {h0 h : Heap} {Bv Cv : AV} {es : List (List AV)} {l : List (Int × Int)} {A B : Int} (hR : Row h0 h 3 Bv es) (hd : Bv.disc = Bv) (hCd : Cv.disc = Cv) (hE : RR BK es l) (hg : GE 3 es) (hl : l.length ≤ 2 ^ 30) (hk0 : ∀ x, h0 x ≠ none → h x ≠ none) :
  AWF P ann 0 38 [.ag [Bv, Cv], .sc (.int .i64 A), .sc (.int .i64 B)] h fun r h' => ∃ B', r = .ag [B', Cv] ∧ Row h0 h' 3 B' (fltE (btw A B) es l) ∧ Only h h' Bv ∧ oid B' = oid Bv ∧ B'.disc = B' := by
 refine AWF.fnc H.f0_38 rfl ?_
 have sB := row_dis hR hd
 (refine W_seq_gen fun N hN => ?_); simp (disch := omega) only [go_sem, ↓reduceIte, Nat.reduceEqDiff, Nat.reduceLeDiff, H.cv_3_5, H.cv_3_66, H.cv_3_68, H.cv_5_3, H.cv_5_66, H.cv_66_3, H.cv_66_5, H.cv_68_3, hd, hCd]
 intro o3 h3 o4 h4 o5 h5 o6 h6
 obtain ⟨h2, hh, f3, f4, f5, f6, fk, ⟨g4, g5, g6⟩, n34, n35, n36, n45, n46, n56⟩ := box4 (W := .arr [.sc (.slice none 0 0), .sc (.slice none 0 0)]) h3 h4 h5 h6
 rw [hh]
 clear hh h4 h5 h6
 refine hN _ ?_; clear hN N
 refine W_f (fun t => t 3 = .op o3 0 ∧ t 4 = .op o4 0 ∧ t 5 = .op o5 0 ∧ t 6 = .op o6 0 ∧ True) ?_; rintro t ⟨t3, t4, t5, t6, -⟩
 have lB := row_live hR
 have R2 : Row h0 h2 3 Bv es := row_other hR fun o ho => fk o (lB o ho)
 have n3 : oid Bv ≠ some o3 := fun q => lB _ q h3
 have n4 : oid Bv ≠ some o4 := fun q => lB _ q g4
 have n5 : oid Bv ≠ some o5 := fun q => lB _ q g5
 have n6 : oid Bv ≠ some o6 := fun q => lB _ q g6
 (refine W_seq_gen fun N hN => ?_); simp (disch := omega) only [go_sem, ↓reduceIte, Nat.reduceEqDiff, Nat.reduceLeDiff, H.cv_3_5, H.cv_3_66, H.cv_3_68, H.cv_5_3, H.cv_5_66, H.cv_66_3, H.cv_66_5, H.cv_68_3, t3, t4, t5, f3, hd, hCd, sB]
 refine AWF.mono (AWF.disR (Q := fun r h' => Row h0 h' 3 r (fltE (btw A B) es l) ∧ Only h2 h' Bv ∧ (oid r = oid Bv) ∧ r.dis = r ∧ r.disc = r ∧ r.cellsD = [r] ∧ r.isTu = false) (delf_ok H R2 sB hE hg hl f4 f5 n4 n5) fun r h' ⟨w1, w2, w3⟩ => by
  obtain ⟨d1, d2, d3, d4, d5, d6⟩ := row_diss w1
  exact ⟨d1, w2, by rw [d2]; exact w3, d3, d4, d5, d6⟩) ?_
 rintro r h7 ⟨rr, on, od, d3, d4, d5, d6⟩
 have k3 : h7 o3 = some (.arr [Bv, Cv]) := by rw [on o3 (by rw [f3]; simp) n3, f3]
 have k6 : h7 o6 = some (.arr [.sc (.slice none 0 0), .sc (.slice none 0 0)]) := by rw [on o6 (by rw [f6]; simp) n6, f6]
 have sr : setRange [Bv, Cv] 0 [r] = [r, Cv] := rfl
 rw [contK_some]; simp (disch := omega) only [go_sem, ↓reduceIte, Nat.reduceEqDiff, Nat.reduceLeDiff, H.cv_3_5, H.cv_3_66, H.cv_3_68, H.cv_5_3, H.cv_5_66, H.cv_66_3, H.cv_66_5, H.cv_68_3, t3, k3, d3, d4, d5, d6, sr]
 have y3 : (upd h7 o3 (some (.arr [r, Cv]))) o3 = some (.arr [r, Cv]) := upd_same ..
 have yk : ∀ x, x ≠ o3 → (upd h7 o3 (some (.arr [r, Cv]))) x = h7 x := fun x hx => upd_ne _ _ hx
 generalize (upd h7 o3 (some (.arr [r, Cv]))) = h8 at y3 yk
 have y6 : h8 o6 = some (.arr [.sc (.slice none 0 0), .sc (.slice none 0 0)]) := by rw [yk o6 n36.symm, k6]
 refine hN _ ?_; clear hN N
 refine W_f (fun t => t 3 = .op o3 0 ∧ t 6 = .op o6 0 ∧ True) ?_; rintro t ⟨t3, t6, -⟩
 simp (disch := omega) only [go_sem, ↓reduceIte, Nat.reduceEqDiff, Nat.reduceLeDiff, H.cv_3_5, H.cv_3_66, H.cv_3_68, H.cv_5_3, H.cv_5_66, H.cv_66_3, H.cv_66_5, H.cv_68_3, t3, t6, y3, y6, d4, hCd, setRA2]
 refine ⟨r, rfl, ?_, fun x hx hn => ?_, od, d4⟩
 ·refine row_other rr fun o ho => ?_
  rw [od] at ho
  have a3 : o ≠ o3 := fun e => n3 (by rw [← e]; exact ho)
  have a6 : o ≠ o6 := fun e => n6 (by rw [← e]; exact ho)
  simp [upd, a6, yk o a3]
 ·have a3 : x ≠ o3 := fun e => hx (by rw [e]; exact h3)
  have a6 : x ≠ o6 := fun e => hx (by rw [e]; exact g6)
  have := fk x hx
  simp [upd, a6, yk x a3, on x (by rw [this]; exact hx) hn, this]
end Go.Proofs.Ytomfknocpijmbaa
end
