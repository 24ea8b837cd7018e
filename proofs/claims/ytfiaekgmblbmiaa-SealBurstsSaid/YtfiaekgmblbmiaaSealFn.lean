/- What the functions of the package seal come to. -/
import Derived.Test.YtfiaekgmblbmiaaSealCode
import Derived.Test.YtfiaekgmblbmiaaAmSl
set_option linter.unusedVariables false
set_option linter.unusedSimpArgs false
namespace Go.Proofs.Ytfiaekgmblbmiaa
open Go.Am

def u32 (n : Nat) : AV := .sc (.int .u32 n)

/-! ### The sum -/
def poly : BitVec 24 := 0x864CFB
def stepS (x : BitVec 24) : BitVec 24 := if x.msb then (x <<< 1) ^^^ poly else x <<< 1
def byteS (x : BitVec 24) (b : UInt8) : BitVec 24 := Nat.repeat stepS 8 (x ^^^ (BitVec.ofNat 24 b.toNat <<< 16))
def sumS (l : List UInt8) : BitVec 24 := l.foldl byteS 0xB704CE

theorem xor_in (x : BitVec 24) (b : UInt8) : x.toNat ^^^ (b.toNat * 2 ^ 16) = (x ^^^ (BitVec.ofNat 24 b.toNat <<< 16)).toNat := by
  have hb : b.toNat < 256 := b.toNat_lt
  rw [BitVec.toNat_xor, BitVec.toNat_shiftLeft, BitVec.toNat_ofNat, Nat.shiftLeft_eq]
  congr 1
  omega

theorem msb_and (x : BitVec 24) : (x.toNat &&& 8388608 = 0) ↔ x.msb = false := by
  have h2 : x.msb = x.toNat.testBit 23 := by rw [BitVec.msb_eq_getLsbD_last]; rfl
  rw [show (8388608 : Nat) = 2 ^ 23 from rfl, h2]
  constructor
  · intro h
    have h3 := Nat.testBit_and x.toNat (2 ^ 23) 23
    rw [h, Nat.testBit_two_pow_self] at h3
    simpa using h3.symm
  · intro h
    apply Nat.eq_of_testBit_eq
    intro i
    rw [Nat.testBit_and, Nat.testBit_two_pow]
    by_cases hi : 23 = i
    · subst hi; simp [h]
    · simp [hi]

theorem step_one (x : BitVec 24) (h : x.msb = true) : (x.toNat * 2 ^ 1 ^^^ 8801531) &&& 16777215 = (stepS x).toNat := by
  rw [show (16777215 : Nat) = 2 ^ 24 - 1 from rfl, Nat.and_two_pow_sub_one_eq_mod]
  unfold stepS
  rw [if_pos h, BitVec.toNat_xor, BitVec.toNat_shiftLeft, Nat.shiftLeft_eq, Nat.xor_mod_two_pow]
  rfl

theorem step_zero (x : BitVec 24) (h : x.msb = false) : x.toNat * 2 ^ 1 = (stepS x).toNat := by
  unfold stepS
  rw [if_neg (by simp [h]), BitVec.toNat_shiftLeft, Nat.shiftLeft_eq]
  rw [BitVec.msb_eq_decide] at h
  simp at h
  have := x.isLt
  omega

/-- The same, bit by bit. -/
def stepR (x : BitVec 24) (q : Bool) : BitVec 24 := if x.msb != q then (x <<< 1) ^^^ poly else x <<< 1
def bitAt (l : List UInt8) (i : Nat) : Bool := decide ((l.getD (i / 8) 0).toNat / 2 ^ (7 - i % 8) % 2 = 1)
def sumR (l : List UInt8) : Nat → BitVec 24
  | 0 => 0xB704CE
  | i + 1 => stepR (sumR l i) (bitAt l i)

theorem msb_div (x : BitVec 24) : x.toNat / 8388608 = if x.msb then 1 else 0 := by
  rw [BitVec.msb_eq_decide]
  have := x.isLt
  by_cases h : 2 ^ (24 - 1) ≤ x.toNat <;> simp [h] <;> omega

theorem shl_rem (x : BitVec 24) : x.toNat % 8388608 * 2 = (x <<< 1).toNat := by
  rw [BitVec.toNat_shiftLeft, Nat.shiftLeft_eq]
  omega

theorem xor_poly (x : BitVec 24) : x.toNat ^^^ 8801531 = (x ^^^ poly).toNat := by
  rw [BitVec.toNat_xor]
  rfl

/-- A number's three bytes. -/
def three (n : Nat) : List UInt8 := [UInt8.ofNat (n / 65536), UInt8.ofNat (n / 256), UInt8.ofNat n]
def num3 (a b c : UInt8) : Nat := a.toNat * 65536 + b.toNat * 256 + c.toNat

def take3 (l : List UInt8) : Nat := num3 (l.getD 0 0) (l.getD 1 0) (l.getD 2 0)

theorem or3 (a b c : UInt8) : (a.toNat * 2 ^ 16 ||| b.toNat * 2 ^ 8) ||| c.toNat = num3 a b c := by
  have ha := a.toNat_lt; have hb := b.toNat_lt; have hc := c.toNat_lt
  have h1 : a.toNat * 2 ^ 16 ||| b.toNat * 2 ^ 8 = a.toNat * 2 ^ 16 + b.toNat * 2 ^ 8 := by
    rw [Nat.mul_comm, Nat.mul_comm b.toNat]
    have e : (2 : Nat) ^ 16 * a.toNat = 2 ^ 16 * a.toNat := rfl
    exact (Nat.two_pow_add_eq_or_of_lt (b := 2 ^ 8 * b.toNat) (i := 16) (by omega) a.toNat).symm
  have h2 : (a.toNat * 2 ^ 16 + b.toNat * 2 ^ 8) ||| c.toNat = a.toNat * 2 ^ 16 + b.toNat * 2 ^ 8 + c.toNat := by
    have e : a.toNat * 2 ^ 16 + b.toNat * 2 ^ 8 = 2 ^ 8 * (a.toNat * 2 ^ 8 + b.toNat) := by omega
    rw [e]
    exact (Nat.two_pow_add_eq_or_of_lt (b := c.toNat) (i := 8) (by omega) _).symm
  rw [h1, h2]
  unfold num3
  omega

variable {P : Program} (H : Has P)
include H

theorem three_ok (n : Nat) (hn : n < 2 ^ 24) (h : Heap) : AWF P ann 0 20 [u32 n] h fun v h' => v = .bs true 1 (u8s (three n)) (some 3) ∧ h' = h := by
  refine AWF.fn H.f0_20 rfl ?_
  simp (disch := first | omega | (simp only [List.length_cons, List.length_nil, List.length_append, u8s_len]; omega)) only [code0_20, u32, go_sem, ↓reduceIte, Nat.reduceEqDiff, Nat.reduceAdd, Nat.reduceBEq, Int.reduceEq, H.cv_3_29, H.cv_3_34, H.cv_5_3, H.cv_5_29, H.cv_29_3, H.cv_29_5, H.cv_33_3, wrap_u32m, wrap_u8m]
  simp [fillL, setRange, upd_at, AV.cells, AV.isTu, chunks, resA, res1, u8s, three, ev_t, dis_sc]

theorem put_ok {v : AV} {l : List UInt8} (hv : SG 1 v (u8s l)) (hl : l.length < 2 ^ 40) (n : Nat) (hn : n < 2 ^ 24) (h : Heap) : AWF P ann 0 18 [v, u32 n] h fun r h' => r = catV 1 (u8s (three n)) v ∧ h' = h := by
  refine AWF.fn H.f0_18 rfl ?_
  have hlen := @u8s_len l
  have h16 : n / 2 ^ 16 = n / 65536 := rfl
  have h8 : n / 2 ^ 8 = n / 256 := rfl
  simp (disch := first | omega | (simp only [List.length_cons, List.length_nil, List.length_append, u8s_len]; omega)) only [code0_18, u32, go_sem, ↓reduceIte, Nat.reduceEqDiff, Nat.reduceAdd, Nat.reduceBEq, Int.reduceEq, H.cv_3_29, H.cv_3_34, H.cv_5_3, H.cv_5_29, H.cv_29_3, H.cv_29_5, H.cv_33_3, wrap_u8m, sb_shr32, hv.app, h16, h8]
  simp [three, u8s]

omit H in
theorem get3s {l : List UInt8} (hl : 3 ≤ l.length) : ∃ a b c, take3 l = num3 a b c ∧ (u8s l)[0]? = some [.sc (.int .u8 (a.toNat : Int))] ∧ (u8s l)[1]? = some [.sc (.int .u8 (b.toNat : Int))] ∧ (u8s l)[2]? = some [.sc (.int .u8 (c.toNat : Int))] := by
  match l, hl with
  | a :: b :: c :: r, _ => exact ⟨a, b, c, rfl, rfl, rfl, rfl⟩

theorem take_ok {v : AV} {l : List UInt8} (hv : SL 1 v (u8s l)) (hl : 3 ≤ l.length) (h : Heap) : AWF P ann 0 19 [v] h fun w h' => w = u32 (take3 l) ∧ h' = h := by
  refine AWF.fn H.f0_19 rfl ?_
  obtain ⟨a, b, c, ht, g0, g1, g2⟩ := get3s hl
  have ha := a.toNat_lt; have hb := b.toNat_lt; have hc := c.toNat_lt
  have ho : (a.toNat * 2 ^ 16 ||| b.toNat * 2 ^ 8) < 4294967296 := Nat.or_lt_two_pow (n := 32) (by omega) (by omega)
  simp (disch := first | omega | (simp only [List.length_cons, List.length_nil, List.length_append, u8s_len]; omega)) only [code0_19, go_sem, ↓reduceIte, Nat.reduceEqDiff, Nat.reduceAdd, Nat.reduceBEq, Int.reduceEq, H.cv_3_29, H.cv_3_34, H.cv_5_3, H.cv_5_29, H.cv_29_3, H.cv_29_5, H.cv_33_3, hv.dis.ia, g0, g1, g2, wrap_u32u, sb_shl32, sb_or32, or3, u32, ht]

theorem number_ok {v : AV} {l : List UInt8} (hv : SL 1 v (u8s l)) (hl : 3 ≤ l.length) (h : Heap) : AWF P ann 0 21 [v] h fun w h' => w = .sc (.int .i64 (take3 l : Nat)) ∧ h' = h := by
  refine AWF.fn H.f0_21 rfl ?_
  obtain ⟨a, b, c, ht, g0, g1, g2⟩ := get3s hl
  have ha := a.toNat_lt; have hb := b.toNat_lt; have hc := c.toNat_lt
  simp (disch := first | omega | (simp only [List.length_cons, List.length_nil, List.length_append, u8s_len]; omega)) only [code0_21, go_sem, ↓reduceIte, Nat.reduceEqDiff, Nat.reduceAdd, Nat.reduceBEq, Int.reduceEq, H.cv_3_29, H.cv_3_34, H.cv_5_3, H.cv_5_29, H.cv_29_3, H.cv_29_5, H.cv_33_3, hv.dis.ia, g0, g1, g2, ht, num3]
  rfl

theorem sum_ok {v : AV} {l : List UInt8} (hv : SL 1 v (u8s l)) (hl : l.length < 2 ^ 60) (h : Heap) : AWF P ann 0 11 [v] h fun v h' => v = u32 (sumS l).toNat ∧ h' = h := by
  refine AWF.fn H.f0_11 rfl ?_
  have hlen := @u8s_len l
  simp (disch := first | omega | (simp only [List.length_cons, List.length_nil, List.length_append, u8s_len]; omega)) only [code0_11, u32, go_sem, ↓reduceIte, Nat.reduceEqDiff, Nat.reduceAdd, Nat.reduceBEq, Int.reduceEq, H.cv_3_29, H.cv_3_34, H.cv_5_3, H.cv_5_29, H.cv_29_3, H.cv_29_5, H.cv_33_3, hv.dis.len]
  refine AW_loopN (fun n t h' => h' = h ∧ ∃ i, n = l.length - i ∧ i ≤ l.length ∧ t 6 = v.dis ∧ t 7 = .sc (.int .i64 (l.length : Nat)) ∧ t 8 = .sc (.int .i64 (i : Nat)) ∧ t 3 = .sc (.int .u32 ((l.take i).foldl byteS 0xB704CE).toNat))
    (n := l.length) ⟨rfl, 0, rfl, Nat.zero_le _, rfl, rfl, rfl, rfl⟩ ?_
  rintro n t h' ⟨rfl, i, rfl, hi, t6, t7, t8, t3⟩
  have hx : ∀ b : BitVec 24, b.toNat < 16777216 := fun b => b.isLt
  rcases Nat.lt_or_ge i l.length with hlt | hge
  · have hget := u8s_get hlt
    have hb : l[i].toNat < 256 := l[i].toNat_lt
    have hX := hx ((l.take i).foldl byteS 0xB704CE)
    have hq : i < l.length := by omega
    simp (disch := first | omega | (simp only [List.length_cons, List.length_nil, List.length_append, u8s_len]; omega)) only [go_sem, ↓reduceIte, Nat.reduceEqDiff, Nat.reduceAdd, Nat.reduceBEq, Int.reduceEq, H.cv_3_29, H.cv_3_34, H.cv_5_3, H.cv_5_29, H.cv_29_3, H.cv_29_5, H.cv_33_3, t6, t7, t8, t3, hq, hget, hv.dis.ia, wrap_u32u, sb_shl32, sb_xor32, xor_in]
    have hY := hx ((l.take i).foldl byteS 0xB704CE ^^^ BitVec.ofNat 24 l[i].toNat <<< 16)
    generalize hy : ((l.take i).foldl byteS 0xB704CE ^^^ BitVec.ofNat 24 l[i].toNat <<< 16) = y at hY
    refine AW_loopN (fun n t h2 => h2 = h' ∧ ∃ j, n = 8 - j ∧ j ≤ 8 ∧ t 6 = v.dis ∧ t 7 = .sc (.int .i64 (l.length : Nat)) ∧ t 8 = .sc (.int .i64 (i : Nat)) ∧ t 17 = .sc (.int .i64 (j : Nat)) ∧ t 3 = .sc (.int .u32 (Nat.repeat stepS j y).toNat))
      (n := 8) ?_ ?_
    · refine ⟨rfl, 0, rfl, Nat.zero_le _, ?_, ?_, ?_, ?_, ?_⟩ <;> simp only [upd_at] <;> simp [t6, t7, t8, Nat.repeat]
    · rintro n u h2 ⟨rfl, j, rfl, hj, u6, u7, u8, u17, u3⟩
      rcases Nat.lt_or_ge j 8 with hj8 | hj8
      · have hZ := hx (Nat.repeat stepS j y)
        have hq2 : j < 8 := by omega
        have hxo : ((Nat.repeat stepS j y).toNat * 2 ^ 1 ^^^ 8801531) < 4294967296 := Nat.xor_lt_two_pow (n := 32) (by omega) (by omega)
        cases hm : (Nat.repeat stepS j y).msb with
        | true =>
          have ha : ¬ ((Nat.repeat stepS j y).toNat &&& 8388608 = 0) := by rw [msb_and, hm]; simp
          simp (disch := first | omega | (simp only [List.length_cons, List.length_nil, List.length_append, u8s_len]; omega)) only [go_sem, ↓reduceIte, Nat.reduceEqDiff, Nat.reduceAdd, Nat.reduceBEq, Int.reduceEq, H.cv_3_29, H.cv_3_34, H.cv_5_3, H.cv_5_29, H.cv_29_3, H.cv_29_5, H.cv_33_3, u6, u7, u8, u17, u3, hq2, ha, sb_shl32, sb_xor32, sb_and32, step_one _ hm]
          exact ⟨8 - (j + 1), by omega, j + 1, rfl, by omega, rfl, rfl⟩
        | false =>
          have ha : ((Nat.repeat stepS j y).toNat &&& 8388608 = 0) := by rw [msb_and, hm]
          simp (disch := first | omega | (simp only [List.length_cons, List.length_nil, List.length_append, u8s_len]; omega)) only [go_sem, ↓reduceIte, Nat.reduceEqDiff, Nat.reduceAdd, Nat.reduceBEq, Int.reduceEq, H.cv_3_29, H.cv_3_34, H.cv_5_3, H.cv_5_29, H.cv_29_3, H.cv_29_5, H.cv_33_3, u6, u7, u8, u17, u3, hq2, ha, sb_shl32, sb_xor32, sb_and32, step_zero _ hm]
          exact ⟨8 - (j + 1), by omega, j + 1, rfl, by omega, rfl, rfl⟩
      · have hj' : j = 8 := by omega
        subst hj'
        have hq2 : ¬ 8 < 8 := by omega
        simp (disch := first | omega | (simp only [List.length_cons, List.length_nil, List.length_append, u8s_len]; omega)) only [go_sem, ↓reduceIte, Nat.reduceEqDiff, Nat.reduceAdd, Nat.reduceBEq, Int.reduceEq, H.cv_3_29, H.cv_3_34, H.cv_5_3, H.cv_5_29, H.cv_29_3, H.cv_29_5, H.cv_33_3, u6, u7, u8, u17, u3, hq2]
        refine ⟨l.length - (i + 1), by omega, i + 1, rfl, by omega, rfl, ?_⟩
        rw [← hy]
        have : l.take (i + 1) = l.take i ++ [l[i]] := by rw [List.take_add_one]; simp [hlt]
        rw [this, List.foldl_append]
        rfl
  · have hi' : i = l.length := by omega
    subst hi'
    have hq : ¬ l.length < l.length := by omega
    simp (disch := first | omega | (simp only [List.length_cons, List.length_nil, List.length_append, u8s_len]; omega)) only [go_sem, ↓reduceIte, Nat.reduceEqDiff, Nat.reduceAdd, Nat.reduceBEq, Int.reduceEq, H.cv_3_29, H.cv_3_34, H.cv_5_3, H.cv_5_29, H.cv_29_3, H.cv_29_5, H.cv_33_3, t6, t7, t8, t3, hq, List.take_length, sumS]

theorem sumRef_ok {v : AV} {l : List UInt8} (hv : SL 1 v (u8s l)) (hl : l.length < 2 ^ 59) (h : Heap) : AWF P ann 0 12 [v] h fun v h' => v = u32 (sumR l (8 * l.length)).toNat ∧ h' = h := by
  refine AWF.fn H.f0_12 rfl ?_
  have hlen := @u8s_len l
  simp (disch := first | omega | (simp only [List.length_cons, List.length_nil, List.length_append, u8s_len]; omega)) only [code0_12, u32, go_sem, ↓reduceIte, Nat.reduceEqDiff, Nat.reduceAdd, Nat.reduceBEq, Int.reduceEq, H.cv_3_29, H.cv_3_34, H.cv_5_3, H.cv_5_29, H.cv_29_3, H.cv_29_5, H.cv_33_3]
  have hx : ∀ b : BitVec 24, b.toNat < 16777216 := fun b => b.isLt
  refine AW_loopN (fun n t h' => h' = h ∧ ∃ i, n = 8 * l.length - i ∧ i ≤ 8 * l.length ∧ t 0 = v ∧ t 4 = .sc (.int .i64 (i : Nat)) ∧ t 3 = .sc (.int .u32 (sumR l i).toNat))
    (n := 8 * l.length) ⟨rfl, 0, rfl, Nat.zero_le _, rfl, rfl, rfl⟩ ?_
  rintro n t h' ⟨rfl, i, rfl, hi, t0, t4, t3⟩
  rcases Nat.lt_or_ge i (8 * l.length) with hlt | hge
  · have hlt8 : i / 8 < l.length := by omega
    have hget := u8s_get hlt8
    have hb : l[i / 8].toNat < 256 := l[i / 8].toNat_lt
    have hX := hx (sumR l i)
    have hY := hx (sumR l i <<< 1)
    have hq : i < 8 * l.length := by omega
    have hs : ((7 : Nat) : Int) - ((i % 8 : Nat) : Int) = ((7 - i % 8 : Nat) : Int) := by omega
    have hbit : l[i / 8].toNat / 2 ^ (7 - i % 8) % 2 = if bitAt l i then 1 else 0 := by
      unfold bitAt
      rw [List.getD_eq_getElem?_getD, List.getElem?_eq_getElem hlt8]
      simp only [Option.getD_some]
      by_cases h1 : l[i / 8].toNat / 2 ^ (7 - i % 8) % 2 = 1 <;> simp [h1] <;> omega
    have hsmall : l[i / 8].toNat / 2 ^ (7 - i % 8) ≤ l[i / 8].toNat := Nat.div_le_self ..
    simp (maxSteps := 400000) (disch := first | omega | (simp only [List.length_cons, List.length_nil, List.length_append, u8s_len]; omega)) only [go_sem, ↓reduceIte, Nat.reduceEqDiff, Nat.reduceAdd, Nat.reduceBEq, Int.reduceEq, H.cv_3_29, H.cv_3_34, H.cv_5_3, H.cv_5_29, H.cv_29_3, H.cv_29_5, H.cv_33_3, hv.dis.len, hv.dis.ia, nat_add, nat_mul, wrap_u32u, wrap_u64u, t0, t4, t3, hq, hget, hs, sb_shr32]
    rw [hbit, msb_div, shl_rem, sb_xor32 (by omega) (by omega), xor_poly]
    have key : ∀ p q : Bool, (((if p then 1 else 0 : Nat)) = ((if q then 1 else 0 : Nat))) = (p = q) := by decide
    rw [key]
    refine ⟨fun hc => ⟨_, rfl, rfl, 8 * l.length - (i + 1), by omega, i + 1, rfl, by omega, rfl, ?_⟩, fun hc => ⟨8 * l.length - (i + 1), by omega, i + 1, rfl, by omega, rfl, ?_⟩⟩
    · show _ = Value.int .u32 ((stepR (sumR l i) (bitAt l i)).toNat : Nat)
      unfold stepR
      rw [if_pos (by simpa using hc)]
    · show _ = Value.int .u32 ((stepR (sumR l i) (bitAt l i)).toNat : Nat)
      unfold stepR
      rw [if_neg (by rw [hc]; simp)]
  · have hi' : i = 8 * l.length := by omega
    subst hi'
    have hq : ¬ 8 * l.length < 8 * l.length := by omega
    simp (disch := first | omega | (simp only [List.length_cons, List.length_nil, List.length_append, u8s_len]; omega)) only [go_sem, ↓reduceIte, Nat.reduceEqDiff, Nat.reduceAdd, Nat.reduceBEq, Int.reduceEq, H.cv_3_29, H.cv_3_34, H.cv_5_3, H.cv_5_29, H.cv_29_3, H.cv_29_5, H.cv_33_3, hv.dis.len, nat_add, nat_mul, t0, t4, t3, hq]
end Go.Proofs.Ytfiaekgmblbmiaa
