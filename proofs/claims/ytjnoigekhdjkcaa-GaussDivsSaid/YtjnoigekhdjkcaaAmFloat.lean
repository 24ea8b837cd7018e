/- Whole numbers as floats and complex numbers: exact below 2^53. -/
import Derived.Test.YtjnoigekhdjkcaaAmEq
import Derived.Laws.ComplexArith
set_option linter.unusedVariables false
set_option linter.unusedSimpArgs false
namespace Go.Am
open Ieee

/-- A datum stands for a whole number. -/
def IsN (d : Datum) (n : Int) : Prop := ∃ (s : Bool) (m e : Nat), d = .number s m (-(e : Int)) ∧ m = n.natAbs * 2 ^ e ∧ (n ≠ 0 → s = decide (n < 0))

theorem signed_isN {n : Int} {s : Bool} {m e k : Nat} (hm : m = n.natAbs * 2 ^ e) (hs : n ≠ 0 → s = decide (n < 0)) : signed s m k = n * ((2 ^ (e + k) : Nat) : Int) := by
  unfold signed
  rw [Nat.shiftLeft_eq, hm, Nat.mul_assoc, ← Nat.pow_add]
  by_cases h0 : n = 0
  · subst h0; simp
  · rw [hs h0]
    by_cases h1 : n < 0
    · have e1 : n = -(n.natAbs : Int) := by omega
      rw [if_pos (by simpa using h1)]
      conv => rhs; rw [e1]
      rw [Int.natCast_mul, Int.neg_mul]
    · have e1 : n = (n.natAbs : Int) := by omega
      rw [if_neg (by simpa using h1)]
      conv => rhs; rw [e1]
      rw [Int.natCast_mul]

theorem isN_sum {d d' : Datum} {a b : Int} (h1 : IsN d a) (h2 : IsN d' b) : ∃ r, d.sum d' = some r ∧ IsN r (a + b) := by
  obtain ⟨s, m, e, rfl, hm, hs⟩ := h1
  obtain ⟨t, n, f, rfl, hn, ht⟩ := h2
  refine ⟨_, rfl, ?_⟩
  have hb : min (-(e : Int)) (-(f : Int)) = -((max e f : Nat) : Int) := by omega
  have k1 : (-(e : Int) - -((max e f : Nat) : Int)).toNat = max e f - e := by omega
  have k2 : (-(f : Int) - -((max e f : Nat) : Int)).toNat = max e f - f := by omega
  simp only [hb, k1, k2]
  rw [signed_isN hm hs, signed_isN hn ht]
  have g1 : e + (max e f - e) = max e f := by omega
  have g2 : f + (max e f - f) = max e f := by omega
  rw [g1, g2, ← Int.add_mul]
  generalize max e f = g
  have hp : 0 < 2 ^ g := Nat.pow_pos (by decide)
  have hpi : (0 : Int) < ((2 ^ g : Nat) : Int) := by exact_mod_cast hp
  refine ⟨_, _, g, rfl, ?_, ?_⟩
  · rw [Int.natAbs_mul, Int.natAbs_natCast]
  · intro h0
    have : ¬ (a + b) * ((2 ^ g : Nat) : Int) = 0 := Int.mul_ne_zero h0 (by omega)
    rw [if_neg this]
    congr 1
    simp only [eq_iff_iff]
    constructor
    · intro h
      by_cases q : a + b < 0
      · exact q
      · have := Int.mul_nonneg (a := a + b) (b := ((2 ^ g : Nat) : Int)) (by omega) (by omega)
        omega
    · intro h
      exact Int.mul_neg_of_neg_of_pos h hpi

theorem isN_opp {d : Datum} {a : Int} (h : IsN d a) : IsN d.opposite (-a) := by
  obtain ⟨s, m, e, rfl, hm, hs⟩ := h
  refine ⟨!s, m, e, rfl, by rw [hm, Int.natAbs_neg], fun h0 => ?_⟩
  have h1 : a ≠ 0 := by omega
  rw [hs h1]
  by_cases q : a < 0
  · have : ¬ -a < 0 := by omega
    rw [decide_eq_true q, decide_eq_false this]
    rfl
  · have : -a < 0 := by omega
    rw [decide_eq_false q, decide_eq_true this]
    rfl

theorem isN_product {d d' : Datum} {a b : Int} (h1 : IsN d a) (h2 : IsN d' b) : ∃ r, d.product d' = some r ∧ IsN r (a * b) := by
  obtain ⟨s, m, e, rfl, hm, hs⟩ := h1
  obtain ⟨t, n, f, rfl, hn, ht⟩ := h2
  refine ⟨_, rfl, s ^^ t, m * n, e + f, ?_, ?_, ?_⟩
  · congr 1
    omega
  · rw [hm, hn, Int.natAbs_mul, Nat.pow_add]
    simp only [Nat.mul_assoc, Nat.mul_left_comm, Nat.mul_comm]
  · intro h0
    have ha : a ≠ 0 := fun q => h0 (by rw [q, Int.zero_mul])
    have hb : b ≠ 0 := fun q => h0 (by rw [q, Int.mul_zero])
    rw [hs ha, ht hb]
    rcases Int.lt_or_gt_of_ne ha with p | p <;> rcases Int.lt_or_gt_of_ne hb with q | q
    · have := Int.mul_pos_of_neg_of_neg p q
      have e1 : ¬ a * b < 0 := by omega
      simp [p, q, e1]
    · have e1 := Int.mul_neg_of_neg_of_pos p q
      have e2 : ¬ b < 0 := by omega
      simp [p, e2, e1]
    · have e1 := Int.mul_neg_of_pos_of_neg p q
      have e2 : ¬ a < 0 := by omega
      simp [q, e2, e1]
    · have := Int.mul_pos p q
      have e1 : ¬ a * b < 0 := by omega
      have e2 : ¬ a < 0 := by omega
      have e3 : ¬ b < 0 := by omega
      simp [e1, e2, e3]

theorem pow_log {m e : Nat} (hm : 0 < m) (h : 2 ^ e ≤ m) : e ≤ m.log2 := (Nat.le_log2 (by omega)).2 h
theorem log_mul {n e : Nat} (hn : 0 < n) : (n * 2 ^ e).log2 = n.log2 + e := by
  have h1 := (Nat.log2_eq_iff (n := n) (k := n.log2) (by omega)).1 rfl
  rw [Nat.log2_eq_iff (by have := Nat.pow_pos (n := e) (show 0 < 2 by decide); exact Nat.ne_of_gt (Nat.mul_pos hn this))]
  have hp : 0 < 2 ^ e := Nat.pow_pos (by decide)
  constructor
  · rw [Nat.pow_add]
    exact Nat.mul_le_mul_right _ h1.1
  · rw [show n.log2 + e + 1 = (n.log2 + 1) + e by omega, Nat.pow_add]
    exact Nat.mul_lt_mul_of_pos_right h1.2 hp

/-- What is cut off is nothing. -/
theorem cut_exact (way : Toward) (s : Bool) (n r : Nat) : way.cut s (n * 2 ^ r) r = n := by
  rcases Nat.eq_zero_or_pos n with h | h
  · subst h
    unfold Toward.cut
    have hg : 0 < 1 <<< min r ((0 * 2 ^ r).log2 + 2) := by rw [Nat.shiftLeft_eq]; simpa using Nat.pow_pos (by decide)
    cases way <;> simp <;> (try omega)
  · have hl := log_mul (e := r) h
    have hp : 0 < 2 ^ r := Nat.pow_pos (by decide)
    have hmin : min r ((n * 2 ^ r).log2 + 2) = r := by rw [hl]; omega
    unfold Toward.cut
    simp only [hmin, Nat.shiftLeft_eq, Nat.one_mul, Nat.mul_div_cancel _ hp, Nat.mul_mod_left]
    have h0 : ¬ 2 ^ r < 2 * 0 := by omega
    have h1 : ¬ 2 ^ r = 2 * 0 := by omega
    cases way <;> simp [h0, h1] <;> (try omega)

theorem isN_toInt {d : Datum} {n : Int} (h : IsN d n) : d.toInt .zero = some n := by
  obtain ⟨s, m, e, rfl, hm, hs⟩ := h
  unfold Datum.toInt Datum.integral
  have h1 : (-(e : Int)).toNat = 0 := by omega
  have h2 : (- -(e : Int)).toNat = e := by omega
  simp only [h1, h2, Nat.shiftLeft_zero]
  rw [hm, cut_exact]
  have := signed_isN (n := n) (s := s) (m := n.natAbs) (e := 0) (k := 0) (by simp) hs
  simp at this
  rw [this]

theorem rung_facts {L K R : Nat} (hL : L ≤ 52) (hK1 : 4503599627370496 ≤ K) (hK2 : K < 9007199254740992) (hR : (L + 1022) * 4503599627370496 + K = R) :
    min R 9218868437227405312 = R ∧ 4503599627370496 + R % 4503599627370496 = K ∧ R / 4503599627370496 - 1 = L + 1022 ∧ R < 9218868437227405312 ∧ ¬ R < 4503599627370496 ∧ R / 9223372036854775808 % 2 = 0 ∧ R % 9223372036854775808 = R ∧
      (9223372036854775808 + R) / 9223372036854775808 % 2 = 1 ∧ (9223372036854775808 + R) % 9223372036854775808 = R := by
  obtain ⟨k, rfl⟩ : ∃ k, K = 4503599627370496 + k := ⟨K - 4503599627370496, by omega⟩
  have hk : k < 4503599627370496 := by omega
  have e1 : R = 4503599627370496 * (L + 1023) + k := by omega
  clear hR hK1 hK2
  have hm : R % 4503599627370496 = k := by rw [e1, Nat.mul_add_mod, Nat.mod_eq_of_lt hk]
  have hd : R / 4503599627370496 = L + 1023 := by rw [e1, Nat.mul_add_div (by decide), Nat.div_eq_of_lt hk, Nat.add_zero]
  have hlt : R < 9218868437227405312 := by omega
  have hlt2 : R < 9223372036854775808 := by omega
  have hge : 4503599627370496 ≤ R := by omega
  clear e1
  refine ⟨Nat.min_eq_left (Nat.le_of_lt hlt), by rw [hm], by rw [hd]; rfl, hlt, Nat.not_lt.2 hge, by rw [Nat.div_eq_of_lt hlt2], Nat.mod_eq_of_lt hlt2, ?_, ?_⟩
  · rw [Nat.add_div_left _ (by decide), Nat.div_eq_of_lt hlt2]
  · rw [Nat.add_mod_left, Nat.mod_eq_of_lt hlt2]
theorem rung_place {L : Nat} (hL : L ≤ 52) : (-1074 : Int) + ((L + 1022 : Nat) : Int) = -((52 - L : Nat) : Int) := by omega

set_option exponentiation.threshold 2000 in
theorem read_write {d : Datum} {n : Int} (h : IsN d n) (hn : n.natAbs < 9007199254740992) : IsN (double.read (double.write d)) n := by
  obtain ⟨s, m, e, rfl, hm, hs⟩ := h
  show IsN (double.read (double.nearest s m (-(e : Int)))) n
  have hb : double.binade = 4503599627370496 := by decide
  have hw : double.signWeight = 9223372036854775808 := by decide
  have hi : double.infRung = 9218868437227405312 := by simp [Format.infRung, Format.binade, double]
  have hl : double.leastPlace = -1074 := by decide
  have hf : double.fractionBits = 52 := by decide
  rcases Nat.eq_zero_or_pos n.natAbs with h0 | hpos
  · have hm0 : m = 0 := by rw [hm, h0, Nat.zero_mul]
    have hn0 : n = 0 := by omega
    subst hm0
    unfold Format.nearest
    rw [if_pos rfl]
    unfold Format.word Format.read
    rw [hw, hb, hi, hl]
    refine ⟨s, 0, 1074, ?_, by rw [h0], fun q => absurd hn0 q⟩
    cases s <;> simp
  · have hp : 0 < 2 ^ e := Nat.pow_pos (by decide)
    have hmp : 0 < m := by rw [hm]; exact Nat.mul_pos hpos hp
    have hlm : m.log2 = n.natAbs.log2 + e := by rw [hm]; exact log_mul hpos
    have hL := (Nat.log2_eq_iff (n := n.natAbs) (k := n.natAbs.log2) (by omega)).1 rfl
    have hL52 : n.natAbs.log2 ≤ 52 := by
      have : n.natAbs.log2 < 53 := (Nat.log2_lt (by omega)).2 hn
      omega
    generalize hLL : n.natAbs.log2 = L at hlm hL hL52
    have hlast : max (-(e : Int) + (m.log2 : Int) - ((double.fractionBits : Nat) : Int)) double.leastPlace = -((52 - L : Nat) : Int) := by rw [hf, hl, hlm]; omega
    have hkept : Toward.even.cut s (m <<< (-(e : Int) - -((52 - L : Nat) : Int)).toNat) (-((52 - L : Nat) : Int) - -(e : Int)).toNat = n.natAbs * 2 ^ (52 - L) := by
      rcases Nat.le_total e (52 - L) with hc | hc
      · have q1 : (-(e : Int) - -((52 - L : Nat) : Int)).toNat = 52 - L - e := by omega
        have q2 : (-((52 - L : Nat) : Int) - -(e : Int)).toNat = 0 := by omega
        rw [q1, q2, Nat.shiftLeft_eq, hm, Nat.mul_assoc, ← Nat.pow_add]
        have := cut_exact .even s (n.natAbs * 2 ^ (e + (52 - L - e))) 0
        rw [Nat.pow_zero, Nat.mul_one] at this
        rw [this]
        congr 2
        omega
      · have q1 : (-(e : Int) - -((52 - L : Nat) : Int)).toNat = 0 := by omega
        have q2 : (-((52 - L : Nat) : Int) - -(e : Int)).toNat = e - (52 - L) := by omega
        rw [q1, q2, Nat.shiftLeft_zero, hm]
        have : n.natAbs * 2 ^ e = n.natAbs * 2 ^ (52 - L) * 2 ^ (e - (52 - L)) := by
          rw [Nat.mul_assoc, ← Nat.pow_add]
          congr 2
          omega
        rw [this, cut_exact]
    have hK1 : 4503599627370496 ≤ n.natAbs * 2 ^ (52 - L) := by
      have := Nat.mul_le_mul_right (2 ^ (52 - L)) hL.1
      rw [← Nat.pow_add, show L + (52 - L) = 52 by omega] at this
      exact this
    have hK2 : n.natAbs * 2 ^ (52 - L) < 9007199254740992 := by
      have := Nat.mul_lt_mul_of_pos_right hL.2 (Nat.pow_pos (n := 52 - L) (show 0 < 2 by decide))
      rw [← Nat.pow_add, show L + 1 + (52 - L) = 53 by omega] at this
      exact this
    unfold Format.nearest
    rw [if_neg (by omega)]
    simp only [hlast]
    rw [hkept, hb, hi, hl]
    have hr : (-((52 - L : Nat) : Int) - -1074).toNat = L + 1022 := by omega
    rw [hr]
    generalize hK : n.natAbs * 2 ^ (52 - L) = K at hK1 hK2
    generalize hRR : (L + 1022) * 4503599627370496 + K = R
    obtain ⟨hR, r1, r2, hRb, hRc, q1, q2, q3, q4⟩ := rung_facts hL52 hK1 hK2 hRR
    have hpl := rung_place hL52
    rw [hR]
    refine ⟨s, K, 52 - L, ?_, hK.symm, hs⟩
    unfold Format.word Format.read
    rw [hw, hb, hi, hl]
    cases s with
    | false =>
      simp only [Bool.false_eq_true, if_false, q1, q2, if_neg hRc, if_pos hRb, r1, r2, hpl]
      rfl
    | true =>
      simp only [if_true, q3, q4, if_neg hRc, if_pos hRb, r1, r2, hpl]
      rfl

/-- A float that is a whole number. -/
def FI (x : Nat) (n : Int) : Prop := IsN (double.read x) n
abbrev small (n : Int) : Prop := n.natAbs < 9007199254740992

theorem fi_nearest {n : Int} (hn : small n) : FI (FloatKind.f64.nearest n) n :=
  read_write ⟨decide (n < 0), n.natAbs, 0, rfl, by simp, fun _ => rfl⟩ hn
theorem fi_add {x y : Nat} {a b : Int} (h1 : FI x a) (h2 : FI y b) (h : small (a + b)) : ∃ z, floatBits .add .f64 x y = some z ∧ FI z (a + b) := by
  obtain ⟨r, hr, hri⟩ := isN_sum h1 h2
  refine ⟨double.write r, ?_, read_write hri h⟩
  show Option.map double.write ((double.read x).sum (double.read y)) = _
  rw [hr]
  rfl
theorem fi_sub {x y : Nat} {a b : Int} (h1 : FI x a) (h2 : FI y b) (h : small (a - b)) : ∃ z, floatBits .sub .f64 x y = some z ∧ FI z (a - b) := by
  have h3 := isN_opp h2
  obtain ⟨r, hr, hri⟩ := isN_sum h1 h3
  rw [← Int.sub_eq_add_neg] at hri
  refine ⟨double.write r, ?_, read_write hri h⟩
  show Option.map double.write ((double.read x).sum (double.read y).opposite) = _
  rw [hr]
  rfl
theorem fi_mul {x y : Nat} {a b : Int} (h1 : FI x a) (h2 : FI y b) (h : small (a * b)) : ∃ z, floatBits .mul .f64 x y = some z ∧ FI z (a * b) := by
  obtain ⟨r, hr, hri⟩ := isN_product h1 h2
  refine ⟨double.write r, ?_, read_write hri h⟩
  show Option.map double.write ((double.read x).product (double.read y)) = _
  rw [hr]
  rfl
theorem fi_toInt {x : Nat} {n : Int} (h : FI x n) (hn : small n) : floatToIntVal .f64 x .i64 = some n := by
  unfold floatToIntVal
  rw [show (FloatKind.f64.decode x).toInt .zero = some n from isN_toInt h]
  have : IntKind.i64.min ≤ n ∧ n ≤ IntKind.i64.max := by
    simp only [IntKind.min, IntKind.max, IntKind.bits, IntKind.signed]
    simp
    omega
  simp only [this, and_self, if_true]

/-! ### Complex numbers -/
/-- A complex number of whole parts. -/
def CI (v : Value) (a b : Int) : Prop := ∃ x y, v = .complex .f64 x y ∧ FI x a ∧ FI y b

section
variable {P : Program}
theorem pr_farith {op : BinOp} {k : FloatKind} {x y r : Nat} (h : floatBits op k x y = some r) : pureRun P (Op.floatArith op k x y) = some (.float k r) := by
  unfold floatBits at h
  cases op <;> simp only at h <;> first | (cases h; done) | skip
  all_goals simp [Op.floatArith, h, pr_bind, pr_pure]
theorem pr_carith {op : BinOp} {k : FloatKind} {x y r : Nat} (h : floatBits op k x y = some r) : pureRun P (Op.Complex.arith op k x y) = some r := by
  simp [Op.Complex.arith, pr_bind, pr_farith h, pr_pure]

theorem ci_add {ty : TypeId} {v w : Value} {a b c d : Int} (h1 : CI v a b) (h2 : CI w c d) (q1 : small (a + c)) (q2 : small (b + d)) : ∃ u, scalarBin P .add ty v w = some u ∧ scalarV u = true ∧ CI u (a + c) (b + d) := by
  obtain ⟨x, y, rfl, hx, hy⟩ := h1
  obtain ⟨x', y', rfl, hx', hy'⟩ := h2
  obtain ⟨z1, e1, f1⟩ := fi_add hx hx' q1
  obtain ⟨z2, e2, f2⟩ := fi_add hy hy' q2
  refine ⟨.complex .f64 z1 z2, ?_, rfl, z1, z2, rfl, f1, f2⟩
  simp [scalarBin, eqGuard, binOp, pr_bind, pr_pure, pr_map, Op.complexOp, pr_carith e1, pr_carith e2]
theorem ci_sub {ty : TypeId} {v w : Value} {a b c d : Int} (h1 : CI v a b) (h2 : CI w c d) (q1 : small (a - c)) (q2 : small (b - d)) : ∃ u, scalarBin P .sub ty v w = some u ∧ scalarV u = true ∧ CI u (a - c) (b - d) := by
  obtain ⟨x, y, rfl, hx, hy⟩ := h1
  obtain ⟨x', y', rfl, hx', hy'⟩ := h2
  obtain ⟨z1, e1, f1⟩ := fi_sub hx hx' q1
  obtain ⟨z2, e2, f2⟩ := fi_sub hy hy' q2
  refine ⟨.complex .f64 z1 z2, ?_, rfl, z1, z2, rfl, f1, f2⟩
  simp [scalarBin, eqGuard, binOp, pr_bind, pr_pure, pr_map, Op.complexOp, pr_carith e1, pr_carith e2]
theorem ci_mul {ty : TypeId} {v w : Value} {a b c d : Int} (h1 : CI v a b) (h2 : CI w c d) (q1 : small (a * c)) (q2 : small (b * d)) (q3 : small (a * d)) (q4 : small (b * c)) (q5 : small (a * c - b * d)) (q6 : small (a * d + b * c)) :
    ∃ u, scalarBin P .mul ty v w = some u ∧ scalarV u = true ∧ CI u (a * c - b * d) (a * d + b * c) := by
  obtain ⟨x, y, rfl, hx, hy⟩ := h1
  obtain ⟨x', y', rfl, hx', hy'⟩ := h2
  obtain ⟨z1, e1, f1⟩ := fi_mul hx hx' q1
  obtain ⟨z2, e2, f2⟩ := fi_mul hy hy' q2
  obtain ⟨z3, e3, f3⟩ := fi_mul hx hy' q3
  obtain ⟨z4, e4, f4⟩ := fi_mul hy hx' q4
  obtain ⟨z5, e5, f5⟩ := fi_sub f1 f2 q5
  obtain ⟨z6, e6, f6⟩ := fi_add f3 f4 q6
  refine ⟨.complex .f64 z5 z6, ?_, rfl, z5, z6, rfl, f5, f6⟩
  simp [scalarBin, eqGuard, binOp, pr_bind, pr_pure, pr_map, Op.complexOp, Op.Complex.product, Op.Complex.conv, Op.Complex.mul, Op.Complex.sub, Op.Complex.add, pr_carith e1, pr_carith e2, pr_carith e3, pr_carith e4, pr_carith e5, pr_carith e6]
theorem cv_int_float {src dst : TypeId} {k : IntKind} {d : TypeDesc} {n : Int} (h1 : P.underlying src = some d) (h2 : P.underlying dst = some (.float .f64)) : pureRun P (convert src dst (.int k n)) = some (.float .f64 (FloatKind.f64.nearest n)) := by
  cases d <;> simp [convert, pr_bind, pr_underlying h1, pr_underlying h2, Conv.intToFloat, pr_pure]
theorem cv_float_int {src dst : TypeId} {d : TypeDesc} {x : Nat} {n : Int} (h1 : P.underlying src = some d) (h2 : P.underlying dst = some (.int .i64)) (h : FI x n) (hn : small n) : pureRun P (convert src dst (.float .f64 x)) = some (.int .i64 n) := by
  have hb := fi_toInt h hn
  unfold floatToIntVal at hb
  split at hb
  · rename_i m he
    split at hb
    · rename_i hc
      cases hb
      have hc2 : n ≤ 9223372036854775807 := hc.2
      have hc1 : -9223372036854775808 ≤ n := hc.1
      have hmm : IntKind.i64.min ≤ n ∧ n ≤ IntKind.i64.max := hc
      have hfi : pureRun P (Conv.floatToInt .f64 x .i64) = some (.int .i64 n) := by
        unfold Conv.floatToInt
        simp only [he, hmm, and_self, if_true, pr_pure]
      cases d <;> simp [convert, pr_bind, pr_underlying h1, pr_underlying h2, hfi]
    · cases hb
  · cases hb
theorem scv_float {k b} : scalarV (.float k b) = true := nd rfl
theorem scv_complex {k a b} : scalarV (.complex k a b) = true := nd rfl
theorem pr_complex {tys : Array TypeId} {ty : TypeId} {a b : Nat} : pureRun P (builtin .complex tys ty #[] #[.float .f64 a, .float .f64 b]) = some (.value (.complex .f64 a b)) := by
  rfl
theorem pr_real {tys : Array TypeId} {ty : TypeId} {a b : Nat} : pureRun P (builtin .real tys ty #[] #[.complex .f64 a b]) = some (.value (.float .f64 a)) := by
  rfl
theorem pr_imag {tys : Array TypeId} {ty : TypeId} {a b : Nat} : pureRun P (builtin .imag tys ty #[] #[.complex .f64 a b]) = some (.value (.float .f64 b)) := by
  rfl
def aexB1 (P : Program) (b : Builtin) (tys : Array TypeId) (ty : TypeId) (t : Nat → AV) (h : Heap) (x : AV) : Option AR := do
  let vs ← [x].mapM AV.toV
  let r ← pureRun P (builtin b tys ty #[] vs.toArray)
  match r with
  | .value r => if scalarV r then some (.val (.sc r) t h) else none
  | _ => none
theorem aex_blt1 {b tys ty x} {t : Nat → AV} {h : Heap} : aex P (.blt b tys ty [x]) ⟨t, h⟩ = aexB1 P b tys ty t h (x.ev t) := nd rfl
theorem aexB1_real {tys ty a b} {t : Nat → AV} {h : Heap} : aexB1 P .real tys ty t h (.sc (.complex .f64 a b)) = some (.val (.sc (.float .f64 a)) t h) := by
  simp [aexB1, AV.toV, pr_real, scalarV]
theorem aexB1_imag {tys ty a b} {t : Nat → AV} {h : Heap} : aexB1 P .imag tys ty t h (.sc (.complex .f64 a b)) = some (.val (.sc (.float .f64 b)) t h) := by
  simp [aexB1, AV.toV, pr_imag, scalarV]
theorem aexB2_complex {tys ty a b} {t : Nat → AV} {h : Heap} : aexB2 P .complex tys ty t h (.sc (.float .f64 a)) (.sc (.float .f64 b)) = some (.val (.sc (.complex .f64 a b)) t h) := by
  simp [aexB2, AV.toV, pr_complex, scalarV]
end
attribute [go_sem ↓] aex_blt1
attribute [go_sem] aexB1_real aexB1_imag aexB2_complex scv_float scv_complex
end Go.Am
