/- Points of whole parts: quotients, rests, measures, in plain numbers. -/
import Derived.Test.YtjnoigekhdjkcaaGaussFn
set_option linter.unusedVariables false
set_option linter.unusedSimpArgs false
namespace Go.Proofs.Ytjnoigekhdjkcaa
open Go.Am
abbrev Pt := Int × Int
def nrm (p : Pt) : Int := p.1 * p.1 + p.2 * p.2
def mulP (a b : Pt) : Pt := (a.1 * b.1 - a.2 * b.2, a.1 * b.2 + a.2 * b.1)
def conjP (b : Pt) : Pt := (b.1, -b.2)
def nearN (a n : Int) : Int := (2 * a + n) / (2 * n)
def quoP (a b : Pt) : Pt := (nearN (mulP a (conjP b)).1 (nrm b), nearN (mulP a (conjP b)).2 (nrm b))
def remP (a b : Pt) : Pt := (a.1 - (mulP (quoP a b) b).1, a.2 - (mulP (quoP a b) b).2)
abbrev okPt (p : Pt) : Prop := okP p.1 p.2

theorem sq_nonneg (x : Int) : 0 ≤ x * x := by
  rcases Int.le_total 0 x with h | h
  · exact Int.mul_nonneg h h
  · exact Int.mul_nonneg_of_nonpos_of_nonpos h h
theorem nrm_nonneg (p : Pt) : 0 ≤ nrm p := by
  have := sq_nonneg p.1
  have := sq_nonneg p.2
  unfold nrm
  omega
theorem sq_zero {x : Int} (h : x * x = 0) : x = 0 := by
  rcases Int.mul_eq_zero.1 h with h | h <;> exact h
theorem nrm_zero {p : Pt} : nrm p = 0 ↔ p = (0, 0) := by
  constructor
  · intro h
    have h1 := sq_nonneg p.1
    have h2 := sq_nonneg p.2
    unfold nrm at h
    have e1 : p.1 = 0 := sq_zero (by omega)
    have e2 : p.2 = 0 := sq_zero (by omega)
    exact Prod.ext e1 e2
  · intro h; subst h; rfl
theorem nrm_pos {p : Pt} (h : p ≠ (0, 0)) : 0 < nrm p := by
  have h1 := nrm_nonneg p
  have h2 : nrm p ≠ 0 := fun e => h (nrm_zero.1 e)
  omega
theorem nrm_mul (a b : Pt) : nrm (mulP a b) = nrm a * nrm b := by unfold nrm mulP; grind

theorem near_spec {a n : Int} (hn : 0 < n) : -n ≤ 2 * (a - nearN a n * n) ∧ 2 * (a - nearN a n * n) < n := by
  have h1 := Int.mul_ediv_add_emod (2 * a + n) (2 * n)
  have h2 := Int.emod_nonneg (2 * a + n) (show 2 * n ≠ 0 by omega)
  have h3 := Int.emod_lt_of_pos (2 * a + n) (show 0 < 2 * n by omega)
  show _ ≤ 2 * (a - (2 * a + n) / (2 * n) * n) ∧ 2 * (a - (2 * a + n) / (2 * n) * n) < n
  generalize (2 * a + n) / (2 * n) = q at h1
  generalize (2 * a + n) % (2 * n) = r at h1 h2 h3
  have e : 2 * n * q = 2 * (q * n) := by grind
  rw [e] at h1
  have e2 : 2 * (a - q * n) = 2 * a - 2 * (q * n) := by grind
  rw [e2]
  generalize q * n = z at h1
  omega
theorem near_uniq {a n q : Int} (hn : 0 < n) (h1 : -n ≤ 2 * (a - q * n)) (h2 : 2 * (a - q * n) < n) : nearN a n = q := by
  unfold nearN
  have e : 2 * n * q = 2 * (q * n) := by grind
  have e2 : 2 * (a - q * n) = 2 * a - 2 * (q * n) := by grind
  rw [e2] at h1 h2
  refine (Int.ediv_emod_unique (r := 2 * a + n - 2 * (q * n)) (by omega)).2 ⟨?_, ?_, ?_⟩ |>.1
  · rw [e]; omega
  · omega
  · omega

theorem half_sq {u n : Int} (h1 : -n ≤ 2 * u) (h2 : 2 * u ≤ n) : 4 * (u * u) ≤ n * n := by
  have h := Int.mul_nonneg (show 0 ≤ n - 2 * u by omega) (show 0 ≤ n + 2 * u by omega)
  have e : (n - 2 * u) * (n + 2 * u) = n * n - 4 * (u * u) := by grind
  omega
theorem rem_eq (a b : Pt) : ((mulP a (conjP b)).1 - (quoP a b).1 * nrm b) * ((mulP a (conjP b)).1 - (quoP a b).1 * nrm b) + ((mulP a (conjP b)).2 - (quoP a b).2 * nrm b) * ((mulP a (conjP b)).2 - (quoP a b).2 * nrm b) = nrm (remP a b) * nrm b := by
  unfold remP
  generalize quoP a b = q
  obtain ⟨a1, a2⟩ := a
  obtain ⟨b1, b2⟩ := b
  obtain ⟨q1, q2⟩ := q
  simp only [mulP, conjP, nrm]
  grind
theorem rem_half {a b : Pt} (hb : 0 < nrm b) : 2 * nrm (remP a b) ≤ nrm b := by
  have e := rem_eq a b
  have s1 := near_spec (a := (mulP a (conjP b)).1) hb
  have s2 := near_spec (a := (mulP a (conjP b)).2) hb
  have h1 := half_sq s1.1 (Int.le_of_lt s1.2)
  have h2 := half_sq s2.1 (Int.le_of_lt s2.2)
  change (_ - (quoP a b).1 * nrm b) * (_ - (quoP a b).1 * nrm b) + (_ - (quoP a b).2 * nrm b) * (_ - (quoP a b).2 * nrm b) = _ at e
  change 4 * ((_ - (quoP a b).1 * nrm b) * (_ - (quoP a b).1 * nrm b)) ≤ _ at h1
  change 4 * ((_ - (quoP a b).2 * nrm b) * (_ - (quoP a b).2 * nrm b)) ≤ _ at h2
  have h3 : 2 * (2 * nrm (remP a b)) * nrm b ≤ 2 * nrm b * nrm b := by
    have e3 : 2 * (2 * nrm (remP a b)) * nrm b = 4 * (nrm (remP a b) * nrm b) := by grind
    have e4 : 2 * nrm b * nrm b = 2 * (nrm b * nrm b) := by grind
    rw [e3, e4]
    omega
  have := Int.le_of_mul_le_mul_right h3 hb
  omega

theorem abs_le_sq (x : Int) : x.natAbs ≤ x.natAbs * x.natAbs := Nat.le_mul_self _
theorem mul_bound {a b : Int} (h1 : -1048576 ≤ a) (h2 : a ≤ 1048576) : a * b ≤ 1048576 * (b * b) ∧ -(1048576 * (b * b)) ≤ a * b := by
  have e1 : (a * b).natAbs = a.natAbs * b.natAbs := Int.natAbs_mul a b
  have e2 : b * b = ((b.natAbs * b.natAbs : Nat) : Int) := by rw [Int.natAbs_mul_self]
  have h3 : a.natAbs * b.natAbs ≤ 1048576 * (b.natAbs * b.natAbs) := Nat.mul_le_mul (by omega) (abs_le_sq b)
  rw [e2]
  omega
/-- A product of two parts. -/
theorem mul_bd {a b : Int} (h1 : -1048576 ≤ a ∧ a ≤ 1048576) (h2 : -1048576 ≤ b ∧ b ≤ 1048576) : -1099511627776 ≤ a * b ∧ a * b ≤ 1099511627776 := by
  have e1 : (a * b).natAbs = a.natAbs * b.natAbs := Int.natAbs_mul a b
  have h3 : a.natAbs * b.natAbs ≤ 1048576 * 1048576 := Nat.mul_le_mul (by omega) (by omega)
  omega
theorem near_bound {c n : Int} (hn : 0 < n) (h1 : c ≤ 1048576 * n) (h2 : -(1048576 * n) ≤ c) : -1048576 ≤ nearN c n ∧ nearN c n ≤ 1048576 := by
  obtain ⟨s1, s2⟩ := near_spec (a := c) hn
  generalize nearN c n = q at s1 s2
  have e2 : 2 * (c - q * n) = 2 * c - 2 * (q * n) := by grind
  rw [e2] at s1 s2
  constructor
  · rcases Int.lt_or_le q (-1048576) with h | h
    · have := Int.mul_le_mul_of_nonneg_right (show q ≤ -1048577 by omega) (Int.le_of_lt hn)
      generalize q * n = z at s1 s2 this
      omega
    · exact h
  · rcases Int.lt_or_le 1048576 q with h | h
    · have := Int.mul_le_mul_of_nonneg_right (show 1048577 ≤ q by omega) (Int.le_of_lt hn)
      generalize q * n = z at s1 s2 this
      omega
    · exact h
theorem quo_bound {a b : Pt} (ha : okPt a) (hb : 0 < nrm b) : okPt (quoP a b) := by
  obtain ⟨⟨a1, a2⟩, a3, a4⟩ := ha
  have m1 := mul_bound (b := b.1) a1 a2
  have m2 := mul_bound (b := b.2) a3 a4
  have m3 := mul_bound (b := b.2) a1 a2
  have m4 := mul_bound (b := b.1) a3 a4
  have e1 : (mulP a (conjP b)).1 = a.1 * b.1 + a.2 * b.2 := by simp only [mulP, conjP]; grind
  have e2 : (mulP a (conjP b)).2 = a.2 * b.1 - a.1 * b.2 := by simp only [mulP, conjP]; grind
  have en : nrm b = b.1 * b.1 + b.2 * b.2 := rfl
  refine ⟨near_bound hb ?_ ?_, near_bound hb ?_ ?_⟩
  · rw [e1, en]; omega
  · rw [e1, en]; omega
  · rw [e2, en]; omega
  · rw [e2, en]; omega
theorem nrm_le {p : Pt} (h : okPt p) : nrm p ≤ 2199023255552 := by
  obtain ⟨h1, h2⟩ := h
  have := (mul_bd h1 h1).2
  have := (mul_bd h2 h2).2
  unfold nrm
  omega
theorem sq_bd {x : Int} (h : x * x ≤ 1099511627776) : -1048576 ≤ x ∧ x ≤ 1048576 := by
  have e : x * x = ((x.natAbs * x.natAbs : Nat) : Int) := by rw [Int.natAbs_mul_self]
  have h1 : x.natAbs ≤ 1048576 := by
    rcases Nat.lt_or_ge 1048576 x.natAbs with h2 | h2
    · have := Nat.mul_le_mul (show 1048577 ≤ x.natAbs by omega) (show 1048577 ≤ x.natAbs by omega)
      omega
    · exact h2
  omega
theorem rem_ok {a b : Pt} (hb : okPt b) (h0 : 0 < nrm b) : okPt (remP a b) := by
  have h1 := rem_half (a := a) h0
  have h2 := nrm_le hb
  have s1 := sq_nonneg (remP a b).1
  have s2 := sq_nonneg (remP a b).2
  have en : nrm (remP a b) = (remP a b).1 * (remP a b).1 + (remP a b).2 * (remP a b).2 := rfl
  exact ⟨sq_bd (by omega), sq_bd (by omega)⟩

/-! ### The greatest common measure -/
theorem rem_lt {a b : Pt} (h : b ≠ (0, 0)) : (nrm (remP a b)).toNat < (nrm b).toNat := by
  have h1 := nrm_pos h
  have h2 := rem_half (a := a) h1
  have h3 := nrm_nonneg (remP a b)
  omega
def gcdP (a b : Pt) : Pt := if h : b = (0, 0) then a else gcdP b (remP a b)
termination_by (nrm b).toNat
decreasing_by exact rem_lt h
theorem gcdP_zero (a : Pt) : gcdP a (0, 0) = a := by rw [gcdP, dif_pos rfl]
theorem gcdP_step {a b : Pt} (h : b ≠ (0, 0)) : gcdP a b = gcdP b (remP a b) := by rw [gcdP, dif_neg h]

def dvdP (a b : Pt) : Prop := ∃ k, b = mulP k a
theorem pt_ext {a b : Pt} (h1 : a.1 = b.1) (h2 : a.2 = b.2) : a = b := Prod.ext h1 h2
theorem rem_zero {a b : Pt} (ha : 0 < nrm a) : remP b a = (0, 0) ↔ dvdP a b := by
  constructor
  · intro h
    refine ⟨quoP b a, ?_⟩
    have h1 := congrArg Prod.fst h
    have h2 := congrArg Prod.snd h
    simp only [remP] at h1 h2
    exact pt_ext (by omega) (by omega)
  · rintro ⟨k, hk⟩
    have c1 : (mulP b (conjP a)).1 = k.1 * nrm a := by rw [hk]; simp only [mulP, conjP, nrm]; grind
    have c2 : (mulP b (conjP a)).2 = k.2 * nrm a := by rw [hk]; simp only [mulP, conjP, nrm]; grind
    have q : quoP b a = k := by
      unfold quoP
      rw [c1, c2]
      refine pt_ext (near_uniq ha ?_ ?_) (near_uniq ha ?_ ?_) <;> rw [Int.sub_self] <;> omega
    unfold remP
    rw [q, hk]
    exact pt_ext (Int.sub_self _) (Int.sub_self _)
theorem dvd_zero (a : Pt) : dvdP a (0, 0) := ⟨(0, 0), by simp [mulP]⟩
theorem dvd_refl (a : Pt) : dvdP a a := ⟨(1, 0), by simp [mulP]⟩
theorem dvd_rem {c a b : Pt} (h1 : dvdP c a) (h2 : dvdP c b) : dvdP c (remP a b) := by
  obtain ⟨k, hk⟩ := h1
  obtain ⟨l, hl⟩ := h2
  unfold remP
  generalize quoP a b = q
  refine ⟨(k.1 - (mulP q l).1, k.2 - (mulP q l).2), ?_⟩
  subst hk; subst hl
  obtain ⟨c1, c2⟩ := c; obtain ⟨k1, k2⟩ := k; obtain ⟨l1, l2⟩ := l; obtain ⟨q1, q2⟩ := q
  simp only [mulP]
  exact pt_ext (by grind) (by grind)
theorem dvd_back {c a b : Pt} (h1 : dvdP c b) (h2 : dvdP c (remP a b)) : dvdP c a := by
  obtain ⟨k, hk⟩ := h1
  obtain ⟨l, hl⟩ := h2
  unfold remP at hl
  generalize quoP a b = q at hl
  refine ⟨(l.1 + (mulP q k).1, l.2 + (mulP q k).2), ?_⟩
  have e1 := congrArg Prod.fst hl
  have e2 := congrArg Prod.snd hl
  subst hk
  obtain ⟨c1, c2⟩ := c; obtain ⟨k1, k2⟩ := k; obtain ⟨l1, l2⟩ := l; obtain ⟨q1, q2⟩ := q; obtain ⟨a1, a2⟩ := a
  simp only [mulP] at e1 e2 ⊢
  exact pt_ext (by grind) (by grind)
theorem gcd_spec : ∀ (n : Nat) (a b : Pt), (nrm b).toNat ≤ n → dvdP (gcdP a b) a ∧ dvdP (gcdP a b) b ∧ (∀ c, dvdP c a → dvdP c b → dvdP c (gcdP a b)) ∧ ((gcdP a b = (0, 0)) → a = (0, 0) ∧ b = (0, 0)) ∧ (okPt a → okPt b → okPt (gcdP a b)) := by
  intro n
  induction n with
  | zero =>
    intro a b h
    have h0 : b = (0, 0) := by
      have := nrm_nonneg b
      exact nrm_zero.1 (by omega)
    subst h0
    rw [gcdP_zero]
    exact ⟨dvd_refl a, dvd_zero a, fun c h _ => h, fun h => ⟨h, rfl⟩, fun h _ => h⟩
  | succ n ih =>
    intro a b h
    by_cases h0 : b = (0, 0)
    · subst h0
      rw [gcdP_zero]
      exact ⟨dvd_refl a, dvd_zero a, fun c h _ => h, fun h => ⟨h, rfl⟩, fun h _ => h⟩
    · rw [gcdP_step h0]
      have hl := rem_lt (a := a) h0
      obtain ⟨i1, i2, i3, i4, i5⟩ := ih b (remP a b) (by omega)
      exact ⟨dvd_back i1 i2, i1, fun c c1 c2 => i3 c c2 (dvd_rem c1 c2), fun h => absurd (i4 h).1 h0, fun _ ob => i5 ob (rem_ok ob (nrm_pos h0))⟩

/-! ### Turns -/
def rotP (p : Pt) : Pt := (-p.2, p.1)
def rotN : Nat → Pt → Pt
  | 0, p => p
  | n + 1, p => rotN n (rotP p)
theorem rotN_succ : ∀ (n : Nat) (p : Pt), rotN (n + 1) p = rotP (rotN n p)
  | 0, _ => rfl
  | n + 1, p => rotN_succ n (rotP p)
/-- How many quarters lead to the first quarter. -/
def upK (p : Pt) : Nat := if p.1 > 0 ∧ p.2 ≥ 0 then 0 else if p.1 ≤ 0 ∧ p.2 > 0 then 3 else if p.1 < 0 ∧ p.2 ≤ 0 then 2 else if p.1 ≥ 0 ∧ p.2 < 0 then 1 else 0
theorem upK_rot {p : Pt} (h : p ≠ (0, 0)) (hn : ¬ (p.1 > 0 ∧ p.2 ≥ 0)) : upK p = upK (rotP p) + 1 := by
  have h0 : ¬ (p.1 = 0 ∧ p.2 = 0) := fun ⟨a, b⟩ => h (pt_ext a b)
  unfold upK rotP
  simp only
  split <;> split <;> (try split) <;> (try split) <;> (try split) <;> (try split) <;> (try split) <;> omega
theorem upK_zero {p : Pt} (h : p ≠ (0, 0)) : upK p = 0 ↔ p.1 > 0 ∧ p.2 ≥ 0 := by
  have h0 : ¬ (p.1 = 0 ∧ p.2 = 0) := fun ⟨a, b⟩ => h (pt_ext a b)
  unfold upK
  split <;> (try split) <;> (try split) <;> (try split) <;> omega
def upP (p : Pt) : Pt := rotN (upK p) p
theorem rot_ne {p : Pt} (h : p ≠ (0, 0)) : rotP p ≠ (0, 0) := by
  intro e
  have e1 := congrArg Prod.fst e
  have e2 := congrArg Prod.snd e
  simp only [rotP] at e1 e2
  exact h (pt_ext e2 (by omega))
theorem rot_ok {p : Pt} (h : okPt p) : okPt (rotP p) := by
  obtain ⟨⟨h1, h2⟩, h3, h4⟩ := h
  refine ⟨⟨?_, ?_⟩, h1, h2⟩ <;> simp only [rotP] <;> omega
theorem upP_rot {p : Pt} (h : p ≠ (0, 0)) (hn : ¬ (p.1 > 0 ∧ p.2 ≥ 0)) : upP p = upP (rotP p) := by
  unfold upP
  rw [upK_rot h hn]
  rfl
theorem upP_zero : upP (0, 0) = (0, 0) := by decide
theorem dvd_rot {a b : Pt} : dvdP (rotP a) b ↔ dvdP a b := by
  obtain ⟨a1, a2⟩ := a
  constructor
  · rintro ⟨k, hk⟩
    refine ⟨(-k.2, k.1), ?_⟩
    rw [hk]
    simp only [mulP, rotP]
    exact pt_ext (by grind) (by grind)
  · rintro ⟨k, hk⟩
    refine ⟨(k.2, -k.1), ?_⟩
    rw [hk]
    simp only [mulP, rotP]
    exact pt_ext (by grind) (by grind)
theorem dvd_rot' {a b : Pt} : dvdP a (rotP b) ↔ dvdP a b := by
  obtain ⟨b1, b2⟩ := b
  constructor
  · rintro ⟨k, hk⟩
    refine ⟨(k.2, -k.1), ?_⟩
    have e1 := congrArg Prod.fst hk
    have e2 := congrArg Prod.snd hk
    simp only [rotP, mulP] at e1 e2 ⊢
    exact pt_ext (by grind) (by grind)
  · rintro ⟨k, hk⟩
    refine ⟨(-k.2, k.1), ?_⟩
    rw [hk]
    simp only [mulP, rotP]
    exact pt_ext (by grind) (by grind)
theorem dvd_rotN : ∀ (n : Nat) (a b : Pt), (dvdP (rotN n a) b ↔ dvdP a b) ∧ (dvdP a (rotN n b) ↔ dvdP a b)
  | 0, _, _ => ⟨Iff.rfl, Iff.rfl⟩
  | n + 1, a, b => ⟨(dvd_rotN n (rotP a) b).1.trans dvd_rot, (dvd_rotN n a (rotP b)).2.trans dvd_rot'⟩
theorem rotN_ok : ∀ (n : Nat) {p : Pt}, okPt p → okPt (rotN n p)
  | 0, _, h => h
  | n + 1, _, h => rotN_ok n (rot_ok h)
theorem up_first : ∀ (k : Nat) (p : Pt), upK p = k → p ≠ (0, 0) → (upP p).1 > 0 ∧ (upP p).2 ≥ 0 ∧ upP p ≠ (0, 0)
  | 0, p, hk, h => by
    have := (upK_zero h).1 hk
    unfold upP
    rw [hk]
    exact ⟨this.1, this.2, h⟩
  | k + 1, p, hk, h => by
    have hn : ¬ (p.1 > 0 ∧ p.2 ≥ 0) := fun q => by have := (upK_zero h).2 q; omega
    rw [upP_rot h hn]
    have := upK_rot h hn
    exact up_first k (rotP p) (by omega) (rot_ne h)
theorem rot4 (p : Pt) : rotP (rotP (rotP (rotP p))) = p := pt_ext (by simp [rotP]) (by simp [rotP])
theorem nrm_rot (p : Pt) : nrm (rotP p) = nrm p := by unfold nrm rotP; grind
theorem nrm_rotN : ∀ (n : Nat) (p : Pt), nrm (rotN n p) = nrm p
  | 0, _ => rfl
  | n + 1, p => by rw [rotN, nrm_rotN n, nrm_rot]
end Go.Proofs.Ytjnoigekhdjkcaa
