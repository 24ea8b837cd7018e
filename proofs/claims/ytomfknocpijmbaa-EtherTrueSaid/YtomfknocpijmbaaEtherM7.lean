/- Records sealed and read; what is on its way. -/
import Derived.Test.YtomfknocpijmbaaAmSl
import Derived.Test.YtomfknocpijmbaaEtherM6
section
set_option linter.unusedVariables false
set_option linter.unusedSimpArgs false
namespace Go.Proofs.Ytomfknocpijmbaa
open Go.Am
def u32 (n : Nat) : AV := .sc (.int .u32 n)
def poly : BitVec 24 := 0x864CFB
def stepS (x : BitVec 24) : BitVec 24 := if x.msb then (x <<< 1) ^^^ poly else x <<< 1
def byteS (x : BitVec 24) (b : UInt8) : BitVec 24 := Nat.repeat stepS 8 (x ^^^ (BitVec.ofNat 24 b.toNat <<< 16))
def sumS (l : List UInt8) : BitVec 24 := l.foldl byteS 0xB704CE
def stepR (x : BitVec 24) (q : Bool) : BitVec 24 := if x.msb != q then (x <<< 1) ^^^ poly else x <<< 1
def bitAt (l : List UInt8) (i : Nat) : Bool := decide ((l.getD (i / 8) 0).toNat / 2 ^ (7 - i % 8) % 2 = 1)
def sumR (l : List UInt8) : Nat → BitVec 24
 | 0 => 0xB704CE
 | i + 1 => stepR (sumR l i) (bitAt l i)
theorem msb_div (x : BitVec 24) : x.toNat / 8388608 = if x.msb then 1 else 0 := by
 rw [BitVec.msb_eq_decide]
 have := x.isLt
 by_cases h : 2 ^ (24 - 1) ≤ x.toNat <;> simp [h] <;> omega
theorem shl_rem (x : BitVec 24) : x.toNat % 8388608 * 2 = (x <<< 1).toNat := by
 rw [BitVec.toNat_shiftLeft, Nat.shiftLeft_eq]
 omega
theorem xor_poly (x : BitVec 24) : x.toNat ^^^ 8801531 = (x ^^^ poly).toNat := by
 rw [BitVec.toNat_xor]
 rfl
def three (n : Nat) : List UInt8 := [UInt8.ofNat (n / 65536), UInt8.ofNat (n / 256), UInt8.ofNat n]
def num3 (a b c : UInt8) : Nat := a.toNat * 65536 + b.toNat * 256 + c.toNat
def take3 (l : List UInt8) : Nat := num3 (l.getD 0 0) (l.getD 1 0) (l.getD 2 0)
theorem step_lin (r d : BitVec 24) : stepS (r ^^^ d) = stepR r d.msb ^^^ (d <<< 1) := by
 unfold stepS stepR
 rw [BitVec.msb_xor, BitVec.shiftLeft_xor_distrib]
 cases r.msb <;> cases d.msb <;> simp <;> ac_rfl
theorem steps_lin (q : Nat → Bool) (r d : BitVec 24) : ∀ (k : Nat), (∀ j, j < k → (d <<< j).msb = q j) →
  ∀ (R : Nat → BitVec 24), R 0 = r → (∀ j, j < k → R (j + 1) = stepR (R j) (q j)) → Nat.repeat stepS k (r ^^^ d) = R k ^^^ (d <<< k)
 | 0, _, R, h0, _ => by simp [Nat.repeat, h0]
 | k + 1, hd, R, h0, hR => by
  have ih := steps_lin q r d k (fun j hj => hd j (by omega)) R h0 (fun j hj => hR j (by omega))
  show stepS (Nat.repeat stepS k (r ^^^ d)) = _
  rw [ih, step_lin, hd k (by omega), hR k (by omega), ← BitVec.shiftLeft_add]
theorem bit_msb (b : UInt8) (j : Nat) (hj : j < 8) : ((BitVec.ofNat 24 b.toNat <<< 16) <<< j).msb = decide (b.toNat / 2 ^ (7 - j) % 2 = 1) := by
 have hb : b.toNat < 256 := b.toNat_lt
 have h1 : ((BitVec.ofNat 24 b.toNat <<< 16) <<< j).msb = b.toNat.testBit (7 - j) := by
  rw [BitVec.msb_eq_getLsbD_last, ← BitVec.shiftLeft_add]
  simp only [BitVec.getLsbD_shiftLeft, BitVec.getLsbD_ofNat]
  have e1 : 24 - 1 - (16 + j) = 7 - j := by omega
  rw [e1]
  have a1 : 7 - j < 24 := by omega
  have a2 : ¬ 24 - 1 < 16 + j := by omega
  have a3 : 24 - 1 < 24 := by omega
  simp only [a1, a2, a3, decide_true, decide_false, Bool.not_false, Bool.true_and]
 rw [h1, Nat.testBit_eq_decide_div_mod_eq]
theorem byte_sum (l : List UInt8) (i : Nat) (hi : i < l.length) : byteS (sumR l (8 * i)) l[i] = sumR l (8 * (i + 1)) := by
 have h := steps_lin (fun j => bitAt l (8 * i + j)) (sumR l (8 * i)) (BitVec.ofNat 24 l[i].toNat <<< 16) 8 (fun j hj => by
  rw [bit_msb _ _ hj]
  unfold bitAt
  have e1 : (8 * i + j) / 8 = i := by omega
  have e2 : (8 * i + j) % 8 = j := by omega
  rw [e1, e2, List.getD_eq_getElem?_getD, List.getElem?_eq_getElem hi]
  rfl) (fun j => sumR l (8 * i + j)) rfl (fun j hj => rfl)
 unfold byteS
 rw [h]
 have e : (BitVec.ofNat 24 l[i].toNat <<< 16) <<< 8 = 0#24 := by
  rw [← BitVec.shiftLeft_add]
  exact BitVec.shiftLeft_eq_zero (by omega)
 rw [e, BitVec.xor_zero]
 show sumR l (8 * i + 8) = _
 rw [Nat.mul_add]
theorem sums_eq (l : List UInt8) : sumR l (8 * l.length) = sumS l := by
 have key : ∀ i, i ≤ l.length → sumR l (8 * i) = (l.take i).foldl byteS 0xB704CE := by
  intro i
  induction i with
  | zero => intro _; rfl
  | succ i ih =>
   intro hi
   have ht : l.take (i + 1) = l.take i ++ [l[i]] := by rw [List.take_add_one]; simp [show i < l.length by omega]
   rw [← byte_sum l i (by omega), ih (by omega), ht, List.foldl_append]
   rfl
 rw [key l.length (Nat.le_refl _), List.take_length]
 rfl
def recS (b : List UInt8) : List UInt8 := three b.length ++ three (sumS (three b.length)).toNat ++ b ++ three (sumS b).toNat
theorem three_len (n : Nat) : (three n).length = 3 := rfl
theorem sum_lt (l : List UInt8) : (sumS l).toNat < 2 ^ 24 := (sumS l).isLt
def firstS (b : List UInt8) : List UInt8 × Nat × Nat :=
 if b.length < 6 then ([], 0, 5)
 else if take3 (b.drop 3) ≠ (sumS (b.take 3)).toNat then ([], 0, 6)
 else if 16384 < take3 b ∨ b.length < take3 b + 9 then ([], 0, 5)
 else if take3 (b.drop (6 + take3 b)) ≠ (sumS ((b.drop 6).take (take3 b))).toNat then ([], 0, 6)
 else ((b.drop 6).take (take3 b), take3 b + 9, 0)
theorem take3_lt (l : List UInt8) : take3 l < 2 ^ 24 := by
 unfold take3 num3
 have h1 := (l.getD 0 0).toNat_lt; have h2 := (l.getD 1 0).toNat_lt; have h3 := (l.getD 2 0).toNat_lt
 omega
def recV (l : List UInt8) : AV := catV 1 (u8s (three (sumS l).toNat)) (catV 1 (u8s l) (catV 1 (u8s (three (sumS (three l.length)).toNat)) (catV 1 (u8s (three l.length)) (.bs true 1 [] (some 0)))))
theorem recV_ok (l : List UInt8) : SG 1 (recV l) (u8s (recS l)) := by
 have := ((((SG.bs : SG 1 (.bs true 1 [] (some 0)) []).cat (u8s (three l.length))).cat (u8s (three (sumS (three l.length)).toNat))).cat (u8s l)).cat (u8s (three (sumS l).toNat))
 simp only [List.nil_append, u8s_app] at this
 exact this
theorem num3_three (n : Nat) (hn : n < 2 ^ 24) : take3 (three n) = n := by
 unfold take3 three num3
 simp
 omega
theorem recS_len (l : List UInt8) : (recS l).length = l.length + 9 := by simp [recS, three_len]; omega
theorem stepR_xor (x y : BitVec 24) (a b : Bool) : stepR (x ^^^ y) (a != b) = stepR x a ^^^ stepR y b := by
 have e : ∀ p q r : BitVec 24, (p ^^^ r) ^^^ (q ^^^ r) = p ^^^ q := fun p q r => by
  rw [BitVec.xor_comm q r, BitVec.xor_assoc, ← BitVec.xor_assoc r r q, BitVec.xor_self, BitVec.zero_xor]
 unfold stepR
 rw [BitVec.msb_xor, BitVec.shiftLeft_xor_distrib]
 cases x.msb <;> cases y.msb <;> cases a <;> cases b <;> simp <;> first | rw [e] | ac_rfl
theorem stepR_own (x : BitVec 24) : stepR x x.msb = x <<< 1 := by
 unfold stepR
 simp
theorem stepR_lsb (x : BitVec 24) (q : Bool) : (stepR x q).getLsbD 0 = (x.msb != q) := by
 have h1 : (x <<< 1).getLsbD 0 = false := by simp
 have h2 : poly.getLsbD 0 = true := by decide
 unfold stepR
 cases h : (x.msb != q) with
 | true => simp only [if_true, BitVec.getLsbD_xor, h1, h2]; rfl
 | false => simp only [Bool.false_eq_true, if_false, h1]
theorem lsb_shl {y : BitVec 24} {r : Nat} (hr : r < 24) (h : y <<< r = 0) : y.getLsbD 0 = false := by
 have : (y <<< r).getLsbD r = false := by rw [h]; simp
 rw [BitVec.getLsbD_shiftLeft] at this
 simpa [hr] using this
theorem stepR_zero {x : BitVec 24} (h : stepR x false = 0) : x = 0 := by
 have h1 := stepR_lsb x false
 rw [h] at h1
 have hm : x.msb = false := by simpa using h1.symm
 unfold stepR at h
 rw [hm] at h
 simp only [bne_self_eq_false, Bool.false_eq_true, if_false] at h
 have h2 : (x <<< 1).toNat = 0 := by rw [h]; rfl
 rw [BitVec.toNat_shiftLeft] at h2
 have h3 : x.toNat < 2 ^ 23 := by
  have := BitVec.msb_eq_decide x
  rw [hm] at this
  have := of_decide_eq_false this.symm
  omega
 have h4 : x.toNat * 2 < 2 ^ 24 := by omega
 rw [show x.toNat <<< 1 = x.toNat * 2 by rw [Nat.shiftLeft_eq], Nat.mod_eq_of_lt h4] at h2
 apply BitVec.eq_of_toNat_eq
 show x.toNat = 0
 omega
theorem no_burst (g : Nat → BitVec 24) (d : Nat → Bool) (N a : Nat) (hg : ∀ j, j < N → g (j + 1) = stepR (g j) (d j)) (h0 : g 0 = 0) (hN : g N = 0) (hd : ∀ j, j < N → d j = true → a ≤ j ∧ j < a + 24) : ∀ j, j < N → d j = false := by
 have z0 : stepR 0 false = 0 := by decide
 have low : ∀ j, j ≤ N → j ≤ a → g j = 0 := by
  intro j
  induction j with
  | zero => intro _ _; exact h0
  | succ j ih =>
   intro hj ha
   have hdj : d j = false := by
    cases h : d j with
    | false => rfl
    | true => have := hd j (by omega) h; omega
   rw [hg j (by omega), ih (by omega) (by omega), hdj, z0]
 have high : ∀ i, i ≤ N → a + 24 ≤ N - i → g (N - i) = 0 := by
  intro i
  induction i with
  | zero => intro _ _; exact hN
  | succ i ih =>
   intro hi ha
   have h1 := ih (by omega) (by omega)
   have e : N - i = (N - (i + 1)) + 1 := by omega
   have hdj : d (N - (i + 1)) = false := by
    cases h : d (N - (i + 1)) with
    | false => rfl
    | true => have := hd _ (by omega) h; omega
   rw [e, hg _ (by omega), hdj] at h1
   exact stepR_zero h1
 have he : ∃ e, e ≤ N ∧ e ≤ a + 24 ∧ (a ≤ N → a ≤ e) ∧ g e = 0 ∧ (e < N → e = a + 24) := by
  rcases Nat.lt_or_ge N (a + 24) with h | h
  ·exact ⟨N, Nat.le_refl _, by omega, fun h => h, hN, fun h => by omega⟩
  ·refine ⟨a + 24, h, Nat.le_refl _, fun _ => by omega, ?_, fun _ => rfl⟩
   have := high (N - (a + 24)) (by omega) (by omega)
   rwa [show N - (N - (a + 24)) = a + 24 by omega] at this
 obtain ⟨e, e1, e2, e3, e4, e5⟩ := he
 have win : ∀ r, r ≤ e → a ≤ e - r → g (e - r) <<< r = 0 := by
  intro r
  induction r with
  | zero => intro _ _; rw [Nat.sub_zero, e4]; rfl
  | succ r ih =>
   intro hr ha
   have h1 := ih (by omega) (by omega)
   have hl := lsb_shl (show r < 24 by omega) h1
   have ee : e - r = (e - (r + 1)) + 1 := by omega
   rw [ee, hg _ (by omega)] at h1 hl
   rw [stepR_lsb] at hl
   have hq : d (e - (r + 1)) = (g (e - (r + 1))).msb := by
    cases h1 : d (e - (r + 1)) <;> cases h2 : (g (e - (r + 1))).msb <;> simp_all
   rw [hq, stepR_own, ← BitVec.shiftLeft_add, Nat.add_comm 1 r] at h1
   exact h1
 have zero : ∀ j, j ≤ e → a ≤ j → g j = 0 := by
  intro j
  induction j with
  | zero => intro _ _; exact h0
  | succ j ih =>
   intro hj ha
   rcases Nat.lt_or_ge j a with c | c
   ·exact low (j + 1) (by omega) (by omega)
   ·have hz := ih (by omega) c
    have h1 := win (e - (j + 1)) (by omega) (by omega)
    rw [show e - (e - (j + 1)) = j + 1 by omega] at h1
    have hl := lsb_shl (by omega) h1
    rw [hg j (by omega), stepR_lsb, hz] at hl
    have hdj : d j = false := by cases h : d j <;> simp_all
    rw [hg j (by omega), hz, hdj, z0]
 intro j hj
 cases h : d j with
 | false => rfl
 | true =>
  obtain ⟨b1, b2⟩ := hd j hj h
  have h1 := zero j (by omega) b1
  have h2 := zero (j + 1) (by omega) (by omega)
  rw [hg j hj, h1, h] at h2
  exact absurd h2 (by decide)
theorem sums_diff {l m : List UInt8} (hl : l.length = m.length) (h1 : sumS l = 0) (h2 : sumS m = 0) (a : Nat) (hd : ∀ j, j < 8 * l.length → bitAt l j ≠ bitAt m j → a ≤ j ∧ j < a + 24) : ∀ j, j < 8 * l.length → bitAt l j = bitAt m j := by
 have := no_burst (fun j => sumR l j ^^^ sumR m j) (fun j => bitAt l j != bitAt m j) (8 * l.length) a (fun j hj => by
  show stepR (sumR l j) (bitAt l j) ^^^ stepR (sumR m j) (bitAt m j) = _
  rw [stepR_xor]) (by simp [sumR]) (by
  show sumR l (8 * l.length) ^^^ sumR m (8 * l.length) = 0
  rw [sums_eq, h1]
  rw [hl, sums_eq, h2]
  rfl) (fun j hj h => hd j hj (by simpa using h))
 intro j hj
 have := this j hj
 simpa using this
theorem tb (n m k : Nat) (h : n / m % 2 = k % 2) : decide (n / m % 2 = 1) = decide (k % 2 = 1) := by rw [h]
theorem bit_shl (v : BitVec 24) (j : Nat) (hj : j < 24) : (v <<< j).msb = decide (v.toNat / 2 ^ (23 - j) % 2 = 1) := by
 rw [BitVec.msb_eq_getLsbD_last]
 simp only [BitVec.getLsbD_shiftLeft]
 have a1 : 24 - 1 - j = 23 - j := by omega
 have a2 : ¬ 24 - 1 < j := by omega
 have a3 : 24 - 1 < 24 := by omega
 simp only [a1, a2, a3, decide_true, decide_false, Bool.not_false, Bool.true_and]
 rw [BitVec.getLsbD, Nat.testBit_eq_decide_div_mod_eq]
theorem u8_n (n : Nat) : (UInt8.ofNat n).toNat = n % 256 := by simp
theorem bit_three (n : Nat) (hn : n < 2 ^ 24) : ∀ j, j < 24 → bitAt (three n) j = decide (n / 2 ^ (23 - j) % 2 = 1)
 | 0, _ => by
  show decide ((UInt8.ofNat (n / 65536)).toNat / 2 ^ 7 % 2 = 1) = decide (n / 2 ^ 23 % 2 = 1)
  rw [u8_n]
  exact tb _ _ _ (by omega)
 | 1, _ => by
  show decide ((UInt8.ofNat (n / 65536)).toNat / 2 ^ 6 % 2 = 1) = decide (n / 2 ^ 22 % 2 = 1)
  rw [u8_n]
  exact tb _ _ _ (by omega)
 | 2, _ => by
  show decide ((UInt8.ofNat (n / 65536)).toNat / 2 ^ 5 % 2 = 1) = decide (n / 2 ^ 21 % 2 = 1)
  rw [u8_n]
  exact tb _ _ _ (by omega)
 | 3, _ => by
  show decide ((UInt8.ofNat (n / 65536)).toNat / 2 ^ 4 % 2 = 1) = decide (n / 2 ^ 20 % 2 = 1)
  rw [u8_n]
  exact tb _ _ _ (by omega)
 | 4, _ => by
  show decide ((UInt8.ofNat (n / 65536)).toNat / 2 ^ 3 % 2 = 1) = decide (n / 2 ^ 19 % 2 = 1)
  rw [u8_n]
  exact tb _ _ _ (by omega)
 | 5, _ => by
  show decide ((UInt8.ofNat (n / 65536)).toNat / 2 ^ 2 % 2 = 1) = decide (n / 2 ^ 18 % 2 = 1)
  rw [u8_n]
  exact tb _ _ _ (by omega)
 | 6, _ => by
  show decide ((UInt8.ofNat (n / 65536)).toNat / 2 ^ 1 % 2 = 1) = decide (n / 2 ^ 17 % 2 = 1)
  rw [u8_n]
  exact tb _ _ _ (by omega)
 | 7, _ => by
  show decide ((UInt8.ofNat (n / 65536)).toNat / 2 ^ 0 % 2 = 1) = decide (n / 2 ^ 16 % 2 = 1)
  rw [u8_n]
  exact tb _ _ _ (by omega)
 | 8, _ => by
  show decide ((UInt8.ofNat (n / 256)).toNat / 2 ^ 7 % 2 = 1) = decide (n / 2 ^ 15 % 2 = 1)
  rw [u8_n]
  exact tb _ _ _ (by omega)
 | 9, _ => by
  show decide ((UInt8.ofNat (n / 256)).toNat / 2 ^ 6 % 2 = 1) = decide (n / 2 ^ 14 % 2 = 1)
  rw [u8_n]
  exact tb _ _ _ (by omega)
 | 10, _ => by
  show decide ((UInt8.ofNat (n / 256)).toNat / 2 ^ 5 % 2 = 1) = decide (n / 2 ^ 13 % 2 = 1)
  rw [u8_n]
  exact tb _ _ _ (by omega)
 | 11, _ => by
  show decide ((UInt8.ofNat (n / 256)).toNat / 2 ^ 4 % 2 = 1) = decide (n / 2 ^ 12 % 2 = 1)
  rw [u8_n]
  exact tb _ _ _ (by omega)
 | 12, _ => by
  show decide ((UInt8.ofNat (n / 256)).toNat / 2 ^ 3 % 2 = 1) = decide (n / 2 ^ 11 % 2 = 1)
  rw [u8_n]
  exact tb _ _ _ (by omega)
 | 13, _ => by
  show decide ((UInt8.ofNat (n / 256)).toNat / 2 ^ 2 % 2 = 1) = decide (n / 2 ^ 10 % 2 = 1)
  rw [u8_n]
  exact tb _ _ _ (by omega)
 | 14, _ => by
  show decide ((UInt8.ofNat (n / 256)).toNat / 2 ^ 1 % 2 = 1) = decide (n / 2 ^ 9 % 2 = 1)
  rw [u8_n]
  exact tb _ _ _ (by omega)
 | 15, _ => by
  show decide ((UInt8.ofNat (n / 256)).toNat / 2 ^ 0 % 2 = 1) = decide (n / 2 ^ 8 % 2 = 1)
  rw [u8_n]
  exact tb _ _ _ (by omega)
 | 16, _ => by
  show decide ((UInt8.ofNat n).toNat / 2 ^ 7 % 2 = 1) = decide (n / 2 ^ 7 % 2 = 1)
  rw [u8_n]
  exact tb _ _ _ (by omega)
 | 17, _ => by
  show decide ((UInt8.ofNat n).toNat / 2 ^ 6 % 2 = 1) = decide (n / 2 ^ 6 % 2 = 1)
  rw [u8_n]
  exact tb _ _ _ (by omega)
 | 18, _ => by
  show decide ((UInt8.ofNat n).toNat / 2 ^ 5 % 2 = 1) = decide (n / 2 ^ 5 % 2 = 1)
  rw [u8_n]
  exact tb _ _ _ (by omega)
 | 19, _ => by
  show decide ((UInt8.ofNat n).toNat / 2 ^ 4 % 2 = 1) = decide (n / 2 ^ 4 % 2 = 1)
  rw [u8_n]
  exact tb _ _ _ (by omega)
 | 20, _ => by
  show decide ((UInt8.ofNat n).toNat / 2 ^ 3 % 2 = 1) = decide (n / 2 ^ 3 % 2 = 1)
  rw [u8_n]
  exact tb _ _ _ (by omega)
 | 21, _ => by
  show decide ((UInt8.ofNat n).toNat / 2 ^ 2 % 2 = 1) = decide (n / 2 ^ 2 % 2 = 1)
  rw [u8_n]
  exact tb _ _ _ (by omega)
 | 22, _ => by
  show decide ((UInt8.ofNat n).toNat / 2 ^ 1 % 2 = 1) = decide (n / 2 ^ 1 % 2 = 1)
  rw [u8_n]
  exact tb _ _ _ (by omega)
 | 23, _ => by
  show decide ((UInt8.ofNat n).toNat / 2 ^ 0 % 2 = 1) = decide (n / 2 ^ 0 % 2 = 1)
  rw [u8_n]
  exact tb _ _ _ (by omega)
 | j + 24, h => absurd h (by omega)
theorem bit_app_l (l m : List UInt8) {j : Nat} (hj : j < 8 * l.length) : bitAt (l ++ m) j = bitAt l j := by
 unfold bitAt
 have : j / 8 < l.length := by omega
 simp only [List.getD_eq_getElem?_getD, List.getElem?_append_left this]
theorem bit_drop (l : List UInt8) (n j : Nat) : bitAt (l.drop n) j = bitAt l (8 * n + j) := by
 unfold bitAt
 rw [show (8 * n + j) / 8 = n + j / 8 by omega, show (8 * n + j) % 8 = j % 8 by omega]
 simp only [List.getD_eq_getElem?_getD, List.getElem?_drop]
theorem bit_app_r (l m : List UInt8) (j : Nat) : bitAt (l ++ m) (8 * l.length + j) = bitAt m j := by
 rw [← bit_drop, List.drop_left]
theorem sumR_ext : ∀ {l m : List UInt8} (n : Nat), (∀ j, j < n → bitAt l j = bitAt m j) → sumR l n = sumR m n
 | _, _, 0, _ => rfl
 | l, m, n + 1, h => by
  show stepR (sumR l n) (bitAt l n) = stepR (sumR m n) (bitAt m n)
  rw [sumR_ext n fun j hj => h j (by omega), h n (by omega)]
theorem sum_own (l : List UInt8) : sumS (l ++ three (sumS l).toNat) = 0 := by
 have h0 : sumR (l ++ three (sumS l).toNat) (8 * l.length) = sumS l := by
  rw [sumR_ext (8 * l.length) fun j hj => bit_app_l l _ hj, sums_eq]
 have hv := (sumS l).isLt
 generalize sumS l = v at h0 hv
 have key : ∀ j, j ≤ 24 → sumR (l ++ three v.toNat) (8 * l.length + j) = v <<< j := by
  intro j
  induction j with
  | zero => intro _; rw [Nat.add_zero, h0]; simp
  | succ j ih =>
   intro hj
   show stepR (sumR (l ++ three v.toNat) (8 * l.length + j)) (bitAt (l ++ three v.toNat) (8 * l.length + j)) = _
   rw [ih (by omega), bit_app_r, bit_three _ hv j (by omega), ← bit_shl v j (by omega), stepR_own, ← BitVec.shiftLeft_add]
 have := key 24 (Nat.le_refl _)
 rw [← sums_eq, List.length_append, three_len, Nat.mul_add, this]
 exact BitVec.shiftLeft_eq_zero (by omega)
theorem byte_ext {a b : UInt8} (h : ∀ d, d < 8 → decide (a.toNat / 2 ^ (7 - d) % 2 = 1) = decide (b.toNat / 2 ^ (7 - d) % 2 = 1)) : a = b := by
 have hb : ∀ d, d < 8 → a.toNat / 2 ^ (7 - d) % 2 = b.toNat / 2 ^ (7 - d) % 2 := fun d hd => by
  have := decide_eq_decide.1 (h d hd)
  omega
 have h0 := hb 0 (by omega); have h1 := hb 1 (by omega); have h2 := hb 2 (by omega); have h3 := hb 3 (by omega)
 have h4 := hb 4 (by omega); have h5 := hb 5 (by omega); have h6 := hb 6 (by omega); have h7 := hb 7 (by omega)
 have ha := a.toNat_lt; have hbl := b.toNat_lt
 simp only [Nat.sub_zero, Nat.reducePow, Nat.reduceSub] at h0 h1 h2 h3 h4 h5 h6 h7
 apply UInt8.toNat_inj.1
 omega
theorem list_bits {l m : List UInt8} (hl : l.length = m.length) (h : ∀ j, j < 8 * l.length → bitAt l j = bitAt m j) : l = m := by
 refine List.ext_getElem hl fun i h1 h2 => byte_ext fun d hd => ?_
 have := h (8 * i + d) (by omega)
 unfold bitAt at this
 rw [show (8 * i + d) / 8 = i by omega, show (8 * i + d) % 8 = d by omega] at this
 simpa only [List.getD_eq_getElem?_getD, List.getElem?_eq_getElem h1, List.getElem?_eq_getElem h2, Option.getD_some] using this
theorem three_take {t : List UInt8} (ht : t.length = 3) : three (take3 t) = t := by
 match t, ht with
 | [a, b, c], _ =>
  have ha := a.toNat_lt; have hb := b.toNat_lt; have hc := c.toNat_lt
  have e1 : UInt8.ofNat (num3 a b c / 65536) = a := by apply UInt8.toNat_inj.1; rw [u8_n]; unfold num3; omega
  have e2 : UInt8.ofNat (num3 a b c / 256) = b := by apply UInt8.toNat_inj.1; rw [u8_n]; unfold num3; omega
  have e3 : UInt8.ofNat (num3 a b c) = c := by apply UInt8.toNat_inj.1; rw [u8_n]; unfold num3; omega
  show three (num3 a b c) = [a, b, c]
  rw [three, e1, e2, e3]
theorem take3_take (l : List UInt8) (h : 3 ≤ l.length) : take3 (l.take 3) = take3 l := by
 match l, h with
 | a :: b :: c :: r, _ => rfl
theorem bit_take (l : List UInt8) (n j : Nat) (hj : j < 8 * n) (hn : n ≤ l.length) : bitAt (l.take n) j = bitAt l j := by
 have := bit_app_l (l.take n) (l.drop n) (j := j) (by rw [List.length_take]; omega)
 rw [List.take_append_drop] at this
 exact this.symm
theorem burst {b s : List UInt8} (hb : b.length ≤ 16384) (hl : s.length = (recS b).length) (a : Nat) (hd : ∀ j, j < 8 * s.length → bitAt s j ≠ bitAt (recS b) j → a ≤ j ∧ j < a + 24) (hf : (firstS s).2.2 = 0) : ∀ j, j < 8 * s.length → bitAt s j = bitAt (recS b) j := by
 rw [recS_len] at hl
 have hR := recS_len b
 unfold firstS at hf
 split at hf
 ·simp at hf
 split at hf
 ·simp at hf
 rename_i h6 hs1
 split at hf
 ·simp at hf
 rename_i hn
 split at hf
 ·simp at hf
 rename_i hs2
 have hs1 : take3 (s.drop 3) = (sumS (s.take 3)).toNat := Decidable.not_not.1 hs1
 have hs2 := Decidable.not_not.1 hs2
 have eR : recS b = (three b.length ++ three (sumS (three b.length)).toNat) ++ (b ++ three (sumS b).toNat) := by simp [recS]
 have hh : (three b.length ++ three (sumS (three b.length)).toNat).length = 6 := rfl
 have z1 : sumS (s.take 6) = 0 := by
  have e : s.take 6 = s.take 3 ++ three (sumS (s.take 3)).toNat := by
   rw [← hs1, ← take3_take _ (by rw [List.length_drop]; omega), three_take (by rw [List.length_take, List.length_drop]; omega), show s.take 6 = s.take (3 + 3) from rfl, List.take_add]
  rw [e]
  exact sum_own _
 have z2 : sumS ((recS b).take 6) = 0 := by
  rw [eR, List.take_left' hh]
  exact sum_own _
 have l6 : (s.take 6).length = ((recS b).take 6).length := by rw [List.length_take, List.length_take, hR]; omega
 have l6' : (s.take 6).length = 6 := by rw [List.length_take]; omega
 have b1 : ∀ j, j < 48 → bitAt (s.take 6) j = bitAt s j := fun j hj => bit_take _ _ _ (by omega) (by omega)
 have b2 : ∀ j, j < 48 → bitAt ((recS b).take 6) j = bitAt (recS b) j := fun j hj => bit_take _ _ _ (by omega) (by omega)
 have hhead := sums_diff l6 z1 z2 a (fun j hj hne => by
  rw [l6'] at hj
  rw [b1 j (by omega), b2 j (by omega)] at hne
  exact hd j (by omega) hne)
 rw [l6'] at hhead
 have head : ∀ j, j < 48 → bitAt s j = bitAt (recS b) j := fun j hj => by
  rw [← b1 j hj, ← b2 j hj]
  exact hhead j (by omega)
 have hs6 : s.take 6 = (recS b).take 6 := list_bits l6 (fun j hj => hhead j (by rw [l6'] at hj; omega))
 have hlen : take3 s = b.length := by
  have h1 : take3 s = take3 (s.take 6) := by
   rw [← take3_take s (by omega), ← take3_take (s.take 6) (by omega), List.take_take]
   rfl
  rw [h1, hs6, eR, List.take_left' hh]
  exact num3_three _ (by omega)
 rw [hlen] at hs2
 have l7 : (s.drop 6).length = ((recS b).drop 6).length := by rw [List.length_drop, List.length_drop, hR]; omega
 have y2 : sumS ((recS b).drop 6) = 0 := by
  rw [eR, List.drop_left' hh]
  exact sum_own _
 have y1 : sumS (s.drop 6) = 0 := by
  have e : s.drop 6 = (s.drop 6).take b.length ++ three (sumS ((s.drop 6).take b.length)).toNat := by
   rw [← hs2, three_take (by rw [List.length_drop]; omega)]
   conv => lhs; rw [← List.take_append_drop b.length (s.drop 6)]
   rw [List.drop_drop]
  rw [e]
  exact sum_own _
 have htail := sums_diff l7 y1 y2 (a - 48) (fun j hj hne => by
  rw [List.length_drop] at hj
  rw [bit_drop, bit_drop] at hne
  have h1 := hd (8 * 6 + j) (by omega) hne
  omega)
 intro j hj
 rcases Nat.lt_or_ge j 48 with h | h
 ·exact head j h
 ·have h1 := htail (j - 48) (by rw [List.length_drop]; omega)
  rw [bit_drop, bit_drop, show 8 * 6 + (j - 48) = j by omega] at h1
  exact h1
end Go.Proofs.Ytomfknocpijmbaa
end
section
set_option linter.unusedVariables false
set_option linter.unusedSimpArgs false
namespace Go.Proofs.Ytomfknocpijmbaa
open Go.Am
theorem bit_tb (l : List UInt8) (j : Nat) : bitAt l j = (l.getD (j / 8) 0).toNat.testBit (7 - j % 8) := by
 unfold bitAt
 rw [Nat.testBit_eq_decide_div_mod_eq]
theorem turn_bit {q : List UInt8} {p j : Nat} (hp : p < 8 * q.length) (hj : j ≠ p) : bitAt (turn q p) j = bitAt q j := by
 rw [bit_tb, bit_tb]
 unfold turn
 have hl : p / 8 < q.length := by omega
 by_cases c : j / 8 = p / 8
 ·rw [c]
  simp only [List.getD_eq_getElem?_getD, List.getElem?_set_self hl, List.getElem?_eq_getElem hl, Option.getD_some]
  have hx := xor_lt q[p / 8] (7 - p % 8) (by omega)
  rw [u8_n, Nat.mod_eq_of_lt hx, Nat.testBit_xor, Nat.testBit_two_pow]
  have : ¬ 7 - p % 8 = 7 - j % 8 := by omega
  simp [this]
 ·simp only [List.getD_eq_getElem?_getD, List.getElem?_set_ne (Ne.symm c)]
theorem bendN_bit {b : List UInt8} {p m : Nat} : ∀ {n j : Nat}, bitAt (bendN b p m n) j ≠ bitAt b j → p ≤ j ∧ j < p + n
 | 0, j, h => absurd rfl h
 | n + 1, j, h => by
  rw [bendN_succ] at h
  unfold stepW at h
  split at h
  ·rename_i hc
   rw [bendN_len] at hc
   by_cases e : j = p + n
   ·omega
   ·rw [turn_bit (by rw [bendN_len]; exact hc.2) e] at h
    have := bendN_bit h
    omega
  ·have := bendN_bit h
   omega
theorem bend_rec {r : List UInt8} {w : Int} (hr : r.length ≤ 16384) (hf : (firstS (bendB (recS r) w)).2.2 = 0) : bendB (recS r) w = recS r := by
 have hne : recS r ≠ [] := fun e => by
  have := recS_len r
  rw [e] at this
  simp at this
 unfold bendB at hf ⊢
 rw [if_neg hne] at hf ⊢
 generalize (w % ((8 * (recS r).length : Nat) : Int)).toNat = p at hf ⊢
 have hl : (bendN (recS r) p (patW w) 24).length = (recS r).length := bendN_len
 exact list_bits hl fun j hj => burst hr hl p (fun j _ h => bendN_bit h) hf j hj
abbrev Puts := List ((Int × Int) × List UInt8)
def OkY (put : Puts) (k : Int × Int) (y : Pcl) : Prop := ∃ r : List UInt8, r.length ≤ 200 ∧ (k, recS r) ∈ put ∧ (y = (recS r, false) ∨ ∃ w, y = (bendB (recS r) w, true))
def OkE (put : Puts) (E : Eth) : Prop := ∀ b ∈ E.bags, ∀ y ∈ b.l, OkY put b.k y
theorem OkY.more {put : Puts} {k : Int × Int} {y : Pcl} {x} (h : OkY put k y) : OkY (put ++ [x]) k y := by
 obtain ⟨r, h1, h2, h3⟩ := h
 exact ⟨r, h1, List.mem_append_left _ h2, h3⟩
theorem OkE.mod {put : Puts} {E : Eth} {j : Nat} {f : List Pcl → List Pcl} (h : OkE put E) (hf : ∀ b, E.bags[j]? = some b → ∀ y ∈ f b.l, OkY put b.k y) : OkE put (modL E j f) := fun b hb y hy => by
 rcases mem_modL hb with hb | ⟨c, hc, rfl⟩
 ·exact h b hb y hy
 ·exact hf c hc y hy
theorem OkE.sub {put : Puts} {E E' : Eth} (h : OkE put E) (hs : ∀ b ∈ E'.bags, b ∈ E.bags) : OkE put E' := fun b hb y hy => h b (hs b hb) y hy
theorem ins_modL {E : Eth} {p : Int × Int} {f : List Pcl → List Pcl} : (modL (insBag E p) (ix (ks E) p) f).bags = E.bags.take (ix (ks E) p) ++ ⟨p, f []⟩ :: E.bags.drop (ix (ks E) p) := by
 have el : (E.bags.take (ix (ks E) p)).length = ix (ks E) p := by
  have := ix_le (ks E) p
  simp only [ks, List.length_map] at this
  rw [List.length_take]
  simp only [ks]
  omega
 have := mod_mid (f := fun b : Bg => (⟨b.k, f b.l⟩ : Bg)) (x := (⟨p, []⟩ : Bg)) (A := E.bags.take (ix (ks E) p)) (B := E.bags.drop (ix (ks E) p))
 rw [el] at this
 exact this
theorem ok_put {put : Puts} {E : Eth} {p : Int × Int} {r : List UInt8} (hr : r.length ≤ 200) (h : OkE put E) : OkE (put ++ [(p, recS r)]) (putP E p (recS r)) := by
 have h' : OkE (put ++ [(p, recS r)]) E := fun b hb y hy => (h b hb y hy).more
 have hn : OkY (put ++ [(p, recS r)]) p (recS r, false) := ⟨r, hr, by simp, .inl rfl⟩
 unfold putP
 split
 ·exact h'
 ·cases hth : there E p with
  | true =>
   rw [if_pos rfl]
   obtain ⟨b, hb, hk⟩ := there_at hth
   refine h'.mod fun c hc y hy => ?_
   rw [hb] at hc
   cases hc
   rcases List.mem_append.1 hy with hy | hy
   ·exact h' b (List.mem_of_getElem? hb) y hy
   ·rw [List.mem_singleton] at hy
    rw [hy, hk]
    exact hn
  | false =>
   simp only [Bool.false_eq_true, if_false]
   intro b hb y hy
   rw [ins_modL] at hb
   rcases List.mem_append.1 hb with hb | hb
   ·exact h' b (List.mem_of_mem_take hb) y hy
   ·rcases List.mem_cons.1 hb with rfl | hb
    ·rw [List.nil_append, List.mem_singleton] at hy
     rw [hy]
     exact hn
    ·exact h' b (List.mem_of_mem_drop hb) y hy
theorem good_put {E : Eth} {p : Int × Int} {x : List UInt8} (G : Good E) (ht : two p.1 p.2 = true) : Good (putP E p x) := by
 unfold putP
 split
 ·exact G
 ·rename_i hc
  simp only [Bool.or_eq_true, not_or, Bool.not_eq_true] at hc
  obtain ⟨h1, h2⟩ := hc
  cases hth : there E p with
  | true =>
   rw [if_pos rfl]
   obtain ⟨b, hb, hk⟩ := there_at hth
   refine good_mod G fun c hc => ?_
   rw [hb] at hc
   cases hc
   have hl : lAt E (ix (ks E) p) = b.l := by unfold lAt; rw [hb]
   rw [hth, hl] at h2
   have h3 := (G.bb b (List.mem_of_getElem? hb)).2.2.2
   have h4 : ¬ b.l.length = 64 := by simpa using h2
   simp only [List.length_append, List.length_singleton]
   omega
  | false =>
   simp only [Bool.false_eq_true, if_false]
   have hn : p ∉ ks E := by
    have := there_mem (p := p) G
    rw [hth] at this
    exact of_decide_eq_false this.symm
   have h4 : ¬ E.bags.length = 1024 := by
    rw [hth] at h2
    simpa using h2
   have hmm : mm p ∉ E.cuts := by
    rw [cut_mem G.cs] at h1
    exact of_decide_eq_false h1
   have hks : ks (modL (insBag E p) (ix (ks E) p) (· ++ [(x, false)])) = (ks E).take (ix (ks E) p) ++ p :: (ks E).drop (ix (ks E) p) := by
    show List.map (fun b : Bg => b.k) (modL (insBag E p) (ix (ks E) p) (· ++ [(x, false)])).bags = _
    have := ins_modL (E := E) (p := p) (f := (· ++ [(x, false)]))
    rw [this]
    simp [ks]
   refine ⟨G.cs, G.cb, by rw [hks]; exact srt_ins G.bs hn, fun b hb => ?_, ?_⟩
   ·rw [ins_modL] at hb
    rcases List.mem_append.1 hb with hb | hb
    ·exact G.bb b (List.mem_of_mem_take hb)
    ·rcases List.mem_cons.1 hb with rfl | hb
     ·exact ⟨ht, hmm, by simp, by simp⟩
     ·exact G.bb b (List.mem_of_mem_drop hb)
   ·have := G.n
    rw [ins_modL, List.length_append, List.length_cons, List.length_take, List.length_drop]
    omega
theorem by_put {E : Eth} {p : Int × Int} {x : List UInt8} {n : Nat} (hx : x.length ≤ n) (hb : ∀ b ∈ E.bags, ∀ y ∈ b.l, y.1.length ≤ n) : ∀ b ∈ (putP E p x).bags, ∀ y ∈ b.l, y.1.length ≤ n := by
 unfold putP
 split
 ·exact hb
 ·cases hth : there E p with
  | true =>
   rw [if_pos rfl]
   intro b h y hy
   rcases mem_modL h with h | ⟨c, hc, rfl⟩
   ·exact hb b h y hy
   ·rcases List.mem_append.1 hy with hy | hy
    ·exact hb c (List.mem_of_getElem? hc) y hy
    ·rw [List.mem_singleton] at hy
     rw [hy]
     exact hx
  | false =>
   simp only [Bool.false_eq_true, if_false]
   intro b h y hy
   rw [ins_modL] at h
   rcases List.mem_append.1 h with h | h
   ·exact hb b (List.mem_of_mem_take h) y hy
   ·rcases List.mem_cons.1 h with rfl | h
    ·rw [List.nil_append, List.mem_singleton] at hy
     rw [hy]
     exact hx
    ·exact hb b (List.mem_of_mem_drop h) y hy
theorem put_cuts {E : Eth} {p : Int × Int} {x : List UInt8} : (putP E p x).cuts = E.cuts := by
 unfold putP
 split
 ·rfl
 ·show (if there E p = true then E else insBag E p).cuts = _
  split <;> rfl
theorem sm_put {E : Eth} {p : Int × Int} {x : List UInt8} {c : Nat} (S : Sm E c) (ht : two p.1 p.2 = true) (hx : x.length ≤ 5000) : Sm (putP E p x) c :=
 ⟨good_put S.g ht, by rw [put_cuts]; exact S.c, by_put hx S.b⟩
theorem erase_mem {α : Type} {l : List α} {k : Nat} {y : α} (h : y ∈ l.eraseIdx k) : y ∈ l := List.mem_of_mem_eraseIdx h
theorem ok_do {put : Puts} {E : Eth} {x : Act} (G : Good E) (h : OkE put E) : OkE put (doP E x).1 := by
 unfold doP
 by_cases h1 : isCutAct x = true
 ·rw [if_pos h1]
  refine h.sub fun b hb => ?_
  unfold dropP at hb
  have := (List.mem_filter.1 hb).1
  split at this <;> exact this
 ·rw [if_neg h1]
  by_cases h2 : isMend x = true
  ·rw [if_pos h2]
   refine h.sub fun b hb => ?_
   split at hb <;> exact hb
  ·rw [if_neg h2]
   by_cases h3 : noAct E x = true
   ·rw [if_pos h3]
    exact h
   ·rw [if_neg h3]
    have hth : there E x.p = true := by
     unfold noAct at h3
     cases q : there E x.p with
     | true => rfl
     | false => rw [q] at h3; exact absurd rfl h3
    obtain ⟨b, hb, hk⟩ := there_at hth
    have hl : lAt E (ix (ks E) x.p) = b.l := by unfold lAt; rw [hb]
    have hbm := List.mem_of_getElem? hb
    have hlen := (G.bb b hbm).2.2.1
    rw [hl]
    have hk1 := plc_lt (x := x) (l := b.l) (by omega)
    have hq := pcl_mem hk1
    generalize plc x b.l = k at hk1 hq
    generalize pclAt b.l k = q at hq
    have hoq := h b hbm q hq
    unfold parP
    split
    ·rename_i hbend
     refine h.mod fun c hc y hy => ?_
     rw [hb] at hc
     cases hc
     rcases List.mem_or_eq_of_mem_set hy with hy | rfl
     ·exact h b hbm y hy
     ·obtain ⟨r, r1, r2, r3⟩ := hoq
      refine ⟨r, r1, r2, .inr ⟨x.w, ?_⟩⟩
      rcases r3 with rfl | ⟨w, rfl⟩
      ·rfl
      ·unfold isBend at hbend
       simp at hbend
    ·split
     ·refine h.mod fun c hc y hy => ?_
      rw [hb] at hc
      cases hc
      rcases List.mem_append.1 hy with hy | hy
      ·exact h b hbm y hy
      ·rw [List.mem_singleton] at hy
       rw [hy]
       exact hoq
     ·split
      ·show OkE put (takeP E _ _)
       unfold takeP
       split
       ·exact h.sub fun c hc => erase_mem hc
       ·refine h.mod fun c hc y hy => ?_
        rw [hb] at hc
        cases hc
        exact h b hbm y (erase_mem hy)
      ·exact h
theorem do_comes {put : Puts} {E : Eth} {x : Act} (G : Good E) (h : OkE put E) (hc : (doP E x).2.2 = true) (hf : (firstS (doP E x).2.1).2.2 = 0) : (x.p, (doP E x).2.1) ∈ put := by
 unfold doP at hc hf ⊢
 by_cases h1 : isCutAct x = true
 ·rw [if_pos h1] at hc
  cases hc
 ·rw [if_neg h1] at hc hf ⊢
  by_cases h2 : isMend x = true
  ·rw [if_pos h2] at hc
   cases hc
  ·rw [if_neg h2] at hc hf ⊢
   by_cases h3 : noAct E x = true
   ·rw [if_pos h3] at hc
    cases hc
   ·rw [if_neg h3] at hc hf ⊢
    have hth : there E x.p = true := by
     unfold noAct at h3
     cases q : there E x.p with
     | true => rfl
     | false => rw [q] at h3; exact absurd rfl h3
    obtain ⟨b, hb, hk⟩ := there_at hth
    have hl : lAt E (ix (ks E) x.p) = b.l := by unfold lAt; rw [hb]
    have hbm := List.mem_of_getElem? hb
    have hlen := (G.bb b hbm).2.2.1
    rw [hl] at hc hf ⊢
    have hk1 := plc_lt (x := x) (l := b.l) (by omega)
    have hq := pcl_mem hk1
    generalize plc x b.l = k at hk1 hq hc hf ⊢
    generalize pclAt b.l k = q at hq hc hf ⊢
    have hoq := h b hbm q hq
    unfold parP at hc hf ⊢
    split at hc
    ·cases hc
    ·rename_i c1
     rw [if_neg c1] at hf ⊢
     split at hc
     ·cases hc
     ·rename_i c2
      rw [if_neg c2] at hf ⊢
      split at hc
      ·rename_i c3
       rw [if_pos c3] at hf ⊢
       simp only at hc
       simp only [hc, if_true] at hf ⊢
       obtain ⟨r, r1, r2, r3⟩ := hoq
       rw [hk] at r2
       rcases r3 with rfl | ⟨w, rfl⟩
       ·exact r2
       ·rw [bend_rec (by omega) hf]
        exact r2
      ·cases hc
theorem do_len {E : Eth} {x : Act} {n : Nat} (G : Good E) (h : ∀ b ∈ E.bags, ∀ y ∈ b.l, y.1.length ≤ n) : (doP E x).2.1.length ≤ n := by
 unfold doP
 by_cases h1 : isCutAct x = true
 ·rw [if_pos h1]; exact Nat.zero_le _
 ·rw [if_neg h1]
  by_cases h2 : isMend x = true
  ·rw [if_pos h2]; exact Nat.zero_le _
  ·rw [if_neg h2]
   by_cases h3 : noAct E x = true
   ·rw [if_pos h3]; exact Nat.zero_le _
   ·rw [if_neg h3]
    have hth : there E x.p = true := by
     unfold noAct at h3
     cases q : there E x.p with
     | true => rfl
     | false => rw [q] at h3; exact absurd rfl h3
    obtain ⟨b, hb, hk⟩ := there_at hth
    have hl : lAt E (ix (ks E) x.p) = b.l := by unfold lAt; rw [hb]
    have hbm := List.mem_of_getElem? hb
    have hlen := (G.bb b hbm).2.2.1
    rw [hl]
    have hq := h b hbm _ (pcl_mem (plc_lt (x := x) (l := b.l) (by omega)))
    unfold parP
    split
    ·exact Nat.zero_le _
    ·split
     ·exact Nat.zero_le _
     ·split
      ·show (if _ then _ else _ : List UInt8).length ≤ n
       split
       ·exact hq
       ·exact Nat.zero_le _
      ·exact Nat.zero_le _
end Go.Proofs.Ytomfknocpijmbaa
end
