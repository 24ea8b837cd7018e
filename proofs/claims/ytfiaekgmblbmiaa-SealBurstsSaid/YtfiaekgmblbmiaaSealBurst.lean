/- Bursts: no register turns back within 24 bits. -/
import Derived.Test.YtfiaekgmblbmiaaSealPure
import Derived.Test.YtfiaekgmblbmiaaSealCuts
set_option linter.unusedVariables false
set_option linter.unusedSimpArgs false
namespace Go.Proofs.Ytfiaekgmblbmiaa
open Go.Am
theorem stepR_xor (x y : BitVec 24) (a b : Bool) : stepR (x ^^^ y) (a != b) = stepR x a ^^^ stepR y b := by
  have e : ∀ p q r : BitVec 24, (p ^^^ r) ^^^ (q ^^^ r) = p ^^^ q := fun p q r => by
    rw [BitVec.xor_comm q r, BitVec.xor_assoc, ← BitVec.xor_assoc r r q, BitVec.xor_self, BitVec.zero_xor]
  unfold stepR
  rw [BitVec.msb_xor, BitVec.shiftLeft_xor_distrib]
  cases x.msb <;> cases y.msb <;> cases a <;> cases b <;> simp <;> first | rw [e] | ac_rfl
theorem stepR_own (x : BitVec 24) : stepR x x.msb = x <<< 1 := by
  unfold stepR
  simp
theorem stepR_lsb (x : BitVec 24) (q : Bool) : (stepR x q).getLsbD 0 = (x.msb != q) := by
  have h1 : (x <<< 1).getLsbD 0 = false := by simp
  have h2 : poly.getLsbD 0 = true := by decide
  unfold stepR
  cases h : (x.msb != q) with
  | true => simp only [if_true, BitVec.getLsbD_xor, h1, h2]; rfl
  | false => simp only [Bool.false_eq_true, if_false, h1]
theorem lsb_shl {y : BitVec 24} {r : Nat} (hr : r < 24) (h : y <<< r = 0) : y.getLsbD 0 = false := by
  have : (y <<< r).getLsbD r = false := by rw [h]; simp
  rw [BitVec.getLsbD_shiftLeft] at this
  simpa [hr] using this
theorem stepR_zero {x : BitVec 24} (h : stepR x false = 0) : x = 0 := by
  have h1 := stepR_lsb x false
  rw [h] at h1
  have hm : x.msb = false := by simpa using h1.symm
  unfold stepR at h
  rw [hm] at h
  simp only [bne_self_eq_false, Bool.false_eq_true, if_false] at h
  have h2 : (x <<< 1).toNat = 0 := by rw [h]; rfl
  rw [BitVec.toNat_shiftLeft] at h2
  have h3 : x.toNat < 2 ^ 23 := by
    have := BitVec.msb_eq_decide x
    rw [hm] at this
    have := of_decide_eq_false this.symm
    omega
  have h4 : x.toNat * 2 < 2 ^ 24 := by omega
  rw [show x.toNat <<< 1 = x.toNat * 2 by rw [Nat.shiftLeft_eq], Nat.mod_eq_of_lt h4] at h2
  apply BitVec.eq_of_toNat_eq
  show x.toNat = 0
  omega
/-- A register that is fed bits of at most 24 in a row, and begins and ends empty, was fed none. -/
theorem no_burst (g : Nat → BitVec 24) (d : Nat → Bool) (N a : Nat) (hg : ∀ j, j < N → g (j + 1) = stepR (g j) (d j)) (h0 : g 0 = 0) (hN : g N = 0) (hd : ∀ j, j < N → d j = true → a ≤ j ∧ j < a + 24) : ∀ j, j < N → d j = false := by
  have z0 : stepR 0 false = 0 := by decide
  have low : ∀ j, j ≤ N → j ≤ a → g j = 0 := by
    intro j
    induction j with
    | zero => intro _ _; exact h0
    | succ j ih =>
      intro hj ha
      have hdj : d j = false := by
        cases h : d j with
        | false => rfl
        | true => have := hd j (by omega) h; omega
      rw [hg j (by omega), ih (by omega) (by omega), hdj, z0]
  have high : ∀ i, i ≤ N → a + 24 ≤ N - i → g (N - i) = 0 := by
    intro i
    induction i with
    | zero => intro _ _; exact hN
    | succ i ih =>
      intro hi ha
      have h1 := ih (by omega) (by omega)
      have e : N - i = (N - (i + 1)) + 1 := by omega
      have hdj : d (N - (i + 1)) = false := by
        cases h : d (N - (i + 1)) with
        | false => rfl
        | true => have := hd _ (by omega) h; omega
      rw [e, hg _ (by omega), hdj] at h1
      exact stepR_zero h1
  -- the end of the window
  have he : ∃ e, e ≤ N ∧ e ≤ a + 24 ∧ (a ≤ N → a ≤ e) ∧ g e = 0 ∧ (e < N → e = a + 24) := by
    rcases Nat.lt_or_ge N (a + 24) with h | h
    · exact ⟨N, Nat.le_refl _, by omega, fun h => h, hN, fun h => by omega⟩
    · refine ⟨a + 24, h, Nat.le_refl _, fun _ => by omega, ?_, fun _ => rfl⟩
      have := high (N - (a + 24)) (by omega) (by omega)
      rwa [show N - (N - (a + 24)) = a + 24 by omega] at this
  obtain ⟨e, e1, e2, e3, e4, e5⟩ := he
  have win : ∀ r, r ≤ e → a ≤ e - r → g (e - r) <<< r = 0 := by
    intro r
    induction r with
    | zero => intro _ _; rw [Nat.sub_zero, e4]; rfl
    | succ r ih =>
      intro hr ha
      have h1 := ih (by omega) (by omega)
      have hl := lsb_shl (show r < 24 by omega) h1
      have ee : e - r = (e - (r + 1)) + 1 := by omega
      rw [ee, hg _ (by omega)] at h1 hl
      rw [stepR_lsb] at hl
      have hq : d (e - (r + 1)) = (g (e - (r + 1))).msb := by
        cases h1 : d (e - (r + 1)) <;> cases h2 : (g (e - (r + 1))).msb <;> simp_all
      rw [hq, stepR_own, ← BitVec.shiftLeft_add, Nat.add_comm 1 r] at h1
      exact h1
  have zero : ∀ j, j ≤ e → a ≤ j → g j = 0 := by
    intro j
    induction j with
    | zero => intro _ _; exact h0
    | succ j ih =>
      intro hj ha
      rcases Nat.lt_or_ge j a with c | c
      · exact low (j + 1) (by omega) (by omega)
      · have hz := ih (by omega) c
        have h1 := win (e - (j + 1)) (by omega) (by omega)
        rw [show e - (e - (j + 1)) = j + 1 by omega] at h1
        have hl := lsb_shl (by omega) h1
        rw [hg j (by omega), stepR_lsb, hz] at hl
        have hdj : d j = false := by cases h : d j <;> simp_all
        rw [hg j (by omega), hz, hdj, z0]
  intro j hj
  cases h : d j with
  | false => rfl
  | true =>
    obtain ⟨b1, b2⟩ := hd j hj h
    have h1 := zero j (by omega) b1
    have h2 := zero (j + 1) (by omega) (by omega)
    rw [hg j hj, h1, h] at h2
    exact absurd h2 (by decide)
/-- Bytes whose sums, behind what they begin with, are empty. -/
theorem sums_diff {l m : List UInt8} (hl : l.length = m.length) (h1 : sumS l = 0) (h2 : sumS m = 0) (a : Nat) (hd : ∀ j, j < 8 * l.length → bitAt l j ≠ bitAt m j → a ≤ j ∧ j < a + 24) : ∀ j, j < 8 * l.length → bitAt l j = bitAt m j := by
  have := no_burst (fun j => sumR l j ^^^ sumR m j) (fun j => bitAt l j != bitAt m j) (8 * l.length) a (fun j hj => by
    show stepR (sumR l j) (bitAt l j) ^^^ stepR (sumR m j) (bitAt m j) = _
    rw [stepR_xor]) (by simp [sumR]) (by
    show sumR l (8 * l.length) ^^^ sumR m (8 * l.length) = 0
    rw [sums_eq, h1]
    rw [hl, sums_eq, h2]
    rfl) (fun j hj h => hd j hj (by simpa using h))
  intro j hj
  have := this j hj
  simpa using this
theorem tb (n m k : Nat) (h : n / m % 2 = k % 2) : decide (n / m % 2 = 1) = decide (k % 2 = 1) := by rw [h]
theorem bit_shl (v : BitVec 24) (j : Nat) (hj : j < 24) : (v <<< j).msb = decide (v.toNat / 2 ^ (23 - j) % 2 = 1) := by
  rw [BitVec.msb_eq_getLsbD_last]
  simp only [BitVec.getLsbD_shiftLeft]
  have a1 : 24 - 1 - j = 23 - j := by omega
  have a2 : ¬ 24 - 1 < j := by omega
  have a3 : 24 - 1 < 24 := by omega
  simp only [a1, a2, a3, decide_true, decide_false, Bool.not_false, Bool.true_and]
  rw [BitVec.getLsbD, Nat.testBit_eq_decide_div_mod_eq]
theorem u8_n (n : Nat) : (UInt8.ofNat n).toNat = n % 256 := by simp
theorem bit_three (n : Nat) (hn : n < 2 ^ 24) : ∀ j, j < 24 → bitAt (three n) j = decide (n / 2 ^ (23 - j) % 2 = 1)
  | 0, _ => by
    show decide ((UInt8.ofNat (n / 65536)).toNat / 2 ^ 7 % 2 = 1) = decide (n / 2 ^ 23 % 2 = 1)
    rw [u8_n]
    exact tb _ _ _ (by omega)
  | 1, _ => by
    show decide ((UInt8.ofNat (n / 65536)).toNat / 2 ^ 6 % 2 = 1) = decide (n / 2 ^ 22 % 2 = 1)
    rw [u8_n]
    exact tb _ _ _ (by omega)
  | 2, _ => by
    show decide ((UInt8.ofNat (n / 65536)).toNat / 2 ^ 5 % 2 = 1) = decide (n / 2 ^ 21 % 2 = 1)
    rw [u8_n]
    exact tb _ _ _ (by omega)
  | 3, _ => by
    show decide ((UInt8.ofNat (n / 65536)).toNat / 2 ^ 4 % 2 = 1) = decide (n / 2 ^ 20 % 2 = 1)
    rw [u8_n]
    exact tb _ _ _ (by omega)
  | 4, _ => by
    show decide ((UInt8.ofNat (n / 65536)).toNat / 2 ^ 3 % 2 = 1) = decide (n / 2 ^ 19 % 2 = 1)
    rw [u8_n]
    exact tb _ _ _ (by omega)
  | 5, _ => by
    show decide ((UInt8.ofNat (n / 65536)).toNat / 2 ^ 2 % 2 = 1) = decide (n / 2 ^ 18 % 2 = 1)
    rw [u8_n]
    exact tb _ _ _ (by omega)
  | 6, _ => by
    show decide ((UInt8.ofNat (n / 65536)).toNat / 2 ^ 1 % 2 = 1) = decide (n / 2 ^ 17 % 2 = 1)
    rw [u8_n]
    exact tb _ _ _ (by omega)
  | 7, _ => by
    show decide ((UInt8.ofNat (n / 65536)).toNat / 2 ^ 0 % 2 = 1) = decide (n / 2 ^ 16 % 2 = 1)
    rw [u8_n]
    exact tb _ _ _ (by omega)
  | 8, _ => by
    show decide ((UInt8.ofNat (n / 256)).toNat / 2 ^ 7 % 2 = 1) = decide (n / 2 ^ 15 % 2 = 1)
    rw [u8_n]
    exact tb _ _ _ (by omega)
  | 9, _ => by
    show decide ((UInt8.ofNat (n / 256)).toNat / 2 ^ 6 % 2 = 1) = decide (n / 2 ^ 14 % 2 = 1)
    rw [u8_n]
    exact tb _ _ _ (by omega)
  | 10, _ => by
    show decide ((UInt8.ofNat (n / 256)).toNat / 2 ^ 5 % 2 = 1) = decide (n / 2 ^ 13 % 2 = 1)
    rw [u8_n]
    exact tb _ _ _ (by omega)
  | 11, _ => by
    show decide ((UInt8.ofNat (n / 256)).toNat / 2 ^ 4 % 2 = 1) = decide (n / 2 ^ 12 % 2 = 1)
    rw [u8_n]
    exact tb _ _ _ (by omega)
  | 12, _ => by
    show decide ((UInt8.ofNat (n / 256)).toNat / 2 ^ 3 % 2 = 1) = decide (n / 2 ^ 11 % 2 = 1)
    rw [u8_n]
    exact tb _ _ _ (by omega)
  | 13, _ => by
    show decide ((UInt8.ofNat (n / 256)).toNat / 2 ^ 2 % 2 = 1) = decide (n / 2 ^ 10 % 2 = 1)
    rw [u8_n]
    exact tb _ _ _ (by omega)
  | 14, _ => by
    show decide ((UInt8.ofNat (n / 256)).toNat / 2 ^ 1 % 2 = 1) = decide (n / 2 ^ 9 % 2 = 1)
    rw [u8_n]
    exact tb _ _ _ (by omega)
  | 15, _ => by
    show decide ((UInt8.ofNat (n / 256)).toNat / 2 ^ 0 % 2 = 1) = decide (n / 2 ^ 8 % 2 = 1)
    rw [u8_n]
    exact tb _ _ _ (by omega)
  | 16, _ => by
    show decide ((UInt8.ofNat n).toNat / 2 ^ 7 % 2 = 1) = decide (n / 2 ^ 7 % 2 = 1)
    rw [u8_n]
    exact tb _ _ _ (by omega)
  | 17, _ => by
    show decide ((UInt8.ofNat n).toNat / 2 ^ 6 % 2 = 1) = decide (n / 2 ^ 6 % 2 = 1)
    rw [u8_n]
    exact tb _ _ _ (by omega)
  | 18, _ => by
    show decide ((UInt8.ofNat n).toNat / 2 ^ 5 % 2 = 1) = decide (n / 2 ^ 5 % 2 = 1)
    rw [u8_n]
    exact tb _ _ _ (by omega)
  | 19, _ => by
    show decide ((UInt8.ofNat n).toNat / 2 ^ 4 % 2 = 1) = decide (n / 2 ^ 4 % 2 = 1)
    rw [u8_n]
    exact tb _ _ _ (by omega)
  | 20, _ => by
    show decide ((UInt8.ofNat n).toNat / 2 ^ 3 % 2 = 1) = decide (n / 2 ^ 3 % 2 = 1)
    rw [u8_n]
    exact tb _ _ _ (by omega)
  | 21, _ => by
    show decide ((UInt8.ofNat n).toNat / 2 ^ 2 % 2 = 1) = decide (n / 2 ^ 2 % 2 = 1)
    rw [u8_n]
    exact tb _ _ _ (by omega)
  | 22, _ => by
    show decide ((UInt8.ofNat n).toNat / 2 ^ 1 % 2 = 1) = decide (n / 2 ^ 1 % 2 = 1)
    rw [u8_n]
    exact tb _ _ _ (by omega)
  | 23, _ => by
    show decide ((UInt8.ofNat n).toNat / 2 ^ 0 % 2 = 1) = decide (n / 2 ^ 0 % 2 = 1)
    rw [u8_n]
    exact tb _ _ _ (by omega)
  | j + 24, h => absurd h (by omega)
theorem bit_app_l (l m : List UInt8) {j : Nat} (hj : j < 8 * l.length) : bitAt (l ++ m) j = bitAt l j := by
  unfold bitAt
  have : j / 8 < l.length := by omega
  simp only [List.getD_eq_getElem?_getD, List.getElem?_append_left this]
theorem bit_drop (l : List UInt8) (n j : Nat) : bitAt (l.drop n) j = bitAt l (8 * n + j) := by
  unfold bitAt
  rw [show (8 * n + j) / 8 = n + j / 8 by omega, show (8 * n + j) % 8 = j % 8 by omega]
  simp only [List.getD_eq_getElem?_getD, List.getElem?_drop]
theorem bit_app_r (l m : List UInt8) (j : Nat) : bitAt (l ++ m) (8 * l.length + j) = bitAt m j := by
  rw [← bit_drop, List.drop_left]
theorem sumR_ext : ∀ {l m : List UInt8} (n : Nat), (∀ j, j < n → bitAt l j = bitAt m j) → sumR l n = sumR m n
  | _, _, 0, _ => rfl
  | l, m, n + 1, h => by
    show stepR (sumR l n) (bitAt l n) = stepR (sumR m n) (bitAt m n)
    rw [sumR_ext n fun j hj => h j (by omega), h n (by omega)]
/-- A sum behind its bytes leaves nothing. -/
theorem sum_own (l : List UInt8) : sumS (l ++ three (sumS l).toNat) = 0 := by
  have h0 : sumR (l ++ three (sumS l).toNat) (8 * l.length) = sumS l := by
    rw [sumR_ext (8 * l.length) fun j hj => bit_app_l l _ hj, sums_eq]
  have hv := (sumS l).isLt
  generalize sumS l = v at h0 hv
  have key : ∀ j, j ≤ 24 → sumR (l ++ three v.toNat) (8 * l.length + j) = v <<< j := by
    intro j
    induction j with
    | zero => intro _; rw [Nat.add_zero, h0]; simp
    | succ j ih =>
      intro hj
      show stepR (sumR (l ++ three v.toNat) (8 * l.length + j)) (bitAt (l ++ three v.toNat) (8 * l.length + j)) = _
      rw [ih (by omega), bit_app_r, bit_three _ hv j (by omega), ← bit_shl v j (by omega), stepR_own, ← BitVec.shiftLeft_add]
  have := key 24 (Nat.le_refl _)
  rw [← sums_eq, List.length_append, three_len, Nat.mul_add, this]
  exact BitVec.shiftLeft_eq_zero (by omega)
theorem byte_ext {a b : UInt8} (h : ∀ d, d < 8 → decide (a.toNat / 2 ^ (7 - d) % 2 = 1) = decide (b.toNat / 2 ^ (7 - d) % 2 = 1)) : a = b := by
  have hb : ∀ d, d < 8 → a.toNat / 2 ^ (7 - d) % 2 = b.toNat / 2 ^ (7 - d) % 2 := fun d hd => by
    have := decide_eq_decide.1 (h d hd)
    omega
  have h0 := hb 0 (by omega); have h1 := hb 1 (by omega); have h2 := hb 2 (by omega); have h3 := hb 3 (by omega)
  have h4 := hb 4 (by omega); have h5 := hb 5 (by omega); have h6 := hb 6 (by omega); have h7 := hb 7 (by omega)
  have ha := a.toNat_lt; have hbl := b.toNat_lt
  simp only [Nat.sub_zero, Nat.reducePow, Nat.reduceSub] at h0 h1 h2 h3 h4 h5 h6 h7
  apply UInt8.toNat_inj.1
  omega
theorem list_bits {l m : List UInt8} (hl : l.length = m.length) (h : ∀ j, j < 8 * l.length → bitAt l j = bitAt m j) : l = m := by
  refine List.ext_getElem hl fun i h1 h2 => byte_ext fun d hd => ?_
  have := h (8 * i + d) (by omega)
  unfold bitAt at this
  rw [show (8 * i + d) / 8 = i by omega, show (8 * i + d) % 8 = d by omega] at this
  simpa only [List.getD_eq_getElem?_getD, List.getElem?_eq_getElem h1, List.getElem?_eq_getElem h2, Option.getD_some] using this
theorem three_take {t : List UInt8} (ht : t.length = 3) : three (take3 t) = t := by
  match t, ht with
  | [a, b, c], _ =>
    have ha := a.toNat_lt; have hb := b.toNat_lt; have hc := c.toNat_lt
    have e1 : UInt8.ofNat (num3 a b c / 65536) = a := by apply UInt8.toNat_inj.1; rw [u8_n]; unfold num3; omega
    have e2 : UInt8.ofNat (num3 a b c / 256) = b := by apply UInt8.toNat_inj.1; rw [u8_n]; unfold num3; omega
    have e3 : UInt8.ofNat (num3 a b c) = c := by apply UInt8.toNat_inj.1; rw [u8_n]; unfold num3; omega
    show three (num3 a b c) = [a, b, c]
    rw [three, e1, e2, e3]
theorem take3_take (l : List UInt8) (h : 3 ≤ l.length) : take3 (l.take 3) = take3 l := by
  match l, h with
  | a :: b :: c :: r, _ => rfl
theorem bit_take (l : List UInt8) (n j : Nat) (hj : j < 8 * n) (hn : n ≤ l.length) : bitAt (l.take n) j = bitAt l j := by
  have := bit_app_l (l.take n) (l.drop n) (j := j) (by rw [List.length_take]; omega)
  rw [List.take_append_drop] at this
  exact this.symm
/-- A sealed record of which bits are turned, all within 24 in a row in its head or behind it, is none. -/
theorem burst {b s : List UInt8} (hb : b.length ≤ 16384) (hl : s.length = (recS b).length) (a : Nat) (hd : ∀ j, j < 8 * s.length → bitAt s j ≠ bitAt (recS b) j → a ≤ j ∧ j < a + 24)
    (hz : (∀ j, j < 8 * s.length → bitAt s j ≠ bitAt (recS b) j → j < 48) ∨ (∀ j, j < 8 * s.length → bitAt s j ≠ bitAt (recS b) j → 48 ≤ j)) (hf : (firstS s).2.2 = 0) : ∀ j, j < 8 * s.length → bitAt s j = bitAt (recS b) j := by
  rw [recS_len] at hl
  have hR := recS_len b
  unfold firstS at hf
  split at hf
  · simp at hf
  split at hf
  · simp at hf
  rename_i h6 hs1
  split at hf
  · simp at hf
  rename_i hn
  split at hf
  · simp at hf
  rename_i hs2
  have hs1 : take3 (s.drop 3) = (sumS (s.take 3)).toNat := Decidable.not_not.1 hs1
  have hs2 := Decidable.not_not.1 hs2
  have eR : recS b = (three b.length ++ three (sumS (three b.length)).toNat) ++ (b ++ three (sumS b).toNat) := by simp [recS]
  have hh : (three b.length ++ three (sumS (three b.length)).toNat).length = 6 := rfl
  -- the head
  have z1 : sumS (s.take 6) = 0 := by
    have e : s.take 6 = s.take 3 ++ three (sumS (s.take 3)).toNat := by
      rw [← hs1, ← take3_take _ (by rw [List.length_drop]; omega), three_take (by rw [List.length_take, List.length_drop]; omega), show s.take 6 = s.take (3 + 3) from rfl, List.take_add]
    rw [e]
    exact sum_own _
  have z2 : sumS ((recS b).take 6) = 0 := by
    rw [eR, List.take_left' hh]
    exact sum_own _
  have l6 : (s.take 6).length = ((recS b).take 6).length := by rw [List.length_take, List.length_take, hR]; omega
  have l6' : (s.take 6).length = 6 := by rw [List.length_take]; omega
  have b1 : ∀ j, j < 48 → bitAt (s.take 6) j = bitAt s j := fun j hj => bit_take _ _ _ (by omega) (by omega)
  have b2 : ∀ j, j < 48 → bitAt ((recS b).take 6) j = bitAt (recS b) j := fun j hj => bit_take _ _ _ (by omega) (by omega)
  have hhead := sums_diff l6 z1 z2 a (fun j hj hne => by
    rw [l6'] at hj
    rw [b1 j (by omega), b2 j (by omega)] at hne
    exact hd j (by omega) hne)
  rw [l6'] at hhead
  have head : ∀ j, j < 48 → bitAt s j = bitAt (recS b) j := fun j hj => by
    rw [← b1 j hj, ← b2 j hj]
    exact hhead j (by omega)
  rcases hz with hz | hz
  · intro j hj
    rcases Nat.lt_or_ge j 48 with h | h
    · exact head j h
    · exact Decidable.byContradiction fun hne => by have := hz j hj hne; omega
  -- behind the head
  have hs6 : s.take 6 = (recS b).take 6 := list_bits l6 (fun j hj => hhead j (by rw [l6'] at hj; omega))
  have hlen : take3 s = b.length := by
    have h1 : take3 s = take3 (s.take 6) := by
      rw [← take3_take s (by omega), ← take3_take (s.take 6) (by omega), List.take_take]
      rfl
    rw [h1, hs6, eR, List.take_left' hh]
    exact num3_three _ (by omega)
  rw [hlen] at hs2
  have l7 : (s.drop 6).length = ((recS b).drop 6).length := by rw [List.length_drop, List.length_drop, hR]; omega
  have y2 : sumS ((recS b).drop 6) = 0 := by
    rw [eR, List.drop_left' hh]
    exact sum_own _
  have y1 : sumS (s.drop 6) = 0 := by
    have e : s.drop 6 = (s.drop 6).take b.length ++ three (sumS ((s.drop 6).take b.length)).toNat := by
      rw [← hs2, three_take (by rw [List.length_drop]; omega)]
      conv => lhs; rw [← List.take_append_drop b.length (s.drop 6)]
      rw [List.drop_drop]
    rw [e]
    exact sum_own _
  have htail := sums_diff l7 y1 y2 (a - 48) (fun j hj hne => by
    rw [List.length_drop] at hj
    rw [bit_drop, bit_drop] at hne
    have h1 := hd (8 * 6 + j) (by omega) hne
    omega)
  intro j hj
  rcases Nat.lt_or_ge j 48 with h | h
  · exact head j h
  · have h1 := htail (j - 48) (by rw [List.length_drop]; omega)
    rw [bit_drop, bit_drop, show 8 * 6 + (j - 48) = j by omega] at h1
    exact h1
end Go.Proofs.Ytfiaekgmblbmiaa
