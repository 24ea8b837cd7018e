/- The two sums are one. -/
import Derived.Test.YtfiaekgmblbmiaaSealFn
set_option linter.unusedVariables false
set_option linter.unusedSimpArgs false
namespace Go.Proofs.Ytfiaekgmblbmiaa
open Go.Am

theorem step_lin (r d : BitVec 24) : stepS (r ^^^ d) = stepR r d.msb ^^^ (d <<< 1) := by
  unfold stepS stepR
  rw [BitVec.msb_xor, BitVec.shiftLeft_xor_distrib]
  cases r.msb <;> cases d.msb <;> simp <;> ac_rfl

theorem steps_lin (q : Nat → Bool) (r d : BitVec 24) : ∀ (k : Nat), (∀ j, j < k → (d <<< j).msb = q j) →
    ∀ (R : Nat → BitVec 24), R 0 = r → (∀ j, j < k → R (j + 1) = stepR (R j) (q j)) → Nat.repeat stepS k (r ^^^ d) = R k ^^^ (d <<< k)
  | 0, _, R, h0, _ => by simp [Nat.repeat, h0]
  | k + 1, hd, R, h0, hR => by
    have ih := steps_lin q r d k (fun j hj => hd j (by omega)) R h0 (fun j hj => hR j (by omega))
    show stepS (Nat.repeat stepS k (r ^^^ d)) = _
    rw [ih, step_lin, hd k (by omega), hR k (by omega), ← BitVec.shiftLeft_add]

theorem bit_msb (b : UInt8) (j : Nat) (hj : j < 8) : ((BitVec.ofNat 24 b.toNat <<< 16) <<< j).msb = decide (b.toNat / 2 ^ (7 - j) % 2 = 1) := by
  have hb : b.toNat < 256 := b.toNat_lt
  have h1 : ((BitVec.ofNat 24 b.toNat <<< 16) <<< j).msb = b.toNat.testBit (7 - j) := by
    rw [BitVec.msb_eq_getLsbD_last, ← BitVec.shiftLeft_add]
    simp only [BitVec.getLsbD_shiftLeft, BitVec.getLsbD_ofNat]
    have e1 : 24 - 1 - (16 + j) = 7 - j := by omega
    rw [e1]
    have a1 : 7 - j < 24 := by omega
    have a2 : ¬ 24 - 1 < 16 + j := by omega
    have a3 : 24 - 1 < 24 := by omega
    simp only [a1, a2, a3, decide_true, decide_false, Bool.not_false, Bool.true_and]
  rw [h1, Nat.testBit_eq_decide_div_mod_eq]

theorem byte_sum (l : List UInt8) (i : Nat) (hi : i < l.length) : byteS (sumR l (8 * i)) l[i] = sumR l (8 * (i + 1)) := by
  have h := steps_lin (fun j => bitAt l (8 * i + j)) (sumR l (8 * i)) (BitVec.ofNat 24 l[i].toNat <<< 16) 8 (fun j hj => by
    rw [bit_msb _ _ hj]
    unfold bitAt
    have e1 : (8 * i + j) / 8 = i := by omega
    have e2 : (8 * i + j) % 8 = j := by omega
    rw [e1, e2, List.getD_eq_getElem?_getD, List.getElem?_eq_getElem hi]
    rfl) (fun j => sumR l (8 * i + j)) rfl (fun j hj => rfl)
  unfold byteS
  rw [h]
  have e : (BitVec.ofNat 24 l[i].toNat <<< 16) <<< 8 = 0#24 := by
    rw [← BitVec.shiftLeft_add]
    exact BitVec.shiftLeft_eq_zero (by omega)
  rw [e, BitVec.xor_zero]
  show sumR l (8 * i + 8) = _
  rw [Nat.mul_add]

theorem sums_eq (l : List UInt8) : sumR l (8 * l.length) = sumS l := by
  have key : ∀ i, i ≤ l.length → sumR l (8 * i) = (l.take i).foldl byteS 0xB704CE := by
    intro i
    induction i with
    | zero => intro _; rfl
    | succ i ih =>
      intro hi
      have ht : l.take (i + 1) = l.take i ++ [l[i]] := by rw [List.take_add_one]; simp [show i < l.length by omega]
      rw [← byte_sum l i (by omega), ih (by omega), ht, List.foldl_append]
      rfl
  rw [key l.length (Nat.le_refl _), List.take_length]
  rfl

end Go.Proofs.Ytfiaekgmblbmiaa
