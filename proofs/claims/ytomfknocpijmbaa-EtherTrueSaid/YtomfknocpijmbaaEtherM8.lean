/- What the functions of records come to; the law. -/
import Derived.Test.YtomfknocpijmbaaEtherM7
import Derived.Test.YtomfknocpijmbaaEtherCode
import Derived.Test.YtomfknocpijmbaaAmRow
import Derived.Test.YtomfknocpijmbaaEtherM5
import Derived.Test.YtomfknocpijmbaaEtherM4
import Derived.Test.YtomfknocpijmbaaAmArg
import Derived.Test.YtomfknocpijmbaaAmExt
section
set_option linter.unusedVariables false
set_option linter.unusedSimpArgs false
namespace Go.Proofs.Ytomfknocpijmbaa
open Go.Am
variable {P : Program} (H : Has P)
include H
omit H in
theorem get3s {l : List UInt8} (hl : 3 ≤ l.length) : ∃ a b c, take3 l = num3 a b c ∧ (u8s l)[0]? = some [.sc (.int .u8 (a.toNat : Int))] ∧ (u8s l)[1]? = some [.sc (.int .u8 (b.toNat : Int))] ∧ (u8s l)[2]? = some [.sc (.int .u8 (c.toNat : Int))] := by
 match l, hl with
 | a :: b :: c :: r, _ => exact ⟨a, b, c, rfl, rfl, rfl, rfl⟩
theorem three_ok (n : Nat) (hn : n < 2 ^ 24) (h : Heap) : AWF P ann 0 35 [u32 n] h fun v h' => v = .bs true 1 (u8s (three n)) (some 3) ∧ h' = h := by
 refine AWF.fnc H.f0_35 rfl ?_
 simp (disch := omega) only [go_sem, ↓reduceIte, Nat.reduceEqDiff, Nat.reduceLeDiff, H.cv_3_5, H.cv_3_66, H.cv_3_68, H.cv_5_3, H.cv_5_66, H.cv_66_3, H.cv_66_5, H.cv_68_3, u32, wrap_u32m, wrap_u8m]
 simp [fillL, setRange, upd_at, AV.cells, AV.isTu, chunks, resA, res1, u8s, three, ev_t, dis_sc]
theorem number_ok {v : AV} {l : List UInt8} (hv : SL 1 v (u8s l)) (hl : 3 ≤ l.length) (h : Heap) : AWF P ann 0 42 [v] h fun w h' => w = .sc (.int .i64 (take3 l : Nat)) ∧ h' = h := by
 refine AWF.fnc H.f0_42 rfl ?_
 obtain ⟨a, b, c, ht, g0, g1, g2⟩ := get3s hl
 have ha := a.toNat_lt; have hb := b.toNat_lt; have hc := c.toNat_lt
 simp (disch := omega) only [go_sem, ↓reduceIte, Nat.reduceEqDiff, Nat.reduceLeDiff, H.cv_3_5, H.cv_3_66, H.cv_3_68, H.cv_5_3, H.cv_5_66, H.cv_66_3, H.cv_66_5, H.cv_68_3, hv.dis.ia, g0, g1, g2, ht, num3]
 rfl
theorem sumRef_ok {v : AV} {l : List UInt8} (hv : SL 1 v (u8s l)) (hl : l.length < 2 ^ 59) (h : Heap) : AWF P ann 0 36 [v] h fun v h' => v = u32 (sumR l (8 * l.length)).toNat ∧ h' = h := by
 refine AWF.fnc H.f0_36 rfl ?_
 have hlen := @u8s_len l
 simp (disch := omega) only [go_sem, ↓reduceIte, Nat.reduceEqDiff, Nat.reduceLeDiff, H.cv_3_5, H.cv_3_66, H.cv_3_68, H.cv_5_3, H.cv_5_66, H.cv_66_3, H.cv_66_5, H.cv_68_3, u32]
 have hx : ∀ b : BitVec 24, b.toNat < 16777216 := fun b => b.isLt
 refine AW_loopN (fun n t h' => h' = h ∧ ∃ i, n = 8 * l.length - i ∧ i ≤ 8 * l.length ∧ t 0 = v ∧ t 4 = .sc (.int .i64 (i : Nat)) ∧ t 3 = .sc (.int .u32 (sumR l i).toNat))
  (n := 8 * l.length) ⟨rfl, 0, rfl, Nat.zero_le _, rfl, rfl, rfl⟩ ?_
 rintro n t h' ⟨rfl, i, rfl, hi, t0, t4, t3⟩
 rcases Nat.lt_or_ge i (8 * l.length) with hlt | hge
 ·have hlt8 : i / 8 < l.length := by omega
  have hget := u8s_get hlt8
  have hb : l[i / 8].toNat < 256 := l[i / 8].toNat_lt
  have hX := hx (sumR l i)
  have hY := hx (sumR l i <<< 1)
  have hq : i < 8 * l.length := by omega
  have hs : ((7 : Nat) : Int) - ((i % 8 : Nat) : Int) = ((7 - i % 8 : Nat) : Int) := by omega
  have hbit : l[i / 8].toNat / 2 ^ (7 - i % 8) % 2 = if bitAt l i then 1 else 0 := by
   unfold bitAt
   rw [List.getD_eq_getElem?_getD, List.getElem?_eq_getElem hlt8]
   simp only [Option.getD_some]
   by_cases h1 : l[i / 8].toNat / 2 ^ (7 - i % 8) % 2 = 1 <;> simp [h1] <;> omega
  have hsmall : l[i / 8].toNat / 2 ^ (7 - i % 8) ≤ l[i / 8].toNat := Nat.div_le_self ..
  simp (disch := omega) only [go_sem, ↓reduceIte, Nat.reduceEqDiff, Nat.reduceLeDiff, H.cv_3_5, H.cv_3_66, H.cv_3_68, H.cv_5_3, H.cv_5_66, H.cv_66_3, H.cv_66_5, H.cv_68_3, hv.dis.len, hv.dis.ia, nat_add, nat_mul, wrap_u32u, wrap_u64u, t0, t4, t3, hq, hget, hs, sb_shr32]
  rw [hbit, msb_div, shl_rem, sb_xor32 (by omega) (by omega), xor_poly]
  cases hp : (sumR l i).msb <;> cases hb2 : bitAt l i
  ·show condK (.sc (.bool false)) _ _
   rw [condK_f]
   refine ⟨8 * l.length - (i + 1), by omega, i + 1, rfl, by omega, rfl, ?_⟩
   show _ = Value.int .u32 ((stepR (sumR l i) (bitAt l i)).toNat : Nat)
   unfold stepR
   rw [hp, hb2]
   rfl
  ·show condK (.sc (.bool true)) _ _
   rw [condK_t]
   refine ⟨_, rfl, rfl, 8 * l.length - (i + 1), by omega, i + 1, rfl, by omega, rfl, ?_⟩
   show _ = Value.int .u32 ((stepR (sumR l i) (bitAt l i)).toNat : Nat)
   unfold stepR
   rw [hp, hb2]
   rfl
  ·show condK (.sc (.bool true)) _ _
   rw [condK_t]
   refine ⟨_, rfl, rfl, 8 * l.length - (i + 1), by omega, i + 1, rfl, by omega, rfl, ?_⟩
   show _ = Value.int .u32 ((stepR (sumR l i) (bitAt l i)).toNat : Nat)
   unfold stepR
   rw [hp, hb2]
   rfl
  ·show condK (.sc (.bool false)) _ _
   rw [condK_f]
   refine ⟨8 * l.length - (i + 1), by omega, i + 1, rfl, by omega, rfl, ?_⟩
   show _ = Value.int .u32 ((stepR (sumR l i) (bitAt l i)).toNat : Nat)
   unfold stepR
   rw [hp, hb2]
   rfl
 ·have hi' : i = 8 * l.length := by omega
  subst hi'
  have hq : ¬ 8 * l.length < 8 * l.length := by omega
  simp (disch := omega) only [go_sem, ↓reduceIte, Nat.reduceEqDiff, Nat.reduceLeDiff, H.cv_3_5, H.cv_3_66, H.cv_3_68, H.cv_5_3, H.cv_5_66, H.cv_66_3, H.cv_66_5, H.cv_68_3, hv.dis.len, nat_add, nat_mul, t0, t4, t3, hq]
theorem recordRef_ok {v : AV} {l : List UInt8} (hv : SL 1 v (u8s l)) (hl : l.length ≤ 16384) (h : Heap) : AWF P ann 0 16 [v] h fun r h' => r = recV l ∧ h' = h := by
 refine AWF.fnc H.f0_16 rfl ?_
 have hlen := @u8s_len l
 have hs := sum_lt (three l.length)
 have hs2 := sum_lt l
 (refine W_seq_gen fun N hN => ?_); simp (disch := omega) only [go_sem, ↓reduceIte, Nat.reduceEqDiff, Nat.reduceLeDiff, H.cv_3_5, H.cv_3_66, H.cv_3_68, H.cv_5_3, H.cv_5_66, H.cv_66_3, H.cv_66_5, H.cv_68_3]
 refine hN _ ?_; clear hN N
 (refine W_seq_gen fun N hN => ?_); simp (disch := omega) only [go_sem, ↓reduceIte, Nat.reduceEqDiff, Nat.reduceLeDiff, H.cv_3_5, H.cv_3_66, H.cv_3_68, H.cv_5_3, H.cv_5_66, H.cv_66_3, H.cv_66_5, H.cv_68_3, hv.dis.len, hlen, wrap_u32u]
 refine (three_ok H l.length (by omega) _).mono ?_
 rintro _ _ ⟨rfl, hh⟩; subst hh
 rw [contK_some]; simp (disch := omega) only [go_sem, ↓reduceIte, Nat.reduceEqDiff, Nat.reduceLeDiff, H.cv_3_5, H.cv_3_66, H.cv_3_68, H.cv_5_3, H.cv_5_66, H.cv_66_3, H.cv_66_5, H.cv_68_3]
 refine hN _ ?_; clear hN N
 have h0 : SG 1 (.bs true 1 [] (some 0)) [] := SG.bs
 have h1 := h0.cat (u8s (three l.length))
 have h2 := h1.cat (u8s (three (sumS (three l.length)).toNat))
 have h3 := h2.cat (u8s l)
 simp only [List.nil_append, u8s_app] at h1 h2 h3
 (refine W_seq_gen fun N hN => ?_); simp (disch := omega) only [go_sem, ↓reduceIte, Nat.reduceEqDiff, Nat.reduceLeDiff, H.cv_3_5, H.cv_3_66, H.cv_3_68, H.cv_5_3, H.cv_5_66, H.cv_66_3, H.cv_66_5, H.cv_68_3, h0.app (ys := u8s (three l.length)) (bytes := 1) (by simp [u8s_len, three_len])]
 refine (sumRef_ok H SL.bs (by simp [three_len]) _).mono ?_
 rintro _ _ ⟨rfl, hh⟩; subst hh
 rw [sums_eq]
 rw [contK_some]; simp (disch := omega) only [go_sem, ↓reduceIte, Nat.reduceEqDiff, Nat.reduceLeDiff, H.cv_3_5, H.cv_3_66, H.cv_3_68, H.cv_5_3, H.cv_5_66, H.cv_66_3, H.cv_66_5, H.cv_68_3, u32]
 refine (three_ok H _ hs _).mono ?_
 rintro _ _ ⟨rfl, hh⟩; subst hh
 rw [contK_some]; simp (disch := omega) only [go_sem, ↓reduceIte, Nat.reduceEqDiff, Nat.reduceLeDiff, H.cv_3_5, H.cv_3_66, H.cv_3_68, H.cv_5_3, H.cv_5_66, H.cv_66_3, H.cv_66_5, H.cv_68_3, h1.app (ys := u8s (three (sumS (three l.length)).toNat)) (bytes := 1) (by simp [u8s_len, three_len])]
 refine hN _ ?_; clear hN N
 (refine W_seq_gen fun N hN => ?_); simp (disch := omega) only [go_sem, ↓reduceIte, Nat.reduceEqDiff, Nat.reduceLeDiff, H.cv_3_5, H.cv_3_66, H.cv_3_68, H.cv_5_3, H.cv_5_66, H.cv_66_3, H.cv_66_5, H.cv_68_3, hv.dis.elems, h2.app (ys := u8s l) (bytes := 1) (by simp [u8s_len, three_len]; omega)]
 refine (sumRef_ok H hv.dis (by omega) _).mono ?_
 rintro _ _ ⟨rfl, hh⟩; subst hh
 rw [sums_eq]
 rw [contK_some]; simp (disch := omega) only [go_sem, ↓reduceIte, Nat.reduceEqDiff, Nat.reduceLeDiff, H.cv_3_5, H.cv_3_66, H.cv_3_68, H.cv_5_3, H.cv_5_66, H.cv_66_3, H.cv_66_5, H.cv_68_3, u32]
 refine (three_ok H _ hs2 _).mono ?_
 rintro _ _ ⟨rfl, hh⟩; subst hh
 rw [contK_some]; simp (disch := omega) only [go_sem, ↓reduceIte, Nat.reduceEqDiff, Nat.reduceLeDiff, H.cv_3_5, H.cv_3_66, H.cv_3_68, H.cv_5_3, H.cv_5_66, H.cv_66_3, H.cv_66_5, H.cv_68_3, h3.app (ys := u8s (three (sumS l).toNat)) (bytes := 1) (by simp [u8s_len, three_len]; omega)]
 refine hN _ ?_; clear hN N
 simp (disch := omega) only [go_sem, ↓reduceIte, Nat.reduceEqDiff, Nat.reduceLeDiff, H.cv_3_5, H.cv_3_66, H.cv_3_68, H.cv_5_3, H.cv_5_66, H.cv_66_3, H.cv_66_5, H.cv_68_3]
 rfl
theorem firstRef_ok {v : AV} {l : List UInt8} (hv : SL 1 v (u8s l)) (hl : l.length < 2 ^ 40) (h : Heap) :
  AWF P ann 0 18 [v] h fun r h' => (∃ x, r = .tu [x, .sc (.int .i64 ((firstS l).2.1 : Nat)), .sc (.int .i64 ((firstS l).2.2 : Nat))] ∧ SF 1 x (u8s (firstS l).1)) ∧ h' = h := by
 refine AWF.fnc H.f0_18 rfl ?_
 have hlen := @u8s_len l
 (refine W_seq_gen fun N hN => ?_); simp (disch := omega) only [go_sem, ↓reduceIte, Nat.reduceEqDiff, Nat.reduceLeDiff, H.cv_3_5, H.cv_3_66, H.cv_3_68, H.cv_5_3, H.cv_5_66, H.cv_66_3, H.cv_66_5, H.cv_68_3]
 refine hN _ ?_; clear hN N
 rcases Decidable.em (l.length < 6) with h6 | h6
 ·have e : firstS l = ([], 0, 5) := by unfold firstS; rw [if_pos h6]
  (refine W_seq_gen fun N hN => ?_); simp (disch := omega) only [go_sem, ↓reduceIte, Nat.reduceEqDiff, Nat.reduceLeDiff, H.cv_3_5, H.cv_3_66, H.cv_3_68, H.cv_5_3, H.cv_5_66, H.cv_66_3, H.cv_66_5, H.cv_68_3, hv.dis.len, hlen, h6]
  rw [e]
  exact ⟨_, rfl, SF.nil⟩
 (refine W_seq_gen fun N hN => ?_); simp (disch := omega) only [go_sem, ↓reduceIte, Nat.reduceEqDiff, Nat.reduceLeDiff, H.cv_3_5, H.cv_3_66, H.cv_3_68, H.cv_5_3, H.cv_5_66, H.cv_66_3, H.cv_66_5, H.cv_68_3, hv.dis.len, hlen, h6]
 refine hN _ ?_; clear hN N
 have hd3 : SF 1 (cutV 1 3 l.length v.dis) (u8s (l.drop 3)) := by have := hv.dis.drop 3; rwa [hlen, u8s_drop] at this
 have ht3 : SF 1 (cutV 1 0 3 v.dis) (u8s (l.take 3)) := by have := hv.dis.take 3; rwa [u8s_take] at this
 (refine W_seq_gen fun N hN => ?_); simp (disch := omega) only [go_sem, ↓reduceIte, Nat.reduceEqDiff, Nat.reduceLeDiff, H.cv_3_5, H.cv_3_66, H.cv_3_68, H.cv_5_3, H.cv_5_66, H.cv_66_3, H.cv_66_5, H.cv_68_3, hlen, hv.dis.slc_l, hv.dis.slc_u, hd3.same, ht3.same]
 refine ⟨_, number_ok H hd3.sl (by simp; omega) _, ?_⟩
 rw [contK_some]; simp (disch := omega) only [go_sem, ↓reduceIte, Nat.reduceEqDiff, Nat.reduceLeDiff, H.cv_3_5, H.cv_3_66, H.cv_3_68, H.cv_5_3, H.cv_5_66, H.cv_66_3, H.cv_66_5, H.cv_68_3, hlen, hv.dis.slc_l, hv.dis.slc_u, hd3.same, ht3.same]
 refine ⟨_, sumRef_ok H ht3.sl (by simp; omega) _, ?_⟩
 rw [sums_eq]
 have hs0 := sum_lt (l.take 3)
 rcases (Decidable.em (take3 (l.drop 3) = (sumS (l.take 3)).toNat)).symm with hs | hs
 ·have e : firstS l = ([], 0, 6) := by unfold firstS; rw [if_neg h6, if_pos hs]
  rw [contK_some]; simp (disch := omega) only [go_sem, ↓reduceIte, Nat.reduceEqDiff, Nat.reduceLeDiff, H.cv_3_5, H.cv_3_66, H.cv_3_68, H.cv_5_3, H.cv_5_66, H.cv_66_3, H.cv_66_5, H.cv_68_3, u32, wrap_i64u, hs]
  rw [e]
  exact ⟨_, rfl, SF.nil⟩
 rw [contK_some]; simp (disch := omega) only [go_sem, ↓reduceIte, Nat.reduceEqDiff, Nat.reduceLeDiff, H.cv_3_5, H.cv_3_66, H.cv_3_68, H.cv_5_3, H.cv_5_66, H.cv_66_3, H.cv_66_5, H.cv_68_3, u32, wrap_i64u, hs]
 refine hN _ ?_; clear hN N
 (refine W_seq_gen fun N hN => ?_); simp (disch := omega) only [go_sem, ↓reduceIte, Nat.reduceEqDiff, Nat.reduceLeDiff, H.cv_3_5, H.cv_3_66, H.cv_3_68, H.cv_5_3, H.cv_5_66, H.cv_66_3, H.cv_66_5, H.cv_68_3]
 refine (number_ok H hv.dis (by omega) _).mono ?_
 rintro _ _ ⟨rfl, hh⟩; subst hh
 have ht := take3_lt l
 rw [contK_some]; simp (disch := omega) only [go_sem, ↓reduceIte, Nat.reduceEqDiff, Nat.reduceLeDiff, H.cv_3_5, H.cv_3_66, H.cv_3_68, H.cv_5_3, H.cv_5_66, H.cv_66_3, H.cv_66_5, H.cv_68_3]
 refine hN _ ?_; clear hN N
 by_cases hn : 16384 < take3 l
 ·have e : firstS l = ([], 0, 5) := by unfold firstS; rw [if_neg h6, if_neg (by omega), if_pos (.inl hn)]
  (refine W_seq_gen fun N hN => ?_); simp (disch := omega) only [go_sem, ↓reduceIte, Nat.reduceEqDiff, Nat.reduceLeDiff, H.cv_3_5, H.cv_3_66, H.cv_3_68, H.cv_5_3, H.cv_5_66, H.cv_66_3, H.cv_66_5, H.cv_68_3, hn, e]
  exact ⟨_, rfl, SF.nil⟩
 by_cases hn2 : l.length < take3 l + 9
 ·have e : firstS l = ([], 0, 5) := by unfold firstS; rw [if_neg h6, if_neg (by omega), if_pos (.inr hn2)]
  (refine W_seq_gen fun N hN => ?_); simp (disch := omega) only [go_sem, ↓reduceIte, Nat.reduceEqDiff, Nat.reduceLeDiff, H.cv_3_5, H.cv_3_66, H.cv_3_68, H.cv_5_3, H.cv_5_66, H.cv_66_3, H.cv_66_5, H.cv_68_3, hn, e, hv.dis.len, hlen, nat_add, hn2]
  exact ⟨_, rfl, SF.nil⟩
 (refine W_seq_gen fun N hN => ?_); simp (disch := omega) only [go_sem, ↓reduceIte, Nat.reduceEqDiff, Nat.reduceLeDiff, H.cv_3_5, H.cv_3_66, H.cv_3_68, H.cv_5_3, H.cv_5_66, H.cv_66_3, H.cv_66_5, H.cv_68_3, hn, hv.dis.len, hlen, nat_add, hn2]
 refine hN _ ?_; clear hN N
 have hr : SF 1 (cutV 1 6 (6 + take3 l) v.dis) (u8s ((l.drop 6).take (take3 l))) := by
  have := hv.dis.cut 6 (6 + take3 l); rw [u8s_drop, u8s_take, show 6 + take3 l - 6 = take3 l by omega] at this; exact this
 have hd : SF 1 (cutV 1 (6 + take3 l) l.length v.dis) (u8s (l.drop (6 + take3 l))) := by have := hv.dis.drop (6 + take3 l); rwa [hlen, u8s_drop] at this
 (refine W_seq_gen fun N hN => ?_); simp (disch := omega) only [go_sem, ↓reduceIte, Nat.reduceEqDiff, Nat.reduceLeDiff, H.cv_3_5, H.cv_3_66, H.cv_3_68, H.cv_5_3, H.cv_5_66, H.cv_66_3, H.cv_66_5, H.cv_68_3, hlen, nat_add, hv.dis.slc_lu, hv.dis.slc_l, hr.same, hd.same]
 refine ⟨_, number_ok H hd.sl (by simp; omega) _, ?_⟩
 rw [contK_some]; simp (disch := omega) only [go_sem, ↓reduceIte, Nat.reduceEqDiff, Nat.reduceLeDiff, H.cv_3_5, H.cv_3_66, H.cv_3_68, H.cv_5_3, H.cv_5_66, H.cv_66_3, H.cv_66_5, H.cv_68_3, hlen, nat_add, hv.dis.slc_lu, hv.dis.slc_l, hr.same, hd.same]
 refine ⟨_, sumRef_ok H hr.sl (by simp; omega) _, ?_⟩
 rw [sums_eq]
 have hs1 := sum_lt ((l.drop 6).take (take3 l))
 rcases (Decidable.em (take3 (l.drop (6 + take3 l)) = (sumS ((l.drop 6).take (take3 l))).toNat)).symm with hs2 | hs2
 ·have e : firstS l = ([], 0, 6) := by unfold firstS; rw [if_neg h6, if_neg (by omega), if_neg (by omega), if_pos hs2]
  rw [contK_some]; simp (disch := omega) only [go_sem, ↓reduceIte, Nat.reduceEqDiff, Nat.reduceLeDiff, H.cv_3_5, H.cv_3_66, H.cv_3_68, H.cv_5_3, H.cv_5_66, H.cv_66_3, H.cv_66_5, H.cv_68_3, u32, wrap_i64u, hs2]
  rw [e]
  exact ⟨_, rfl, SF.nil⟩
 rw [contK_some]; simp (disch := omega) only [go_sem, ↓reduceIte, Nat.reduceEqDiff, Nat.reduceLeDiff, H.cv_3_5, H.cv_3_66, H.cv_3_68, H.cv_5_3, H.cv_5_66, H.cv_66_3, H.cv_66_5, H.cv_68_3, u32, wrap_i64u, hs2]
 refine hN _ ?_; clear hN N
 have e : firstS l = ((l.drop 6).take (take3 l), take3 l + 9, 0) := by unfold firstS; rw [if_neg h6, if_neg (by omega), if_neg (by omega), if_neg (by omega)]
 (refine W_seq_gen fun N hN => ?_); simp (disch := omega) only [go_sem, ↓reduceIte, Nat.reduceEqDiff, Nat.reduceLeDiff, H.cv_3_5, H.cv_3_66, H.cv_3_68, H.cv_5_3, H.cv_5_66, H.cv_66_3, H.cv_66_5, H.cv_68_3, hlen, hv.dis.slc_lu, hr.same, nat_add, e]
 refine hN _ ?_; clear hN N
 simp (disch := omega) only [go_sem, ↓reduceIte, Nat.reduceEqDiff, Nat.reduceLeDiff, H.cv_3_5, H.cv_3_66, H.cv_3_68, H.cv_5_3, H.cv_5_66, H.cv_66_3, H.cv_66_5, H.cv_68_3]
 rw [e]
 exact ⟨_, rfl, hr.dis⟩
end Go.Proofs.Ytomfknocpijmbaa
end
section
set_option linter.unusedVariables false
set_option linter.unusedSimpArgs false
namespace Go.Proofs.Ytomfknocpijmbaa
open Go.Am
def b8 (z : Int) : UInt8 := UInt8.ofNat (IntKind.u8.wrap z).toNat
theorem b8_n (z : Int) : ((b8 z).toNat : Int) = IntKind.u8.wrap z := by
 unfold b8
 rw [IntKind.wrap_u8, u8_n]
 omega
def keyS (p : Int × Int) : List UInt8 := [b8 p.1, b8 (IntKind.i64.wrap (p.1.tdiv ((256 : Nat) : Int))), b8 p.2, b8 (IntKind.i64.wrap (p.2.tdiv ((256 : Nat) : Int)))]
theorem key_u8s (p : Int × Int) : [[AV.sc (.int .u8 (IntKind.u8.wrap p.1))], [.sc (.int .u8 (IntKind.u8.wrap (IntKind.i64.wrap (p.1.tdiv ((256 : Nat) : Int)))))], [.sc (.int .u8 (IntKind.u8.wrap p.2))], [.sc (.int .u8 (IntKind.u8.wrap (IntKind.i64.wrap (p.2.tdiv ((256 : Nat) : Int)))))]] = u8s (keyS p) := by
 simp only [u8s, keyS, List.map_cons, List.map_nil, b8_n]
def PutRow (e : List AV) (y : (Int × Int) × List UInt8) : Prop := e = [.sc (.string (str (keyS y.1))), .sc (.string (str y.2))]
theorem good_nil : Good ⟨[], []⟩ := ⟨fun i j hi => by simp at hi, fun c hc => by simp at hc, fun i j hi => by simp [ks] at hi, fun b hb => by simp at hb, by simp⟩
theorem neN' {a b : Nat} : ((a : Int) != (b : Int)) = !decide (a = b) := by
 by_cases c : a = b
 ·subst c; simp
 ·have : (a : Int) ≠ (b : Int) := by omega
  simp [c, this]
theorem beq_t (a : ByteArray) : (a == a) = true := by rw [ba_beq]; exact decide_eq_true rfl
variable {P : Program} (H : Has P)
include H
set_option maxHeartbeats 4000000 in
theorem true_law (hS : ∀ a b c d : ByteArray, scalarBin P .eql 44 (.agg #[.string a, .string b]) (.agg #[.string c, .string d]) = some (.bool (a == c && b == d)))
  (hE : ∀ {f : Nat}, f = 55 ∨ f = 57 → ∀ {o1 c1 s1 n1 o2 c2 s2 n2 : Nat} {l1 l2 : Option Nat} {cs1 cs2 : List AV} {h : Heap}, h o1 = some (.arr cs1) → h o2 = some (.arr cs2) → o1 ≠ o2 → cs2 ≠ [] → AWF P ann 0 f [.rs o1 c1 s1 n1 l1, .rs o2 c2 s2 n2 l2] h fun v h' => v = .sc (.bool false) ∧ h' = h)
  {lv av : AV} {les aes : List (List AV)} {L : List (List UInt8)} {acts : List Act} (hlv : SF 1 lv les) (hL : RR bytesR les L) (hav : SF 5 av aes) (hA : RR AcR aes acts) (h : Heap) :
  AWF P ann 0 4 [lv, av] h fun r h' => r = .sc (.bool true) := by
 refine AWF.fnc H.f0_4 rfl ?_
 have e1 := hA.len
 have e2 := hL.len
 have hq : ∀ a : Int, scalarBin P .quo 3 (.int .i64 a) (.int .i64 ((256 : Nat) : Int)) = some (.int .i64 (IntKind.i64.wrap (a.tdiv ((256 : Nat) : Int)))) := fun a => sb_quo (by decide)
 have setR0 : ∀ (a b x y : AV), setRange [a, b] 0 [x, y] = [x, y] := fun _ _ _ _ => rfl
 (refine W_seq_gen fun N hN => ?_); simp (disch := omega) only [go_sem, ↓reduceIte, Nat.reduceEqDiff, Nat.reduceLeDiff, H.cv_3_5, H.cv_3_66, H.cv_3_68, H.cv_5_3, H.cv_5_66, H.cv_66_3, H.cv_66_5, H.cv_68_3]
 refine hN _ ?_; clear hN N
 (refine W_seq_gen fun N hN => ?_); simp (disch := omega) only [go_sem, ↓reduceIte, Nat.reduceEqDiff, Nat.reduceLeDiff, H.cv_3_5, H.cv_3_66, H.cv_3_68, H.cv_5_3, H.cv_5_66, H.cv_66_3, H.cv_66_5, H.cv_68_3, setR0]
 intro o5 ho5
 have g5 : (upd h o5 (some (.arr [.sc (.slice none 0 0), .sc (.slice none 0 0)]))) o5 = some (.arr [.sc (.slice none 0 0), .sc (.slice none 0 0)]) := upd_same ..
 generalize upd h o5 (some (.arr [.sc (.slice none 0 0), .sc (.slice none 0 0)])) = h1 at g5
 refine hN _ ?_; clear hN N
 refine W_f (fun t => t 0 = lv ∧ t 1 = av ∧ t 5 = .op o5 0 ∧ True) ?_; rintro t ⟨t0, t1, t5, -⟩
 (refine W_seq_gen fun N hN => ?_); simp (disch := omega) only [go_sem, ↓reduceIte, Nat.reduceEqDiff, Nat.reduceLeDiff, H.cv_3_5, H.cv_3_66, H.cv_3_68, H.cv_5_3, H.cv_5_66, H.cv_66_3, H.cv_66_5, H.cv_68_3]
 refine hN _ ?_; clear hN N
 (refine W_seq_gen fun N hN => ?_); simp (disch := omega) only [go_sem, ↓reduceIte, Nat.reduceEqDiff, Nat.reduceLeDiff, H.cv_3_5, H.cv_3_66, H.cv_3_68, H.cv_5_3, H.cv_5_66, H.cv_66_3, H.cv_66_5, H.cv_68_3]
 refine hN _ ?_; clear hN N
 refine W_f (fun t => t 0 = lv ∧ t 1 = av ∧ t 5 = .op o5 0 ∧ t 7 = .bs true 2 [] (some 0) ∧ True) ?_; rintro t ⟨t0, t1, t5, t7, -⟩
 (refine W_seq_gen fun M hM => ?_)
 (refine W_seq_gen fun N hN => ?_); simp (disch := omega) only [go_sem, ↓reduceIte, Nat.reduceEqDiff, Nat.reduceLeDiff, H.cv_3_5, H.cv_3_66, H.cv_3_68, H.cv_5_3, H.cv_5_66, H.cv_66_3, H.cv_66_5, H.cv_68_3]
 refine hN _ ?_; clear hN N
 simp (disch := omega) only [go_sem, ↓reduceIte, Nat.reduceEqDiff, Nat.reduceLeDiff, H.cv_3_5, H.cv_3_66, H.cv_3_68, H.cv_5_3, H.cv_5_66, H.cv_66_3, H.cv_66_5, H.cv_68_3]
 refine AW_loopN (fun m t h' => ∃ (i : Nat) (E : Eth) (bv cv : AV) (bes ces : List (List AV)) (put : Puts) (rows : List (List AV)) (lim : Option Nat), m = 100 - i ∧ i ≤ 100 ∧ i ≤ acts.length ∧ Sm E i ∧ OkE put E ∧ SF 3 bv bes ∧ RR BgR bes E.bags ∧ SF 2 cv ces ∧ RR CK ces E.cuts ∧ RR PutRow rows put ∧ put.length ≤ i ∧ h' o5 = some (.arr [bv, cv]) ∧ t 0 = lv ∧ t 1 = av ∧ t 5 = .op o5 0 ∧ t 7 = .bs true 2 rows lim ∧ t 8 = .sc (.int .i64 (i : Nat)))
  (n := 100) ⟨0, ⟨[], []⟩, _, _, [], [], [], [], some 0, rfl, by omega, by omega, ⟨good_nil, by simp, fun b hb => by simp at hb⟩, fun b hb => by simp at hb, .nil, trivial, .nil, trivial, trivial, by simp, g5, by simp [upd_at, t0], by simp [upd_at, t1], by simp [upd_at, t5], by simp [upd_at, t7], by simp [upd_at]⟩ ?_
 clear t0 t1 t5 t7 t g5
 rintro m t h' ⟨i, E, bv, cv, bes, ces, put, rows, lim, rfl, hi, hia, S, hok, hbv, hB, hcv, hC, hP, hpl, g5, t0, t1, t5, t7, t8⟩
 by_cases c1 : i < acts.length ∧ i < 100
 ·obtain ⟨c1, c2⟩ := c1
  obtain ⟨e, g0, rfl⟩ := hA.lt c1
  generalize hx : acts[i] = x at g0
  (refine W_seq_gen fun N hN => ?_); simp (disch := omega) only [go_sem, ↓reduceIte, Nat.reduceEqDiff, Nat.reduceLeDiff, H.cv_3_5, H.cv_3_66, H.cv_3_68, H.cv_5_3, H.cv_5_66, H.cv_66_3, H.cv_66_5, H.cv_68_3, t1, t8, hav.same, hav.disc, hav.sl.len, e1, c1, c2]
  refine hN _ ?_; clear hN N
  (refine W_seq_gen fun R hR => ?_)
  rw [W_block]
  (refine W_seq_gen fun N hN => ?_); simp (disch := omega) only [go_sem, ↓reduceIte, Nat.reduceEqDiff, Nat.reduceLeDiff, H.cv_3_5, H.cv_3_66, H.cv_3_68, H.cv_5_3, H.cv_5_66, H.cv_66_3, H.cv_66_5, H.cv_68_3, t1, t8, hav.same, hav.disc, hav.sl.ia, g0]
  intro o9 ho9
  have n9 : (upd h' o9 (some (.arr [.sc (.int .i64 x.kd), .sc (.int .i64 x.a), .sc (.int .i64 x.b), .sc (.int .i64 x.n), .sc (.int .i64 x.w)]))) o9 = some (.arr [.sc (.int .i64 x.kd), .sc (.int .i64 x.a), .sc (.int .i64 x.b), .sc (.int .i64 x.n), .sc (.int .i64 x.w)]) := upd_same ..
  have n95 : o9 ≠ o5 := fun e => by rw [e, g5] at ho9; cases ho9
  have n5 : (upd h' o9 (some (.arr [.sc (.int .i64 x.kd), .sc (.int .i64 x.a), .sc (.int .i64 x.b), .sc (.int .i64 x.n), .sc (.int .i64 x.w)]))) o5 = some (.arr [bv, cv]) := by rw [upd_ne _ _ n95.symm]; exact g5
  generalize upd h' o9 (some (.arr [.sc (.int .i64 x.kd), .sc (.int .i64 x.a), .sc (.int .i64 x.b), .sc (.int .i64 x.n), .sc (.int .i64 x.w)])) = h2 at n9 n5
  clear g5 ho9
  refine hN _ ?_; clear hN N
  refine W_f (fun t => t 0 = lv ∧ t 1 = av ∧ t 5 = .op o5 0 ∧ t 7 = .bs true 2 rows lim ∧ t 8 = .sc (.int .i64 (i : Nat)) ∧ t 9 = .op o9 0 ∧ True) ?_; rintro t ⟨t0, t1, t5, t7, t8, t9, -⟩
  (refine W_seq_gen fun N hN => ?_)
  have go : ∀ (t : Nat → AV) (h2 : Heap) (E : Eth) (bv cv : AV) (bes ces : List (List AV)) (put : Puts) (rows : List (List AV)) (lim : Option Nat), Sm E i → OkE put E → SF 3 bv bes → RR BgR bes E.bags → SF 2 cv ces → RR CK ces E.cuts → RR PutRow rows put → put.length ≤ i + 1 →
    h2 o5 = some (.arr [bv, cv]) → h2 o9 = some (.arr [.sc (.int .i64 x.kd), .sc (.int .i64 x.a), .sc (.int .i64 x.b), .sc (.int .i64 x.n), .sc (.int .i64 x.w)]) → t 0 = lv → t 1 = av → t 5 = .op o5 0 → t 7 = .bs true 2 rows lim → t 8 = .sc (.int .i64 (i : Nat)) → t 9 = .op o9 0 → N ⟨t, h2⟩ := by
   clear t0 t1 t5 t7 t8 t9 n5 n9 S hok hbv hB hcv hC hP hpl
   intro t h2 E bv cv bes ces put rows lim S hok hbv hB hcv hC hP hpl n5 n9 t0 t1 t5 t7 t8 t9
   refine hN _ ?_; clear hN N
   have hch := check_good.2 S.g
   have hcm := fun hc hf => do_comes (x := x) S.g hok hc hf
   have hok1 := ok_do (x := x) S.g hok
   have S1 := sm_do (x := x) S
   have z1 := S1.szd (by omega)
   have hdl := do_len (x := x) S.g S.b
   (refine W_seq_gen fun N hN => ?_)
   simp (disch := omega) only [go_sem, ↓reduceIte, Nat.reduceEqDiff, Nat.reduceLeDiff, H.cv_3_5, H.cv_3_66, H.cv_3_68, H.cv_5_3, H.cv_5_66, H.cv_66_3, H.cv_66_5, H.cv_68_3, t5, t9, n5, n9, hbv.disc, hcv.disc]
   refine (do_ok H (x := x) hbv hB hcv hC (S.szd (by omega)) (fun {_ _ _ _ _ _ _ _ _ _ _ _ _} => hE (.inr rfl)) _).mono ?_
   rw [hch]
   rintro _ hx9 ⟨⟨v, w, rfl, ⟨bv', cv', bes', ces', rfl, hbv', hB', hcv', hC'⟩, hw⟩, hh9⟩; rw [hh9]; clear hh9 hx9
   simp only [if_true, Bool.true_and] at hB' hC' hw ⊢
   rw [contK_some]; simp (disch := omega) only [go_sem, ↓reduceIte, Nat.reduceEqDiff, Nat.reduceLeDiff, H.cv_3_5, H.cv_3_66, H.cv_3_68, H.cv_5_3, H.cv_5_66, H.cv_66_3, H.cv_66_5, H.cv_68_3, hbv'.disc, hcv'.disc, hw.disc, hw.same]
   generalize doP E x = D at *
   intro o11 ho11
   have q11 : (upd h2 o11 (some (.arr [bv', cv']))) o11 = some (.arr [bv', cv']) := upd_same ..
   have q5 : (upd h2 o11 (some (.arr [bv', cv']))) o5 = some (.arr [bv, cv]) := by rw [upd_ne _ _ (fun e => by rw [← e, n5] at ho11; cases ho11)]; exact n5
   have q9 : (upd h2 o11 (some (.arr [bv', cv']))) o9 = some (.arr [.sc (.int .i64 x.kd), .sc (.int .i64 x.a), .sc (.int .i64 x.b), .sc (.int .i64 x.n), .sc (.int .i64 x.w)]) := by rw [upd_ne _ _ (fun e => by rw [← e, n9] at ho11; cases ho11)]; exact n9
   generalize upd h2 o11 (some (.arr [bv', cv'])) = h3 at q11 q5 q9
   clear n5 n9 ho11 h2
   refine hN _ ?_; clear hN N
   refine W_f (fun t => t 0 = lv ∧ t 1 = av ∧ t 5 = .op o5 0 ∧ t 7 = .bs true 2 rows lim ∧ t 8 = .sc (.int .i64 (i : Nat)) ∧ t 9 = .op o9 0 ∧ t 11 = .op o11 0 ∧ t 12 = w ∧ t 13 = .sc (.bool D.2.2) ∧ t 14 = .sc (.int .i64 ((0 : Nat) : Int)) ∧ True) ?_; rintro t ⟨t0, t1, t5, t7, t8, t9, t11, t12, t13, t14, -⟩
   (refine W_seq_gen fun N hN => ?_); simp (disch := omega) only [go_sem, ↓reduceIte, Nat.reduceEqDiff, Nat.reduceLeDiff, H.cv_3_5, H.cv_3_66, H.cv_3_68, H.cv_5_3, H.cv_5_66, H.cv_66_3, H.cv_66_5, H.cv_68_3, t14]
   refine hN _ ?_; clear hN N
   (refine W_seq_gen fun N hN => ?_); simp (disch := omega) only [go_sem, ↓reduceIte, Nat.reduceEqDiff, Nat.reduceLeDiff, H.cv_3_5, H.cv_3_66, H.cv_3_68, H.cv_5_3, H.cv_5_66, H.cv_66_3, H.cv_66_5, H.cv_68_3, t5, t11, q5, q11, hbv'.disc, hcv'.disc, setR0]
   have r5 : (upd h3 o5 (some (.arr [bv', cv']))) o5 = some (.arr [bv', cv']) := upd_same ..
   have r9 : (upd h3 o5 (some (.arr [bv', cv']))) o9 = some (.arr [.sc (.int .i64 x.kd), .sc (.int .i64 x.a), .sc (.int .i64 x.b), .sc (.int .i64 x.n), .sc (.int .i64 x.w)]) := by rw [upd_ne _ _ n95]; exact q9
   generalize upd h3 o5 (some (.arr [bv', cv'])) = h4 at r5 r9
   clear q5 q9 q11 h3
   refine hN _ ?_; clear hN N
   refine W_f (fun t => t 0 = lv ∧ t 1 = av ∧ t 5 = .op o5 0 ∧ t 7 = .bs true 2 rows lim ∧ t 8 = .sc (.int .i64 (i : Nat)) ∧ t 9 = .op o9 0 ∧ t 12 = w ∧ t 13 = .sc (.bool D.2.2) ∧ True) ?_; rintro t ⟨t0, t1, t5, t7, t8, t9, t12, t13, -⟩
   (refine W_seq_gen fun N hN => ?_)
   simp (disch := omega) only [go_sem, ↓reduceIte, Nat.reduceEqDiff, Nat.reduceLeDiff, H.cv_3_5, H.cv_3_66, H.cv_3_68, H.cv_5_3, H.cv_5_66, H.cv_66_3, H.cv_66_5, H.cv_68_3, t12, hw.same, hw.disc]
   refine (firstRef_ok H hw.sl (by omega) _).mono ?_
   rintro _ hx9 ⟨⟨xx, rfl, hxx⟩, hh9⟩; rw [hh9]; clear hh9 hx9
   have fin : ∀ t : Nat → AV, t 0 = lv → t 1 = av → t 5 = .op o5 0 → t 7 = .bs true 2 rows lim → t 8 = .sc (.int .i64 (i : Nat)) → R ⟨t, h4⟩ := by
    clear t0 t1 t5 t7 t8 t9 t12 t13
    intro t t0 t1 t5 t7 t8
    refine hR _ ?_
    simp (disch := omega) only [go_sem, ↓reduceIte, Nat.reduceEqDiff, Nat.reduceLeDiff, H.cv_3_5, H.cv_3_66, H.cv_3_68, H.cv_5_3, H.cv_5_66, H.cv_66_3, H.cv_66_5, H.cv_68_3, t8, nat_add]
    exact ⟨100 - (i + 1), by omega, i + 1, D.1, bv', cv', bes', ces', put, rows, lim, rfl, by omega, by omega, S1, hok1, hbv', hB', hcv', hC', hP, hpl, r5, by simp [upd_at, t0], by simp [upd_at, t1], by simp [upd_at, t5], by simp [upd_at, t7], by simp [upd_at]⟩
   cases hc : D.2.2 with
   | false =>
    rw [hc] at t13
    rw [contK_some]; simp (disch := omega) only [go_sem, ↓reduceIte, Nat.reduceEqDiff, Nat.reduceLeDiff, H.cv_3_5, H.cv_3_66, H.cv_3_68, H.cv_5_3, H.cv_5_66, H.cv_66_3, H.cv_66_5, H.cv_68_3, hxx.disc, hxx.same, t13]
    exact fin _ (by simp [upd_at, t0]) (by simp [upd_at, t1]) (by simp [upd_at, t5]) (by simp [upd_at, t7]) (by simp [upd_at, t8])
   | true =>
    rw [hc] at t13
    rcases (Decidable.em ((firstS D.2.1).2.2 = 0)).symm with f0 | f0
    ·rw [contK_some]; simp (disch := omega) only [go_sem, ↓reduceIte, Nat.reduceEqDiff, Nat.reduceLeDiff, H.cv_3_5, H.cv_3_66, H.cv_3_68, H.cv_5_3, H.cv_5_66, H.cv_66_3, H.cv_66_5, H.cv_68_3, hxx.disc, hxx.same, t13, neN', f0]
     exact fin _ (by simp [upd_at, t0]) (by simp [upd_at, t1]) (by simp [upd_at, t5]) (by simp [upd_at, t7]) (by simp [upd_at, t8])
    rcases (Decidable.em ((firstS D.2.1).2.1 = D.2.1.length)).symm with f1 | f1
    ·rw [contK_some]; simp (disch := omega) only [go_sem, ↓reduceIte, Nat.reduceEqDiff, Nat.reduceLeDiff, H.cv_3_5, H.cv_3_66, H.cv_3_68, H.cv_5_3, H.cv_5_66, H.cv_66_3, H.cv_66_5, H.cv_68_3, hxx.disc, hxx.same, t12, t13, neN', f0, f1, hw.same, hw.disc, hw.sl.len, u8s_len]
     exact fin _ (by simp [upd_at, t0]) (by simp [upd_at, t1]) (by simp [upd_at, t5]) (by simp [upd_at, t7]) (by simp [upd_at, t8])
    have hin := hcm hc f0
    rw [contK_some]; simp (disch := omega) only [go_sem, ↓reduceIte, Nat.reduceEqDiff, Nat.reduceLeDiff, H.cv_3_5, H.cv_3_66, H.cv_3_68, H.cv_5_3, H.cv_5_66, H.cv_66_3, H.cv_66_5, H.cv_68_3, hxx.disc, hxx.same, t12, t13, neN', f0, f1, hw.same, hw.disc, hw.sl.len, u8s_len]
    refine hN _ ?_; clear hN N
    refine W_f (fun t => t 0 = lv ∧ t 1 = av ∧ t 5 = .op o5 0 ∧ t 7 = .bs true 2 rows lim ∧ t 8 = .sc (.int .i64 (i : Nat)) ∧ t 9 = .op o9 0 ∧ t 12 = w ∧ True) ?_; rintro t ⟨t0, t1, t5, t7, t8, t9, t12, -⟩
    (refine W_seq_gen fun N hN => ?_); simp (disch := omega) only [go_sem, ↓reduceIte, Nat.reduceEqDiff, Nat.reduceLeDiff, H.cv_3_5, H.cv_3_66, H.cv_3_68, H.cv_5_3, H.cv_5_66, H.cv_66_3, H.cv_66_5, H.cv_68_3]
    refine hN _ ?_; clear hN N
    refine W_f (fun t => t 0 = lv ∧ t 1 = av ∧ t 5 = .op o5 0 ∧ t 7 = .bs true 2 rows lim ∧ t 8 = .sc (.int .i64 (i : Nat)) ∧ t 9 = .op o9 0 ∧ t 12 = w ∧ t 18 = .sc (.bool false) ∧ True) ?_; rintro t ⟨t0, t1, t5, t7, t8, t9, t12, t18, -⟩
    (refine W_seq_gen fun M hM => ?_)
    (refine W_seq_gen fun N hN => ?_); simp (disch := omega) only [go_sem, ↓reduceIte, Nat.reduceEqDiff, Nat.reduceLeDiff, H.cv_3_5, H.cv_3_66, H.cv_3_68, H.cv_5_3, H.cv_5_66, H.cv_66_3, H.cv_66_5, H.cv_68_3]
    refine hN _ ?_; clear hN N
    simp (disch := omega) only [go_sem, ↓reduceIte, Nat.reduceEqDiff, Nat.reduceLeDiff, H.cv_3_5, H.cv_3_66, H.cv_3_68, H.cv_5_3, H.cv_5_66, H.cv_66_3, H.cv_66_5, H.cv_68_3]
    have e3 := hP.len
    have hrl : SL 2 (.bs false 2 rows lim) rows := .bs
    have hkb : ∀ (t : Nat → AV) (h : Heap), aexB2s (P := P) t h (.bs true 1 [[AV.sc (.int .u8 (IntKind.u8.wrap x.a))], [.sc (.int .u8 (IntKind.u8.wrap (IntKind.i64.wrap (x.a.tdiv ((256 : Nat) : Int)))))], [.sc (.int .u8 (IntKind.u8.wrap x.b))], [.sc (.int .u8 (IntKind.u8.wrap (IntKind.i64.wrap (x.b.tdiv ((256 : Nat) : Int)))))]] (some 4)) = some (.val (.sc (.string (str (keyS x.p)))) t h) := fun t h => by
     have := (SL.bs (o := true) (lim := some 4) : SL 1 (.bs true 1 (u8s (keyS x.p)) (some 4)) (u8s (keyS x.p))).b2s (P := P) (t := t) (h := h)
     rw [← key_u8s] at this
     exact this
    refine AW_loopN (fun m t h' => h' = h4 ∧ ∃ (k : Nat) (q : Bool), m = put.length - k ∧ k ≤ put.length ∧ t 0 = lv ∧ t 1 = av ∧ t 5 = .op o5 0 ∧ t 7 = .bs true 2 rows lim ∧ t 8 = .sc (.int .i64 (i : Nat)) ∧ t 9 = .op o9 0 ∧ t 12 = w ∧ t 18 = .sc (.bool q) ∧ t 19 = .sc (.int .i64 (k : Nat)) ∧ ∀ j, j < k → put[j]? = some (x.p, D.2.1) → q = true)
     (n := put.length) ⟨rfl, 0, false, rfl, Nat.zero_le _, by simp [upd_at, t0], by simp [upd_at, t1], by simp [upd_at, t5], by simp [upd_at, t7], by simp [upd_at, t8], by simp [upd_at, t9], by simp [upd_at, t12], by simp [upd_at, t18], by simp [upd_at], fun j hj => by omega⟩ ?_
    clear t0 t1 t5 t7 t8 t9 t12 t18
    rintro m t h' ⟨hh', k, q, rfl, hk, t0, t1, t5, t7, t8, t9, t12, t18, t19, hgood⟩
    rw [hh']
    clear hh' h'
    rcases Nat.lt_or_ge k put.length with hlt | hge
    ·obtain ⟨e, gk, rfl⟩ := hP.lt hlt
     have gp : put[k]? = some put[k] := List.getElem?_eq_getElem hlt
     generalize put[k] = y at gk gp
     (refine W_seq_gen fun N hN => ?_); simp (disch := omega) only [go_sem, ↓reduceIte, Nat.reduceEqDiff, Nat.reduceLeDiff, H.cv_3_5, H.cv_3_66, H.cv_3_68, H.cv_5_3, H.cv_5_66, H.cv_66_3, H.cv_66_5, H.cv_68_3, t7, t19, hrl.len, e3, hlt]
     refine hN _ ?_; clear hN N
     (refine W_seq_gen fun R2 hR2 => ?_)
     rw [W_block]
     cases q with
     | true =>
      simp (disch := omega) only [go_sem, ↓reduceIte, Nat.reduceEqDiff, Nat.reduceLeDiff, H.cv_3_5, H.cv_3_66, H.cv_3_68, H.cv_5_3, H.cv_5_66, H.cv_66_3, H.cv_66_5, H.cv_68_3, t18]
      refine hR2 _ ?_
      simp (disch := omega) only [go_sem, ↓reduceIte, Nat.reduceEqDiff, Nat.reduceLeDiff, H.cv_3_5, H.cv_3_66, H.cv_3_68, H.cv_5_3, H.cv_5_66, H.cv_66_3, H.cv_66_5, H.cv_68_3, t19, nat_add]
      exact ⟨put.length - (k + 1), by omega, k + 1, true, rfl, by omega, by simp [upd_at, t0], by simp [upd_at, t1], by simp [upd_at, t5], by simp [upd_at, t7], by simp [upd_at, t8], by simp [upd_at, t9], by simp [upd_at, t12], by simp [upd_at], by simp [upd_at], fun _ _ _ => rfl⟩
     | false =>
      simp (disch := omega) only [go_sem, ↓reduceIte, Nat.reduceEqDiff, Nat.reduceLeDiff, H.cv_3_5, H.cv_3_66, H.cv_3_68, H.cv_5_3, H.cv_5_66, H.cv_66_3, H.cv_66_5, H.cv_68_3, t7, t9, t12, t18, t19, r9, hrl.ia, gk, hq, hkb, hw.same, hw.disc, hw.sl.b2s, hS]
      refine hR2 _ ?_
      simp (disch := omega) only [go_sem, ↓reduceIte, Nat.reduceEqDiff, Nat.reduceLeDiff, H.cv_3_5, H.cv_3_66, H.cv_3_68, H.cv_5_3, H.cv_5_66, H.cv_66_3, H.cv_66_5, H.cv_68_3, t19, nat_add]
      refine ⟨put.length - (k + 1), by omega, k + 1, str (keyS y.1) == str (keyS x.p) && str y.2 == str D.2.1, rfl, by omega, by simp [upd_at, t0], by simp [upd_at, t1], by simp [upd_at, t5], by simp [upd_at, t7], by simp [upd_at, t8], by simp [upd_at, t9], by simp [upd_at, t12], by simp [upd_at], by simp [upd_at], fun j hj hp => ?_⟩
      rcases Nat.lt_or_ge j k with w | w
      ·exact absurd (hgood j w hp) Bool.false_ne_true
      ·obtain rfl : j = k := by omega
       rw [gp] at hp
       cases hp
       rw [beq_t, beq_t]
       rfl
    ·obtain rfl : k = put.length := by omega
     obtain ⟨j, hj, hpj⟩ := List.getElem_of_mem hin
     have hqt : q = true := hgood j hj (by rw [List.getElem?_eq_getElem hj, hpj])
     rw [hqt] at t18
     (refine W_seq_gen fun N hN => ?_); simp (disch := omega) only [go_sem, ↓reduceIte, Nat.reduceEqDiff, Nat.reduceLeDiff, H.cv_3_5, H.cv_3_66, H.cv_3_68, H.cv_5_3, H.cv_5_66, H.cv_66_3, H.cv_66_5, H.cv_68_3, t7, t19, hrl.len, e3, Nat.lt_irrefl]
     refine hM _ ?_; clear hN N hM M
     simp (disch := omega) only [go_sem, ↓reduceIte, Nat.reduceEqDiff, Nat.reduceLeDiff, H.cv_3_5, H.cv_3_66, H.cv_3_68, H.cv_5_3, H.cv_5_66, H.cv_66_3, H.cv_66_5, H.cv_68_3, t18]
     exact fin _ (by simp [upd_at, t0]) (by simp [upd_at, t1]) (by simp [upd_at, t5]) (by simp [upd_at, t7]) (by simp [upd_at, t8])
  by_cases p1 : i < L.length
  ·obtain ⟨e, gl, wv, rfl, hwv⟩ := hL.lt p1
   generalize L[i] = r at hwv
   by_cases p2 : r.length ≤ 200
   ·simp (disch := omega) only [go_sem, ↓reduceIte, Nat.reduceEqDiff, Nat.reduceLeDiff, H.cv_3_5, H.cv_3_66, H.cv_3_68, H.cv_5_3, H.cv_5_66, H.cv_66_3, H.cv_66_5, H.cv_68_3, t0, t8, t9, n9, hlv.same, hlv.disc, hlv.sl.len, e2, p1, hlv.sl.ia, gl, hwv.same, hwv.disc, hwv.sl.len, u8s_len, p2]
    refine (Two_ok H x.a x.b _).to ?_
    cases htw : two x.a x.b with
    | false =>
     rw [contK_some]; simp (disch := omega) only [go_sem, ↓reduceIte, Nat.reduceEqDiff, Nat.reduceLeDiff, H.cv_3_5, H.cv_3_66, H.cv_3_68, H.cv_5_3, H.cv_5_66, H.cv_66_3, H.cv_66_5, H.cv_68_3]
     exact go _ h2 E bv cv bes ces put rows lim S hok hbv hB hcv hC hP (by omega) n5 n9 (by simp [upd_at, t0]) (by simp [upd_at, t1]) (by simp [upd_at, t5]) (by simp [upd_at, t7]) (by simp [upd_at, t8]) (by simp [upd_at, t9])
    | true =>
     rw [contK_some]; simp (disch := omega) only [go_sem, ↓reduceIte, Nat.reduceEqDiff, Nat.reduceLeDiff, H.cv_3_5, H.cv_3_66, H.cv_3_68, H.cv_5_3, H.cv_5_66, H.cv_66_3, H.cv_66_5, H.cv_68_3, t0, t8, hlv.same, hlv.disc, hlv.sl.ia, gl, hwv.same, hwv.disc]
     refine (recordRef_ok H hwv.sl (by omega) _).to ?_
     have hrec := recV_ok r
     have hd := hrec.sl.df
     have hrl := recS_len r
     generalize recV r = rv at hrec hd ⊢
     have hkb : ∀ (t : Nat → AV) (h : Heap), aexB2s (P := P) t h (.bs true 1 [[AV.sc (.int .u8 (IntKind.u8.wrap x.a))], [.sc (.int .u8 (IntKind.u8.wrap (IntKind.i64.wrap (x.a.tdiv ((256 : Nat) : Int)))))], [.sc (.int .u8 (IntKind.u8.wrap x.b))], [.sc (.int .u8 (IntKind.u8.wrap (IntKind.i64.wrap (x.b.tdiv ((256 : Nat) : Int)))))]] (some 4)) = some (.val (.sc (.string (str (keyS x.p)))) t h) := fun t h => by
      have := (SL.bs (o := true) (lim := some 4) : SL 1 (.bs true 1 (u8s (keyS x.p)) (some 4)) (u8s (keyS x.p))).b2s (P := P) (t := t) (h := h)
      rw [← key_u8s] at this
      exact this
     obtain ⟨l2, hl2⟩ := cat_bs (sz := 2) (es := rows) (ys := [[.sc (.string (str (keyS x.p))), .sc (.string (str (recS r)))]]) (lim := lim)
     have er := hP.len
     have happ := fun (t : Nat → AV) (h : Heap) => (SG.bs : SG 2 (.bs true 2 rows lim) rows).app (t := t) (h := h) (ys := [[.sc (.string (str (keyS x.p))), .sc (.string (str (recS r)))]]) (bytes := 32) (by simp; omega)
     rw [hl2] at happ
     rw [contK_some]; simp (disch := omega) only [go_sem, ↓reduceIte, Nat.reduceEqDiff, Nat.reduceLeDiff, H.cv_3_5, H.cv_3_66, H.cv_3_68, H.cv_5_3, H.cv_5_66, H.cv_66_3, H.cv_66_5, H.cv_68_3, t5, t7, t9, n5, n9, hq, hkb, hd.sl.b2s, hrec.sl.disc, hrec.sl.dd, happ, hbv.disc, hcv.disc]
     have S' := sm_put (p := x.p) (x := recS r) S htw (by omega)
     have hok' := ok_put (p := x.p) p2 hok
     have hcb : (checkB E && two x.a x.b) = true := by rw [check_good.2 S.g, htw]; rfl
     refine (put_ok H hbv hB hcv hC (S.szd (by omega)) hd.sl (by omega) x.p (fun {_ _ _ _ _ _ _ _ _ _ _ _ _} => hE (.inl rfl)) _).mono ?_
     rw [show (checkB E && two x.p.1 x.p.2) = true from hcb]
     rintro _ hx9 ⟨⟨v, rfl, bv', cv', bes', ces', rfl, hbv', hB', hcv', hC'⟩, hh9⟩; rw [hh9]; clear hh9 hx9
     simp only [if_true] at hB' hC' ⊢
     rw [contK_some]; simp (disch := omega) only [go_sem, ↓reduceIte, Nat.reduceEqDiff, Nat.reduceLeDiff, H.cv_3_5, H.cv_3_66, H.cv_3_68, H.cv_5_3, H.cv_5_66, H.cv_66_3, H.cv_66_5, H.cv_68_3, t5, n5, hbv'.disc, hcv'.disc, setR0]
     have r5 : (upd h2 o5 (some (.arr [bv', cv']))) o5 = some (.arr [bv', cv']) := upd_same ..
     have r9 : (upd h2 o5 (some (.arr [bv', cv']))) o9 = some (.arr [.sc (.int .i64 x.kd), .sc (.int .i64 x.a), .sc (.int .i64 x.b), .sc (.int .i64 x.n), .sc (.int .i64 x.w)]) := by rw [upd_ne _ _ n95]; exact n9
     exact go _ _ (putP E x.p (recS r)) bv' cv' bes' ces' (put ++ [(x.p, recS r)]) (rows ++ [[.sc (.string (str (keyS x.p))), .sc (.string (str (recS r)))]]) l2 S' hok' hbv' hB' hcv' hC' (hP.append (RR.one (show PutRow [.sc (.string (str (keyS x.p))), .sc (.string (str (recS r)))] (x.p, recS r) from rfl))) (by simp; omega) r5 r9 (by simp [upd_at, t0]) (by simp [upd_at, t1]) (by simp [upd_at, t5]) (by simp [upd_at]) (by simp [upd_at, t8]) (by simp [upd_at, t9])
   ·simp (disch := omega) only [go_sem, ↓reduceIte, Nat.reduceEqDiff, Nat.reduceLeDiff, H.cv_3_5, H.cv_3_66, H.cv_3_68, H.cv_5_3, H.cv_5_66, H.cv_66_3, H.cv_66_5, H.cv_68_3, t0, t8, t9, n9, hlv.same, hlv.disc, hlv.sl.len, e2, p1, hlv.sl.ia, gl, hwv.same, hwv.disc, hwv.sl.len, u8s_len, p2]
    exact go _ h2 E bv cv bes ces put rows lim S hok hbv hB hcv hC hP (by omega) n5 n9 (by simp [upd_at, t0]) (by simp [upd_at, t1]) (by simp [upd_at, t5]) (by simp [upd_at, t7]) (by simp [upd_at, t8]) (by simp [upd_at, t9])
  ·simp (disch := omega) only [go_sem, ↓reduceIte, Nat.reduceEqDiff, Nat.reduceLeDiff, H.cv_3_5, H.cv_3_66, H.cv_3_68, H.cv_5_3, H.cv_5_66, H.cv_66_3, H.cv_66_5, H.cv_68_3, t0, t8, hlv.same, hlv.disc, hlv.sl.len, e2, p1]
   exact go _ h2 E bv cv bes ces put rows lim S hok hbv hB hcv hC hP (by omega) n5 n9 (by simp [upd_at, t0]) (by simp [upd_at, t1]) (by simp [upd_at, t5]) (by simp [upd_at, t7]) (by simp [upd_at, t8]) (by simp [upd_at, t9])
 ·by_cases c2 : i < acts.length
  ·have c3 : ¬ i < 100 := fun q => c1 ⟨c2, q⟩
   (refine W_seq_gen fun N hN => ?_); simp (disch := omega) only [go_sem, ↓reduceIte, Nat.reduceEqDiff, Nat.reduceLeDiff, H.cv_3_5, H.cv_3_66, H.cv_3_68, H.cv_5_3, H.cv_5_66, H.cv_66_3, H.cv_66_5, H.cv_68_3, t1, t8, hav.same, hav.disc, hav.sl.len, e1, c2, c3]
   refine hM _ ?_; clear hN N hM M
   simp (disch := omega) only [go_sem, ↓reduceIte, Nat.reduceEqDiff, Nat.reduceLeDiff, H.cv_3_5, H.cv_3_66, H.cv_3_68, H.cv_5_3, H.cv_5_66, H.cv_66_3, H.cv_66_5, H.cv_68_3]
   refine (awake_ok H hE _).to ?_
   rw [contK_some]; simp (disch := omega) only [go_sem, ↓reduceIte, Nat.reduceEqDiff, Nat.reduceLeDiff, H.cv_3_5, H.cv_3_66, H.cv_3_68, H.cv_5_3, H.cv_5_66, H.cv_66_3, H.cv_66_5, H.cv_68_3]
  ·(refine W_seq_gen fun N hN => ?_); simp (disch := omega) only [go_sem, ↓reduceIte, Nat.reduceEqDiff, Nat.reduceLeDiff, H.cv_3_5, H.cv_3_66, H.cv_3_68, H.cv_5_3, H.cv_5_66, H.cv_66_3, H.cv_66_5, H.cv_68_3, t1, t8, hav.same, hav.disc, hav.sl.len, e1, c2]
   refine hM _ ?_; clear hN N hM M
   simp (disch := omega) only [go_sem, ↓reduceIte, Nat.reduceEqDiff, Nat.reduceLeDiff, H.cv_3_5, H.cv_3_66, H.cv_3_68, H.cv_5_3, H.cv_5_66, H.cv_66_3, H.cv_66_5, H.cv_68_3]
   refine (awake_ok H hE _).to ?_
   rw [contK_some]; simp (disch := omega) only [go_sem, ↓reduceIte, Nat.reduceEqDiff, Nat.reduceLeDiff, H.cv_3_5, H.cv_3_66, H.cv_3_68, H.cv_5_3, H.cv_5_66, H.cv_66_3, H.cv_66_5, H.cv_68_3]
end Go.Proofs.Ytomfknocpijmbaa
end
section
set_option linter.unusedVariables false
set_option linter.unusedSimpArgs false
namespace Go.Proofs.Ytomfknocpijmbaa
open Go.Am
abbrev slE : TypeId → Nat → Prop := fun e n => n * Try.prog.bytesOf e ≤ reachBytes
abbrev stE : Nat → Prop := fun n => n ≤ reachBytes
theorem hasE {f : Nat} (hf : f = 55 ∨ f = 57) {o1 c1 s1 n1 o2 c2 s2 n2 : Nat} {l1 l2 : Option Nat} {cs1 cs2 : List AV} {h : Heap} (h1 : h o1 = some (.arr cs1)) (h2 : h o2 = some (.arr cs2)) (hne : o1 ≠ o2) (hcs : cs2 ≠ []) :
  AWF Try.prog ann 0 f [.rs o1 c1 s1 n1 l1, .rs o2 c2 s2 n2 l2] h fun v h' => v = .sc (.bool false) ∧ h' = h := by
 rcases hf with rfl | rfl
 ·exact overlaps_ext (tS := 22) (tR := 4) (e := 54) Try.func55 (by kernel_rfl) (by kernel_rfl) (by kernel_rfl) (by kernel_rfl) Try.underlying22 (size := 3) (by kernel_rfl) h1 h2 hne hcs
 ·exact overlaps_ext (tS := 23) (tR := 4) (e := 69) Try.func57 (by kernel_rfl) (by kernel_rfl) (by kernel_rfl) (by kernel_rfl) Try.underlying23 (size := 2) (by kernel_rfl) h1 h2 hne hcs
theorem eqin_arr2 {P : Program} {t e : TypeId} (ht : P.underlying t = some (.array 2 e)) {xs ys : Array Value} {a0 a1 b0 b1 : Value} {e0 e1 : Bool} (d n : Nat) (hs : pureRun P (sizeOf e) = some n)
  (p0 : pureRun P (part e xs (0 * n)) = some a0) (p1 : pureRun P (part e xs (1 * n)) = some a1) (q0 : pureRun P (part e ys (0 * n)) = some b0) (q1 : pureRun P (part e ys (1 * n)) = some b1)
  (h0 : pureRun P (Op.equalIn d e a0 b0) = some e0) (h1 : pureRun P (Op.equalIn d e a1 b1) = some e1) : pureRun P (Op.equalIn (d + 1) t (.agg xs) (.agg ys)) = some (e0 && e1) := by
 rw [Op.equalIn, pr_bind, pr_underlying ht]
 simp only [Nat.zero_mul, Nat.one_mul] at p0 p1 q0 q1
 cases e0 <;> cases e1 <;> simp [pr_bind, pr_prog, hs, Std.Legacy.Range.forIn_eq_forIn_range', Std.Legacy.Range.size, List.range', p0, p1, q0, q1, h0, h1, pr_pure]
end Go.Proofs.Ytomfknocpijmbaa
end
section
set_option linter.unusedVariables false
set_option linter.unusedSimpArgs false
namespace Go.Proofs.Ytomfknocpijmbaa
open Go.Am
theorem hasS (a b c d : ByteArray) : scalarBin Try.prog .eql 44 (.agg #[.string a, .string b]) (.agg #[.string c, .string d]) = some (.bool (a == c && b == d)) := by
 have hp : ∀ (x y : ByteArray), pureRun Try.prog (part 9 #[.string x, .string y] 0) = some (.string x) := fun x y => part_sc Try.underlying9 (fun _ => by simp) (fun _ _ => by simp) rfl
 have hq : ∀ (x y : ByteArray), pureRun Try.prog (part 9 #[.string x, .string y] 1) = some (.string y) := fun x y => part_sc Try.underlying9 (fun _ => by simp) (fun _ _ => by simp) rfl
 exact sb_agg_eql (by kernel_rfl) (eqin_arr2 Try.underlying44 9999 1 (by kernel_rfl) (hp a b) (hq a b) (hp c d) (hq c d) (eqin_str Try.underlying9 9998 a c) (eqin_str Try.underlying9 9998 b d))
theorem act_av4 {m : Nat} {x : List AV} (h : OkAv Try.prog slE stE m 42 x) : ∃ y : Act, AcR x y := by
 obtain ⟨k, _, hf⟩ := okav_struct Try.underlying42 h
 obtain ⟨a1, _, rfl, g1, a2, _, rfl, g2, a3, _, rfl, g3, a4, _, rfl, g4, a5, _, rfl, g5, rfl⟩ := hf
 obtain ⟨n1, rfl, _⟩ := okav_int Try.underlying3 g1
 obtain ⟨n2, rfl, _⟩ := okav_int Try.underlying3 g2
 obtain ⟨n3, rfl, _⟩ := okav_int Try.underlying3 g3
 obtain ⟨n4, rfl, _⟩ := okav_int Try.underlying3 g4
 obtain ⟨n5, rfl, _⟩ := okav_int Try.underlying3 g5
 exact ⟨⟨n1, n2, n3, n4, n5⟩, rfl⟩
set_option maxRecDepth 100000 in
theorem true_row {avs : List AV} (h : okArgs Try.prog slE stE Try.f4.params.toList avs) : AWF Try.prog ann 0 4 avs (fun _ => none) fun v _ => v = .sc (.bool true) := by
 obtain ⟨a, b, rfl, ha, hb⟩ := okArgs2 (t := 38) (u := 39) h
 obtain ⟨les, L, hlv, hL, _⟩ := okarg_slice (R := bytesR) Try.underlying38 (by kernel_rfl : Try.prog.cellsOf 27 = 1) (fun m y hy => by
  obtain ⟨l, hw, _⟩ := okav_bytes Try.underlying27 Try.underlying5 (by kernel_rfl) hy
  exact ⟨l, hw⟩) ha
 obtain ⟨aes, l, hav, hA, _⟩ := okarg_slice (R := AcR) Try.underlying39 (by kernel_rfl : Try.prog.cellsOf 42 = 5) (fun m y hy => act_av4 hy) hb
 exact true_law has hasS (fun hf => hasE hf) hlv hL hav hA _
end Go.Proofs.Ytomfknocpijmbaa
end
