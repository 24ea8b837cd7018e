/- Are ethers alike; what the reference does. -/
import Derived.Test.YtomfknocpijmbaaEtherM4
import Derived.Test.YtomfknocpijmbaaEtherM1
import Derived.Test.YtomfknocpijmbaaEtherM6
section
set_option linter.unusedVariables false
set_option linter.unusedSimpArgs false
namespace Go.Proofs.Ytomfknocpijmbaa
open Go.Am
variable {P : Program} (H : Has P)
include H
theorem at_ok (a : Int) {n : Nat} (h0 : 0 < n) (hn : n < 2 ^ 40) (h : Heap) : AWF P ann 0 31 [.sc (.int .i64 a), .sc (.int .i64 (n : Nat))] h fun r h' => r = .sc (.int .i64 (a % (n : Int))) ∧ h' = h := by
 refine AWF.fnc H.f0_31 rfl ?_
 have e := emod_rem (a := a) h0
 have hne : ((n : Nat) : Int) ≠ 0 := by omega
 have b1 := Int.tmod_lt_of_pos a (show (0 : Int) < n by omega)
 by_cases c : a.tmod (n : Int) < 0
 ·have d : decide (a.tmod (n : Int) < ((0 : Nat) : Int)) = true := by simpa using c
  have b2 := Int.lt_tmod_of_pos a (show (0 : Int) < n by omega)
  have w : IntKind.i64.wrap (a.tmod (n : Int) + (n : Int)) = a.tmod (n : Int) + (n : Int) := wrap_i64u (by omega) (by omega)
  simp (disch := omega) only [go_sem, ↓reduceIte, Nat.reduceEqDiff, Nat.reduceLeDiff, H.cv_3_66, H.cv_3_68, H.cv_68_3, sb_rem hne, d, w]
  rw [← e, if_pos c]
 ·have d : decide (a.tmod (n : Int) < ((0 : Nat) : Int)) = false := by simpa using c
  simp (disch := omega) only [go_sem, ↓reduceIte, Nat.reduceEqDiff, Nat.reduceLeDiff, H.cv_3_66, H.cv_3_68, H.cv_68_3, sb_rem hne, d]
  rw [← e, if_neg c]
theorem Count_ok {bv cv : AV} {E : Eth} {es : List (List AV)} (hb : cv.disc = cv) (hv : SF 3 bv es) (hB : RR BgR es E.bags) (hl : E.bags.length < 2 ^ 20) (hs : ∀ b ∈ E.bags, b.l.length ≤ 2 ^ 20) (h : Heap) :
  AWF P ann 0 24 [.ag [bv, cv]] h fun r h' => r = .sc (.int .i64 (cntE E : Nat)) ∧ h' = h := by
 refine AWF.fnPurec H.f0_24 rfl ?_
 have e1 := hB.len
 have bnd : ∀ i, i ≤ E.bags.length → ((E.bags.take i).map fun b => b.l.length).sum ≤ i * 2 ^ 20 := by
  intro i
  induction i with
  | zero => intro _; simp
  | succ i ih =>
   intro hi
   rw [cnt_succ (by omega)]
   have := hs _ (List.getElem_mem (show i < E.bags.length by omega))
   have := ih (by omega)
   omega
 (refine W_seq_gen fun N hN => ?_); simp (disch := omega) only [go_sem, ↓reduceIte, Nat.reduceEqDiff, Nat.reduceLeDiff, H.cv_3_66, H.cv_3_68, H.cv_68_3, hb, hv.disc]
 intro o ho
 have hO := OB.nil (h := h)
 refine hN _ ?_; clear hN N; refine W_ob (hO.new ho) fun hc hO => ?_
 have ho1 := hO.get0
 have hk := hO.keep
 refine W_f (fun t => t 1 = .op o 0 ∧ True) ?_; rintro t ⟨t1, -⟩
 clear hO
 (refine W_seq_gen fun N hN => ?_); simp (disch := omega) only [go_sem, ↓reduceIte, Nat.reduceEqDiff, Nat.reduceLeDiff, H.cv_3_66, H.cv_3_68, H.cv_68_3]
 refine hN _ ?_; clear hN N
 refine W_f (fun t => t 1 = .op o 0 ∧ t 3 = .sc (.int .i64 ((0 : Nat) : Int)) ∧ True) ?_; rintro t ⟨t1, t3, -⟩
 (refine W_seq_gen fun M hM => ?_)
 (refine W_seq_gen fun N hN => ?_); simp (disch := omega) only [go_sem, ↓reduceIte, Nat.reduceEqDiff, Nat.reduceLeDiff, H.cv_3_66, H.cv_3_68, H.cv_68_3]
 refine hN _ ?_; clear hN N
 simp (disch := omega) only [go_sem, ↓reduceIte, Nat.reduceEqDiff, Nat.reduceLeDiff, H.cv_3_66, H.cv_3_68, H.cv_68_3]
 refine AW_loopN (fun m t h' => h' = hc ∧ ∃ i, m = E.bags.length - i ∧ i ≤ E.bags.length ∧ t 1 = .op o 0 ∧ t 3 = .sc (.int .i64 (((E.bags.take i).map fun b => b.l.length).sum : Nat)) ∧ t 4 = .sc (.int .i64 (i : Nat)))
  (n := E.bags.length) ⟨rfl, 0, rfl, Nat.zero_le _, by simp [upd_at, t1], by simp [upd_at, t3], by simp [upd_at]⟩ ?_
 clear t1 t3 t ho
 rintro m t h' ⟨rfl, i, rfl, hi, t1, t3, t4⟩
 rcases Nat.lt_or_ge i E.bags.length with hlt | hge
 ·obtain ⟨e, g0, lv, xs, rfl, hlv, hxs⟩ := hB.lt hlt
  have e3 := hxs.len
  have d0 : decide (i < E.bags.length) = true := by simpa using hlt
  have hb1 := bnd i hi
  have hb2 := hs _ (List.getElem_mem hlt)
  have hb3 : i * 2 ^ 20 ≤ 2 ^ 20 * 2 ^ 20 := Nat.mul_le_mul_right _ (by omega)
  (refine W_seq_gen fun N hN => ?_); simp (disch := omega) only [go_sem, ↓reduceIte, Nat.reduceEqDiff, Nat.reduceLeDiff, H.cv_3_66, H.cv_3_68, H.cv_68_3, t1, t4, ho1, hv.same, hv.disc, hv.sl.len, e1, d0]
  refine hN _ ?_; clear hN N
  (refine W_seq_gen fun R hR => ?_)
  rw [W_block]
  simp (disch := omega) only [go_sem, ↓reduceIte, Nat.reduceEqDiff, Nat.reduceLeDiff, H.cv_3_66, H.cv_3_68, H.cv_68_3, t1, t3, t4, ho1, hv.same, hv.disc, hv.sl.ia, g0, hlv.same, hlv.disc, hlv.sl.len, e3, nat_add]
  refine hR _ ?_; clear hR R
  simp (disch := omega) only [go_sem, ↓reduceIte, Nat.reduceEqDiff, Nat.reduceLeDiff, H.cv_3_66, H.cv_3_68, H.cv_68_3, t4, nat_add]
  exact ⟨E.bags.length - (i + 1), by omega, i + 1, rfl, by omega, t1, by rw [cnt_succ hlt], rfl⟩
 ·obtain rfl : i = E.bags.length := by omega
  (refine W_seq_gen fun N hN => ?_); simp (disch := omega) only [go_sem, ↓reduceIte, Nat.reduceEqDiff, Nat.reduceLeDiff, H.cv_3_66, H.cv_3_68, H.cv_68_3, t1, t4, ho1, hv.same, hv.disc, hv.sl.len, e1, Nat.lt_irrefl]
  refine hM _ ?_; clear hN N hM M
  simp (disch := omega) only [go_sem, ↓reduceIte, Nat.reduceEqDiff, Nat.reduceLeDiff, H.cv_3_66, H.cv_3_68, H.cv_68_3, t3]
  rw [List.take_length]
  exact ⟨rfl, hk⟩
set_option maxHeartbeats 1000000 in
theorem rbend_ok {v : AV} {b : List UInt8} (hv : SF 1 v (u8s b)) (hl : b.length ≤ 2 ^ 30) (w : Int) (h : Heap) : AWF P ann 0 11 [v, .sc (.int .i64 w)] h fun r h' => r = .bs false 1 (u8s (bendB b w)) none ∧ h' = h := by
 refine AWF.fnPureA H.f0_11 rfl ?_
 have hO := OB.nil (h := h)
 have hlen := @u8s_len b
 refine A_seq_gen fun N hN => W_sound ?_
 simp (disch := omega) only [go_sem, ↓reduceIte, Nat.reduceEqDiff, Nat.reduceLeDiff, H.cv_3_66, H.cv_3_68, H.cv_68_3]
 refine hN _ ?_; clear hN N
 refine A_seq_gen fun N hN => W_sound ?_
 refine W_f (fun t => t 0 = v ∧ t 1 = .sc (.int .i64 w) ∧ True) ?_; rintro t ⟨t0, t1, -⟩
 by_cases cb : b = []
 ·subst cb
  have happ := fun (t : Nat → AV) (h : Heap) (z : List AV) (own : Bool) => appO_none (own := own) (sz := 1) (bytes := 1) (z := z) (t := t) (h := h)
  have e0 : u8s [] = [] := rfl
  simp (disch := omega) only [go_sem, ↓reduceIte, Nat.reduceEqDiff, Nat.reduceLeDiff, H.cv_3_66, H.cv_3_68, H.cv_68_3, t0, hv.same, hv.disc, hv.sl.elems, e0, happ]
  refine hN _ ?_; clear hN N
  refine .ghost (.lim (i := 5) (own := true) (sz := 1) (es := []) (lim := some 0) (by simp [upd_at])) ?_
  refine A_seq_gen fun N hN => W_sound ?_
  refine W_f (fun t => t 0 = v ∧ t 5 = .bs false 1 [] none ∧ True) ?_; rintro t ⟨t0, t5, -⟩
  have hvl := fun (t : Nat → AV) (h : Heap) => hv.sl.len (t := t) (h := h)
  simp (disch := omega) only [go_sem, ↓reduceIte, Nat.reduceEqDiff, Nat.reduceLeDiff, H.cv_3_66, H.cv_3_68, H.cv_68_3, t0, hv.same, hv.disc, hvl, t5, nat_mul, Nat.mul_zero, List.length_nil, e0]
  rfl
 ·have hb0 : 0 < b.length := List.length_pos_iff.2 cb
  have hbv : bendB b w = bendN b (w % ((8 * b.length : Nat) : Int)).toNat (patW w) 24 := by
   unfold bendB
   rw [if_neg cb]
  have happ := fun (t : Nat → AV) (h : Heap) (z : List AV) (own : Bool) => appO_new (own := own) (sz := 1) (bytes := 1) (z := z) (t := t) (h := h) (ys := u8s b) (by rw [hlen]; omega) (by rw [hlen]; omega)
  rw [ge_u8s.disc] at happ
  simp (disch := omega) only [go_sem, ↓reduceIte, Nat.reduceEqDiff, Nat.reduceLeDiff, H.cv_3_66, H.cv_3_68, H.cv_68_3, t0, hv.same, hv.disc, hv.sl.elems, happ]
  intro o cap ho0 hle
  have hk0 : ∀ x, h x ≠ none → (upd h o (some (.arr ((u8s b).flatten ++ (List.replicate (cap - b.length) [AV.sc (Value.int IntKind.u8 ((0 : Nat) : Int))]).flatten)))) x = h x := fun x hx => upd_ne _ _ fun e => hx (by rw [e]; exact ho0)
  have ho : (upd h o (some (.arr ((u8s b).flatten ++ (List.replicate (cap - b.length) [AV.sc (Value.int IntKind.u8 ((0 : Nat) : Int))]).flatten)))) o = some (.arr ((u8s b).flatten ++ (List.replicate (cap - b.length) [AV.sc (Value.int IntKind.u8 ((0 : Nat) : Int))]).flatten)) := upd_same ..
  refine hN _ ?_; clear hN N
  refine A_seq_gen fun N hN => W_sound ?_
  refine W_f (fun t => t 0 = v ∧ t 1 = .sc (.int .i64 w) ∧ t 5 = .rs o 0 1 b.length (some cap) ∧ True) ?_; rintro t ⟨t0, t1, t5, -⟩
  generalize (upd h o (some (.arr ((u8s b).flatten ++ (List.replicate (cap - b.length) [AV.sc (Value.int IntKind.u8 ((0 : Nat) : Int))]).flatten)))) = h1 at hk0 ho
  generalize (List.replicate (cap - b.length) [AV.sc (Value.int IntKind.u8 ((0 : Nat) : Int))]).flatten = z at ho
  have c8 : decide (b.length = 0) = false := decide_eq_false (by omega)
  simp (disch := omega) only [go_sem, ↓reduceIte, Nat.reduceEqDiff, Nat.reduceLeDiff, H.cv_3_66, H.cv_3_68, H.cv_68_3, t0, hv.same, hv.disc, hv.sl.len, hlen, c8]
  refine hN _ ?_; clear hN N
  refine A_seq_gen fun N hN => W_sound ?_
  refine W_f (fun t => t 0 = v ∧ t 1 = .sc (.int .i64 w) ∧ t 5 = .rs o 0 1 b.length (some cap) ∧ True) ?_; rintro t ⟨t0, t1, t5, -⟩
  obtain ⟨p, hp⟩ : ∃ p, p = (w % ((8 * b.length : Nat) : Int)).toNat := ⟨_, rfl⟩
  have hpi : w % ((8 * b.length : Nat) : Int) = (p : Int) := by
   have := Int.emod_nonneg w (show ((8 * b.length : Nat) : Int) ≠ 0 by omega)
   omega
  have hpl : p < 8 * b.length := by
   have := Int.emod_lt_of_pos w (show (0 : Int) < ((8 * b.length : Nat) : Int) by omega)
   omega
  rw [← hp] at hbv
  simp (disch := omega) only [go_sem, ↓reduceIte, Nat.reduceEqDiff, Nat.reduceLeDiff, H.cv_3_66, H.cv_3_68, H.cv_68_3, t0, t1, hv.same, hv.disc, hv.sl.len, hlen, nat_mul]
  refine (at_ok H w (n := 8 * b.length) (by omega) (by omega) _).mono ?_
  rw [hpi]
  rintro _ _ ⟨rfl, hh⟩; subst hh
  rw [contK_some]; simp (disch := omega) only [go_sem, ↓reduceIte, Nat.reduceEqDiff, Nat.reduceLeDiff, H.cv_3_66, H.cv_3_68, H.cv_68_3]
  refine hN _ ?_; clear hN N
  refine A_seq_gen fun N hN => W_sound ?_
  refine W_f (fun t => t 0 = v ∧ t 1 = .sc (.int .i64 w) ∧ t 5 = .rs o 0 1 b.length (some cap) ∧ t 6 = .sc (.int .i64 (p : Nat)) ∧ True) ?_; rintro t ⟨t0, t1, t5, t6, -⟩
  obtain ⟨m, hm⟩ : ∃ m, m = patW w := ⟨_, rfl⟩
  have hml : m < 4294967296 := by rw [hm]; unfold patW; omega
  have hw1 : IntKind.u32.wrap (((((w % 4294967296).toNat * 40503) % 4294967296 : Nat) : Int) + ((1 : Nat) : Int)) = (m : Int) := by rw [nat_add, u32_nat, hm]; rfl
  have hw2 : IntKind.u32.wrap ((((w % 4294967296).toNat : Nat) : Int) * ((40503 : Nat) : Int)) = ((((w % 4294967296).toNat * 40503) % 4294967296 : Nat) : Int) := by rw [nat_mul, u32_nat]
  have hw3 := @u32_of w
  rw [← hm] at hbv
  generalize ((w % 4294967296).toNat) = y at hw1 hw2 hw3
  generalize y * 40503 % 4294967296 = y2 at hw1 hw2
  simp (disch := omega) only [go_sem, ↓reduceIte, Nat.reduceEqDiff, Nat.reduceLeDiff, H.cv_3_66, H.cv_3_68, H.cv_68_3, t1, hw3, hw2, hw1]
  refine hN _ ?_; clear hN N
  refine A_seq_gen fun M hM => W_sound ?_
  refine W_f (fun t => t 0 = v ∧ t 5 = .rs o 0 1 b.length (some cap) ∧ t 6 = .sc (.int .i64 (p : Nat)) ∧ t 7 = .sc (.int .u32 (m : Nat)) ∧ True) ?_; rintro t ⟨t0, t5, t6, t7, -⟩
  simp (disch := omega) only [go_sem, ↓reduceIte, Nat.reduceEqDiff, Nat.reduceLeDiff, H.cv_3_66, H.cv_3_68, H.cv_68_3]
  refine AW_loopN (fun k t h' => ∃ i q, k = 24 - i ∧ i ≤ 24 ∧ q = bendN b p m i ∧ (∀ x, h x ≠ none → h' x = h x) ∧ h' o = some (.arr ((u8s q).flatten ++ z)) ∧ t 0 = v ∧ t 5 = .rs o 0 1 b.length (some cap) ∧ t 6 = .sc (.int .i64 (p : Nat)) ∧ t 7 = .sc (.int .u32 (m : Nat)) ∧ t 8 = .sc (.int .i64 (i : Nat)))
   (n := 24) ⟨0, b, rfl, by omega, rfl, hk0, ho, by simp [upd_at, t0], by simp [upd_at, t5], by simp [upd_at, t6], by simp [upd_at, t7], by simp [upd_at]⟩ ?_
  clear t0 t5 t6 t7 hk0 ho t
  rintro k t h' ⟨i, q, rfl, hi, hqe, hk0, ho, t0, t5, t6, t7, t8⟩
  have hq : q.length = b.length := by rw [hqe, bendN_len]
  have hvl := fun (t : Nat → AV) (h : Heap) => hv.sl.len (t := t) (h := h)
  by_cases c : i < 24
  ·(refine W_seq_gen fun N hN => ?_); simp (disch := omega) only [go_sem, ↓reduceIte, Nat.reduceEqDiff, Nat.reduceLeDiff, H.cv_3_66, H.cv_3_68, H.cv_68_3, t8, c]
   refine hN _ ?_; clear hN N
   (refine W_seq_gen fun K hK => ?_)
   rw [W_block]
   (refine W_seq_gen fun N hN => ?_); simp (disch := omega) only [go_sem, ↓reduceIte, Nat.reduceEqDiff, Nat.reduceLeDiff, H.cv_3_66, H.cv_3_68, H.cv_68_3, t6, t8, nat_add]
   refine hN _ ?_; clear hN N
   have hsucc : bendN b p m (i + 1) = stepW p m q i := by rw [bendN_succ, hqe]
   have wu : IntKind.u64.wrap ((i : Nat) : Int) = ((i : Nat) : Int) := by rw [wrap_u64m]; omega
   have r2 : (((m / 2 ^ i : Nat) : Int)).tmod ((2 : Nat) : Int) = ((m / 2 ^ i % 2 : Nat) : Int) := rfl
   by_cases d2 : p + i < 8 * b.length
   ·have dd2 : decide (p + i < 8 * b.length) = true := decide_eq_true d2
    by_cases d : m / 2 ^ i % 2 = 1
    ·have dd : decide (m / 2 ^ i % 2 = 1) = true := decide_eq_true d
     have hp8 : (p + i) / 8 < q.length := by omega
     have hat := at_u8s q z hp8
     have hlt := q[(p + i) / 8].toNat_lt
     have h2e : 2 ^ (7 - (p + i) % 8) < 256 := Nat.pow_lt_pow_right (n := 8) (by decide) (by omega)
     have hx := sb_xor (P := P) (ty := 5) (k := .u8) (a := q[(p + i) / 8].toNat) (b := 2 ^ (7 - (p + i) % 8)) rfl (by exact hlt) (by exact h2e)
     have r8 : (((p + i : Nat) : Int)).tmod ((8 : Nat) : Int) = (((p + i) % 8 : Nat) : Int) := rfl
     have s7 : ((7 : Nat) : Int) - (((p + i) % 8 : Nat) : Int) = ((7 - (p + i) % 8 : Nat) : Int) := by omega
     have w7 : IntKind.u64.wrap ((7 - (p + i) % 8 : Nat) : Int) = ((7 - (p + i) % 8 : Nat) : Int) := by rw [wrap_u64m]; omega
     have hset := setW (z := z) hp8
     have hll : (p + i) / 8 + 1 ≤ ((u8s q).flatten ++ z).length := by rw [List.length_append, flat_u8s, List.length_map]; omega
     have hiad := fun (t : Nat → AV) (h : Heap) => iad_rs (o := o) (n := b.length) (lim := some cap) (t := t) (h := h) (show (p + i) / 8 < b.length by omega)
     simp (disch := omega) only [go_sem, ↓reduceIte, Nat.reduceEqDiff, Nat.reduceLeDiff, H.cv_3_66, H.cv_3_68, H.cv_68_3, t0, t5, t7, t8, hv.same, hv.disc, hvl, hlen, nat_mul, sb_shr32, wu, r2, d, dd, d2, dd2, nat_add, r8, s7, w7, sb_q8, hiad, sb_sh8, ho, hll, hat, single1, hx, hset]
     refine hK _ ?_; clear hK K
     simp (disch := omega) only [go_sem, ↓reduceIte, Nat.reduceEqDiff, Nat.reduceLeDiff, H.cv_3_66, H.cv_3_68, H.cv_68_3, t8, nat_add]
     exact ⟨24 - (i + 1), by omega, i + 1, turn q (p + i), rfl, by omega, by rw [hsucc]; unfold stepW; rw [if_pos ⟨d, by omega⟩], fun x hx => by rw [if_neg (fun e => hx (by rw [e]; exact ho0))]; exact hk0 x hx, by simp [upd, ho], by simp [upd_at, t0], by simp [upd_at, t5], by simp [upd_at, t6], by simp [upd_at, t7], by simp [upd_at]⟩
    ·have dd : decide (m / 2 ^ i % 2 = 1) = false := decide_eq_false d
     simp (disch := omega) only [go_sem, ↓reduceIte, Nat.reduceEqDiff, Nat.reduceLeDiff, H.cv_3_66, H.cv_3_68, H.cv_68_3, t0, t7, t8, hv.same, hv.disc, hvl, hlen, nat_mul, sb_shr32, wu, r2, d, dd, d2, dd2]
     refine hK _ ?_; clear hK K
     simp (disch := omega) only [go_sem, ↓reduceIte, Nat.reduceEqDiff, Nat.reduceLeDiff, H.cv_3_66, H.cv_3_68, H.cv_68_3, t8, nat_add]
     exact ⟨24 - (i + 1), by omega, i + 1, q, rfl, by omega, by rw [hsucc]; unfold stepW; rw [if_neg (fun q => d q.1)], hk0, by simp [upd, ho], by simp [upd_at, t0], by simp [upd_at, t5], by simp [upd_at, t6], by simp [upd_at, t7], by simp [upd_at]⟩
   ·have dd2 : decide (p + i < 8 * b.length) = false := decide_eq_false d2
    simp (disch := omega) only [go_sem, ↓reduceIte, Nat.reduceEqDiff, Nat.reduceLeDiff, H.cv_3_66, H.cv_3_68, H.cv_68_3, t0, t7, t8, hv.same, hv.disc, hvl, hlen, nat_mul, d2, dd2]
    refine hK _ ?_; clear hK K
    simp (disch := omega) only [go_sem, ↓reduceIte, Nat.reduceEqDiff, Nat.reduceLeDiff, H.cv_3_66, H.cv_3_68, H.cv_68_3, t8, nat_add]
    exact ⟨24 - (i + 1), by omega, i + 1, q, rfl, by omega, by rw [hsucc]; unfold stepW; rw [if_neg (fun q => d2 (by omega))], hk0, by simp [upd, ho], by simp [upd_at, t0], by simp [upd_at, t5], by simp [upd_at, t6], by simp [upd_at, t7], by simp [upd_at]⟩
  ·(refine W_seq_gen fun N hN => ?_); simp (disch := omega) only [go_sem, ↓reduceIte, Nat.reduceEqDiff, Nat.reduceLeDiff, H.cv_3_66, H.cv_3_68, H.cv_68_3, t8, c]
   refine hM _ ?_
   obtain rfl : i = 24 := by omega
   have hcl : 0 + b.length * 1 ≤ ((u8s q).flatten ++ z).length := by rw [List.length_append, flat_u8s, List.length_map]; omega
   have hch : chunks 1 b.length ((((u8s q).flatten ++ z).drop 0).map AV.disc) = u8s q := by
    have := (ge_u8s (l := q)).chunks (z.map AV.disc)
    rw [u8s_len, hq] at this
    rw [List.drop_zero, List.map_append, (ge_u8s (l := q)).disc, this]
   refine .ghost (.slot (i := 5) (o := o) (c := 0) (sz := 1) (n := b.length) (lim := some cap) false (by simp [upd_at, t5]) ho hcl (fun q => by cases q)) ?_
   rw [hch]
   refine .ghost (.lim (i := 5) (own := false) (sz := 1) (es := u8s q) (lim := some cap) (by simp [upd_at])) (W_sound ?_)
   simp (disch := omega) only [go_sem, ↓reduceIte, Nat.reduceEqDiff, Nat.reduceLeDiff, H.cv_3_66, H.cv_3_68, H.cv_68_3]
   exact ⟨by rw [hbv, hqe], fun x hx => by rw [if_neg (fun e => hx (by rw [e]; exact ho0))]; exact hk0 x hx⟩
end Go.Proofs.Ytomfknocpijmbaa
end
section
set_option linter.unusedVariables false
set_option linter.unusedSimpArgs false
namespace Go.Proofs.Ytomfknocpijmbaa
open Go.Am
noncomputable def sameB (E E' : Eth) : Bool := @decide (E = E') (Classical.propDecidable _)
theorem sameB_true {E E' : Eth} : sameB E E' = true ↔ E = E' := by unfold sameB; simp
theorem sameB_no {E E' : Eth} (h : E ≠ E') : sameB E E' = false := by
 cases c : sameB E E' with
 | false => rfl
 | true => exact absurd (sameB_true.1 c) h
theorem neN {a b : Nat} : ((a : Int) != (b : Int)) = !decide (a = b) := by
 by_cases c : a = b
 ·subst c; simp
 ·have : (a : Int) ≠ (b : Int) := by omega
  simp [c, this]
theorem neI {a b : Int} : (a != b) = !decide (a = b) := by
 by_cases c : a = b
 ·subst c; simp
 ·simp [c]
variable {P : Program} (H : Has P)
include H
set_option maxHeartbeats 2000000 in
theorem same_ok (hNE : ∀ p q : Bool, scalarBin P .neq 4 (.bool p) (.bool q) = some (.bool (p != q)))
  (hA : ∀ a b c d : Int, scalarBin P .neq 69 (.agg #[.int .i64 a, .int .i64 b]) (.agg #[.int .i64 c, .int .i64 d]) = some (.bool (!(a == c && b == d))))
  {bv cv bv' cv' : AV} {E E' : Eth} {bes ces bes' ces' : List (List AV)} (hbv : SF 3 bv bes) (hB : RR BgR bes E.bags) (hcv : SF 2 cv ces) (hC : RR CK ces E.cuts)
  (hbv' : SF 3 bv' bes') (hB' : RR BgR bes' E'.bags) (hcv' : SF 2 cv' ces') (hC' : RR CK ces' E'.cuts) (hz : Szd E) (h : Heap) :
  AWF P ann 0 14 [.ag [bv, cv], .ag [bv', cv']] h fun r h' => r = .sc (.bool (sameB E E')) ∧ h' = h := by
 refine AWF.fnPurec H.f0_14 rfl ?_
 have e1 := hC.len
 have e2 := hB.len
 have e1' := hC'.len
 have e2' := hB'.len
 obtain ⟨z1, z2, z3⟩ := hz
 (refine W_seq_gen fun N hN => ?_); simp (disch := omega) only [go_sem, ↓reduceIte, Nat.reduceEqDiff, Nat.reduceLeDiff, H.cv_3_66, H.cv_3_68, H.cv_68_3, hbv.disc, hcv.disc, hbv'.disc, hcv'.disc]
 intro o2 ho2 o3 ho3
 obtain ⟨h2, hh, f2, f3, hk⟩ := box2 ho2 ho3 (Y := some (.arr [bv', cv']))
 refine hN _ ?_; clear hN N
 rw [hh]
 clear hh ho2 ho3
 refine W_f (fun t => t 2 = .op o2 0 ∧ t 3 = .op o3 0 ∧ True) ?_; rintro t ⟨t2, t3, -⟩
 rcases (Decidable.em (E.cuts.length = E'.cuts.length)).symm with c1 | c1
 ·have hn : sameB E E' = false := sameB_no fun q => c1 (by rw [q])
  (refine W_seq_gen fun N hN => ?_); simp (disch := omega) only [go_sem, ↓reduceIte, Nat.reduceEqDiff, Nat.reduceLeDiff, H.cv_3_66, H.cv_3_68, H.cv_68_3, t2, t3, f2, f3, hcv.same, hcv'.same, hcv.disc, hcv'.disc, hcv.sl.len, hcv'.sl.len, e1, e1', neN, c1]
  exact ⟨hn.symm, hk⟩
 rcases (Decidable.em (E.bags.length = E'.bags.length)).symm with c2 | c2
 ·have hn : sameB E E' = false := sameB_no fun q => c2 (by rw [q])
  (refine W_seq_gen fun N hN => ?_); simp (disch := omega) only [go_sem, ↓reduceIte, Nat.reduceEqDiff, Nat.reduceLeDiff, H.cv_3_66, H.cv_3_68, H.cv_68_3, t2, t3, f2, f3, hcv.same, hcv'.same, hcv.disc, hcv'.disc, hcv.sl.len, hcv'.sl.len, hbv.same, hbv'.same, hbv.disc, hbv'.disc, hbv.sl.len, hbv'.sl.len, e1, e1', e2, e2', neN, c1, c2]
  exact ⟨hn.symm, hk⟩
 have d1 : decide (E.cuts.length = E'.cuts.length) = true := decide_eq_true c1
 have d2 : decide (E.bags.length = E'.bags.length) = true := decide_eq_true c2
 (refine W_seq_gen fun N hN => ?_); simp (disch := omega) only [go_sem, ↓reduceIte, Nat.reduceEqDiff, Nat.reduceLeDiff, H.cv_3_66, H.cv_3_68, H.cv_68_3, t2, t3, f2, f3, hcv.same, hcv'.same, hcv.disc, hcv'.disc, hcv.sl.len, hcv'.sl.len, hbv.same, hbv'.same, hbv.disc, hbv'.disc, hbv.sl.len, hbv'.sl.len, e1, e1', e2, e2', neN, d1, d2]
 refine hN _ ?_; clear hN N
 clear d1 d2
 refine W_f (fun t => t 2 = .op o2 0 ∧ t 3 = .op o3 0 ∧ True) ?_; rintro t ⟨t2, t3, -⟩
 (refine W_seq_gen fun M hM => ?_)
 (refine W_seq_gen fun N hN => ?_); simp (disch := omega) only [go_sem, ↓reduceIte, Nat.reduceEqDiff, Nat.reduceLeDiff, H.cv_3_66, H.cv_3_68, H.cv_68_3]
 refine hN _ ?_; clear hN N
 simp (disch := omega) only [go_sem, ↓reduceIte, Nat.reduceEqDiff, Nat.reduceLeDiff, H.cv_3_66, H.cv_3_68, H.cv_68_3]
 refine AW_loopN (fun m t h' => (∀ x, ¬ h x = none → h' x = h x) ∧ h' o2 = some (.arr [bv, cv]) ∧ h' o3 = some (.arr [bv', cv']) ∧ ∃ i, m = E.cuts.length - i ∧ i ≤ E.cuts.length ∧ t 2 = .op o2 0 ∧ t 3 = .op o3 0 ∧ t 5 = .sc (.int .i64 (i : Nat)) ∧ ∀ j, j < i → E.cuts[j]? = E'.cuts[j]?)
  (n := E.cuts.length) ⟨hk, f2, f3, 0, rfl, Nat.zero_le _, by simp [upd_at, t2], by simp [upd_at, t3], by simp [upd_at], fun j hj => by omega⟩ ?_
 clear t2 t3 t hk f2 f3
 rintro m t h' ⟨hk, f2, f3, i, rfl, hi, t2, t3, t5, hgood⟩
 rcases Nat.lt_or_ge i E.cuts.length with hlt | hge
 ·obtain ⟨e, g0, rfl⟩ := hC.lt hlt
  obtain ⟨e', g0', rfl⟩ := hC'.lt (i := i) (by omega)
  have d0 : decide (i < E.cuts.length) = true := by simpa using hlt
  (refine W_seq_gen fun N hN => ?_); simp (disch := omega) only [go_sem, ↓reduceIte, Nat.reduceEqDiff, Nat.reduceLeDiff, H.cv_3_66, H.cv_3_68, H.cv_68_3, t2, t5, f2, hcv.same, hcv.disc, hcv.sl.len, e1, d0]
  refine hN _ ?_; clear hN N
  (refine W_seq_gen fun R hR => ?_)
  rw [W_block]
  cases c3 : (E.cuts[i].1 == E'.cuts[i].1 && E.cuts[i].2 == E'.cuts[i].2) with
  | true =>
   simp (disch := omega) only [go_sem, ↓reduceIte, Nat.reduceEqDiff, Nat.reduceLeDiff, H.cv_3_66, H.cv_3_68, H.cv_68_3, t2, t3, t5, f2, f3, hcv.same, hcv'.same, hcv.disc, hcv'.disc, hcv.sl.ia, hcv'.sl.ia, g0, g0', hA, c3]
   refine hR _ ?_; clear hR R
   simp (disch := omega) only [go_sem, ↓reduceIte, Nat.reduceEqDiff, Nat.reduceLeDiff, H.cv_3_66, H.cv_3_68, H.cv_68_3, t5, nat_add]
   refine ⟨E.cuts.length - (i + 1), by omega, hk, f2, f3, i + 1, rfl, by omega, by simp [upd_at, t2], by simp [upd_at, t3], by simp [upd_at], fun j hj => ?_⟩
   rcases Nat.lt_or_ge j i with q | q
   ·exact hgood j q
   ·obtain rfl : j = i := by omega
    rw [Bool.and_eq_true, beq_iff_eq, beq_iff_eq] at c3
    rw [List.getElem?_eq_getElem hlt, List.getElem?_eq_getElem (by omega)]
    exact congrArg some (Prod.ext c3.1 c3.2)
  | false =>
   simp (disch := omega) only [go_sem, ↓reduceIte, Nat.reduceEqDiff, Nat.reduceLeDiff, H.cv_3_66, H.cv_3_68, H.cv_68_3, t2, t3, t5, f2, f3, hcv.same, hcv'.same, hcv.disc, hcv'.disc, hcv.sl.ia, hcv'.sl.ia, g0, g0', hA, c3]
   have hn : sameB E E' = false := sameB_no fun q => by
    subst q
    simp at c3
   exact ⟨hn.symm, hk⟩
 ·obtain rfl : i = E.cuts.length := by omega
  have hcut : E.cuts = E'.cuts := by
   refine List.ext_getElem? fun j => ?_
   rcases Nat.lt_or_ge j E.cuts.length with q | q
   ·exact hgood j q
   ·rw [List.getElem?_eq_none q, List.getElem?_eq_none (by omega)]
  (refine W_seq_gen fun N hN => ?_); simp (disch := omega) only [go_sem, ↓reduceIte, Nat.reduceEqDiff, Nat.reduceLeDiff, H.cv_3_66, H.cv_3_68, H.cv_68_3, t2, t5, f2, hcv.same, hcv.disc, hcv.sl.len, e1, Nat.lt_irrefl]
  refine hM _ ?_; clear hN N hM M
  clear hgood
  refine W_f (fun t => t 2 = .op o2 0 ∧ t 3 = .op o3 0 ∧ True) ?_; rintro t ⟨t2, t3, -⟩
  (refine W_seq_gen fun M hM => ?_)
  (refine W_seq_gen fun N hN => ?_); simp (disch := omega) only [go_sem, ↓reduceIte, Nat.reduceEqDiff, Nat.reduceLeDiff, H.cv_3_66, H.cv_3_68, H.cv_68_3]
  refine hN _ ?_; clear hN N
  simp (disch := omega) only [go_sem, ↓reduceIte, Nat.reduceEqDiff, Nat.reduceLeDiff, H.cv_3_66, H.cv_3_68, H.cv_68_3]
  refine AW_loopN (fun m t h' => (∀ x, ¬ h x = none → h' x = h x) ∧ h' o2 = some (.arr [bv, cv]) ∧ h' o3 = some (.arr [bv', cv']) ∧ ∃ i, m = E.bags.length - i ∧ i ≤ E.bags.length ∧ t 2 = .op o2 0 ∧ t 3 = .op o3 0 ∧ t 6 = .sc (.int .i64 (i : Nat)) ∧ ∀ j, j < i → E.bags[j]? = E'.bags[j]?)
   (n := E.bags.length) ⟨hk, f2, f3, 0, rfl, Nat.zero_le _, by simp [upd_at, t2], by simp [upd_at, t3], by simp [upd_at], fun j hj => by omega⟩ ?_
  clear t2 t3 t hk f2 f3
  rintro m t h' ⟨hk, f2, f3, i, rfl, hi, t2, t3, t6, hgood⟩
  rcases Nat.lt_or_ge i E.bags.length with hlt | hge
  ·obtain ⟨e, g0, lv, xs, rfl, hlv, hxs⟩ := hB.lt hlt
   obtain ⟨e', g0', lv', xs', rfl, hlv', hxs'⟩ := hB'.lt (i := i) (by omega)
   have d0 : decide (i < E.bags.length) = true := by simpa using hlt
   (refine W_seq_gen fun N hN => ?_); simp (disch := omega) only [go_sem, ↓reduceIte, Nat.reduceEqDiff, Nat.reduceLeDiff, H.cv_3_66, H.cv_3_68, H.cv_68_3, t2, t6, f2, hbv.same, hbv.disc, hbv.sl.len, e2, d0]
   refine hN _ ?_; clear hN N
   (refine W_seq_gen fun R hR => ?_)
   rw [W_block]
   (refine W_seq_gen fun N hN => ?_); refine ln14_51 ?_; simp (disch := omega) only [go_sem, ↓reduceIte, Nat.reduceEqDiff, Nat.reduceLeDiff, H.cv_3_66, H.cv_3_68, H.cv_68_3, t2, t3, t6, f2, f3, hbv.same, hbv'.same, hbv.disc, hbv'.disc, hbv.sl.ia, hbv'.sl.ia, g0, g0', hlv.disc, hlv'.disc]
   intro o7 ho7 o8 ho8
   obtain ⟨h3, hh, f7, f8, hk3⟩ := box2 ho7 ho8 (Y := some (.arr [.sc (.int .i64 ((0 : Nat) : Int)), .sc (.int .i64 ((0 : Nat) : Int)), .sc (.slice none 0 0)]))
   rw [hh]
   have n2 : h3 o2 = some (.arr [bv, cv]) := (hk3 o2 (by rw [f2]; simp)).trans f2
   have n3 : h3 o3 = some (.arr [bv', cv']) := (hk3 o3 (by rw [f3]; simp)).trans f3
   have n78 : o7 ≠ o8 := fun e => by subst e; simp at ho8
   have n72 : o7 ≠ o2 := fun e => by subst e; rw [f2] at ho7; cases ho7
   have n73 : o7 ≠ o3 := fun e => by subst e; rw [f3] at ho7; cases ho7
   have n8 : h' o8 = none := by simpa [n78.symm] using ho8
   have n82 : o8 ≠ o2 := fun e => by subst e; rw [f2] at n8; cases n8
   have n83 : o8 ≠ o3 := fun e => by subst e; rw [f3] at n8; cases n8
   have n87 := n78.symm
   have setR3 : ∀ (a b c x y z : AV), setRange [a, b, c] 0 [x, y, z] = [x, y, z] := fun _ _ _ _ _ _ => rfl
   simp (disch := omega) only [go_sem, ↓reduceIte, Nat.reduceEqDiff, Nat.reduceLeDiff, H.cv_3_66, H.cv_3_68, H.cv_68_3, f7, f8, n78, n87, setR3, hlv.disc, hlv'.disc]
   refine ⟨⟨by rw [if_neg n73.symm], fun _ q => by cases q⟩, ?_⟩
   have g7 : (upd (upd h3 o7 (some (.arr [.sc (.int .i64 E.bags[i].k.1), .sc (.int .i64 E.bags[i].k.2), lv]))) o8 (some (.arr [.sc (.int .i64 E'.bags[i].k.1), .sc (.int .i64 E'.bags[i].k.2), lv']))) o7 = some (.arr [.sc (.int .i64 E.bags[i].k.1), .sc (.int .i64 E.bags[i].k.2), lv]) := by rw [upd_ne _ _ n78, upd_same]
   have g8 : (upd (upd h3 o7 (some (.arr [.sc (.int .i64 E.bags[i].k.1), .sc (.int .i64 E.bags[i].k.2), lv]))) o8 (some (.arr [.sc (.int .i64 E'.bags[i].k.1), .sc (.int .i64 E'.bags[i].k.2), lv']))) o8 = some (.arr [.sc (.int .i64 E'.bags[i].k.1), .sc (.int .i64 E'.bags[i].k.2), lv']) := upd_same ..
   have gk : ∀ x, h' x ≠ none → (upd (upd h3 o7 (some (.arr [.sc (.int .i64 E.bags[i].k.1), .sc (.int .i64 E.bags[i].k.2), lv]))) o8 (some (.arr [.sc (.int .i64 E'.bags[i].k.1), .sc (.int .i64 E'.bags[i].k.2), lv']))) x = h' x := fun x hx => by
    rw [upd_ne _ _ (fun e => hx (by rw [e]; exact n8)), upd_ne _ _ (fun e => hx (by rw [e]; exact ho7))]
    exact hk3 x hx
   generalize upd (upd h3 o7 (some (.arr [.sc (.int .i64 E.bags[i].k.1), .sc (.int .i64 E.bags[i].k.2), lv]))) o8 (some (.arr [.sc (.int .i64 E'.bags[i].k.1), .sc (.int .i64 E'.bags[i].k.2), lv'])) = h4 at g7 g8 gk
   have g2 := (gk o2 (by rw [f2]; simp)).trans f2
   have g3 := (gk o3 (by rw [f3]; simp)).trans f3
   have gkk : ∀ x, ¬ h x = none → h4 x = h x := fun x hx => (gk x (by rw [hk x hx]; exact hx)).trans (hk x hx)
   clear n2 n3 n78 n72 n73 n8 n82 n83 n87 f7 f8 hk3 hh gk ho7 ho8 h3 hk f2 f3
   refine hN _ ?_; clear hN N
   refine W_f (fun t => t 2 = .op o2 0 ∧ t 3 = .op o3 0 ∧ t 6 = .sc (.int .i64 (i : Nat)) ∧ t 7 = .op o7 0 ∧ t 8 = .op o8 0 ∧ True) ?_; rintro t ⟨t2, t3, t6, t7, t8, -⟩
   have e4 := hxs.len
   have e4' := hxs'.len
   have no : E.bags[i] ≠ E'.bags[i] → sameB E E' = false := fun q => sameB_no fun r => q (by subst r; rfl)
   generalize hb : E.bags[i] = b at *
   generalize hb' : E'.bags[i] = b' at *
   rcases (Decidable.em (b.k.1 = b'.k.1)).symm with c3 | c3
   ·simp (disch := omega) only [go_sem, ↓reduceIte, Nat.reduceEqDiff, Nat.reduceLeDiff, H.cv_3_66, H.cv_3_68, H.cv_68_3, t7, t8, g7, g8, neI, c3]
    exact ⟨(no fun q => c3 (by rw [q])).symm, gkk⟩
   rcases (Decidable.em (b.k.2 = b'.k.2)).symm with c4 | c4
   ·simp (disch := omega) only [go_sem, ↓reduceIte, Nat.reduceEqDiff, Nat.reduceLeDiff, H.cv_3_66, H.cv_3_68, H.cv_68_3, t7, t8, g7, g8, neI, c3, c4]
    exact ⟨(no fun q => c4 (by rw [q])).symm, gkk⟩
   rcases (Decidable.em (b.l.length = b'.l.length)).symm with c5 | c5
   ·have c5i : ¬ ((b.l.length : Int) = (b'.l.length : Int)) := by omega
    simp (disch := omega) only [go_sem, ↓reduceIte, Nat.reduceEqDiff, Nat.reduceLeDiff, H.cv_3_66, H.cv_3_68, H.cv_68_3, t7, t8, g7, g8, neI, c3, c4, c5i, hlv.same, hlv'.same, hlv.disc, hlv'.disc, hlv.sl.len, hlv'.sl.len, e4, e4']
    exact ⟨(no fun q => c5 (by rw [q])).symm, gkk⟩
   (refine W_seq_gen fun N hN => ?_); simp (disch := omega) only [go_sem, ↓reduceIte, Nat.reduceEqDiff, Nat.reduceLeDiff, H.cv_3_66, H.cv_3_68, H.cv_68_3, t7, t8, g7, g8, neI, neN, c3, c4, c5, hlv.same, hlv'.same, hlv.disc, hlv'.disc, hlv.sl.len, hlv'.sl.len, e4, e4']
   refine hN _ ?_; clear hN N
   refine W_f (fun t => t 2 = .op o2 0 ∧ t 3 = .op o3 0 ∧ t 6 = .sc (.int .i64 (i : Nat)) ∧ t 7 = .op o7 0 ∧ t 8 = .op o8 0 ∧ True) ?_; rintro t ⟨t2, t3, t6, t7, t8, -⟩
   have zb := (z3 b (by rw [← hb]; exact List.getElem_mem hlt)).1
   have step : b.l = b'.l → ∀ j, j < i + 1 → E.bags[j]? = E'.bags[j]? := fun q j hj => by
    rcases Nat.lt_or_ge j i with r | r
    ·exact hgood j r
    ·obtain rfl : j = i := by omega
     rw [List.getElem?_eq_getElem hlt, List.getElem?_eq_getElem (by omega), hb, hb']
     cases b
     cases b'
     cases q
     exact congrArg (fun k => some (Bg.mk k _)) (Prod.ext c3 c4)
   clear hgood
   (refine W_seq_gen fun N hN => ?_); simp (disch := omega) only [go_sem, ↓reduceIte, Nat.reduceEqDiff, Nat.reduceLeDiff, H.cv_3_66, H.cv_3_68, H.cv_68_3]
   refine hN _ ?_; clear hN N
   simp (disch := omega) only [go_sem, ↓reduceIte, Nat.reduceEqDiff, Nat.reduceLeDiff, H.cv_3_66, H.cv_3_68, H.cv_68_3]
   refine AW_loopN (fun m t h' => (∀ x, ¬ h x = none → h' x = h x) ∧ h' o2 = some (.arr [bv, cv]) ∧ h' o3 = some (.arr [bv', cv']) ∧ h' o7 = some (.arr [.sc (.int .i64 b.k.1), .sc (.int .i64 b.k.2), lv]) ∧ h' o8 = some (.arr [.sc (.int .i64 b'.k.1), .sc (.int .i64 b'.k.2), lv']) ∧
     ∃ n, m = b.l.length - n ∧ n ≤ b.l.length ∧ t 2 = .op o2 0 ∧ t 3 = .op o3 0 ∧ t 6 = .sc (.int .i64 (i : Nat)) ∧ t 7 = .op o7 0 ∧ t 8 = .op o8 0 ∧ t 9 = .sc (.int .i64 (n : Nat)) ∧ ∀ j, j < n → b.l[j]? = b'.l[j]?)
    (n := b.l.length) ⟨gkk, g2, g3, g7, g8, 0, rfl, Nat.zero_le _, by simp [upd_at, t2], by simp [upd_at, t3], by simp [upd_at, t6], by simp [upd_at, t7], by simp [upd_at, t8], by simp [upd_at], fun j hj => by omega⟩ ?_
   clear t2 t3 t6 t7 t8 t gkk g2 g3 g7 g8 h4
   rintro m t h4 ⟨gkk, g2, g3, g7, g8, n, rfl, hn, t2, t3, t6, t7, t8, t9, hgood⟩
   rcases Nat.lt_or_ge n b.l.length with hlt2 | hge2
   ·obtain ⟨e, g0, w, rfl, hw⟩ := hxs.lt hlt2
    obtain ⟨e', g0', w', rfl, hw'⟩ := hxs'.lt (i := n) (by omega)
    have d0 : decide (n < b.l.length) = true := by simpa using hlt2
    (refine W_seq_gen fun N hN => ?_); simp (disch := omega) only [go_sem, ↓reduceIte, Nat.reduceEqDiff, Nat.reduceLeDiff, H.cv_3_66, H.cv_3_68, H.cv_68_3, t7, t9, g7, hlv.same, hlv.disc, hlv.sl.len, e4, d0]
    refine hN _ ?_; clear hN N
    (refine W_seq_gen fun R2 hR2 => ?_)
    rw [W_block]
    have no2 : b.l[n] ≠ b'.l[n] → sameB E E' = false := fun q => no fun r => q (by subst r; rfl)
    generalize hp : b.l[n] = p at *
    generalize hp' : b'.l[n] = p' at *
    rcases (Decidable.em (p.2 = p'.2)).symm with c6 | c6
    ·have d6 : (p.2 != p'.2) = true := by simpa using c6
     simp (disch := omega) only [go_sem, ↓reduceIte, Nat.reduceEqDiff, Nat.reduceLeDiff, H.cv_3_66, H.cv_3_68, H.cv_68_3, t7, t8, t9, g7, g8, hlv.same, hlv'.same, hlv.disc, hlv'.disc, hlv.sl.ia, hlv'.sl.ia, g0, g0', hNE, d6]
     exact ⟨(no2 fun q => c6 (by rw [q])).symm, gkk⟩
    have d6 : (p.2 != p'.2) = false := by simpa using c6
    rcases (Decidable.em (p.1 = p'.1)).symm with c7 | c7
    ·simp (disch := omega) only [go_sem, ↓reduceIte, Nat.reduceEqDiff, Nat.reduceLeDiff, H.cv_3_66, H.cv_3_68, H.cv_68_3, t7, t8, t9, g7, g8, hlv.same, hlv'.same, hlv.disc, hlv'.disc, hlv.sl.ia, hlv'.sl.ia, g0, g0', hNE, d6, hw.same, hw.disc, hw.sl.b2s, hw'.same, hw'.disc, hw'.sl.b2s, str_inj, c7]
     exact ⟨(no2 fun q => c7 (by rw [q])).symm, gkk⟩
    simp (disch := omega) only [go_sem, ↓reduceIte, Nat.reduceEqDiff, Nat.reduceLeDiff, H.cv_3_66, H.cv_3_68, H.cv_68_3, t7, t8, t9, g7, g8, hlv.same, hlv'.same, hlv.disc, hlv'.disc, hlv.sl.ia, hlv'.sl.ia, g0, g0', hNE, d6, hw.same, hw.disc, hw.sl.b2s, hw'.same, hw'.disc, hw'.sl.b2s, str_inj, c7]
    refine hR2 _ ?_; clear hR2 R2
    simp (disch := omega) only [go_sem, ↓reduceIte, Nat.reduceEqDiff, Nat.reduceLeDiff, H.cv_3_66, H.cv_3_68, H.cv_68_3, t9, nat_add]
    refine ⟨b.l.length - (n + 1), by omega, gkk, g2, g3, g7, g8, n + 1, rfl, by omega, by simp [upd_at, t2], by simp [upd_at, t3], by simp [upd_at, t6], by simp [upd_at, t7], by simp [upd_at, t8], by simp [upd_at], fun j hj => ?_⟩
    rcases Nat.lt_or_ge j n with q | q
    ·exact hgood j q
    ·obtain rfl : j = n := by omega
     rw [List.getElem?_eq_getElem hlt2, List.getElem?_eq_getElem (by omega), hp, hp']
     exact congrArg some (Prod.ext c7 c6)
   ·obtain rfl : n = b.l.length := by omega
    have hbl : b.l = b'.l := by
     refine List.ext_getElem? fun j => ?_
     rcases Nat.lt_or_ge j b.l.length with q | q
     ·exact hgood j q
     ·rw [List.getElem?_eq_none q, List.getElem?_eq_none (by omega)]
    (refine W_seq_gen fun N hN => ?_); simp (disch := omega) only [go_sem, ↓reduceIte, Nat.reduceEqDiff, Nat.reduceLeDiff, H.cv_3_66, H.cv_3_68, H.cv_68_3, t7, t9, g7, hlv.same, hlv.disc, hlv.sl.len, e4, Nat.lt_irrefl]
    refine hR _ ?_
    simp (disch := omega) only [go_sem, ↓reduceIte, Nat.reduceEqDiff, Nat.reduceLeDiff, H.cv_3_66, H.cv_3_68, H.cv_68_3, t6, nat_add]
    exact ⟨E.bags.length - (i + 1), by omega, gkk, g2, g3, i + 1, rfl, by omega, by simp [upd_at, t2], by simp [upd_at, t3], by simp [upd_at], step hbl⟩
  ·obtain rfl : i = E.bags.length := by omega
   have hbag : E.bags = E'.bags := by
    refine List.ext_getElem? fun j => ?_
    rcases Nat.lt_or_ge j E.bags.length with q | q
    ·exact hgood j q
    ·rw [List.getElem?_eq_none q, List.getElem?_eq_none (by omega)]
   have hs : sameB E E' = true := sameB_true.2 (by cases E; cases E'; cases hcut; cases hbag; rfl)
   (refine W_seq_gen fun N hN => ?_); simp (disch := omega) only [go_sem, ↓reduceIte, Nat.reduceEqDiff, Nat.reduceLeDiff, H.cv_3_66, H.cv_3_68, H.cv_68_3, t2, t6, f2, hbv.same, hbv.disc, hbv.sl.len, e2, Nat.lt_irrefl]
   refine hM _ ?_; clear hN N hM M
   simp (disch := omega) only [go_sem, ↓reduceIte, Nat.reduceEqDiff, Nat.reduceLeDiff, H.cv_3_66, H.cv_3_68, H.cv_68_3]
   exact ⟨hs.symm, hk⟩
end Go.Proofs.Ytomfknocpijmbaa
end
section
set_option linter.unusedVariables false
set_option linter.unusedSimpArgs false
namespace Go.Proofs.Ytomfknocpijmbaa
open Go.Am
noncomputable def dcd (p : Prop) : Bool := @decide p (Classical.propDecidable p)
theorem dcd_t {p : Prop} (h : p) : dcd p = true := by unfold dcd; simp [h]
theorem dcd_f {p : Prop} (h : ¬ p) : dcd p = false := by unfold dcd; simp [h]
variable {P : Program} (H : Has P)
include H
theorem eqcuts_ok (hA : ∀ a b c d : Int, scalarBin P .neq 69 (.agg #[.int .i64 a, .int .i64 b]) (.agg #[.int .i64 c, .int .i64 d]) = some (.bool (!(a == c && b == d))))
  {v v' : AV} {es es' : List (List AV)} {l l' : List (Int × Int)} (hv : SF 2 v es) (hC : RR CK es l) (hv' : SF 2 v' es') (hC' : RR CK es' l') (hl : l.length ≤ 2 ^ 20) (h : Heap) :
  AWF P ann 0 46 [v, v'] h fun r h' => r = .sc (.bool (dcd (l = l'))) ∧ h' = h := by
 refine AWF.fnc H.f0_46 rfl ?_
 have e1 := hC.len
 have e1' := hC'.len
 (refine W_seq_gen fun N hN => ?_); simp (disch := omega) only [go_sem, ↓reduceIte, Nat.reduceEqDiff, Nat.reduceLeDiff, H.cv_3_66, H.cv_3_68, H.cv_68_3]
 refine hN _ ?_; clear hN N
 rcases (Decidable.em (l.length = l'.length)).symm with c1 | c1
 ·have hn : dcd (l = l') = false := dcd_f fun q => c1 (by rw [q])
  simp (disch := omega) only [go_sem, ↓reduceIte, Nat.reduceEqDiff, Nat.reduceLeDiff, H.cv_3_66, H.cv_3_68, H.cv_68_3, hv.same, hv'.same, hv.sl.len, hv'.sl.len, e1, e1', neN, c1]
  rw [hn]
 (refine W_seq_gen fun N hN => ?_); simp (disch := omega) only [go_sem, ↓reduceIte, Nat.reduceEqDiff, Nat.reduceLeDiff, H.cv_3_66, H.cv_3_68, H.cv_68_3, hv.same, hv'.same, hv.sl.len, hv'.sl.len, e1, e1', neN, c1]
 refine hN _ ?_; clear hN N
 (refine W_seq_gen fun M hM => ?_)
 simp (disch := omega) only [go_sem, ↓reduceIte, Nat.reduceEqDiff, Nat.reduceLeDiff, H.cv_3_66, H.cv_3_68, H.cv_68_3, hv.same, hv.sl.len, e1]
 refine AW_loopN (fun m t h' => h' = h ∧ ∃ i, m = l.length - i ∧ i ≤ l.length ∧ t 0 = v ∧ t 1 = v' ∧ t 12 = .sc (.int .i64 (l.length : Nat)) ∧ t 13 = .sc (.int .i64 (i : Nat)) ∧ ∀ j, j < i → l[j]? = l'[j]?)
  (n := l.length) ⟨rfl, 0, rfl, Nat.zero_le _, by simp [upd_at, initT], by simp [upd_at, initT], by simp [upd_at, c1], by simp [upd_at], fun j hj => by omega⟩ ?_
 rintro m t h' ⟨rfl, i, rfl, hi, t0, t1, t12, t13, hgood⟩
 rcases Nat.lt_or_ge i l.length with hlt | hge
 ·obtain ⟨e, g0, rfl⟩ := hC.lt hlt
  obtain ⟨e', g0', rfl⟩ := hC'.lt (i := i) (by omega)
  (refine W_seq_gen fun N hN => ?_); simp (disch := omega) only [go_sem, ↓reduceIte, Nat.reduceEqDiff, Nat.reduceLeDiff, H.cv_3_66, H.cv_3_68, H.cv_68_3, t12, t13, hlt]
  refine hN _ ?_; clear hN N
  (refine W_seq_gen fun N hN => ?_); simp (disch := omega) only [go_sem, ↓reduceIte, Nat.reduceEqDiff, Nat.reduceLeDiff, H.cv_3_66, H.cv_3_68, H.cv_68_3]
  refine hN _ ?_; clear hN N
  (refine W_seq_gen fun R hR => ?_)
  rw [W_block]
  (refine W_seq_gen fun N hN => ?_); simp (disch := omega) only [go_sem, ↓reduceIte, Nat.reduceEqDiff, Nat.reduceLeDiff, H.cv_3_66, H.cv_3_68, H.cv_68_3, t13]
  refine hN _ ?_; clear hN N
  refine W_f (fun t => t 0 = v ∧ t 1 = v' ∧ t 5 = .sc (.int .i64 (i : Nat)) ∧ t 12 = .sc (.int .i64 (l.length : Nat)) ∧ t 13 = .sc (.int .i64 (i : Nat)) ∧ True) ?_; rintro t ⟨t0, t1, t5, t12, t13, -⟩
  cases c3 : (l[i].1 == l'[i].1 && l[i].2 == l'[i].2) with
  | true =>
   simp (disch := omega) only [go_sem, ↓reduceIte, Nat.reduceEqDiff, Nat.reduceLeDiff, H.cv_3_66, H.cv_3_68, H.cv_68_3, t0, t1, t5, hv.same, hv'.same, hv.sl.ia, hv'.sl.ia, g0, g0', hA, c3]
   refine hR _ ?_; clear hR R
   simp (disch := omega) only [go_sem, ↓reduceIte, Nat.reduceEqDiff, Nat.reduceLeDiff, H.cv_3_66, H.cv_3_68, H.cv_68_3, t13, nat_add]
   refine ⟨l.length - (i + 1), by omega, i + 1, rfl, by omega, by simp [upd_at, t0], by simp [upd_at, t1], by simp [upd_at, t12], by simp [upd_at], fun j hj => ?_⟩
   rcases Nat.lt_or_ge j i with q | q
   ·exact hgood j q
   ·obtain rfl : j = i := by omega
    rw [Bool.and_eq_true, beq_iff_eq, beq_iff_eq] at c3
    rw [List.getElem?_eq_getElem hlt, List.getElem?_eq_getElem (by omega)]
    exact congrArg some (Prod.ext c3.1 c3.2)
  | false =>
   have hn : dcd (l = l') = false := dcd_f fun q => by
    subst q
    simp at c3
   simp (disch := omega) only [go_sem, ↓reduceIte, Nat.reduceEqDiff, Nat.reduceLeDiff, H.cv_3_66, H.cv_3_68, H.cv_68_3, t0, t1, t5, hv.same, hv'.same, hv.sl.ia, hv'.sl.ia, g0, g0', hA, c3]
   rw [hn]
 ·obtain rfl : i = l.length := by omega
  have hs : l = l' := by
   refine List.ext_getElem? fun j => ?_
   rcases Nat.lt_or_ge j l.length with q | q
   ·exact hgood j q
   ·rw [List.getElem?_eq_none q, List.getElem?_eq_none (by omega)]
  (refine W_seq_gen fun N hN => ?_); simp (disch := omega) only [go_sem, ↓reduceIte, Nat.reduceEqDiff, Nat.reduceLeDiff, H.cv_3_66, H.cv_3_68, H.cv_68_3, t12, t13, Nat.lt_irrefl]
  refine hN _ ?_; clear hN N
  (refine W_seq_gen fun N hN => ?_); simp (disch := omega) only [go_sem, ↓reduceIte, Nat.reduceEqDiff, Nat.reduceLeDiff, H.cv_3_66, H.cv_3_68, H.cv_68_3]
  refine hM _ ?_; clear hN N hM M
  simp (disch := omega) only [go_sem, ↓reduceIte, Nat.reduceEqDiff, Nat.reduceLeDiff, H.cv_3_66, H.cv_3_68, H.cv_68_3]
  rw [dcd_t hs]
theorem eqpcl_ok (hQ : ∀ p q : Bool, scalarBin P .eql 4 (.bool p) (.bool q) = some (.bool (p == q))) {e e' : List AV} {p p' : Pcl} (hp : PcR e p) (hp' : PcR e' p') (h : Heap) :
  AWF P ann 0 45 [.ag e, .ag e'] h fun r h' => r = .sc (.bool (dcd (p = p'))) ∧ h' = h := by
 refine AWF.fnPurec H.f0_45 rfl ?_
 obtain ⟨w, rfl, hw⟩ := hp
 obtain ⟨w', rfl, hw'⟩ := hp'
 (refine W_seq_gen fun N hN => ?_); simp (disch := omega) only [go_sem, ↓reduceIte, Nat.reduceEqDiff, Nat.reduceLeDiff, H.cv_3_66, H.cv_3_68, H.cv_68_3, hw.disc, hw'.disc]
 intro o2 ho2 o3 ho3
 obtain ⟨h2, hh, f2, f3, hk⟩ := box2 ho2 ho3 (Y := some (.arr [w', .sc (.bool p'.2)]))
 refine hN _ ?_; clear hN N
 rw [hh]
 clear hh ho2 ho3
 refine W_f (fun t => t 2 = .op o2 0 ∧ t 3 = .op o3 0 ∧ True) ?_; rintro t ⟨t2, t3, -⟩
 rcases (Decidable.em (p.2 = p'.2)).symm with c1 | c1
 ·have hn : dcd (p = p') = false := dcd_f fun q => c1 (by rw [q])
  have d1 : (p.2 == p'.2) = false := by simpa using c1
  simp (disch := omega) only [go_sem, ↓reduceIte, Nat.reduceEqDiff, Nat.reduceLeDiff, H.cv_3_66, H.cv_3_68, H.cv_68_3, t2, t3, f2, f3, hQ, d1]
  exact ⟨by rw [hn], hk⟩
 have d1 : (p.2 == p'.2) = true := by simpa using c1
 rcases (Decidable.em (p.1 = p'.1)).symm with c2 | c2
 ·have hn : dcd (p = p') = false := dcd_f fun q => c2 (by rw [q])
  simp (disch := omega) only [go_sem, ↓reduceIte, Nat.reduceEqDiff, Nat.reduceLeDiff, H.cv_3_66, H.cv_3_68, H.cv_68_3, t2, t3, f2, f3, hQ, d1, hw.same, hw'.same, hw.disc, hw'.disc, hw.sl.b2s, hw'.sl.b2s, str_inj, c2]
  exact ⟨by rw [hn], hk⟩
 have hn : dcd (p = p') = true := dcd_t (Prod.ext c2 c1)
 simp (disch := omega) only [go_sem, ↓reduceIte, Nat.reduceEqDiff, Nat.reduceLeDiff, H.cv_3_66, H.cv_3_68, H.cv_68_3, t2, t3, f2, f3, hQ, d1, hw.same, hw'.same, hw.disc, hw'.disc, hw.sl.b2s, hw'.sl.b2s, str_inj, c2]
 exact ⟨by rw [hn], hk⟩
set_option maxHeartbeats 1000000 in
theorem eqpcls_ok (hQ : ∀ p q : Bool, scalarBin P .eql 4 (.bool p) (.bool q) = some (.bool (p == q)))
  {v v' : AV} {es es' : List (List AV)} {l l' : List Pcl} (hv : SF 2 v es) (hC : RR PcR es l) (hv' : SF 2 v' es') (hC' : RR PcR es' l') (hl : l.length ≤ 2 ^ 20) (h : Heap) :
  AWF P ann 0 49 [v, v', .fn 45 [] []] h fun r h' => r = .sc (.bool (dcd (l = l'))) ∧ h' = h := by
 refine AWF.fnPurec H.f0_49 rfl ?_
 have e1 := hC.len
 have e1' := hC'.len
 (refine W_seq_gen fun N hN => ?_); simp (disch := omega) only [go_sem, ↓reduceIte, Nat.reduceEqDiff, Nat.reduceLeDiff, H.cv_3_66, H.cv_3_68, H.cv_68_3]
 refine hN _ ?_; clear hN N
 rcases (Decidable.em (l.length = l'.length)).symm with c1 | c1
 ·have hn : dcd (l = l') = false := dcd_f fun q => c1 (by rw [q])
  simp (disch := omega) only [go_sem, ↓reduceIte, Nat.reduceEqDiff, Nat.reduceLeDiff, H.cv_3_66, H.cv_3_68, H.cv_68_3, hv.same, hv'.same, hv.sl.len, hv'.sl.len, e1, e1', neN, c1]
  rw [hn]
 (refine W_seq_gen fun N hN => ?_); simp (disch := omega) only [go_sem, ↓reduceIte, Nat.reduceEqDiff, Nat.reduceLeDiff, H.cv_3_66, H.cv_3_68, H.cv_68_3, hv.same, hv'.same, hv.sl.len, hv'.sl.len, e1, e1', neN, c1]
 refine hN _ ?_; clear hN N
 (refine W_seq_gen fun M hM => ?_)
 simp (disch := omega) only [go_sem, ↓reduceIte, Nat.reduceEqDiff, Nat.reduceLeDiff, H.cv_3_66, H.cv_3_68, H.cv_68_3, hv.same, hv.sl.len, e1]
 refine AW_loopN (fun m t h' => (∀ x, ¬ h x = none → h' x = h x) ∧ ∃ i, m = l.length - i ∧ i ≤ l.length ∧ t 0 = v ∧ t 1 = v' ∧ t 2 = .fn 45 [] [] ∧ t 15 = v ∧ t 16 = .sc (.int .i64 (l.length : Nat)) ∧ t 17 = .sc (.int .i64 (i : Nat)) ∧ ∀ j, j < i → l[j]? = l'[j]?)
  (n := l.length) ⟨fun _ _ => rfl, 0, rfl, Nat.zero_le _, by simp [upd_at, initT], by simp [upd_at, initT], by simp [upd_at, initT], by simp [upd_at], by simp [upd_at, c1], by simp [upd_at], fun j hj => by omega⟩ ?_
 rintro m t h' ⟨hk, i, rfl, hi, t0, t1, t2, t15, t16, t17, hgood⟩
 rcases Nat.lt_or_ge i l.length with hlt | hge
 ·obtain ⟨e, g0, hp⟩ := hC.lt hlt
  obtain ⟨e', g0', hp'⟩ := hC'.lt (i := i) (by omega)
  obtain ⟨w, rfl, hw⟩ := id hp
  obtain ⟨w', rfl, hw'⟩ := id hp'
  (refine W_seq_gen fun N hN => ?_); simp (disch := omega) only [go_sem, ↓reduceIte, Nat.reduceEqDiff, Nat.reduceLeDiff, H.cv_3_66, H.cv_3_68, H.cv_68_3, t16, t17, hlt]
  refine hN _ ?_; clear hN N
  (refine W_seq_gen fun N hN => ?_); simp (disch := omega) only [go_sem, ↓reduceIte, Nat.reduceEqDiff, Nat.reduceLeDiff, H.cv_3_66, H.cv_3_68, H.cv_68_3]
  refine hN _ ?_; clear hN N
  (refine W_seq_gen fun R hR => ?_)
  rw [W_block]
  (refine W_seq_gen fun N hN => ?_); simp (disch := omega) only [go_sem, ↓reduceIte, Nat.reduceEqDiff, Nat.reduceLeDiff, H.cv_3_66, H.cv_3_68, H.cv_68_3, t15, t17, hv.sl.ia, g0, hw.disc]
  intro o8 ho8
  have n8 : (upd h' o8 (some (.arr [w, .sc (.bool l[i].2)]))) o8 = some (.arr [w, .sc (.bool l[i].2)]) := upd_same ..
  have nk : ∀ x, ¬ h' x = none → (upd h' o8 (some (.arr [w, .sc (.bool l[i].2)]))) x = h' x := fun x hx => upd_ne _ _ (fun e => hx (by rw [e]; exact ho8))
  generalize (upd h' o8 (some (.arr [w, .sc (.bool l[i].2)]))) = h3 at n8 nk
  refine hN _ ?_; clear hN N
  refine W_f (fun t => t 0 = v ∧ t 1 = v' ∧ t 2 = .fn 45 [] [] ∧ t 7 = .sc (.int .i64 (i : Nat)) ∧ t 8 = .op o8 0 ∧ t 15 = v ∧ t 16 = .sc (.int .i64 (l.length : Nat)) ∧ t 17 = .sc (.int .i64 (i : Nat)) ∧ True) ?_; rintro t ⟨t0, t1, t2, t7, t8, t15, t16, t17, -⟩
  (refine W_seq_gen fun N hN => ?_); simp (disch := omega) only [go_sem, ↓reduceIte, Nat.reduceEqDiff, Nat.reduceLeDiff, H.cv_3_66, H.cv_3_68, H.cv_68_3, t1, t7, hv'.same, hv'.sl.ia, g0', hw'.disc]
  intro o9 ho9
  have m9 : (upd h3 o9 (some (.arr [w', .sc (.bool l'[i].2)]))) o9 = some (.arr [w', .sc (.bool l'[i].2)]) := upd_same ..
  have mk : ∀ x, ¬ h3 x = none → (upd h3 o9 (some (.arr [w', .sc (.bool l'[i].2)]))) x = h3 x := fun x hx => upd_ne _ _ (fun e => hx (by rw [e]; exact ho9))
  generalize (upd h3 o9 (some (.arr [w', .sc (.bool l'[i].2)]))) = h4 at m9 mk
  have m8 := (mk o8 (by rw [n8]; simp)).trans n8
  have mkk : ∀ x, ¬ h x = none → h4 x = h x := fun x hx => by
   rw [mk x (by rw [nk x (by rw [hk x hx]; exact hx), hk x hx]; exact hx), nk x (by rw [hk x hx]; exact hx), hk x hx]
  refine hN _ ?_; clear hN N
  refine W_f (fun t => t 0 = v ∧ t 1 = v' ∧ t 2 = .fn 45 [] [] ∧ t 8 = .op o8 0 ∧ t 9 = .op o9 0 ∧ t 15 = v ∧ t 16 = .sc (.int .i64 (l.length : Nat)) ∧ t 17 = .sc (.int .i64 (i : Nat)) ∧ True) ?_; rintro t ⟨t0, t1, t2, t8, t9, t15, t16, t17, -⟩
  simp (disch := omega) only [go_sem, ↓reduceIte, Nat.reduceEqDiff, Nat.reduceLeDiff, H.cv_3_66, H.cv_3_68, H.cv_68_3, t2, t8, t9, m8, m9, hw.disc, hw'.disc]
  refine (eqpcl_ok H hQ hp hp' _).to ?_
  rcases Classical.em (l[i] = l'[i]) with c3 | c3
  ·rw [dcd_t c3]
   rw [contK_some]; simp (disch := omega) only [go_sem, ↓reduceIte, Nat.reduceEqDiff, Nat.reduceLeDiff, H.cv_3_66, H.cv_3_68, H.cv_68_3]
   refine hR _ ?_; clear hR R
   simp (disch := omega) only [go_sem, ↓reduceIte, Nat.reduceEqDiff, Nat.reduceLeDiff, H.cv_3_66, H.cv_3_68, H.cv_68_3, t17, nat_add]
   refine ⟨l.length - (i + 1), by omega, mkk, i + 1, rfl, by omega, by simp [upd_at, t0], by simp [upd_at, t1], by simp [upd_at, t2], by simp [upd_at, t15], by simp [upd_at, t16], by simp [upd_at], fun j hj => ?_⟩
   rcases Nat.lt_or_ge j i with q | q
   ·exact hgood j q
   ·obtain rfl : j = i := by omega
    rw [List.getElem?_eq_getElem hlt, List.getElem?_eq_getElem (by omega), c3]
  ·rw [dcd_f c3]
   have hn : dcd (l = l') = false := dcd_f fun q => c3 (by subst q; rfl)
   rw [contK_some]; simp (disch := omega) only [go_sem, ↓reduceIte, Nat.reduceEqDiff, Nat.reduceLeDiff, H.cv_3_66, H.cv_3_68, H.cv_68_3]
   exact ⟨by rw [hn], mkk⟩
 ·obtain rfl : i = l.length := by omega
  have hs : l = l' := by
   refine List.ext_getElem? fun j => ?_
   rcases Nat.lt_or_ge j l.length with q | q
   ·exact hgood j q
   ·rw [List.getElem?_eq_none q, List.getElem?_eq_none (by omega)]
  (refine W_seq_gen fun N hN => ?_); simp (disch := omega) only [go_sem, ↓reduceIte, Nat.reduceEqDiff, Nat.reduceLeDiff, H.cv_3_66, H.cv_3_68, H.cv_68_3, t16, t17, Nat.lt_irrefl]
  refine hN _ ?_; clear hN N
  (refine W_seq_gen fun N hN => ?_); simp (disch := omega) only [go_sem, ↓reduceIte, Nat.reduceEqDiff, Nat.reduceLeDiff, H.cv_3_66, H.cv_3_68, H.cv_68_3]
  refine hM _ ?_; clear hN N hM M
  simp (disch := omega) only [go_sem, ↓reduceIte, Nat.reduceEqDiff, Nat.reduceLeDiff, H.cv_3_66, H.cv_3_68, H.cv_68_3]
  exact ⟨by rw [dcd_t hs], hk⟩
theorem eqbag_ok (hQ : ∀ p q : Bool, scalarBin P .eql 4 (.bool p) (.bool q) = some (.bool (p == q))) {e e' : List AV} {b b' : Bg} {o5 : Nat} {h : Heap} (hb : BgR e b) (hb' : BgR e' b') (hl : b.l.length ≤ 2 ^ 20) (h5 : h o5 = some (.arr [.fn 45 [] []])) :
  AWF P ann 0 48 [.ag e, .ag e', .op o5 0] h fun r h' => r = .sc (.bool (dcd (b = b'))) ∧ h' = h := by
 refine AWF.fnPurec H.f0_48 rfl ?_
 obtain ⟨w, ys, rfl, hw, hy⟩ := hb
 obtain ⟨w', ys', rfl, hw', hy'⟩ := hb'
 (refine W_seq_gen fun N hN => ?_); simp (disch := omega) only [go_sem, ↓reduceIte, Nat.reduceEqDiff, Nat.reduceLeDiff, H.cv_3_66, H.cv_3_68, H.cv_68_3, hw.disc, hw'.disc]
 intro o2 ho2 o3 ho3
 obtain ⟨h2, hh, f2, f3, hk⟩ := box2 ho2 ho3 (Y := some (.arr [.sc (.int .i64 b'.k.1), .sc (.int .i64 b'.k.2), w']))
 refine hN _ ?_; clear hN N
 rw [hh]
 clear hh ho2 ho3
 have f5 := (hk o5 (by rw [h5]; simp)).trans h5
 refine W_f (fun t => t 2 = .op o5 0 ∧ t 3 = .op o2 0 ∧ t 4 = .op o3 0 ∧ True) ?_; rintro t ⟨t2, t3, t4, -⟩
 rcases (Decidable.em (b.k.1 = b'.k.1)).symm with c1 | c1
 ·have hn : dcd (b = b') = false := dcd_f fun q => c1 (by rw [q])
  have d1 : (b.k.1 == b'.k.1) = false := by simpa using c1
  simp (disch := omega) only [go_sem, ↓reduceIte, Nat.reduceEqDiff, Nat.reduceLeDiff, H.cv_3_66, H.cv_3_68, H.cv_68_3, t2, t3, t4, f2, f3, d1]
  exact ⟨by rw [hn], hk⟩
 have d1 : (b.k.1 == b'.k.1) = true := by simpa using c1
 rcases (Decidable.em (b.k.2 = b'.k.2)).symm with c2 | c2
 ·have hn : dcd (b = b') = false := dcd_f fun q => c2 (by rw [q])
  have d2 : (b.k.2 == b'.k.2) = false := by simpa using c2
  simp (disch := omega) only [go_sem, ↓reduceIte, Nat.reduceEqDiff, Nat.reduceLeDiff, H.cv_3_66, H.cv_3_68, H.cv_68_3, t2, t3, t4, f2, f3, d1, d2]
  exact ⟨by rw [hn], hk⟩
 have d2 : (b.k.2 == b'.k.2) = true := by simpa using c2
 simp (disch := omega) only [go_sem, ↓reduceIte, Nat.reduceEqDiff, Nat.reduceLeDiff, H.cv_3_66, H.cv_3_68, H.cv_68_3, t2, t3, t4, f2, f3, f5, d1, d2, hw.same, hw'.same, hw.disc, hw'.disc]
 refine ⟨by rw [hw.own]; rfl, ?_⟩
 refine (eqpcls_ok H hQ hw hy hw' hy' hl _).to ?_
 have hn : dcd (b.l = b'.l) = dcd (b = b') := by
  rcases Classical.em (b.l = b'.l) with c3 | c3
  ·rw [dcd_t c3, dcd_t]
   cases b
   cases b'
   cases c3
   exact congrArg (fun k => Bg.mk k _) (Prod.ext c1 c2)
  ·rw [dcd_f c3, dcd_f fun q => c3 (by rw [q])]
 rw [hn]
 rw [contK_some]; simp (disch := omega) only [go_sem, ↓reduceIte, Nat.reduceEqDiff, Nat.reduceLeDiff, H.cv_3_66, H.cv_3_68, H.cv_68_3]
 exact hk
set_option maxHeartbeats 1000000 in
theorem eqbags_ok (hQ : ∀ p q : Bool, scalarBin P .eql 4 (.bool p) (.bool q) = some (.bool (p == q)))
  {v v' : AV} {es es' : List (List AV)} {l l' : List Bg} {o5 : Nat} {h : Heap} (hv : SF 3 v es) (hC : RR BgR es l) (hv' : SF 3 v' es') (hC' : RR BgR es' l') (hl : l.length ≤ 2 ^ 20) (hls : ∀ b ∈ l, b.l.length ≤ 2 ^ 20) (h5 : h o5 = some (.arr [.fn 45 [] []])) :
  AWF P ann 0 47 [v, v', .fn 48 [] [.op o5 0]] h fun r h' => r = .sc (.bool (dcd (l = l'))) ∧ h' = h := by
 refine AWF.fnPurec H.f0_47 rfl ?_
 have e1 := hC.len
 have e1' := hC'.len
 (refine W_seq_gen fun N hN => ?_); simp (disch := omega) only [go_sem, ↓reduceIte, Nat.reduceEqDiff, Nat.reduceLeDiff, H.cv_3_66, H.cv_3_68, H.cv_68_3]
 refine hN _ ?_; clear hN N
 rcases (Decidable.em (l.length = l'.length)).symm with c1 | c1
 ·have hn : dcd (l = l') = false := dcd_f fun q => c1 (by rw [q])
  simp (disch := omega) only [go_sem, ↓reduceIte, Nat.reduceEqDiff, Nat.reduceLeDiff, H.cv_3_66, H.cv_3_68, H.cv_68_3, hv.same, hv'.same, hv.sl.len, hv'.sl.len, e1, e1', neN, c1]
  rw [hn]
 (refine W_seq_gen fun N hN => ?_); simp (disch := omega) only [go_sem, ↓reduceIte, Nat.reduceEqDiff, Nat.reduceLeDiff, H.cv_3_66, H.cv_3_68, H.cv_68_3, hv.same, hv'.same, hv.sl.len, hv'.sl.len, e1, e1', neN, c1]
 refine hN _ ?_; clear hN N
 (refine W_seq_gen fun M hM => ?_)
 simp (disch := omega) only [go_sem, ↓reduceIte, Nat.reduceEqDiff, Nat.reduceLeDiff, H.cv_3_66, H.cv_3_68, H.cv_68_3, hv.same, hv.sl.len, e1]
 refine AW_loopN (fun m t h' => (∀ x, ¬ h x = none → h' x = h x) ∧ ∃ i, m = l.length - i ∧ i ≤ l.length ∧ t 0 = v ∧ t 1 = v' ∧ t 2 = .fn 48 [] [.op o5 0] ∧ t 15 = v ∧ t 16 = .sc (.int .i64 (l.length : Nat)) ∧ t 17 = .sc (.int .i64 (i : Nat)) ∧ ∀ j, j < i → l[j]? = l'[j]?)
  (n := l.length) ⟨fun _ _ => rfl, 0, rfl, Nat.zero_le _, by simp [upd_at, initT], by simp [upd_at, initT], by simp [upd_at, initT], by simp [upd_at], by simp [upd_at, c1], by simp [upd_at], fun j hj => by omega⟩ ?_
 rintro m t h' ⟨hk, i, rfl, hi, t0, t1, t2, t15, t16, t17, hgood⟩
 rcases Nat.lt_or_ge i l.length with hlt | hge
 ·obtain ⟨e, g0, hp⟩ := hC.lt hlt
  obtain ⟨e', g0', hp'⟩ := hC'.lt (i := i) (by omega)
  obtain ⟨w, ys, rfl, hw, hy⟩ := id hp
  obtain ⟨w', ys', rfl, hw', hy'⟩ := id hp'
  (refine W_seq_gen fun N hN => ?_); simp (disch := omega) only [go_sem, ↓reduceIte, Nat.reduceEqDiff, Nat.reduceLeDiff, H.cv_3_66, H.cv_3_68, H.cv_68_3, t16, t17, hlt]
  refine hN _ ?_; clear hN N
  (refine W_seq_gen fun N hN => ?_); simp (disch := omega) only [go_sem, ↓reduceIte, Nat.reduceEqDiff, Nat.reduceLeDiff, H.cv_3_66, H.cv_3_68, H.cv_68_3]
  refine hN _ ?_; clear hN N
  (refine W_seq_gen fun R hR => ?_)
  rw [W_block]
  (refine W_seq_gen fun N hN => ?_); simp (disch := omega) only [go_sem, ↓reduceIte, Nat.reduceEqDiff, Nat.reduceLeDiff, H.cv_3_66, H.cv_3_68, H.cv_68_3, t15, t17, hv.sl.ia, g0, hw.disc]
  intro o8 ho8
  have n8 : (upd h' o8 (some (.arr [.sc (.int .i64 l[i].k.1), .sc (.int .i64 l[i].k.2), w]))) o8 = some (.arr [.sc (.int .i64 l[i].k.1), .sc (.int .i64 l[i].k.2), w]) := upd_same ..
  have nk : ∀ x, ¬ h' x = none → (upd h' o8 (some (.arr [.sc (.int .i64 l[i].k.1), .sc (.int .i64 l[i].k.2), w]))) x = h' x := fun x hx => upd_ne _ _ (fun e => hx (by rw [e]; exact ho8))
  generalize (upd h' o8 (some (.arr [.sc (.int .i64 l[i].k.1), .sc (.int .i64 l[i].k.2), w]))) = h3 at n8 nk
  refine hN _ ?_; clear hN N
  refine W_f (fun t => t 0 = v ∧ t 1 = v' ∧ t 2 = .fn 48 [] [.op o5 0] ∧ t 7 = .sc (.int .i64 (i : Nat)) ∧ t 8 = .op o8 0 ∧ t 15 = v ∧ t 16 = .sc (.int .i64 (l.length : Nat)) ∧ t 17 = .sc (.int .i64 (i : Nat)) ∧ True) ?_; rintro t ⟨t0, t1, t2, t7, t8, t15, t16, t17, -⟩
  (refine W_seq_gen fun N hN => ?_); simp (disch := omega) only [go_sem, ↓reduceIte, Nat.reduceEqDiff, Nat.reduceLeDiff, H.cv_3_66, H.cv_3_68, H.cv_68_3, t1, t7, hv'.same, hv'.sl.ia, g0', hw'.disc]
  intro o9 ho9
  have m9 : (upd h3 o9 (some (.arr [.sc (.int .i64 l'[i].k.1), .sc (.int .i64 l'[i].k.2), w']))) o9 = some (.arr [.sc (.int .i64 l'[i].k.1), .sc (.int .i64 l'[i].k.2), w']) := upd_same ..
  have mk : ∀ x, ¬ h3 x = none → (upd h3 o9 (some (.arr [.sc (.int .i64 l'[i].k.1), .sc (.int .i64 l'[i].k.2), w']))) x = h3 x := fun x hx => upd_ne _ _ (fun e => hx (by rw [e]; exact ho9))
  generalize (upd h3 o9 (some (.arr [.sc (.int .i64 l'[i].k.1), .sc (.int .i64 l'[i].k.2), w']))) = h4 at m9 mk
  have m8 := (mk o8 (by rw [n8]; simp)).trans n8
  have mkk : ∀ x, ¬ h x = none → h4 x = h x := fun x hx => by
   rw [mk x (by rw [nk x (by rw [hk x hx]; exact hx), hk x hx]; exact hx), nk x (by rw [hk x hx]; exact hx), hk x hx]
  refine hN _ ?_; clear hN N
  refine W_f (fun t => t 0 = v ∧ t 1 = v' ∧ t 2 = .fn 48 [] [.op o5 0] ∧ t 8 = .op o8 0 ∧ t 9 = .op o9 0 ∧ t 15 = v ∧ t 16 = .sc (.int .i64 (l.length : Nat)) ∧ t 17 = .sc (.int .i64 (i : Nat)) ∧ True) ?_; rintro t ⟨t0, t1, t2, t8, t9, t15, t16, t17, -⟩
  simp (disch := omega) only [go_sem, ↓reduceIte, Nat.reduceEqDiff, Nat.reduceLeDiff, H.cv_3_66, H.cv_3_68, H.cv_68_3, t2, t8, t9, m8, m9, hw.disc, hw'.disc]
  have m5 := (mkk o5 (by rw [h5]; simp)).trans h5
  refine (eqbag_ok H hQ hp hp' (hls _ (List.getElem_mem hlt)) m5).to ?_
  rcases Classical.em (l[i] = l'[i]) with c3 | c3
  ·rw [dcd_t c3]
   rw [contK_some]; simp (disch := omega) only [go_sem, ↓reduceIte, Nat.reduceEqDiff, Nat.reduceLeDiff, H.cv_3_66, H.cv_3_68, H.cv_68_3]
   refine hR _ ?_; clear hR R
   simp (disch := omega) only [go_sem, ↓reduceIte, Nat.reduceEqDiff, Nat.reduceLeDiff, H.cv_3_66, H.cv_3_68, H.cv_68_3, t17, nat_add]
   refine ⟨l.length - (i + 1), by omega, mkk, i + 1, rfl, by omega, by simp [upd_at, t0], by simp [upd_at, t1], by simp [upd_at, t2], by simp [upd_at, t15], by simp [upd_at, t16], by simp [upd_at], fun j hj => ?_⟩
   rcases Nat.lt_or_ge j i with q | q
   ·exact hgood j q
   ·obtain rfl : j = i := by omega
    rw [List.getElem?_eq_getElem hlt, List.getElem?_eq_getElem (by omega), c3]
  ·rw [dcd_f c3]
   have hn : dcd (l = l') = false := dcd_f fun q => c3 (by subst q; rfl)
   rw [contK_some]; simp (disch := omega) only [go_sem, ↓reduceIte, Nat.reduceEqDiff, Nat.reduceLeDiff, H.cv_3_66, H.cv_3_68, H.cv_68_3]
   exact ⟨by rw [hn], mkk⟩
 ·obtain rfl : i = l.length := by omega
  have hs : l = l' := by
   refine List.ext_getElem? fun j => ?_
   rcases Nat.lt_or_ge j l.length with q | q
   ·exact hgood j q
   ·rw [List.getElem?_eq_none q, List.getElem?_eq_none (by omega)]
  (refine W_seq_gen fun N hN => ?_); simp (disch := omega) only [go_sem, ↓reduceIte, Nat.reduceEqDiff, Nat.reduceLeDiff, H.cv_3_66, H.cv_3_68, H.cv_68_3, t16, t17, Nat.lt_irrefl]
  refine hN _ ?_; clear hN N
  (refine W_seq_gen fun N hN => ?_); simp (disch := omega) only [go_sem, ↓reduceIte, Nat.reduceEqDiff, Nat.reduceLeDiff, H.cv_3_66, H.cv_3_68, H.cv_68_3]
  refine hM _ ?_; clear hN N hM M
  simp (disch := omega) only [go_sem, ↓reduceIte, Nat.reduceEqDiff, Nat.reduceLeDiff, H.cv_3_66, H.cv_3_68, H.cv_68_3]
  exact ⟨by rw [dcd_t hs], hk⟩
theorem psame_ok (hA : ∀ a b c d : Int, scalarBin P .neq 69 (.agg #[.int .i64 a, .int .i64 b]) (.agg #[.int .i64 c, .int .i64 d]) = some (.bool (!(a == c && b == d)))) (hQ : ∀ p q : Bool, scalarBin P .eql 4 (.bool p) (.bool q) = some (.bool (p == q)))
  {bv cv bv' cv' : AV} {E E' : Eth} {bes ces bes' ces' : List (List AV)} (hbv : SF 3 bv bes) (hB : RR BgR bes E.bags) (hcv : SF 2 cv ces) (hC : RR CK ces E.cuts)
  (hbv' : SF 3 bv' bes') (hB' : RR BgR bes' E'.bags) (hcv' : SF 2 cv' ces') (hC' : RR CK ces' E'.cuts) (hz : Szd E) (h : Heap) :
  AWF P ann 0 23 [.ag [bv, cv], .ag [bv', cv']] h fun r h' => r = .sc (.bool (sameB E E')) ∧ h' = h := by
 refine AWF.fnPurec H.f0_23 rfl ?_
 obtain ⟨z1, z2, z3⟩ := hz
 (refine W_seq_gen fun N hN => ?_); simp (disch := omega) only [go_sem, ↓reduceIte, Nat.reduceEqDiff, Nat.reduceLeDiff, H.cv_3_66, H.cv_3_68, H.cv_68_3, hbv.disc, hcv.disc, hbv'.disc, hcv'.disc]
 intro o2 ho2 o3 ho3
 obtain ⟨h2, hh, f2, f3, hk⟩ := box2 ho2 ho3 (Y := some (.arr [bv', cv']))
 refine hN _ ?_; clear hN N
 rw [hh]
 clear hh ho2 ho3
 refine W_f (fun t => t 2 = .op o2 0 ∧ t 3 = .op o3 0 ∧ True) ?_; rintro t ⟨t2, t3, -⟩
 (refine W_seq_gen fun N hN => ?_); simp (disch := omega) only [go_sem, ↓reduceIte, Nat.reduceEqDiff, Nat.reduceLeDiff, H.cv_3_66, H.cv_3_68, H.cv_68_3]
 intro o5 ho5
 have hcl : ∀ f, (AV.fn f [] []).cellsD = [.fn f [] []] := fun _ => rfl
 have htu : ∀ f, (AV.fn f [] []).isTu = false := fun _ => rfl
 simp (disch := omega) only [go_sem, ↓reduceIte, Nat.reduceEqDiff, Nat.reduceLeDiff, H.cv_3_66, H.cv_3_68, H.cv_68_3, hcl, htu]
 have g5 : (upd h2 o5 (some (.arr [.fn 45 [] []]))) o5 = some (.arr [.fn 45 [] []]) := upd_same ..
 have gk : ∀ x, ¬ h2 x = none → (upd h2 o5 (some (.arr [.fn 45 [] []]))) x = h2 x := fun x hx => upd_ne _ _ (fun e => hx (by rw [e]; exact ho5))
 generalize (upd h2 o5 (some (.arr [.fn 45 [] []]))) = h3 at g5 gk
 have g2 := (gk o2 (by rw [f2]; simp)).trans f2
 have g3 := (gk o3 (by rw [f3]; simp)).trans f3
 have gkk : ∀ x, ¬ h x = none → h3 x = h x := fun x hx => by rw [gk x (by rw [hk x hx]; exact hx), hk x hx]
 refine hN _ ?_; clear hN N
 refine W_f (fun t => t 2 = .op o2 0 ∧ t 3 = .op o3 0 ∧ t 5 = .op o5 0 ∧ True) ?_; rintro t ⟨t2, t3, t5, -⟩
 simp (disch := omega) only [go_sem, ↓reduceIte, Nat.reduceEqDiff, Nat.reduceLeDiff, H.cv_3_66, H.cv_3_68, H.cv_68_3, t2, t3, g2, g3, hcv.same, hcv'.same, hcv.disc, hcv'.disc]
 refine ⟨by rw [hcv.own]; rfl, ?_⟩
 refine (eqcuts_ok H hA hcv hC hcv' hC' z2 _).to ?_
 rcases Classical.em (E.cuts = E'.cuts) with c1 | c1
 ·rw [dcd_t c1]
  rw [contK_some]; simp (disch := omega) only [go_sem, ↓reduceIte, Nat.reduceEqDiff, Nat.reduceLeDiff, H.cv_3_66, H.cv_3_68, H.cv_68_3, t2, t3, t5, g2, g3, hbv.same, hbv'.same, hbv.disc, hbv'.disc]
  refine ⟨by rw [hbv.own]; rfl, ?_⟩
  refine (eqbags_ok H hQ hbv hB hbv' hB' z1 (fun b hb => (z3 b hb).1) g5).to ?_
  have hn : dcd (E.bags = E'.bags) = sameB E E' := by
   rcases Classical.em (E.bags = E'.bags) with c2 | c2
   ·rw [dcd_t c2, sameB_true.2 (by cases E; cases E'; cases c1; cases c2; rfl)]
   ·rw [dcd_f c2, sameB_no fun q => c2 (by rw [q])]
  rw [hn]
  rw [contK_some]; simp (disch := omega) only [go_sem, ↓reduceIte, Nat.reduceEqDiff, Nat.reduceLeDiff, H.cv_3_66, H.cv_3_68, H.cv_68_3]
  exact gkk
 ·rw [dcd_f c1]
  have hn : sameB E E' = false := sameB_no fun q => c1 (by rw [q])
  rw [contK_some]; simp (disch := omega) only [go_sem, ↓reduceIte, Nat.reduceEqDiff, Nat.reduceLeDiff, H.cv_3_66, H.cv_3_68, H.cv_68_3]
  exact ⟨by rw [hn], gkk⟩
end Go.Proofs.Ytomfknocpijmbaa
end
section
set_option linter.unusedVariables false
set_option linter.unusedSimpArgs false
namespace Go.Proofs.Ytomfknocpijmbaa
open Go.Am
def rcutE (E : Eth) (x : Act) : Eth := setP (setP E x.p []) (x.b, x.a) []
def rparP (E : Eth) (x : Act) (l : List Pcl) (k : Nat) (q : Pcl) : Eth × List UInt8 × Bool :=
 if x.kd == ((1 : Nat) : Int) then (setP E x.p (l.take k ++ l.drop (k + 1)), q.1, true)
 else if x.kd == ((2 : Nat) : Int) then (setP E x.p (l.take k ++ l.drop (k + 1)), [], false)
 else if x.kd == ((3 : Nat) : Int) then (if decide (l.length < 64) then (setP E x.p (l ++ [q]), [], false) else (E, [], false))
 else if x.kd == ((4 : Nat) : Int) && !q.2 then (setP E x.p (l.set k (bendB q.1 x.w, true)), [], false)
 else (E, [], false)
def rdoP (E : Eth) (x : Act) : Eth × List UInt8 × Bool :=
 if isCutAct x then (if (cutI E.cuts x.a x.b).isSome then rcutE E x else insCut (rcutE E x) (mm x.p), [], false)
 else if isMend x then (match cutI E.cuts x.a x.b with | some i => ⟨E.bags, E.cuts.take i ++ E.cuts.drop (i + 1)⟩ | none => E, [], false)
 else match bagI (ks E) x.p with
  | none => (E, [], false)
  | some i => rparP E x (lAt E i) (plc x (lAt E i)) (pclAt (lAt E i) (plc x (lAt E i)))
def RdoR (r : AV) (D : Eth × List UInt8 × Bool) : Prop := ∃ v w, r = .tu [v, w, .sc (.bool D.2.2)] ∧ EthV v D.1 ∧ SF 1 w (u8s D.2.1)
theorem cutI_lt {l : List (Int × Int)} {a b : Int} {i : Nat} (h : cutI l a b = some i) : i < l.length := by
 unfold cutI at h
 exact (List.findIdx?_eq_some_iff_getElem.1 h).1
theorem setP_len {E : Eth} {p : Int × Int} : (ks (setP E p [])).length ≤ (ks E).length := by
 simp only [ks, List.length_map, setP, List.length_nil, decide_true]
 rw [setG_t]
 exact List.length_filter_le ..
theorem app_lit {P : Program} {ann : Ann} {dst : Option Nat} {Q : St → Prop} {sz bytes : Nat} {ys : List (List AV)} {z : List AV} {t : Nat → AV} {h : Heap} (hy : GE sz ys) (hz : z.length = sz) (hn : 0 < ys.length) (hb : ys.length * bytes ≤ 2 ^ 47)
  (hQ : ∀ o cap z', h o = none → ys.length ≤ cap → z'.length = (cap - ys.length) * sz → Q ⟨putd t dst (.rs o 0 sz ys.length (some cap)), upd h o (some (.arr (ys.flatten ++ z')))⟩) : after P ann dst h Q (aexAppO sz bytes z t h ys (.bs true sz [] (some 0))) := by
 have c : ¬ ys.length = 0 := by omega
 have : aexAppO sz bytes z t h ys (.bs true sz [] (some 0)) = some (grownO sz z ys.flatten ys.length t) := by
  simp [aexAppO, c]
  omega
 rw [this]
 intro b cc hbn hle
 have := hQ b cc (List.replicate (cc - ys.length) z).flatten hbn hle (by rw [rep_flat, hz])
 rw [← hy.disc] at this
 exact this
theorem chunks_obj {sz : Nat} {es : List (List AV)} {z : List AV} (hg : GE sz es) : chunks sz es.length (((es.flatten ++ z).drop 0).map AV.disc) = es := by
 rw [List.drop_zero, List.map_append, hg.disc, hg.chunks]
theorem setR_row {sz : Nat} {es : List (List AV)} {z e : List AV} {k : Nat} (hg : GE sz es) (hk : k < es.length) (he : e.length = sz) : setRange (es.flatten ++ z) (k * sz) e = (es.set k e).flatten ++ z := by
 have h1 : (es.take k).flatten.length = k * sz := fl_len hg (by omega)
 have h2 := (hg _ (List.getElem_mem hk)).1
 have h3 : es.flatten ++ z = (es.take k).flatten ++ (es[k] ++ ((es.drop (k + 1)).flatten ++ z)) := by
  rw [fl_split k, List.drop_eq_getElem_cons hk, List.flatten_cons, List.append_assoc]
 rw [h3, setRange_at h1.symm, List.drop_left' (by omega), List.set_eq_take_append_cons_drop, if_pos hk]
 simp
variable {P : Program} (H : Has P)
include H
set_option maxHeartbeats 4000000 in
theorem rdo_ok {bv cv : AV} {E : Eth} {bes ces : List (List AV)} {x : Act} (hbv : SF 3 bv bes) (hB : RR BgR bes E.bags) (hcv : SF 2 cv ces) (hC : RR CK ces E.cuts) (hz : Szd E) (hne : ∀ b ∈ E.bags, 1 ≤ b.l.length) (h : Heap) :
  AWF P ann 0 22 [.ag [bv, cv], x.av] h fun r h' => RdoR r (rdoP E x) ∧ h' = h := by
 refine AWF.fnPureA H.f0_22 rfl ?_
 obtain ⟨z1, z2, z3⟩ := hz
 have e1 := hC.len
 have e2 := hB.len
 have hK : RR BK bes (ks E) := bk_of hB
 have kl : (ks E).length = E.bags.length := by simp [ks]
 have setR0 : ∀ (a b x y : AV), setRange [a, b] 0 [x, y] = [x, y] := fun _ _ _ _ => rfl
 have setR1 : ∀ (a b y : AV), setRange [a, b] 1 [y] = [a, y] := fun _ _ _ => rfl
 have mk : ∀ {bv' cv' bes' ces' w} {E' : Eth} {b : List UInt8} {c : Bool}, SF 3 bv' bes' → RR BgR bes' E'.bags → SF 2 cv' ces' → RR CK ces' E'.cuts → SF 1 w (u8s b) → rdoP E x = (E', b, c) → RdoR (.tu [.ag [bv', cv'], w, .sc (.bool c)]) (rdoP E x) := fun s1 r1 s2 r2 s3 e => by
  rw [e]
  exact ⟨_, _, rfl, ⟨_, _, _, _, rfl, s1, r1, s2, r2⟩, s3⟩
 have sets : ∀ {v : AV} {zs : List (List AV)} {L' : List Pcl}, SL 2 v zs → RR PcR zs L' → ∃ es3, RR BgR es3 (setP E x.p L').bags ∧ ∀ h, AWF P ann 0 34 [.ag [bv, cv], .sc (.int .i64 x.a), .sc (.int .i64 x.b), v] h fun r h' => r = .ag [.bs false 3 es3 none, cv] ∧ h' = h := fun {v zs L'} sv rv => by
  refine ⟨setF x.p [.sc (.int .i64 x.p.1), .sc (.int .i64 x.p.2), v.dis] bes (ks E) (decide (zs.length = 0)), ?_, fun h => set_ok H hbv hK hcv.disc sv (by omega) x.p h⟩
  rw [rv.len]
  exact setF_rr sv.df rv hB
 refine A_seq_gen fun N hN => W_sound ?_
 simp (disch := omega) only [go_sem, ↓reduceIte, Nat.reduceEqDiff, Nat.reduceLeDiff, H.cv_3_66, H.cv_3_68, H.cv_68_3, Act.av, hbv.disc, hcv.disc]
 intro o2 ho2 o3 ho3 o4 ho4
 obtain ⟨h2, hh, f2, f3, f4, fk, ⟨no3, no4⟩, n23, n24, n34⟩ := box3 (Z := .arr [.sc (.slice none 0 0), .sc (.slice none 0 0)]) ho2 ho3 ho4
 have no2 : h o2 = none := ho2
 rw [hh]
 clear hh ho2 ho3 ho4
 refine hN _ ?_; clear hN N
 have keep4 : ∀ {h9 : Heap} {X : Option AObj}, (∀ y, h y ≠ none → h9 y = h y) → ∀ y, h y ≠ none → (if y = o4 then X else h9 y) = h y := fun k y hy => by
  rw [if_neg (fun e => hy (by rw [e]; exact no4))]
  exact k y hy
 by_cases hca : isCutAct x = true
 ·have hca2 := hca
  unfold isCutAct at hca2
  rw [Bool.and_eq_true] at hca2
  obtain ⟨e5, htw⟩ := hca2
  have hdo : rdoP E x = (if (cutI E.cuts x.a x.b).isSome then rcutE E x else insCut (rcutE E x) (mm x.p), [], false) := by unfold rdoP; rw [if_pos hca]
  refine A_seq_gen fun M hM => ?_
  refine A_seq_gen fun N hN => W_sound ?_
  refine W_f (fun t => t 2 = .op o2 0 ∧ t 3 = .op o3 0 ∧ t 4 = .op o4 0 ∧ t 5 = .sc (.slice none 0 0) ∧ t 6 = .sc (.bool false) ∧ True) ?_; rintro t ⟨t2, t3, t4, t5, t6, -⟩
  simp (disch := omega) only [go_sem, ↓reduceIte, Nat.reduceEqDiff, Nat.reduceLeDiff, H.cv_3_66, H.cv_3_68, H.cv_68_3, t3, f3, e5]
  refine (Two_ok H x.a x.b _).to ?_
  rw [htw]
  rw [contK_some]; simp (disch := omega) only [go_sem, ↓reduceIte, Nat.reduceEqDiff, Nat.reduceLeDiff, H.cv_3_66, H.cv_3_68, H.cv_68_3]
  refine hN _ ?_; clear hN N
  refine AW.cond true (by simp [Opd.ev, upd_at]; rfl) (fun _ => ?_) (fun q => by cases q)
  refine A_seq_gen fun N hN => W_sound ?_
  refine W_f (fun t => t 2 = .op o2 0 ∧ t 3 = .op o3 0 ∧ t 4 = .op o4 0 ∧ t 5 = .sc (.slice none 0 0) ∧ t 6 = .sc (.bool false) ∧ True) ?_; rintro t ⟨t2, t3, t4, t5, t6, -⟩
  obtain ⟨es1, hB1, hset1⟩ : ∃ es1, RR BgR es1 (setP E x.p []).bags ∧ ∀ h, AWF P ann 0 34 [.ag [bv, cv], .sc (.int .i64 x.a), .sc (.int .i64 x.b), .sc (.slice none 0 0)] h fun r h' => r = .ag [.bs false 3 es1 none, cv] ∧ h' = h :=
   ⟨_, setF_rr (p := x.p) (put := decide (([] : List (List AV)).length = 0)) (SF.nil : SF 2 (.sc (.slice none 0 0)) []) (RR.nil : RR PcR [] []) hB, fun h => set_ok H hbv hK hcv.disc (SL.nil : SL 2 (.sc (.slice none 0 0)) []) (by omega) x.p h⟩
  have hK1 : RR BK es1 (ks (setP E x.p [])) := bk_of hB1
  have l1 : (ks (setP E x.p [])).length ≤ 2 ^ 20 := by have := setP_len (E := E) (p := x.p); omega
  obtain ⟨es2, hB2, hset2⟩ : ∃ es2, RR BgR es2 (rcutE E x).bags ∧ ∀ h, AWF P ann 0 34 [.ag [.bs false 3 es1 none, cv], .sc (.int .i64 x.b), .sc (.int .i64 x.a), .sc (.slice none 0 0)] h fun r h' => r = .ag [.bs false 3 es2 none, cv] ∧ h' = h :=
   ⟨_, setF_rr (p := (x.b, x.a)) (put := decide (([] : List (List AV)).length = 0)) (SF.nil : SF 2 (.sc (.slice none 0 0)) []) (RR.nil : RR PcR [] []) hB1, fun h => set_ok H SF.bs hK1 hcv.disc (SL.nil : SL 2 (.sc (.slice none 0 0)) []) l1 (x.b, x.a) h⟩
  clear hK1 l1 hB1
  simp (disch := omega) only [go_sem, ↓reduceIte, Nat.reduceEqDiff, Nat.reduceLeDiff, H.cv_3_66, H.cv_3_68, H.cv_68_3, t2, t3, f2, f3, hbv.disc, hcv.disc]
  refine ⟨_, hset1, ?_⟩
  rw [contK_some]; simp (disch := omega) only [go_sem, ↓reduceIte, Nat.reduceEqDiff, Nat.reduceLeDiff, H.cv_3_66, H.cv_3_68, H.cv_68_3]
  refine ⟨_, hset2, ?_⟩
  have hs1 : ∀ es : List (List AV), (AV.bs false 3 es none).disc = .bs false 3 es none := fun _ => rfl
  rw [contK_some]; simp (disch := omega) only [go_sem, ↓reduceIte, Nat.reduceEqDiff, Nat.reduceLeDiff, H.cv_3_66, H.cv_3_68, H.cv_68_3, t2, f2, hcv.disc, hs1, setR0]
  have g2 : (upd h2 o2 (some (.arr [.bs false 3 es2 none, cv]))) o2 = some (.arr [.bs false 3 es2 none, cv]) := upd_same ..
  have gk : ∀ x, x ≠ o2 → (upd h2 o2 (some (.arr [.bs false 3 es2 none, cv]))) x = h2 x := fun x hx => upd_ne _ _ hx
  generalize upd h2 o2 (some (.arr [.bs false 3 es2 none, cv])) = h5 at g2 gk
  have g3 := (gk o3 n23.symm).trans f3
  have g4 := (gk o4 n24.symm).trans f4
  have kh : ∀ y, h y ≠ none → h5 y = h y := fun y hy => by rw [gk y (fun e => hy (by rw [e]; exact no2)), fk y hy]
  have sb2 : SF 3 (.bs false 3 es2 none) es2 := .bs
  refine hN _ ?_; clear hN N
  refine A_seq_gen fun N hN => W_sound ?_
  refine W_f (fun t => t 2 = .op o2 0 ∧ t 3 = .op o3 0 ∧ t 4 = .op o4 0 ∧ t 5 = .sc (.slice none 0 0) ∧ t 6 = .sc (.bool false) ∧ True) ?_; rintro t ⟨t2, t3, t4, t5, t6, -⟩
  simp (disch := omega) only [go_sem, ↓reduceIte, Nat.reduceEqDiff, Nat.reduceLeDiff, H.cv_3_66, H.cv_3_68, H.cv_68_3, t2, t3, g2, g3, hs1, hcv.disc]
  refine (Cut_ok H (hs1 es2) hcv hC (by omega) x.a x.b _).to ?_
  have og := optI_ge (x := cutI E.cuts x.a x.b)
  cases hci : (cutI E.cuts x.a x.b).isSome with
  | true =>
   rw [hci] at og
   rw [hci, if_pos rfl] at hdo
   rw [contK_some]; simp (disch := omega) only [go_sem, ↓reduceIte, Nat.reduceEqDiff, Nat.reduceLeDiff, H.cv_3_66, H.cv_3_68, H.cv_68_3, og, t2, t4, g2, g4, hs1, hcv.disc, setR0]
   exact ⟨mk sb2 hB2 hcv hC .nil hdo, keep4 kh⟩
  | false =>
   rw [hci] at og
   rw [hci, if_neg Bool.false_ne_true] at hdo
   rw [contK_some]; simp (disch := omega) only [go_sem, ↓reduceIte, Nat.reduceEqDiff, Nat.reduceLeDiff, H.cv_3_66, H.cv_3_68, H.cv_68_3, og]
   refine hN _ ?_; clear hN N
   refine A_seq_gen fun N hN => W_sound ?_
   refine W_f (fun t => t 2 = .op o2 0 ∧ t 3 = .op o3 0 ∧ t 4 = .op o4 0 ∧ t 5 = .sc (.slice none 0 0) ∧ t 6 = .sc (.bool false) ∧ True) ?_; rintro t ⟨t2, t3, t4, t5, t6, -⟩
   simp (disch := omega) only [go_sem, ↓reduceIte, Nat.reduceEqDiff, Nat.reduceLeDiff, H.cv_3_66, H.cv_3_68, H.cv_68_3, t3, g3]
   refine hN _ ?_; clear hN N
   refine A_seq_gen fun N hN => W_sound ?_
   refine W_f (fun t => t 2 = .op o2 0 ∧ t 3 = .op o3 0 ∧ t 4 = .op o4 0 ∧ t 5 = .sc (.slice none 0 0) ∧ t 6 = .sc (.bool false) ∧ t 7 = .sc (.int .i64 x.a) ∧ t 8 = .sc (.int .i64 x.b) ∧ True) ?_; rintro t ⟨t2, t3, t4, t5, t6, t7, t8, -⟩
   have go : ∀ t : Nat → AV, t 2 = .op o2 0 → t 3 = .op o3 0 → t 4 = .op o4 0 → t 5 = .sc (.slice none 0 0) → t 6 = .sc (.bool false) → t 7 = .sc (.int .i64 (mm x.p).1) → t 8 = .sc (.int .i64 (mm x.p).2) → N ⟨t, h5⟩ := by
    clear t2 t3 t4 t5 t6 t7 t8 t
    intro t t2 t3 t4 t5 t6 t7 t8
    refine hN _ ?_; clear hN N
    generalize mm x.p = p at *
    have hn := ix_le E.cuts p
    have hins : (insCut (rcutE E x) p).cuts = E.cuts.take (ix E.cuts p) ++ p :: E.cuts.drop (ix E.cuts p) := rfl
    have hinb : (insCut (rcutE E x) p).bags = (rcutE E x).bags := rfl
    refine A_seq_gen fun N hN => W_sound ?_
    simp (disch := omega) only [go_sem, ↓reduceIte, Nat.reduceEqDiff, Nat.reduceLeDiff, H.cv_3_66, H.cv_3_68, H.cv_68_3]
    refine hN _ ?_; clear hN N
    refine A_seq_gen fun M hM => W_sound ?_
    refine W_f (fun t => t 2 = .op o2 0 ∧ t 3 = .op o3 0 ∧ t 4 = .op o4 0 ∧ t 5 = .sc (.slice none 0 0) ∧ t 6 = .sc (.bool false) ∧ t 7 = .sc (.int .i64 p.1) ∧ t 8 = .sc (.int .i64 p.2) ∧ t 9 = .bs true 2 [] (some 0) ∧ True) ?_; rintro t ⟨t2, t3, t4, t5, t6, t7, t8, t9, -⟩
    have exit : ∀ (t : Nat → AV) (lim : Option Nat), t 2 = .op o2 0 → t 4 = .op o4 0 → t 5 = .sc (.slice none 0 0) → t 6 = .sc (.bool false) → t 7 = .sc (.int .i64 p.1) → t 8 = .sc (.int .i64 p.2) → t 9 = .bs true 2 (ces.take (ix E.cuts p)) lim → M ⟨t, h5⟩ := by
     clear t2 t3 t4 t5 t6 t7 t8 t9 t
     intro t lim t2 t4 t5 t6 t7 t8 t9
     refine hM _ ?_; clear hM M
     generalize ix E.cuts p = n at *
     have tl : (ces.take n).length = n := by rw [List.length_take]; omega
     have hsl : SL 2 (.bs false 2 (ces.take n) lim) (ces.take n) := .bs
     refine A_seq_gen fun N hN => W_sound ?_
     simp (disch := omega) only [go_sem, ↓reduceIte, Nat.reduceEqDiff, Nat.reduceLeDiff, H.cv_3_66, H.cv_3_68, H.cv_68_3, t9, hsl.len, tl]
     refine hN _ ?_; clear hN N
     refine A_seq_gen fun N hN => W_sound ?_
     refine W_f (fun t => t 2 = .op o2 0 ∧ t 4 = .op o4 0 ∧ t 5 = .sc (.slice none 0 0) ∧ t 6 = .sc (.bool false) ∧ t 7 = .sc (.int .i64 p.1) ∧ t 8 = .sc (.int .i64 p.2) ∧ t 9 = .bs true 2 (ces.take n) lim ∧ t 11 = .sc (.int .i64 (n : Nat)) ∧ True) ?_; rintro t ⟨t2, t4, t5, t6, t7, t8, t9, t11, -⟩
     have happ1 := fun (t : Nat → AV) (h : Heap) => (SG.bs : SG 2 (.bs true 2 (ces.take n) lim) (ces.take n)).app (t := t) (h := h) (ys := [[.sc (.int .i64 p.1), .sc (.int .i64 p.2)]]) (bytes := 16) (by simp; omega)
     have sg1 := (SG.bs : SG 2 (.bs true 2 (ces.take n) lim) (ces.take n)).cat [[.sc (.int .i64 p.1), .sc (.int .i64 p.2)]]
     generalize catV 2 [[.sc (.int .i64 p.1), .sc (.int .i64 p.2)]] (.bs true 2 (ces.take n) lim) = v1 at happ1 sg1
     simp (disch := omega) only [go_sem, ↓reduceIte, Nat.reduceEqDiff, Nat.reduceLeDiff, H.cv_3_66, H.cv_3_68, H.cv_68_3, t7, t8, t9, happ1]
     refine hN _ ?_; clear hN N
     refine A_seq_gen fun N hN => W_sound ?_
     refine W_f (fun t => t 2 = .op o2 0 ∧ t 4 = .op o4 0 ∧ t 5 = .sc (.slice none 0 0) ∧ t 6 = .sc (.bool false) ∧ t 9 = v1 ∧ t 11 = .sc (.int .i64 (n : Nat)) ∧ True) ?_; rintro t ⟨t2, t4, t5, t6, t9, t11, -⟩
     have hsl2 := fun (t : Nat → AV) (h : Heap) (k : IntKind) => hcv.sl.slc_l (t := t) (h := h) (k := k) (l := n) (by omega)
     have s2 := hcv.sl.drop n
     generalize cutV 2 n ces.length cv = c2 at hsl2 s2
     have happ2 := fun (t : Nat → AV) (h : Heap) => sg1.app (t := t) (h := h) (ys := ces.drop n) (bytes := 16) (by simp; omega)
     have sg2 := sg1.cat (ces.drop n)
     generalize catV 2 (ces.drop n) v1 = v2 at happ2 sg2
     have vc : v2.cellsD = [v2] := by rcases sg2 with ⟨rfl, _⟩ | ⟨_, rfl⟩ <;> rfl
     have vt : v2.isTu = false := by rcases sg2 with ⟨rfl, _⟩ | ⟨_, rfl⟩ <;> rfl
     simp (disch := omega) only [go_sem, ↓reduceIte, Nat.reduceEqDiff, Nat.reduceLeDiff, H.cv_3_66, H.cv_3_68, H.cv_68_3, t2, t9, t11, g2, hcv.same, hcv.disc, hsl2, s2.same, s2.sl.elems, happ2, vc, vt, setR1]
     have q2 : (upd h5 o2 (some (.arr [.bs false 3 es2 none, v2]))) o2 = some (.arr [.bs false 3 es2 none, v2]) := upd_same ..
     have qk : ∀ x, x ≠ o2 → (upd h5 o2 (some (.arr [.bs false 3 es2 none, v2]))) x = h5 x := fun x hx => upd_ne _ _ hx
     generalize upd h5 o2 (some (.arr [.bs false 3 es2 none, v2])) = h6 at q2 qk
     have q4 := (qk o4 n24.symm).trans g4
     have kh6 : ∀ y, h y ≠ none → h6 y = h y := fun y hy => by rw [qk y (fun e => hy (by rw [e]; exact no2)), kh y hy]
     refine hN _ ?_; clear hN N
     refine W_sound ?_
     refine W_f (fun t => t 2 = .op o2 0 ∧ t 4 = .op o4 0 ∧ t 5 = .sc (.slice none 0 0) ∧ t 6 = .sc (.bool false) ∧ True) ?_; rintro t ⟨t2, t4, t5, t6, -⟩
     simp (disch := omega) only [go_sem, ↓reduceIte, Nat.reduceEqDiff, Nat.reduceLeDiff, H.cv_3_66, H.cv_3_68, H.cv_68_3, t2, t4, q2, q4, hs1, sg2.sl.disc, sg2.sl.ddisc, setR0]
     have hrr := rr_ins (R := CK) hC (show CK [.sc (.int .i64 p.1), .sc (.int .i64 p.2)] p from rfl) hn
     exact ⟨mk sb2 (by rw [hinb]; exact hB2) sg2.sl.df (by rw [hins]; simpa using hrr) .nil hdo, keep4 kh6⟩
    simp (disch := omega) only [go_sem, ↓reduceIte, Nat.reduceEqDiff, Nat.reduceLeDiff, H.cv_3_66, H.cv_3_68, H.cv_68_3]
    refine AW_loopN (fun m t h' => h' = h5 ∧ ∃ i lim, m = E.cuts.length - i ∧ i ≤ E.cuts.length ∧ t 2 = .op o2 0 ∧ t 4 = .op o4 0 ∧ t 5 = .sc (.slice none 0 0) ∧ t 6 = .sc (.bool false) ∧ t 7 = .sc (.int .i64 p.1) ∧ t 8 = .sc (.int .i64 p.2) ∧ t 9 = .bs true 2 (ces.take i) lim ∧ t 10 = .sc (.int .i64 (i : Nat)) ∧ ∀ j (hj : j < E.cuts.length), j < i → ahd E.cuts[j] p = true)
     (n := E.cuts.length) ⟨rfl, 0, some 0, rfl, Nat.zero_le _, by simp [upd_at, t2], by simp [upd_at, t4], by simp [upd_at, t5], by simp [upd_at, t6], by simp [upd_at, t7], by simp [upd_at, t8], by simp [upd_at, t9], by simp [upd_at], fun j _ hj => by omega⟩ ?_
    clear t2 t3 t4 t5 t6 t7 t8 t9 t
    rintro m t h' ⟨hh', i, lim, rfl, hi, t2, t4, t5, t6, t7, t8, t9, t10, hah⟩
    rw [hh']
    clear hh' h'
    rcases Nat.lt_or_ge i E.cuts.length with hlt | hge
    ·obtain ⟨e, g0, rfl⟩ := hC.lt hlt
     (refine W_seq_gen fun N hN => ?_)
     have hee : ∀ n : Nat, ((n : Nat) : Int) ≥ 0 := fun n => by omega
     simp (disch := omega) only [go_sem, ↓reduceIte, Nat.reduceEqDiff, Nat.reduceLeDiff, H.cv_3_66, H.cv_3_68, H.cv_68_3, t2, t7, t8, t10, g2, hcv.same, hcv.disc, hcv.sl.len, e1, hlt, hcv.sl.ia, g0]
     refine ⟨_, ahead_ok H _ _ _ _ _, ?_⟩
     cases hq : ahd E.cuts[i] p with
     | true =>
      have q : ahd (E.cuts[i].1, E.cuts[i].2) (p.1, p.2) = true := hq
      rw [contK_some]; simp (disch := omega) only [go_sem, ↓reduceIte, Nat.reduceEqDiff, Nat.reduceLeDiff, H.cv_3_66, H.cv_3_68, H.cv_68_3, q]
      refine hN _ ?_; clear hN N
      (refine W_seq_gen fun R hR => ?_)
      rw [W_block]
      obtain ⟨l2, hl2⟩ := cat_bs (sz := 2) (es := ces.take i) (ys := [[.sc (.int .i64 E.cuts[i].1), .sc (.int .i64 E.cuts[i].2)]]) (lim := lim)
      have happ := fun (t : Nat → AV) (h : Heap) => (SG.bs : SG 2 (.bs true 2 (ces.take i) lim) (ces.take i)).app (t := t) (h := h) (ys := [[.sc (.int .i64 E.cuts[i].1), .sc (.int .i64 E.cuts[i].2)]]) (bytes := 16) (by simp; omega)
      rw [hl2] at happ
      have htk : ces.take i ++ [[.sc (.int .i64 E.cuts[i].1), .sc (.int .i64 E.cuts[i].2)]] = ces.take (i + 1) := by rw [List.take_add_one, g0]; rfl
      rw [htk] at happ
      simp (disch := omega) only [go_sem, ↓reduceIte, Nat.reduceEqDiff, Nat.reduceLeDiff, H.cv_3_66, H.cv_3_68, H.cv_68_3, t2, t9, t10, g2, hcv.same, hcv.disc, hcv.sl.ia, g0, happ]
      refine hR _ ?_
      simp (disch := omega) only [go_sem, ↓reduceIte, Nat.reduceEqDiff, Nat.reduceLeDiff, H.cv_3_66, H.cv_3_68, H.cv_68_3, t10, nat_add]
      exact ⟨E.cuts.length - (i + 1), by omega, i + 1, l2, rfl, by omega, by simp [upd_at, t2], by simp [upd_at, t4], by simp [upd_at, t5], by simp [upd_at, t6], by simp [upd_at, t7], by simp [upd_at, t8], by simp [upd_at], by simp [upd_at], fun j hj hji => by
       rcases Nat.lt_or_ge j i with w | w
       ·exact hah j hj w
       ·obtain rfl : j = i := by omega
        exact hq⟩
     | false =>
      have q : ahd (E.cuts[i].1, E.cuts[i].2) (p.1, p.2) = false := hq
      have hix : ix E.cuts p = i := ix_spec hi hah fun _ => hq
      rw [contK_some]; simp (disch := omega) only [go_sem, ↓reduceIte, Nat.reduceEqDiff, Nat.reduceLeDiff, H.cv_3_66, H.cv_3_68, H.cv_68_3, q]
      exact exit _ lim (by simp [upd_at, t2]) (by simp [upd_at, t4]) (by simp [upd_at, t5]) (by simp [upd_at, t6]) (by simp [upd_at, t7]) (by simp [upd_at, t8]) (by simp [upd_at, t9, hix])
    ·obtain rfl : i = E.cuts.length := by omega
     have hix : ix E.cuts p = E.cuts.length := ix_spec hi hah fun h => by omega
     simp (disch := omega) only [go_sem, ↓reduceIte, Nat.reduceEqDiff, Nat.reduceLeDiff, H.cv_3_66, H.cv_3_68, H.cv_68_3, t2, t10, g2, hcv.same, hcv.disc, hcv.sl.len, e1, Nat.lt_irrefl]
     exact exit _ lim (by simp [upd_at, t2]) (by simp [upd_at, t4]) (by simp [upd_at, t5]) (by simp [upd_at, t6]) (by simp [upd_at, t7]) (by simp [upd_at, t8]) (by simp [upd_at, t9, hix])
   have hmm : (mm x.p).1 = min x.a x.b ∧ (mm x.p).2 = max x.a x.b := ⟨rfl, rfl⟩
   by_cases c : x.b < x.a
   ·have d : decide (x.b < x.a) = true := decide_eq_true c
    simp (disch := omega) only [go_sem, ↓reduceIte, Nat.reduceEqDiff, Nat.reduceLeDiff, H.cv_3_66, H.cv_3_68, H.cv_68_3, t7, t8, d]
    exact go _ (by simp [upd_at, t2]) (by simp [upd_at, t3]) (by simp [upd_at, t4]) (by simp [upd_at, t5]) (by simp [upd_at, t6]) (by simp [upd_at, hmm.1]; omega) (by simp [upd_at, hmm.2]; omega)
   ·have d : decide (x.b < x.a) = false := decide_eq_false c
    simp (disch := omega) only [go_sem, ↓reduceIte, Nat.reduceEqDiff, Nat.reduceLeDiff, H.cv_3_66, H.cv_3_68, H.cv_68_3, t7, t8, d]
    exact go _ (by simp [upd_at, t2]) (by simp [upd_at, t3]) (by simp [upd_at, t4]) (by simp [upd_at, t5]) (by simp [upd_at, t6]) (by simp [upd_at, t7, hmm.1]; omega) (by simp [upd_at, t8, hmm.2]; omega)
 ·refine A_seq_gen fun N hN => W_sound ?_
  refine W_f (fun t => t 2 = .op o2 0 ∧ t 3 = .op o3 0 ∧ t 4 = .op o4 0 ∧ t 5 = .sc (.slice none 0 0) ∧ t 6 = .sc (.bool false) ∧ True) ?_; rintro t ⟨t2, t3, t4, t5, t6, -⟩
  have rest : ∀ t : Nat → AV, t 2 = .op o2 0 → t 3 = .op o3 0 → t 4 = .op o4 0 → t 5 = .sc (.slice none 0 0) → t 6 = .sc (.bool false) → N ⟨t, h2⟩ := by
   clear t2 t3 t4 t5 t6 t
   intro t t2 t3 t4 t5 t6
   refine hN _ ?_; clear hN N
   by_cases hm : isMend x = true
   ·have e6 : (x.kd == ((6 : Nat) : Int)) = true := hm
    have hdo : rdoP E x = (match cutI E.cuts x.a x.b with | some i => ⟨E.bags, E.cuts.take i ++ E.cuts.drop (i + 1)⟩ | none => E, [], false) := by unfold rdoP; rw [if_neg hca, if_pos hm]
    refine A_seq_gen fun M hM => ?_
    refine A_seq_gen fun N hN => W_sound ?_
    simp (disch := omega) only [go_sem, ↓reduceIte, Nat.reduceEqDiff, Nat.reduceLeDiff, H.cv_3_66, H.cv_3_68, H.cv_68_3, t3, f3, e6]
    refine hN _ ?_; clear hN N
    refine AW.cond true (by simp [Opd.ev, upd_at]; rfl) (fun _ => ?_) (fun q => by cases q)
    refine A_seq_gen fun N hN => W_sound ?_
    refine W_f (fun t => t 2 = .op o2 0 ∧ t 3 = .op o3 0 ∧ t 4 = .op o4 0 ∧ t 5 = .sc (.slice none 0 0) ∧ t 6 = .sc (.bool false) ∧ True) ?_; rintro t ⟨t2, t3, t4, t5, t6, -⟩
    simp (disch := omega) only [go_sem, ↓reduceIte, Nat.reduceEqDiff, Nat.reduceLeDiff, H.cv_3_66, H.cv_3_68, H.cv_68_3, t2, t3, f2, f3, hbv.disc, hcv.disc]
    refine (Cut_ok H hbv.disc hcv hC (by omega) x.a x.b _).to ?_
    have og := optI_ge (x := cutI E.cuts x.a x.b)
    have hcc : cutI E.cuts x.a x.b = none ∨ ∃ i, cutI E.cuts x.a x.b = some i := by cases cutI E.cuts x.a x.b with | none => exact .inl rfl | some i => exact .inr ⟨i, rfl⟩
    rcases hcc with hci | ⟨i, hci⟩
    ·have og' : decide (optI (cutI E.cuts x.a x.b) ≥ ((0 : Nat) : Int)) = false := by rw [og, hci]; rfl
     rw [hci] at hdo
     rw [contK_some]; simp (disch := omega) only [go_sem, ↓reduceIte, Nat.reduceEqDiff, Nat.reduceLeDiff, H.cv_3_66, H.cv_3_68, H.cv_68_3, og']
     refine hN _ ?_; clear hN N
     refine W_sound ?_
     refine W_f (fun t => t 2 = .op o2 0 ∧ t 3 = .op o3 0 ∧ t 4 = .op o4 0 ∧ t 5 = .sc (.slice none 0 0) ∧ t 6 = .sc (.bool false) ∧ True) ?_; rintro t ⟨t2, t3, t4, t5, t6, -⟩
     simp (disch := omega) only [go_sem, ↓reduceIte, Nat.reduceEqDiff, Nat.reduceLeDiff, H.cv_3_66, H.cv_3_68, H.cv_68_3, t2, t4, f2, f4, hbv.disc, hcv.disc, setR0]
     exact ⟨mk hbv hB hcv hC .nil hdo, keep4 fk⟩
    ·have hi := cutI_lt hci
     have oi : optI (cutI E.cuts x.a x.b) = ((i : Nat) : Int) := by rw [hci]; rfl
     have d0 : decide (0 ≤ i) = true := by simp
     have hdo : rdoP E x = (⟨E.bags, E.cuts.take i ++ E.cuts.drop (i + 1)⟩, [], false) := by unfold rdoP; rw [if_neg hca, if_pos hm, hci]
     have hsl1 := fun (t : Nat → AV) (h : Heap) (k : IntKind) => hcv.sl.slc_u (t := t) (h := h) (k := k) (u := i) (by omega)
     have hsl2 := fun (t : Nat → AV) (h : Heap) (k : IntKind) => hcv.sl.slc_l (t := t) (h := h) (k := k) (l := i + 1) (by omega)
     have s1 := hcv.sl.take i
     have s2 := hcv.sl.drop (i + 1)
     generalize cutV 2 0 i cv = c1 at hsl1 s1
     generalize cutV 2 (i + 1) ces.length cv = c2 at hsl2 s2
     have happ1 := fun (t : Nat → AV) (h : Heap) => (SG.bs : SG 2 (.bs true 2 [] (some 0)) []).app (t := t) (h := h) (ys := ces.take i) (bytes := 16) (by simp; omega)
     have sg1 := (SG.bs : SG 2 (.bs true 2 [] (some 0)) []).cat (ces.take i)
     generalize catV 2 (ces.take i) (.bs true 2 [] (some 0)) = v1 at happ1 sg1
     rw [List.nil_append] at sg1
     have happ2 := fun (t : Nat → AV) (h : Heap) => sg1.app (t := t) (h := h) (ys := ces.drop (i + 1)) (bytes := 16) (by simp; omega)
     have sg2 := sg1.cat (ces.drop (i + 1))
     generalize catV 2 (ces.drop (i + 1)) v1 = v2 at happ2 sg2
     have vc : v2.cellsD = [v2] := by rcases sg2 with ⟨rfl, _⟩ | ⟨_, rfl⟩ <;> rfl
     have vt : v2.isTu = false := by rcases sg2 with ⟨rfl, _⟩ | ⟨_, rfl⟩ <;> rfl
     have na : ∀ k : Int, 0 ≤ k → k < 2 ^ 40 → IntKind.i64.wrap (k + 1) = k + 1 := fun k _ _ => by rw [IntKind.wrap_i64]; omega
     rw [oi]
     rw [contK_some]; simp (disch := omega) only [go_sem, ↓reduceIte, Nat.reduceEqDiff, Nat.reduceLeDiff, H.cv_3_66, H.cv_3_68, H.cv_68_3, d0, t2, f2, hbv.same, hcv.same, hbv.disc, hcv.disc, hsl1, hsl2, s1.same, s2.same, s1.sl.elems, s2.sl.elems, happ1, happ2, vc, vt, setR1, nat_add]
     have g2 : (upd h2 o2 (some (.arr [bv, v2]))) o2 = some (.arr [bv, v2]) := upd_same ..
     have gk : ∀ x, x ≠ o2 → (upd h2 o2 (some (.arr [bv, v2]))) x = h2 x := fun x hx => upd_ne _ _ hx
     generalize upd h2 o2 (some (.arr [bv, v2])) = h5 at g2 gk
     have g4 := (gk o4 n24.symm).trans f4
     have kh : ∀ y, h y ≠ none → h5 y = h y := fun y hy => by rw [gk y (fun e => hy (by rw [e]; exact no2)), fk y hy]
     refine hN _ ?_; clear hN N
     refine W_sound ?_
     refine W_f (fun t => t 2 = .op o2 0 ∧ t 3 = .op o3 0 ∧ t 4 = .op o4 0 ∧ t 5 = .sc (.slice none 0 0) ∧ t 6 = .sc (.bool false) ∧ True) ?_; rintro t ⟨t2, t3, t4, t5, t6, -⟩
     simp (disch := omega) only [go_sem, ↓reduceIte, Nat.reduceEqDiff, Nat.reduceLeDiff, H.cv_3_66, H.cv_3_68, H.cv_68_3, t2, t4, g2, g4, hbv.disc, sg2.sl.disc, sg2.sl.ddisc, setR0]
     exact ⟨mk (E' := ⟨E.bags, E.cuts.take i ++ E.cuts.drop (i + 1)⟩) hbv hB sg2.sl.df ((hC.take i).append (hC.drop (i + 1))) .nil hdo, keep4 kh⟩
   ·have e6 : (x.kd == ((6 : Nat) : Int)) = false := by
     cases q : (x.kd == ((6 : Nat) : Int)) with
     | false => rfl
     | true => exact absurd q hm
    have hdo : rdoP E x = (match bagI (ks E) x.p with
      | none => (E, [], false)
      | some i => rparP E x (lAt E i) (plc x (lAt E i)) (pclAt (lAt E i) (plc x (lAt E i)))) := by unfold rdoP; rw [if_neg hca, if_neg hm]
    refine A_seq_gen fun N hN => W_sound ?_
    simp (disch := omega) only [go_sem, ↓reduceIte, Nat.reduceEqDiff, Nat.reduceLeDiff, H.cv_3_66, H.cv_3_68, H.cv_68_3, t3, f3, e6]
    refine hN _ ?_; clear hN N
    refine A_seq_gen fun N hN => W_sound ?_
    refine W_f (fun t => t 2 = .op o2 0 ∧ t 3 = .op o3 0 ∧ t 4 = .op o4 0 ∧ t 5 = .sc (.slice none 0 0) ∧ t 6 = .sc (.bool false) ∧ True) ?_; rintro t ⟨t2, t3, t4, t5, t6, -⟩
    simp (disch := omega) only [go_sem, ↓reduceIte, Nat.reduceEqDiff, Nat.reduceLeDiff, H.cv_3_66, H.cv_3_68, H.cv_68_3, t2, t3, f2, f3, hbv.disc, hcv.disc]
    refine (Bag_ok H hcv.disc hbv hK (by omega) x.p _).to ?_
    rw [contK_some]; simp (disch := omega) only [go_sem, ↓reduceIte, Nat.reduceEqDiff, Nat.reduceLeDiff, H.cv_3_66, H.cv_3_68, H.cv_68_3]
    refine hN _ ?_; clear hN N
    refine A_seq_gen fun N hN => W_sound ?_
    have ol := optI_lt (x := bagI (ks E) x.p)
    cases hb : bagI (ks E) x.p with
    | none =>
     rw [hb] at ol hdo
     simp only [Option.isSome_none, Bool.not_false] at ol
     refine W_f (fun t => t 2 = .op o2 0 ∧ t 3 = .op o3 0 ∧ t 4 = .op o4 0 ∧ t 5 = .sc (.slice none 0 0) ∧ t 6 = .sc (.bool false) ∧ t 13 = .sc (.int .i64 (optI none)) ∧ True) ?_; rintro t ⟨t2, t3, t4, t5, t6, t13, -⟩
     simp (disch := omega) only [go_sem, ↓reduceIte, Nat.reduceEqDiff, Nat.reduceLeDiff, H.cv_3_66, H.cv_3_68, H.cv_68_3, t2, t4, t13, ol, f2, f4, hbv.disc, hcv.disc, setR0]
     exact ⟨mk hbv hB hcv hC .nil hdo, keep4 fk⟩
    | some i =>
     have hi : i < E.bags.length := kl ▸ bagI_lt hb
     have hdo : rdoP E x = rparP E x (lAt E i) (plc x (lAt E i)) (pclAt (lAt E i) (plc x (lAt E i))) := by unfold rdoP; rw [if_neg hca, if_neg hm, hb]
     rw [hb] at ol
     have ol' : decide (((i : Nat) : Int) < ((0 : Nat) : Int)) = false := ol
     refine W_f (fun t => t 2 = .op o2 0 ∧ t 3 = .op o3 0 ∧ t 4 = .op o4 0 ∧ t 5 = .sc (.slice none 0 0) ∧ t 6 = .sc (.bool false) ∧ t 13 = .sc (.int .i64 (optI (some i))) ∧ True) ?_; rintro t ⟨t2, t3, t4, t5, t6, t13, -⟩
     have t13' : t 13 = .sc (.int .i64 ((i : Nat) : Int)) := t13
     have ol2 : decide (i < 0) = false := by simp
     simp (disch := omega) only [go_sem, ↓reduceIte, Nat.reduceEqDiff, Nat.reduceLeDiff, H.cv_3_66, H.cv_3_68, H.cv_68_3, t13', ol2]
     refine hN _ ?_; clear hN N
     obtain ⟨e, g0, lv, ys, rfl, hlv, hys⟩ := hB.lt hi
     have el := hys.len
     have l1 := hne _ (List.getElem_mem hi)
     have l2 := z3 _ (List.getElem_mem hi)
     have hlA : lAt E i = E.bags[i].l := by unfold lAt; simp [hi]
     rw [hlA] at hdo
     generalize E.bags[i].l = l at *
     refine A_seq_gen fun N hN => W_sound ?_
     refine W_f (fun t => t 2 = .op o2 0 ∧ t 3 = .op o3 0 ∧ t 4 = .op o4 0 ∧ t 5 = .sc (.slice none 0 0) ∧ t 6 = .sc (.bool false) ∧ t 13 = .sc (.int .i64 ((i : Nat) : Int)) ∧ True) ?_; rintro t ⟨t2, t3, t4, t5, t6, t13, -⟩
     simp (disch := omega) only [go_sem, ↓reduceIte, Nat.reduceEqDiff, Nat.reduceLeDiff, H.cv_3_66, H.cv_3_68, H.cv_68_3, t2, t13, f2, hbv.same, hbv.disc, hbv.sl.ia, g0, hlv.same, hlv.disc, hlv.sl.elems]
     refine app_lit (pc_ge hys) rfl (by omega) (by omega) fun o14 cap z' ho14 hcap hz' => ?_
     simp (disch := omega) only [go_sem, ↓reduceIte, Nat.reduceEqDiff, Nat.reduceLeDiff, H.cv_3_66, H.cv_3_68, H.cv_68_3]
     have ky := pc_ge hys
     have g14 : (upd h2 o14 (some (.arr (ys.flatten ++ z')))) o14 = some (.arr (ys.flatten ++ z')) := upd_same ..
     have gk : ∀ y, h2 y ≠ none → (upd h2 o14 (some (.arr (ys.flatten ++ z')))) y = h2 y := fun y hy => upd_ne _ _ (fun e => hy (by rw [e]; exact ho14))
     generalize upd h2 o14 (some (.arr (ys.flatten ++ z'))) = h5 at g14 gk
     have g2 := (gk o2 (by rw [f2]; simp)).trans f2
     have g3 := (gk o3 (by rw [f3]; simp)).trans f3
     have g4 := (gk o4 (by rw [f4]; simp)).trans f4
     have kh : ∀ y, h y ≠ none → h5 y = h y := fun y hy => by rw [gk y (by rw [fk y hy]; exact hy), fk y hy]
     have n24' : o14 ≠ o4 := fun e => by rw [e, f4] at ho14; cases ho14
     have n22' : o14 ≠ o2 := fun e => by rw [e, f2] at ho14; cases ho14
     have n23' : o14 ≠ o3 := fun e => by rw [e, f3] at ho14; cases ho14
     have no14 : h o14 = none := by
      cases q : h o14 with
      | none => rfl
      | some X => have := fk o14 (by rw [q]; simp); rw [ho14, q] at this; cases this
     clear gk ho14
     have rd : RD h5 2 (.rs o14 0 2 ys.length (some cap)) ys := rs_ge ky g14 rfl
     refine hN _ ?_; clear hN N
     refine A_seq_gen fun N hN => W_sound ?_
     refine W_f (fun t => t 2 = .op o2 0 ∧ t 3 = .op o3 0 ∧ t 4 = .op o4 0 ∧ t 5 = .sc (.slice none 0 0) ∧ t 6 = .sc (.bool false) ∧ t 14 = .rs o14 0 2 ys.length (some cap) ∧ True) ?_; rintro t ⟨t2, t3, t4, t5, t6, t14, -⟩
     simp (disch := omega) only [go_sem, ↓reduceIte, Nat.reduceEqDiff, Nat.reduceLeDiff, H.cv_3_66, H.cv_3_68, H.cv_68_3, t3, t14, g3, rd.len]
     refine (at_ok H x.n (n := ys.length) (by omega) (by omega) _).to ?_
     obtain ⟨k, hk, hkl, hkp⟩ : ∃ k : Nat, x.n % ((ys.length : Nat) : Int) = ((k : Nat) : Int) ∧ k < l.length ∧ plc x l = k := by
      have p1 := Int.emod_nonneg x.n (show ((ys.length : Nat) : Int) ≠ 0 by omega)
      have p2 := Int.emod_lt_of_pos x.n (show (0 : Int) < ((ys.length : Nat) : Int) by omega)
      refine ⟨(x.n % ((ys.length : Nat) : Int)).toNat, by omega, by omega, ?_⟩
      unfold plc
      rw [el]
     rw [hk]
     rw [contK_some]; simp (disch := omega) only [go_sem, ↓reduceIte, Nat.reduceEqDiff, Nat.reduceLeDiff, H.cv_3_66, H.cv_3_68, H.cv_68_3]
     refine hN _ ?_; clear hN N
     obtain ⟨ek, gk0, w, rfl, hw⟩ := hys.lt hkl
     have hqk : pclAt l k = l[k] := by unfold pclAt; simp [hkl]
     rw [hkp, hqk] at hdo
     have hqm := List.getElem_mem hkl
     generalize l[k] = q at *
     obtain ⟨pt, p1, p2, p3⟩ := rd.at gk0 (by simp only [List.map_cons, List.map_nil, disc_sc, hw.disc]) rfl
     refine A_seq_gen fun N hN => W_sound ?_
     refine W_f (fun t => t 2 = .op o2 0 ∧ t 3 = .op o3 0 ∧ t 4 = .op o4 0 ∧ t 5 = .sc (.slice none 0 0) ∧ t 6 = .sc (.bool false) ∧ t 14 = .rs o14 0 2 ys.length (some cap) ∧ t 15 = .sc (.int .i64 (k : Nat)) ∧ True) ?_; rintro t ⟨t2, t3, t4, t5, t6, t14, t15, -⟩
     simp (disch := omega) only [go_sem, ↓reduceIte, Nat.reduceEqDiff, Nat.reduceLeDiff, H.cv_3_66, H.cv_3_68, H.cv_68_3, t14, t15, p1, p2, p3, hw.disc]
     intro o16 ho16
     have m16 : (upd h5 o16 (some (.arr [w, .sc (.bool q.2)]))) o16 = some (.arr [w, .sc (.bool q.2)]) := upd_same ..
     have gk : ∀ y, h5 y ≠ none → (upd h5 o16 (some (.arr [w, .sc (.bool q.2)]))) y = h5 y := fun y hy => upd_ne _ _ (fun e => hy (by rw [e]; exact ho16))
     generalize upd h5 o16 (some (.arr [w, .sc (.bool q.2)])) = h6 at m16 gk
     have m2 := (gk o2 (by rw [g2]; simp)).trans g2
     have m3 := (gk o3 (by rw [g3]; simp)).trans g3
     have m4 := (gk o4 (by rw [g4]; simp)).trans g4
     have m14 := (gk o14 (by rw [g14]; simp)).trans g14
     have kh6 : ∀ y, h y ≠ none → h6 y = h y := fun y hy => by rw [gk y (by rw [kh y hy]; exact hy), kh y hy]
     have n416 : ¬ o4 = o16 := fun e => by rw [← e, g4] at ho16; cases ho16
     have no16 : h o16 = none := by
      cases q : h o16 with
      | none => rfl
      | some X => have := kh o16 (by rw [q]; simp); rw [ho16, q] at this; cases this
     have n164 : o16 ≠ o14 := fun e => by rw [e, g14] at ho16; cases ho16
     clear gk ho16 p1 p2 p3 rd g2 g3 g4 g14 kh
     have rd : RD h6 2 (.rs o14 0 2 ys.length (some cap)) ys := rs_ge ky m14 rfl
     refine hN _ ?_; clear hN N
     refine A_seq_gen fun N hN => W_sound ?_
     refine W_f (fun t => t 2 = .op o2 0 ∧ t 3 = .op o3 0 ∧ t 4 = .op o4 0 ∧ t 5 = .sc (.slice none 0 0) ∧ t 6 = .sc (.bool false) ∧ t 14 = .rs o14 0 2 ys.length (some cap) ∧ t 15 = .sc (.int .i64 (k : Nat)) ∧ t 16 = .op o16 0 ∧ True) ?_; rintro t ⟨t2, t3, t4, t5, t6, t14, t15, t16, -⟩
     have sA := fun (t : Nat → AV) (h : Heap) (kk : IntKind) => slc_rs (sz := 2) (t := t) (h := h) (o := o14) (c := 0) (n := ys.length) (cap := cap) (l := 0) (u := k) (lo := none) (hi := some (.sc (.int kk (k : Nat)))) (.inl ⟨rfl, rfl⟩) (.inr ⟨kk, rfl⟩) (by omega) (by omega)
     have sB := fun (t : Nat → AV) (h : Heap) (kk : IntKind) => slc_rs (sz := 2) (t := t) (h := h) (o := o14) (c := 0) (n := ys.length) (cap := cap) (l := k + 1) (u := ys.length) (lo := some (.sc (.int kk ((k + 1 : Nat) : Int)))) (hi := none) (.inr ⟨kk, rfl⟩) (.inl ⟨rfl, rfl⟩) (by omega) (by omega)
     have eA : elemsOf h6 2 (.rs o14 (0 + 0 * 2) 2 (k - 0) (some (cap - 0))) = some (ys.take k) := by
      have := rs_ge (h := h6) (o := o14) (n := k) (lim := some (cap - 0)) (z := (ys.drop k).flatten ++ z') (GE.take ky k) (by rw [m14, fl_split k]) (by rw [List.length_take]; omega)
      exact this.1
     have eB : elemsOf h6 2 (.rs o14 (0 + (k + 1) * 2) 2 (ys.length - (k + 1)) (some (cap - (k + 1)))) = some (ys.drop (k + 1)) := by
      rw [Nat.zero_add]
      exact elems_rs ky m14 (by omega) rfl
     have happ1 := fun (t : Nat → AV) (h : Heap) => (SG.bs : SG 2 (.bs true 2 [] (some 0)) []).app (t := t) (h := h) (ys := ys.take k) (bytes := 32) (by simp; omega)
     have sg1 := (SG.bs : SG 2 (.bs true 2 [] (some 0)) []).cat (ys.take k)
     generalize catV 2 (ys.take k) (.bs true 2 [] (some 0)) = v1 at happ1 sg1
     rw [List.nil_append] at sg1
     have happ2 := fun (t : Nat → AV) (h : Heap) => sg1.app (t := t) (h := h) (ys := ys.drop (k + 1)) (bytes := 32) (by simp; omega)
     have sg2 := sg1.cat (ys.drop (k + 1))
     generalize catV 2 (ys.drop (k + 1)) v1 = v2 at happ2 sg2
     generalize (.rs o14 (0 + 0 * 2) 2 (k - 0) (some (cap - 0)) : AV) = rA at sA eA
     generalize (.rs o14 (0 + (k + 1) * 2) 2 (ys.length - (k + 1)) (some (cap - (k + 1))) : AV) = rB at sB eB
     simp (disch := omega) only [go_sem, ↓reduceIte, Nat.reduceEqDiff, Nat.reduceLeDiff, H.cv_3_66, H.cv_3_68, H.cv_68_3, t14, t15, sA, sB, eA, eB, happ1, happ2, nat_add]
     refine hN _ ?_; clear hN N
     refine A_seq_gen fun M hM => ?_
     refine A_seq_gen fun N hN => W_sound ?_
     clear happ1 happ2 sA sB eA eB sg1
     have hsx : ∀ es : List (List AV), (AV.bs false 3 es none).disc = .bs false 3 es none := fun _ => rfl
     refine W_f (fun t => t 2 = .op o2 0 ∧ t 3 = .op o3 0 ∧ t 4 = .op o4 0 ∧ t 5 = .sc (.slice none 0 0) ∧ t 6 = .sc (.bool false) ∧ t 14 = .rs o14 0 2 ys.length (some cap) ∧ t 15 = .sc (.int .i64 (k : Nat)) ∧ t 16 = .op o16 0 ∧ t 17 = v2 ∧ True) ?_; rintro t ⟨t2, t3, t4, t5, t6, t14, t15, t16, t17, -⟩
     have goN : ∀ t : Nat → AV, t 2 = .op o2 0 → t 3 = .op o3 0 → t 4 = .op o4 0 → t 5 = .sc (.slice none 0 0) → t 6 = .sc (.bool false) → t 14 = .rs o14 0 2 ys.length (some cap) → t 15 = .sc (.int .i64 (k : Nat)) → t 16 = .op o16 0 → t 17 = v2 → t 167 = .sc (.int .i64 x.kd) → N ⟨t, h6⟩ := by
      clear t2 t3 t4 t5 t6 t14 t15 t16 t17 t
      intro t t2 t3 t4 t5 t6 t14 t15 t16 t17 t167
      refine hN _ ?_; clear hN N
      refine A_block ?_
      have fin : ∀ (t : Nat → AV) (h9 : Heap), t 2 = .op o2 0 → t 4 = .op o4 0 → h9 o2 = some (.arr [bv, cv]) → h9 o4 = some (.arr [.sc (.slice none 0 0), .sc (.slice none 0 0)]) → (∀ y, h y ≠ none → h9 y = h y) → rdoP E x = (E, [], false) → M ⟨t, h9⟩ := by
       clear t2 t3 t4 t5 t6 t14 t15 t16 t17 t167 t
       intro t h9 t2 t4 q2 q4 k9 hd
       refine hM _ ?_
       refine W_sound ?_
       simp (disch := omega) only [go_sem, ↓reduceIte, Nat.reduceEqDiff, Nat.reduceLeDiff, H.cv_3_66, H.cv_3_68, H.cv_68_3, t2, t4, q2, q4, hbv.disc, hcv.disc, setR0]
       exact ⟨mk hbv hB hcv hC .nil hd, keep4 k9⟩
      unfold rparP at hdo
      have r2 : RR PcR (ys.take k ++ ys.drop (k + 1)) (l.take k ++ l.drop (k + 1)) := (hys.take k).append (hys.drop (k + 1))
      have v2o : v2.dis.isOwn = false := dis_own v2
      obtain ⟨es3, hB3, hset3⟩ := sets sg2.sl.dis r2
      cases d1 : (x.kd == ((1 : Nat) : Int)) with
      | true =>
       rw [d1, if_pos rfl] at hdo
       refine W_sound ?_
       simp (disch := omega) only [go_sem, ↓reduceIte, Nat.reduceEqDiff, Nat.reduceLeDiff, H.cv_3_66, H.cv_3_68, H.cv_68_3, t2, t3, t4, t16, t17, t167, m2, m3, m4, m16, d1, hbv.disc, hcv.disc, hw.disc, hw.same]
       refine ⟨n416, _, hset3, ?_⟩
       rw [contK_some]; simp (disch := omega) only [go_sem, ↓reduceIte, Nat.reduceEqDiff, Nat.reduceLeDiff, H.cv_3_66, H.cv_3_68, H.cv_68_3, t4, m4, hsx, hcv.disc, hw.disc, hw.same, setR0]
       exact ⟨mk SF.bs hB3 hcv hC hw hdo, keep4 kh6⟩
      | false =>
       rw [d1, if_neg Bool.false_ne_true] at hdo
       cases d2 : (x.kd == ((2 : Nat) : Int)) with
       | true =>
        rw [d2, if_pos rfl] at hdo
        refine W_sound ?_
        simp (disch := omega) only [go_sem, ↓reduceIte, Nat.reduceEqDiff, Nat.reduceLeDiff, H.cv_3_66, H.cv_3_68, H.cv_68_3, t2, t3, t4, t16, t17, t167, m2, m3, m4, m16, d1, d2, hbv.disc, hcv.disc, hw.disc, hw.same]
        refine (hset3 _).to ?_
        rw [contK_some]; simp (disch := omega) only [go_sem, ↓reduceIte, Nat.reduceEqDiff, Nat.reduceLeDiff, H.cv_3_66, H.cv_3_68, H.cv_68_3, t4, m4, hsx, hcv.disc, hw.disc, hw.same, setR0]
        exact ⟨mk SF.bs hB3 hcv hC .nil hdo, keep4 kh6⟩
       | false =>
        rw [d2, if_neg Bool.false_ne_true] at hdo
        clear hset3 hB3
        have hle : 0 + ys.length * 2 ≤ (ys.flatten ++ z').length := by rw [List.length_append, ky.len]; omega
        have hle2 : cap * 2 ≤ (ys.flatten ++ z').length := by rw [List.length_append, ky.len, hz']; omega
        cases d3 : (x.kd == ((3 : Nat) : Int)) with
        | true =>
         rw [d3, if_pos rfl] at hdo
         refine .ghost (.slot (i := 14) (o := o14) (c := 0) (sz := 2) (n := ys.length) (lim := some cap) true t14 m14 hle (fun _ => ⟨rfl, cap, rfl, by omega, hle2⟩)) ?_
         rw [chunks_obj ky]
         have q2 : (upd h6 o14 none) o2 = some (.arr [bv, cv]) := by rw [upd_ne _ _ n22'.symm]; exact m2
         have q3 := (upd_ne h6 (none : Option AObj) n23'.symm).trans m3
         have q4 := (upd_ne h6 (none : Option AObj) n24'.symm).trans m4
         have q16 := (upd_ne h6 (none : Option AObj) n164).trans m16
         have kh7 : ∀ y, h y ≠ none → (upd h6 o14 none) y = h y := fun y hy => by rw [upd_ne _ _ (fun e => hy (by rw [e]; exact no14))]; exact kh6 y hy
         generalize upd h6 o14 none = h7 at q2 q3 q4 q16 kh7
         refine W_sound ?_
         refine W_f (fun t => t 2 = .op o2 0 ∧ t 3 = .op o3 0 ∧ t 4 = .op o4 0 ∧ t 5 = .sc (.slice none 0 0) ∧ t 6 = .sc (.bool false) ∧ t 14 = .bs true 2 ys (some cap) ∧ t 15 = .sc (.int .i64 (k : Nat)) ∧ t 16 = .op o16 0 ∧ t 17 = v2 ∧ t 167 = .sc (.int .i64 x.kd) ∧ True) ?_; rintro t ⟨t2, t3, t4, t5, t6, t14, t15, t16, t17, t167, -⟩
         have hln : SL 2 (.bs false 2 ys (some cap)) ys := .bs
         by_cases c : ys.length < 64
         ·have hc : decide (l.length < 64) = true := by rw [← el]; exact decide_eq_true c
          rw [hc, if_pos rfl] at hdo
          have happ := fun (t : Nat → AV) (h : Heap) => (SG.bs : SG 2 (.bs true 2 ys (some cap)) ys).app (t := t) (h := h) (ys := [[w, .sc (.bool q.2)]]) (bytes := 32) (by simp; omega)
          have sg := (SG.bs : SG 2 (.bs true 2 ys (some cap)) ys).cat [[w, .sc (.bool q.2)]]
          generalize catV 2 [[w, .sc (.bool q.2)]] (.bs true 2 ys (some cap)) = v3 at happ sg
          obtain ⟨es4, hB4, hset4⟩ := sets sg.sl (hys.append (RR.one (show PcR [w, .sc (.bool q.2)] q from ⟨w, rfl, hw⟩)))
          simp (disch := omega) only [go_sem, ↓reduceIte, Nat.reduceEqDiff, Nat.reduceLeDiff, H.cv_3_66, H.cv_3_68, H.cv_68_3, t2, t3, t4, t14, t16, t167, q2, q3, q4, q16, d1, d2, d3, c, hln.len, hbv.disc, hcv.disc, hw.disc, hw.same, happ]
          refine ⟨_, hset4, ?_⟩
          rw [contK_some]; simp (disch := omega) only [go_sem, ↓reduceIte, Nat.reduceEqDiff, Nat.reduceLeDiff, H.cv_3_66, H.cv_3_68, H.cv_68_3, t4, q4, hsx, hcv.disc, setR0]
          exact ⟨mk SF.bs hB4 hcv hC .nil hdo, keep4 kh7⟩
         ·have hc : decide (l.length < 64) = false := by rw [← el]; exact decide_eq_false c
          rw [hc, if_neg Bool.false_ne_true] at hdo
          simp (disch := omega) only [go_sem, ↓reduceIte, Nat.reduceEqDiff, Nat.reduceLeDiff, H.cv_3_66, H.cv_3_68, H.cv_68_3, t2, t3, t4, t14, t16, t167, q2, q3, q4, q16, d1, d2, d3, c, hln.len]
          exact fin _ h7 (by simp [upd_at, t2]) (by simp [upd_at, t4]) q2 q4 kh7 hdo
        | false =>
         rw [d3, if_neg Bool.false_ne_true] at hdo
         cases d4 : (x.kd == ((4 : Nat) : Int)) with
         | false =>
          rw [d4, Bool.false_and, if_neg Bool.false_ne_true] at hdo
          refine W_sound ?_
          simp (disch := omega) only [go_sem, ↓reduceIte, Nat.reduceEqDiff, Nat.reduceLeDiff, H.cv_3_66, H.cv_3_68, H.cv_68_3, t167, d1, d2, d3, d4]
          exact fin _ h6 (by simp [upd_at, t2]) (by simp [upd_at, t4]) m2 m4 kh6 hdo
         | true =>
          cases dq : q.2 with
          | true =>
           rw [d4, dq, if_neg (by simp)] at hdo
           rw [dq] at m16
           refine W_sound ?_
           simp (disch := omega) only [go_sem, ↓reduceIte, Nat.reduceEqDiff, Nat.reduceLeDiff, H.cv_3_66, H.cv_3_68, H.cv_68_3, t16, t167, m16, d1, d2, d3, d4]
           exact fin _ h6 (by simp [upd_at, t2]) (by simp [upd_at, t4]) m2 m4 kh6 hdo
          | false =>
           rw [d4, dq, if_pos (by rfl)] at hdo
           rw [dq] at m16
           have hiad : ∀ (t : Nat → AV) (h : Heap), aexIad 2 ((k : Nat) : Int) t h (.rs o14 0 2 ys.length (some cap)) = some (.val (.op o14 (k * 2)) t h) := fun t h => by
            have : (2 = 2 ∧ (0 : Int) ≤ (k : Int) ∧ (k : Int) < (ys.length : Int)) := ⟨rfl, by omega, by omega⟩
            simp only [aexIad, this, and_self, if_true, Int.toNat_natCast, Nat.zero_add]
           have hst : k * 2 + 2 ≤ (ys.flatten ++ z').length := by rw [List.length_append, ky.len]; omega
           have hsr : setRange (ys.flatten ++ z') (k * 2) [.bs false 1 (u8s (bendB q.1 x.w)) none, .sc (.bool true)] = (ys.set k [.bs false 1 (u8s (bendB q.1 x.w)) none, .sc (.bool true)]).flatten ++ z' := setR_row ky (by omega) rfl
           have hset := rr_set (i := k) hys (show PcR [.bs false 1 (u8s (bendB q.1 x.w)) none, .sc (.bool true)] (bendB q.1 x.w, true) from ⟨_, rfl, .bs⟩)
           have lset : (ys.set k [.bs false 1 (u8s (bendB q.1 x.w)) none, .sc (.bool true)]).length = ys.length := List.length_set
           have ks' := pc_ge hset
           generalize hys' : ys.set k [.bs false 1 (u8s (bendB q.1 x.w)) none, .sc (.bool true)] = ys' at hsr hset lset ks'
           have hb1 : (AV.bs false 1 (u8s (bendB q.1 x.w)) none).cells = [.bs false 1 (u8s (bendB q.1 x.w)) none] := rfl
           have hb2 : (AV.bs false 1 (u8s (bendB q.1 x.w)) none).isTu = false := rfl
           have hb3 : (AV.bs false 1 (u8s (bendB q.1 x.w)) none).disc = .bs false 1 (u8s (bendB q.1 x.w)) none := rfl
           have hb4 : setRange [.sc (.slice none 0 0), .sc (.bool false)] 0 [.bs false 1 (u8s (bendB q.1 x.w)) none] = [.bs false 1 (u8s (bendB q.1 x.w)) none, .sc (.bool false)] := rfl
           have hb5 : setRange [.bs false 1 (u8s (bendB q.1 x.w)) none, .sc (.bool false)] 1 [.sc (.bool true)] = [.bs false 1 (u8s (bendB q.1 x.w)) none, .sc (.bool true)] := rfl
           refine A_seq_gen fun N hN => W_sound ?_
           simp (disch := omega) only [go_sem, ↓reduceIte, Nat.reduceEqDiff, Nat.reduceLeDiff, H.cv_3_66, H.cv_3_68, H.cv_68_3, t167, d1]
           refine hN _ ?_; clear hN N
           refine AW.cond false (by simp [Opd.ev, upd_at]; rfl) (fun q => by cases q) (fun _ => ?_)
           refine A_seq_gen fun N hN => W_sound ?_
           simp (disch := omega) only [go_sem, ↓reduceIte, Nat.reduceEqDiff, Nat.reduceLeDiff, H.cv_3_66, H.cv_3_68, H.cv_68_3, t167, d2]
           refine hN _ ?_; clear hN N
           refine AW.cond false (by simp [Opd.ev, upd_at]; rfl) (fun q => by cases q) (fun _ => ?_)
           refine A_seq_gen fun N hN => W_sound ?_
           simp (disch := omega) only [go_sem, ↓reduceIte, Nat.reduceEqDiff, Nat.reduceLeDiff, H.cv_3_66, H.cv_3_68, H.cv_68_3, t167, d3]
           refine hN _ ?_; clear hN N
           refine AW.cond false (by simp [Opd.ev, upd_at]; rfl) (fun q => by cases q) (fun _ => ?_)
           refine A_seq_gen fun N hN => W_sound ?_
           simp (disch := omega) only [go_sem, ↓reduceIte, Nat.reduceEqDiff, Nat.reduceLeDiff, H.cv_3_66, H.cv_3_68, H.cv_68_3, t167, d4]
           refine hN _ ?_; clear hN N
           refine AW.cond true (by simp [Opd.ev, upd_at]; rfl) (fun _ => ?_) (fun q => by cases q)
           refine A_seq_gen fun N hN => W_sound ?_
           refine W_f (fun t => t 2 = .op o2 0 ∧ t 3 = .op o3 0 ∧ t 4 = .op o4 0 ∧ t 5 = .sc (.slice none 0 0) ∧ t 6 = .sc (.bool false) ∧ t 14 = .rs o14 0 2 ys.length (some cap) ∧ t 15 = .sc (.int .i64 (k : Nat)) ∧ t 16 = .op o16 0 ∧ True) ?_; rintro t ⟨t2, t3, t4, t5, t6, t14, t15, t16, -⟩
           simp (disch := omega) only [go_sem, ↓reduceIte, Nat.reduceEqDiff, Nat.reduceLeDiff, H.cv_3_66, H.cv_3_68, H.cv_68_3, t16, m16]
           refine hN _ ?_; clear hN N
           refine AW.cond true (by simp [Opd.ev, upd_at]; rfl) (fun _ => ?_) (fun q => by cases q)
           refine A_seq_gen fun N hN => W_sound ?_
           refine W_f (fun t => t 2 = .op o2 0 ∧ t 3 = .op o3 0 ∧ t 4 = .op o4 0 ∧ t 5 = .sc (.slice none 0 0) ∧ t 6 = .sc (.bool false) ∧ t 14 = .rs o14 0 2 ys.length (some cap) ∧ t 15 = .sc (.int .i64 (k : Nat)) ∧ t 16 = .op o16 0 ∧ True) ?_; rintro t ⟨t2, t3, t4, t5, t6, t14, t15, t16, -⟩
           simp (disch := omega) only [go_sem, ↓reduceIte, Nat.reduceEqDiff, Nat.reduceLeDiff, H.cv_3_66, H.cv_3_68, H.cv_68_3, t3, t14, t15, t16, m3, m16, hw.same, hw.disc]
           refine (rbend_ok H hw (l2.2 q hqm) x.w _).to ?_
           rw [contK_some]; simp (disch := omega) only [go_sem, ↓reduceIte, Nat.reduceEqDiff, Nat.reduceLeDiff, H.cv_3_66, H.cv_3_68, H.cv_68_3, t14, t15, m14, hiad, hst, hsr, hb1, hb2, hb3, hb4, hb5]
           have y14 : (upd h6 o14 (some (.arr (ys'.flatten ++ z')))) o14 = some (.arr (ys'.flatten ++ z')) := upd_same ..
           have yk : ∀ y, y ≠ o14 → (upd h6 o14 (some (.arr (ys'.flatten ++ z')))) y = h6 y := fun y hy => upd_ne _ _ hy
           generalize upd h6 o14 (some (.arr (ys'.flatten ++ z'))) = h7 at y14 yk
           refine hN _ ?_; clear hN N
           have hle' : 0 + ys.length * 2 ≤ (ys'.flatten ++ z').length := by rw [List.length_append, ks'.len, lset]; omega
           have hck : chunks 2 ys.length (((ys'.flatten ++ z').drop 0).map AV.disc) = ys' := by rw [← lset]; exact chunks_obj ks'
           refine .ghost (.slot (i := 14) (o := o14) (c := 0) (sz := 2) (n := ys.length) (lim := some cap) false (by simp [upd_at, t14]) y14 hle' (fun q => by cases q)) ?_
           rw [hck]
           have q2 : (upd h7 o14 none) o2 = some (.arr [bv, cv]) := by rw [upd_ne _ _ n22'.symm, yk _ n22'.symm]; exact m2
           have q3 := (upd_ne h7 (none : Option AObj) n23'.symm).trans ((yk _ n23'.symm).trans m3)
           have q4 := (upd_ne h7 (none : Option AObj) n24'.symm).trans ((yk _ n24'.symm).trans m4)
           have kh8 : ∀ y, h y ≠ none → (upd h7 o14 none) y = h y := fun y hy => by
            have c : y ≠ o14 := fun e => hy (by rw [e]; exact no14)
            rw [upd_ne _ _ c, yk y c]
            exact kh6 y hy
           generalize upd h7 o14 none = h8 at q2 q3 q4 kh8
           obtain ⟨es5, hB5, hset5⟩ := sets (SL.bs : SL 2 (.bs false 2 ys' (some cap)) ys') hset
           refine W_sound ?_
           refine W_f (fun t => t 2 = .op o2 0 ∧ t 3 = .op o3 0 ∧ t 4 = .op o4 0 ∧ t 5 = .sc (.slice none 0 0) ∧ t 6 = .sc (.bool false) ∧ t 14 = .bs false 2 ys' (some cap) ∧ True) ?_; rintro t ⟨t2, t3, t4, t5, t6, t14, -⟩
           simp (disch := omega) only [go_sem, ↓reduceIte, Nat.reduceEqDiff, Nat.reduceLeDiff, H.cv_3_66, H.cv_3_68, H.cv_68_3, t2, t3, t4, t14, q2, q3, q4, hbv.disc, hcv.disc]
           refine (hset5 _).to ?_
           rw [contK_some]; simp (disch := omega) only [go_sem, ↓reduceIte, Nat.reduceEqDiff, Nat.reduceLeDiff, H.cv_3_66, H.cv_3_68, H.cv_68_3, t4, q4, hsx, hcv.disc, setR0]
           exact ⟨mk SF.bs hB5 hcv hC .nil hdo, keep4 kh8⟩
     simp (disch := omega) only [go_sem, ↓reduceIte, Nat.reduceEqDiff, Nat.reduceLeDiff, H.cv_3_66, H.cv_3_68, H.cv_68_3, t3, m3]
     exact goN _ (by simp [upd_at, t2]) (by simp [upd_at, t3]) (by simp [upd_at, t4]) (by simp [upd_at, t5]) (by simp [upd_at, t6]) (by simp [upd_at, t14]) (by simp [upd_at, t15]) (by simp [upd_at, t16]) (by simp [upd_at, t17]) (by simp [upd_at])
  cases e5 : (x.kd == ((5 : Nat) : Int)) with
  | true =>
   have htw : two x.a x.b = false := by
    cases q : two x.a x.b with
    | false => rfl
    | true => exact absurd (by unfold isCutAct; rw [e5, q]; rfl) hca
   simp (disch := omega) only [go_sem, ↓reduceIte, Nat.reduceEqDiff, Nat.reduceLeDiff, H.cv_3_66, H.cv_3_68, H.cv_68_3, t3, f3, e5]
   refine (Two_ok H x.a x.b _).to ?_
   rw [htw]
   rw [contK_some]; simp (disch := omega) only [go_sem, ↓reduceIte, Nat.reduceEqDiff, Nat.reduceLeDiff, H.cv_3_66, H.cv_3_68, H.cv_68_3]
   exact rest _ (by simp [upd_at, t2]) (by simp [upd_at, t3]) (by simp [upd_at, t4]) (by simp [upd_at, t5]) (by simp [upd_at, t6])
  | false =>
   simp (disch := omega) only [go_sem, ↓reduceIte, Nat.reduceEqDiff, Nat.reduceLeDiff, H.cv_3_66, H.cv_3_68, H.cv_68_3, t3, f3, e5]
   exact rest _ (by simp [upd_at, t2]) (by simp [upd_at, t3]) (by simp [upd_at, t4]) (by simp [upd_at, t5]) (by simp [upd_at, t6])
end Go.Proofs.Ytomfknocpijmbaa
end
section
set_option linter.unusedVariables false
set_option linter.unusedSimpArgs false
namespace Go.Proofs.Ytomfknocpijmbaa
open Go.Am
theorem bags_split {E : Eth} {p : Int × Int} (hth : there E p = true) : ∃ b, E.bags[ix (ks E) p]? = some b ∧ b.k = p ∧ E.bags = E.bags.take (ix (ks E) p) ++ b :: E.bags.drop (ix (ks E) p + 1) := by
 obtain ⟨b, hb, hk⟩ := there_at hth
 obtain ⟨hl, e⟩ := List.getElem?_eq_some_iff.1 hb
 refine ⟨b, hb, hk, ?_⟩
 rw [← e, ← List.drop_eq_getElem_cons hl, List.take_append_drop]
theorem filt_key {E : Eth} {p : Int × Int} (G : Good E) (hth : there E p = true) : E.bags.filter (fun b => decide (b.k ≠ p)) = E.bags.eraseIdx (ix (ks E) p) := by
 obtain ⟨b, hb, hk, es⟩ := bags_split hth
 have kl : (ks E).length = E.bags.length := by simp [ks]
 have hl := (List.getElem?_eq_some_iff.1 hb).1
 rw [List.eraseIdx_eq_take_drop_succ]
 conv => lhs; rw [es]
 rw [List.filter_append, List.filter_cons, if_neg (by simp [hk])]
 congr 1
 ·refine List.filter_eq_self.2 fun c hc => ?_
  obtain ⟨n, hn, rfl⟩ := List.getElem_of_mem hc
  rw [List.getElem_take]
  have hn' : n < ix (ks E) p := by rw [List.length_take] at hn; omega
  have := ix_before (l := ks E) (p := p) (j := n) (by omega) hn'
  simp only [ks, List.getElem_map] at this
  simp only [decide_eq_true_eq]
  intro q
  rw [q, ahd_irr] at this
  cases this
 ·refine List.filter_eq_self.2 fun c hc => ?_
  obtain ⟨n, hn, rfl⟩ := List.getElem_of_mem hc
  rw [List.getElem_drop]
  have hn' : ix (ks E) p + 1 + n < E.bags.length := by rw [List.length_drop] at hn; omega
  have := G.bs (ix (ks E) p) (ix (ks E) p + 1 + n) (by omega) (by omega) (by omega)
  have e2 : (ks E)[ix (ks E) p]'(by omega) = p := by
   have := ks_get hl
   rw [(List.getElem?_eq_some_iff.1 hb).2, hk] at this
   exact (List.getElem?_eq_some_iff.1 this).2
  rw [e2] at this
  simp only [ks, List.getElem_map] at this
  simp only [decide_eq_true_eq]
  intro q
  simp only [ks] at q
  rw [q, ahd_irr] at this
  cases this
theorem setP_at {E : Eth} {p : Int × Int} {l : List Pcl} (G : Good E) (hth : there E p = true) (hl : l ≠ []) : setP E p l = modL E (ix (ks E) p) fun _ => l := by
 have := set_good (p := p) (l := l) G
 rw [hth, if_pos rfl] at this
 unfold setP
 rw [show decide (l.length = 0) = false by simpa using hl, this]
 rfl
theorem setP_nil {E : Eth} {p : Int × Int} (G : Good E) (hth : there E p = true) : setP E p [] = ⟨E.bags.eraseIdx (ix (ks E) p), E.cuts⟩ := by
 unfold setP
 rw [show decide (([] : List Pcl).length = 0) = true from rfl, setG_t, filt_key G hth]
theorem btw_ne {a b : Int} {k : Int × Int} : (decide (k ≠ (b, a)) && decide (k ≠ (a, b))) = !btw a b k := by
 unfold btw
 rcases k with ⟨c, d⟩
 by_cases h1 : c = a <;> by_cases h2 : d = b <;> by_cases h3 : c = b <;> by_cases h4 : d = a <;> (simp [h1, h2, h3, h4] <;> rfl)
theorem rpar_par {E : Eth} {x : Act} (G : Good E) (hth : there E x.p = true) : rparP E x (lAt E (ix (ks E) x.p)) (plc x (lAt E (ix (ks E) x.p))) (pclAt (lAt E (ix (ks E) x.p)) (plc x (lAt E (ix (ks E) x.p)))) =
  if noAct E x then (E, [], false) else parP E x (ix (ks E) x.p) (lAt E (ix (ks E) x.p)) (plc x (lAt E (ix (ks E) x.p))) (pclAt (lAt E (ix (ks E) x.p)) (plc x (lAt E (ix (ks E) x.p)))) := by
 obtain ⟨b, hb, hk⟩ := there_at hth
 have hlA : lAt E (ix (ks E) x.p) = b.l := by unfold lAt; rw [hb]
 have h1 := (G.bb b (List.mem_of_getElem? hb)).2.2.1
 have hn := plc_lt (x := x) (l := b.l) (by omega)
 have hno : noAct E x = (decide (x.kd < ((1 : Nat) : Int)) || decide (x.kd > ((4 : Nat) : Int))) := by unfold noAct; rw [hth]; rfl
 rw [hno]
 unfold parP takeP
 rw [hlA]
 generalize hkk : plc x b.l = k at hn
 generalize pclAt b.l k = q
 have hset : ∀ {l : List Pcl}, l ≠ [] → ∀ {f : List Pcl → List Pcl}, f b.l = l → setP E x.p l = modL E (ix (ks E) x.p) f := fun hl f hf => by
  rw [setP_at G hth hl, modL_at (g := f) hb hf.symm]
 have htake : setP E x.p (b.l.take k ++ b.l.drop (k + 1)) = if b.l.length = 1 then ⟨E.bags.eraseIdx (ix (ks E) x.p), E.cuts⟩ else modL E (ix (ks E) x.p) (·.eraseIdx k) := by
  split
  ·rename_i hl
   have : b.l.take k ++ b.l.drop (k + 1) = [] := by
    refine List.eq_nil_of_length_eq_zero ?_
    rw [List.length_append, List.length_take, List.length_drop]
    omega
   rw [this, setP_nil G hth]
  ·refine hset (fun e => ?_) (List.eraseIdx_eq_take_drop_succ ..)
   have := congrArg List.length e
   rw [List.length_append, List.length_take, List.length_drop, List.length_nil] at this
   omega
 unfold rparP isBend isTwice isTake
 rw [htake]
 by_cases c1 : x.kd = 1
 ·simp [c1]
 by_cases c2 : x.kd = 2
 ·simp [c2]
 by_cases c3 : x.kd = 3
 ·simp only [c3]
  by_cases c : b.l.length < 64
  ·simp [c, hset (l := b.l ++ [q]) (by simp) (f := (· ++ [q])) rfl]
  ·simp [c]
 by_cases c4 : x.kd = 4
 ·simp only [c4]
  cases hq : q.2 with
  | true => simp
  | false =>
   have hs := hset (l := b.l.set k (bendB q.1 x.w, true)) (fun e => by have := congrArg List.length e; rw [List.length_set, List.length_nil] at this; omega) (f := (·.set k (bendB q.1 x.w, true))) rfl
   simp [hs]
 have d1 : (x.kd == ((1 : Nat) : Int)) = false := by simpa using c1
 have d2 : (x.kd == ((2 : Nat) : Int)) = false := by simpa using c2
 have d3 : (x.kd == ((3 : Nat) : Int)) = false := by simpa using c3
 have d4 : (x.kd == ((4 : Nat) : Int)) = false := by simpa using c4
 rw [d1, d2, d3, d4]
 simp
theorem rdo_do {E : Eth} {x : Act} (G : Good E) : rdoP E x = doP E x := by
 have hc : (cutI E.cuts x.a x.b).isSome = cutAt E.cuts (mm x.p) := by
  rw [cutI_some G.cs G.cb, cut_mem G.cs]
  by_cases q : mm (x.a, x.b) ∈ E.cuts
  ·rw [if_pos q, show mm x.p = mm (x.a, x.b) from rfl, decide_eq_true q]; rfl
  ·rw [if_neg q, show mm x.p = mm (x.a, x.b) from rfl, decide_eq_false q]; rfl
 unfold rdoP doP
 cases h1 : isCutAct x with
 | true =>
  simp only [if_true]
  have hb : (rcutE E x).bags = E.bags.filter fun y => !btw x.a x.b y.k := by
   unfold rcutE setP
   simp only [List.length_nil, decide_true, setG_t, List.filter_filter]
   congr 1
   funext y
   exact btw_ne
  have hr : rcutE E x = ⟨E.bags.filter fun y => !btw x.a x.b y.k, E.cuts⟩ := by rw [← hb]; rfl
  rw [hc, hr]
  cases cutAt E.cuts (mm x.p) <;> rfl
 | false =>
  simp only [Bool.false_eq_true, if_false]
  cases h2 : isMend x with
  | true =>
   simp only [if_true]
   have := cutI_some (a := x.a) (b := x.b) G.cs G.cb
   rw [cut_mem G.cs]
   by_cases q : mm (x.a, x.b) ∈ E.cuts
   ·rw [if_pos q] at this
    rw [this, show mm x.p = mm (x.a, x.b) from rfl, decide_eq_true q]
    simp only [if_true]
    unfold delCut
    rw [List.eraseIdx_eq_take_drop_succ]
   ·rw [if_neg q] at this
    rw [this, show mm x.p = mm (x.a, x.b) from rfl, decide_eq_false q]
    rfl
  | false =>
   simp only [Bool.false_eq_true, if_false]
   have hb := bagI_some (p := x.p) G.bs
   have ht := there_mem (p := x.p) G
   cases hth : there E x.p with
   | true =>
    have hm : x.p ∈ ks E := by rw [hth] at ht; exact of_decide_eq_true ht.symm
    rw [if_pos hm] at hb
    rw [hb]
    exact rpar_par G hth
   | false =>
    have hm : x.p ∉ ks E := by rw [hth] at ht; exact of_decide_eq_false ht.symm
    rw [if_neg hm] at hb
    rw [hb]
    have : noAct E x = true := by unfold noAct; rw [hth]; rfl
    rw [this]
    rfl
end Go.Proofs.Ytomfknocpijmbaa
end
