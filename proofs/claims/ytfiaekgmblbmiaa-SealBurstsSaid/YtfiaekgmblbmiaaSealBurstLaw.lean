/- The law of bursts. -/
import Derived.Test.YtfiaekgmblbmiaaSealBurst
import Derived.Test.YtfiaekgmblbmiaaSealObj
import Derived.Test.YtfiaekgmblbmiaaAmFg
set_option linter.unusedVariables false
set_option linter.unusedSimpArgs false
namespace Go.Proofs.Ytfiaekgmblbmiaa
open Go.Am
/-- A bit turned. -/
def turn (q : List UInt8) (p : Nat) : List UInt8 := q.set (p / 8) (UInt8.ofNat ((q.getD (p / 8) 0).toNat ^^^ 2 ^ (7 - p % 8)))
theorem turn_len (q : List UInt8) (p : Nat) : (turn q p).length = q.length := by simp [turn]
theorem xor_lt (x : UInt8) (e : Nat) (he : e < 8) : x.toNat ^^^ 2 ^ e < 256 := Nat.xor_lt_two_pow (n := 8) x.toNat_lt (Nat.pow_lt_pow_right (by decide) he)
theorem turn_bit (q : List UInt8) (p j : Nat) (hp : p < 8 * q.length) : bitAt (turn q p) j = (bitAt q j != decide (j = p)) := by
  unfold bitAt turn
  simp only [List.getD_eq_getElem?_getD, List.getElem?_set]
  by_cases h : p / 8 = j / 8
  · have hlt : j / 8 < q.length := by omega
    simp only [h, if_true, if_pos hlt, Option.getD_some]
    rw [u8_n, Nat.mod_eq_of_lt (xor_lt _ _ (by omega))]
    rw [← Nat.testBit_eq_decide_div_mod_eq, ← Nat.testBit_eq_decide_div_mod_eq, Nat.testBit_xor, Nat.testBit_two_pow]
    have e : decide (7 - p % 8 = 7 - j % 8) = decide (j = p) := by rw [decide_eq_decide]; omega
    rw [e]
  · have e : decide (j = p) = false := decide_eq_false (by omega)
    simp only [h, if_false, e, Bool.bne_false]
theorem flat_u8s (q : List UInt8) : (u8s q).flatten = q.map fun b => .sc (.int .u8 (b.toNat : Int)) := by
  induction q with
  | nil => rfl
  | cons b q ih => rw [show u8s (b :: q) = [.sc (.int .u8 (b.toNat : Int))] :: u8s q from rfl, List.flatten_cons, ih]; rfl
theorem at_u8s (q : List UInt8) (z : List AV) {i : Nat} (hi : i < q.length) : (((u8s q).flatten ++ z).drop i).take 1 = [.sc (.int .u8 (q[i].toNat : Int))] := by
  rw [flat_u8s, List.drop_append_of_le_length (by rw [List.length_map]; omega), List.take_append_of_le_length (by rw [List.length_drop, List.length_map]; omega), ← List.map_drop, ← List.map_take, List.drop_eq_getElem_cons hi]
  rfl
theorem set_u8s (q : List UInt8) (z : List AV) {i : Nat} (hi : i < q.length) (x : UInt8) : setRange ((u8s q).flatten ++ z) i [.sc (.int .u8 (x.toNat : Int))] = (u8s (q.set i x)).flatten ++ z := by
  rw [flat_u8s, flat_u8s, List.map_set]
  have hl : i < (q.map fun b => AV.sc (.int .u8 (b.toNat : Int))).length := by rw [List.length_map]; exact hi
  generalize (q.map fun b => AV.sc (.int .u8 (b.toNat : Int))) = w at hl
  unfold setRange
  rw [List.take_append_of_le_length (by omega), List.set_eq_take_append_cons_drop, if_pos hl, List.drop_append_of_le_length (by simp; omega)]
  simp
theorem sb_sh8 {P : Program} {ty : TypeId} {n : Nat} (hn : n < 8) : scalarBin P .shl ty (.int .u8 ((1 : Nat) : Int)) (.int .u64 (n : Nat)) = some (.int .u8 ((2 ^ n : Nat) : Int)) := by
  rw [sb_shl (by omega)]
  rcases (show n = 0 ∨ n = 1 ∨ n = 2 ∨ n = 3 ∨ n = 4 ∨ n = 5 ∨ n = 6 ∨ n = 7 by omega) with rfl | rfl | rfl | rfl | rfl | rfl | rfl | rfl <;> exact congrArg (fun x => some (Value.int IntKind.u8 x)) (by decide)
theorem sb_q8 {P : Program} {ty : TypeId} {n : Nat} (h : n < 2 ^ 63) : scalarBin P .quo ty (.int .i64 n) (.int .i64 ((8 : Nat) : Int)) = some (.int .i64 ((n / 8 : Nat) : Int)) := by
  rw [sb_quo (by decide)]
  have : ((n : Nat) : Int).tdiv ((8 : Nat) : Int) = ((n / 8 : Nat) : Int) := rfl
  rw [this, wrap_i64u (by omega) (by omega)]
variable {P : Program} (H : Has P)
include H
set_option maxHeartbeats 2000000 in
theorem bursts_law {v : AV} {b : List UInt8} {a pat : Nat} (hv : SF 1 v (u8s b)) (hb : b.length < 2 ^ 60) (ha : a < 65536) (hp : pat < 2 ^ 32) (h : Heap) :
    AWF P ann 0 4 [v, .sc (.int .u16 (a : Nat)), .sc (.int .u32 (pat : Nat))] h fun r h' => r = .sc (.bool true) := by
  refine AWF.fncA H.f0_4 rfl ?_
  have hlen := @u8s_len b
  refine A_seq_gen fun N hN => W_sound ?_
  simp (disch := first | omega | (simp only [List.length_cons, List.length_nil, List.length_append, u8s_len]; omega)) only [go_sem, ↓reduceIte, Nat.reduceEqDiff, Nat.reduceAdd, Nat.reduceBEq, Int.reduceEq, H.cv_3_29, H.cv_3_34, H.cv_5_3, H.cv_5_29, H.cv_29_3, H.cv_29_5, H.cv_33_3]
  refine hN _ ?_; clear hN N
  refine A_seq_gen fun N hN => W_sound ?_
  refine W_forget (fun t => t 0 = v ∧ t 1 = .sc (.int .u16 (a : Nat)) ∧ t 2 = .sc (.int .u32 (pat : Nat)) ∧ True) ⟨by simp [upd_at]; rfl, by simp [upd_at]; rfl, by simp [upd_at]; rfl, trivial⟩ ?_
  rintro t ⟨t0, t1, t2, -⟩
  by_cases hb1 : 3000 < b.length
  · simp (disch := first | omega | (simp only [List.length_cons, List.length_nil, List.length_append, u8s_len]; omega)) only [go_sem, ↓reduceIte, Nat.reduceEqDiff, Nat.reduceAdd, Nat.reduceBEq, Int.reduceEq, H.cv_3_29, H.cv_3_34, H.cv_5_3, H.cv_5_29, H.cv_29_3, H.cv_29_5, H.cv_33_3, t0, hv.same, hv.disc, hv.sl.len, hlen, hb1]
    refine (awake_ok H _).mono ?_
    rintro _ _ ⟨rfl, hh⟩; subst hh
    rw [contK_some]; simp (disch := first | omega | (simp only [List.length_cons, List.length_nil, List.length_append, u8s_len]; omega)) only [go_sem, ↓reduceIte, Nat.reduceEqDiff, Nat.reduceAdd, Nat.reduceBEq, Int.reduceEq, H.cv_3_29, H.cv_3_34, H.cv_5_3, H.cv_5_29, H.cv_29_3, H.cv_29_5, H.cv_33_3]
  simp (disch := first | omega | (simp only [List.length_cons, List.length_nil, List.length_append, u8s_len]; omega)) only [go_sem, ↓reduceIte, Nat.reduceEqDiff, Nat.reduceAdd, Nat.reduceBEq, Int.reduceEq, H.cv_3_29, H.cv_3_34, H.cv_5_3, H.cv_5_29, H.cv_29_3, H.cv_29_5, H.cv_33_3, t0, hv.same, hv.disc, hv.sl.len, hlen, hb1]
  refine hN _ ?_; clear hN N
  refine A_seq_gen fun N hN => W_sound ?_
  refine W_forget (fun t => t 0 = v ∧ t 1 = .sc (.int .u16 (a : Nat)) ∧ t 2 = .sc (.int .u32 (pat : Nat)) ∧ True) (by simp [upd_at, *] <;> (first | rfl | exact ⟨rfl, rfl⟩ | exact ⟨rfl, rfl, rfl⟩ | exact ⟨rfl, rfl, rfl, rfl⟩ | exact ⟨rfl, rfl, rfl, rfl, rfl⟩)) ?_; rintro t ⟨t0, t1, t2, -⟩
  simp (disch := first | omega | (simp only [List.length_cons, List.length_nil, List.length_append, u8s_len]; omega)) only [go_sem, ↓reduceIte, Nat.reduceEqDiff, Nat.reduceAdd, Nat.reduceBEq, Int.reduceEq, H.cv_3_29, H.cv_3_34, H.cv_5_3, H.cv_5_29, H.cv_29_3, H.cv_29_5, H.cv_33_3, t0, hv.same, hv.disc]
  refine (record1_ok H hv.sl (by omega) _).mono ?_
  rintro _ h1 ⟨s, rfl, hs⟩
  obtain ⟨s1, s2, s3⟩ := hs.dis
  have sl := fun t => (hs.rd ge_u8s).len (t := t)
  rw [u8s_len, recS_len] at sl
  rw [contK_some]; simp (disch := first | omega | (simp only [List.length_cons, List.length_nil, List.length_append, u8s_len]; omega)) only [go_sem, ↓reduceIte, Nat.reduceEqDiff, Nat.reduceAdd, Nat.reduceBEq, Int.reduceEq, H.cv_3_29, H.cv_3_34, H.cv_5_3, H.cv_5_29, H.cv_29_3, H.cv_29_5, H.cv_33_3, s1, s2]
  refine hN _ ?_; clear hN N
  refine A_seq_gen fun N hN => W_sound ?_
  refine W_forget (fun t => t 0 = v ∧ t 1 = .sc (.int .u16 (a : Nat)) ∧ t 2 = .sc (.int .u32 (pat : Nat)) ∧ t 7 = s ∧ t 8 = .sc (.int .i64 ((0 : Nat) : Int)) ∧ True) (by simp [upd_at, *] <;> (first | rfl | exact ⟨rfl, rfl⟩ | exact ⟨rfl, rfl, rfl⟩ | exact ⟨rfl, rfl, rfl, rfl⟩ | exact ⟨rfl, rfl, rfl, rfl, rfl⟩)) ?_; rintro t ⟨t0, t1, t2, t7, t8, -⟩
  have l9 : (((b.length + 9 : Nat) : Int) != ((b.length + 9 : Nat) : Int)) = false := by simp
  simp (disch := first | omega | (simp only [List.length_cons, List.length_nil, List.length_append, u8s_len]; omega)) only [go_sem, ↓reduceIte, Nat.reduceEqDiff, Nat.reduceAdd, Nat.reduceBEq, Int.reduceEq, H.cv_3_29, H.cv_3_34, H.cv_5_3, H.cv_5_29, H.cv_29_3, H.cv_29_5, H.cv_33_3, t0, t7, t8, s1, s2, sl, hv.same, hv.disc, hv.sl.len, hlen, nat_add, l9]
  refine hN _ ?_; clear hN N
  refine A_seq_gen fun N hN => W_sound ?_
  refine W_forget (fun t => t 1 = .sc (.int .u16 (a : Nat)) ∧ t 2 = .sc (.int .u32 (pat : Nat)) ∧ t 7 = s ∧ True) (by simp [upd_at, *] <;> (first | rfl | exact ⟨rfl, rfl⟩ | exact ⟨rfl, rfl, rfl⟩ | exact ⟨rfl, rfl, rfl, rfl⟩ | exact ⟨rfl, rfl, rfl, rfl, rfl⟩)) ?_; rintro t ⟨t1, t2, t7, -⟩
  simp (disch := first | omega | (simp only [List.length_cons, List.length_nil, List.length_append, u8s_len]; omega)) only [go_sem, ↓reduceIte, Nat.reduceEqDiff, Nat.reduceAdd, Nat.reduceBEq, Int.reduceEq, H.cv_3_29, H.cv_3_34, H.cv_5_3, H.cv_5_29, H.cv_29_3, H.cv_29_5, H.cv_33_3]
  refine hN _ ?_; clear hN N
  obtain ⟨fr, to, hft, hto, hzone⟩ : ∃ fr to : Nat, fr < to ∧ to ≤ 8 * (b.length + 9) ∧ ((a % 2 = 1 ∧ fr = 48 ∧ to = 8 * (b.length + 9)) ∨ (¬ a % 2 = 1 ∧ fr = 0 ∧ to = 48)) := by
    by_cases c : a % 2 = 1
    · exact ⟨48, 8 * (b.length + 9), by omega, by omega, .inl ⟨c, rfl, rfl⟩⟩
    · exact ⟨0, 48, by omega, by omega, .inr ⟨c, rfl, rfl⟩⟩
  refine A_seq_gen fun N hN => W_sound ?_
  have go : ∀ t : Nat → AV, t 1 = .sc (.int .u16 (a : Nat)) → t 2 = .sc (.int .u32 (pat : Nat)) → t 7 = s → t 9 = .sc (.int .i64 (fr : Nat)) → t 10 = .sc (.int .i64 (to : Nat)) → N ⟨t, h1⟩ := by
    clear t1 t2 t7
    intro t t1 t2 t7 t9 t10
    refine hN _ ?_; clear hN N
    refine A_seq_gen fun N hN => W_sound ?_
    have sb : ((to : Nat) : Int) - ((fr : Nat) : Int) = ((to - fr : Nat) : Int) := by omega
    have w16 : IntKind.u16.wrap ((a / 2 : Nat) : Int) = ((a / 2 : Nat) : Int) := by simp [IntKind.wrap, IntKind.bits, IntKind.signed]; omega
    have tm : ((a / 2 : Nat) : Int).tmod ((to - fr : Nat) : Int) = ((a / 2 % (to - fr) : Nat) : Int) := rfl
    have hml := Nat.mod_lt (a / 2) (show to - fr > 0 by omega)
    generalize a / 2 % (to - fr) = mm at tm hml
    simp (disch := first | omega | (simp only [List.length_cons, List.length_nil, List.length_append, u8s_len]; omega)) only [go_sem, ↓reduceIte, Nat.reduceEqDiff, Nat.reduceAdd, Nat.reduceBEq, Int.reduceEq, H.cv_3_29, H.cv_3_34, H.cv_5_3, H.cv_5_29, H.cv_29_3, H.cv_29_5, H.cv_33_3, t1, t9, t10, sb, w16, tm, nat_add]
    refine hN _ ?_; clear hN N
    obtain ⟨k, hk⟩ : ∃ k, k = fr + mm := ⟨_, rfl⟩
    refine A_seq_gen fun N hN => W_sound ?_
    refine W_forget (fun t => t 2 = .sc (.int .u32 (pat : Nat)) ∧ t 7 = s ∧ t 10 = .sc (.int .i64 (to : Nat)) ∧ t 11 = .sc (.int .i64 (k : Nat)) ∧ True) ⟨by simp [upd_at, t2], by simp [upd_at, t7], by simp [upd_at, t10], by simp [upd_at, hk], trivial⟩ ?_
    clear t1 t2 t7 t9 t10
    rintro t ⟨t2, t7, t10, t11, -⟩
    simp (disch := first | omega | (simp only [List.length_cons, List.length_nil, List.length_append, u8s_len]; omega)) only [go_sem, ↓reduceIte, Nat.reduceEqDiff, Nat.reduceAdd, Nat.reduceBEq, Int.reduceEq, H.cv_3_29, H.cv_3_34, H.cv_5_3, H.cv_5_29, H.cv_29_3, H.cv_29_5, H.cv_33_3]
    refine hN _ ?_; clear hN N
    rcases hs.2 with ⟨_, he⟩ | ⟨o, cap, z, ho0, rfl, hcap, hz, ho⟩
    · have := congrArg List.length he
      rw [u8s_len, recS_len] at this
      cases this
    refine A_seq_gen fun N hN => W_sound ?_
    simp (disch := first | omega | (simp only [List.length_cons, List.length_nil, List.length_append, u8s_len]; omega)) only [go_sem, ↓reduceIte, Nat.reduceEqDiff, Nat.reduceAdd, Nat.reduceBEq, Int.reduceEq, H.cv_3_29, H.cv_3_34, H.cv_5_3, H.cv_5_29, H.cv_29_3, H.cv_29_5, H.cv_33_3]
    have hrl : (recS b).length = b.length + 9 := recS_len b
    refine AW_loopN (fun m t h' => ∃ (i : Nat) (q : List UInt8) (tb : Bool), m = 24 - i ∧ i ≤ 24 ∧ q.length = b.length + 9 ∧ h' o = some (.arr ((u8s q).flatten ++ z)) ∧ t 2 = .sc (.int .u32 (pat : Nat)) ∧ t 7 = .rs o 0 1 (u8s (recS b)).length (some cap) ∧ t 10 = .sc (.int .i64 (to : Nat)) ∧ t 11 = .sc (.int .i64 (k : Nat)) ∧ t 12 = .sc (.bool tb) ∧ t 13 = .sc (.int .i64 (i : Nat)) ∧
        (∀ j, j < 8 * (b.length + 9) → bitAt q j ≠ bitAt (recS b) j → k ≤ j ∧ j < k + i ∧ j < to) ∧ (tb = true → ∃ j, j < 8 * (b.length + 9) ∧ bitAt q j ≠ bitAt (recS b) j))
      (n := 24) ⟨0, recS b, false, rfl, by omega, hrl, ho, by simp [upd_at, t2], by simp [upd_at, t7], by simp [upd_at, t10], by simp [upd_at, t11], by simp [upd_at], by simp [upd_at], fun j hj h => absurd rfl h, fun h => by cases h⟩ ?_
    clear t2 t7 t10 t11
    rintro m t h' ⟨i, q, tb, rfl, hi, hq, ho, t2, t7, t10, t11, t12, t13, hdiff, htb⟩
    rw [u8s_len, hrl] at t7
    have fin : ∀ t : Nat → AV, t 7 = .rs o 0 1 (b.length + 9) (some cap) → t 12 = .sc (.bool tb) → N ⟨t, h'⟩ := by
      clear t2 t7 t10 t11 t12 t13
      intro t t7 t12
      refine hN _ ?_; clear hN N
      have hcl : 0 + (b.length + 9) * 1 ≤ ((u8s q).flatten ++ z).length := by rw [List.length_append, flat_u8s, List.length_map]; omega
      have hch : chunks 1 (b.length + 9) ((((u8s q).flatten ++ z).drop 0).map AV.disc) = u8s q := by
        have := (ge_u8s (l := q)).chunks (z.map AV.disc)
        rw [u8s_len, hq] at this
        rw [List.drop_zero, List.map_append, (ge_u8s (l := q)).disc, this]
      refine .ghost (.slot (i := 7) (o := o) (c := 0) (sz := 1) (n := b.length + 9) (lim := some cap) false t7 ho hcl (fun q => by cases q)) ?_
      rw [hch]
      have hv' : SF 1 (.bs false 1 (u8s q) (some cap)) (u8s q) := SF.bs
      generalize AV.bs false 1 (u8s q) (some cap) = v' at hv'
      refine A_seq_gen fun N hN => W_sound ?_
      refine W_forget (fun t => t 7 = v' ∧ t 12 = .sc (.bool tb) ∧ True) ⟨by simp [upd_at], by simp [upd_at, t12], trivial⟩ ?_
      clear t7 t12
      rintro t ⟨t7, t12, -⟩
      simp (disch := first | omega | (simp only [List.length_cons, List.length_nil, List.length_append, u8s_len]; omega)) only [go_sem, ↓reduceIte, Nat.reduceEqDiff, Nat.reduceAdd, Nat.reduceBEq, Int.reduceEq, H.cv_3_29, H.cv_3_34, H.cv_5_3, H.cv_5_29, H.cv_29_3, H.cv_29_5, H.cv_33_3, t7, hv'.same, hv'.disc]
      refine (first_ok H hv'.sl (by omega) _).mono ?_
      rintro _ h2 ⟨⟨x, rfl, hx⟩, rfl⟩
      rw [contK_some]; simp (disch := first | omega | (simp only [List.length_cons, List.length_nil, List.length_append, u8s_len]; omega)) only [go_sem, ↓reduceIte, Nat.reduceEqDiff, Nat.reduceAdd, Nat.reduceBEq, Int.reduceEq, H.cv_3_29, H.cv_3_34, H.cv_5_3, H.cv_5_29, H.cv_29_3, H.cv_29_5, H.cv_33_3, hx.same, hx.disc]
      refine hN _ ?_; clear hN N
      refine A_seq_gen fun N hN => W_sound ?_
      refine W_forget (fun t => t 12 = .sc (.bool tb) ∧ t 16 = .sc (.int .i64 ((firstS q).2.2 : Nat)) ∧ True) ⟨by simp [upd_at, t12], by simp [upd_at], trivial⟩ ?_
      clear t7 t12
      rintro t ⟨t12, t16, -⟩
      cases tb with
      | false =>
        simp (disch := first | omega | (simp only [List.length_cons, List.length_nil, List.length_append, u8s_len]; omega)) only [go_sem, ↓reduceIte, Nat.reduceEqDiff, Nat.reduceAdd, Nat.reduceBEq, Int.reduceEq, H.cv_3_29, H.cv_3_34, H.cv_5_3, H.cv_5_29, H.cv_29_3, H.cv_29_5, H.cv_33_3, t12]
        refine (awake_ok H _).mono ?_
        rintro _ _ ⟨rfl, hh⟩; subst hh
        rw [contK_some]; simp (disch := first | omega | (simp only [List.length_cons, List.length_nil, List.length_append, u8s_len]; omega)) only [go_sem, ↓reduceIte, Nat.reduceEqDiff, Nat.reduceAdd, Nat.reduceBEq, Int.reduceEq, H.cv_3_29, H.cv_3_34, H.cv_5_3, H.cv_5_29, H.cv_29_3, H.cv_29_5, H.cv_33_3]
        refine hN _ ?_; clear hN N
        refine W_sound ?_
        simp (disch := first | omega | (simp only [List.length_cons, List.length_nil, List.length_append, u8s_len]; omega)) only [go_sem, ↓reduceIte, Nat.reduceEqDiff, Nat.reduceAdd, Nat.reduceBEq, Int.reduceEq, H.cv_3_29, H.cv_3_34, H.cv_5_3, H.cv_5_29, H.cv_29_3, H.cv_29_5, H.cv_33_3]
      | true =>
        have hne : ¬ (firstS q).2.2 = 0 := fun hf => by
          obtain ⟨j, hj, hne⟩ := htb rfl
          refine hne (burst (b := b) (by omega) (by rw [hq, hrl]) k (fun j hj hne => ?_) ?_ hf j (by rw [hq]; exact hj))
          · rw [hq] at hj
            have := hdiff j hj hne
            omega
          · rcases hzone with ⟨_, rfl, rfl⟩ | ⟨_, rfl, rfl⟩
            · refine .inr fun j hj hne => ?_
              rw [hq] at hj
              have := hdiff j hj hne
              omega
            · refine .inl fun j hj hne => ?_
              rw [hq] at hj
              have := hdiff j hj hne
              omega
        have hd : (!decide ((firstS q).2.2 = 0)) = true := by simp [hne]
        simp (disch := first | omega | (simp only [List.length_cons, List.length_nil, List.length_append, u8s_len]; omega)) only [go_sem, ↓reduceIte, Nat.reduceEqDiff, Nat.reduceAdd, Nat.reduceBEq, Int.reduceEq, H.cv_3_29, H.cv_3_34, H.cv_5_3, H.cv_5_29, H.cv_29_3, H.cv_29_5, H.cv_33_3, t12, t16, hd]
        refine (awake_ok H _).mono ?_
        rintro _ _ ⟨rfl, hh⟩; subst hh
        rw [contK_some]; simp (disch := first | omega | (simp only [List.length_cons, List.length_nil, List.length_append, u8s_len]; omega)) only [go_sem, ↓reduceIte, Nat.reduceEqDiff, Nat.reduceAdd, Nat.reduceBEq, Int.reduceEq, H.cv_3_29, H.cv_3_34, H.cv_5_3, H.cv_5_29, H.cv_29_3, H.cv_29_5, H.cv_33_3]
        refine hN _ ?_; clear hN N
        refine W_sound ?_
        simp (disch := first | omega | (simp only [List.length_cons, List.length_nil, List.length_append, u8s_len]; omega)) only [go_sem, ↓reduceIte, Nat.reduceEqDiff, Nat.reduceAdd, Nat.reduceBEq, Int.reduceEq, H.cv_3_29, H.cv_3_34, H.cv_5_3, H.cv_5_29, H.cv_29_3, H.cv_29_5, H.cv_33_3]
    by_cases c : i < 24 ∧ k + i < to
    · obtain ⟨c1, c2⟩ := c
      (refine W_seq_gen fun N hN => ?_); simp (disch := first | omega | (simp only [List.length_cons, List.length_nil, List.length_append, u8s_len]; omega)) only [go_sem, ↓reduceIte, Nat.reduceEqDiff, Nat.reduceAdd, Nat.reduceBEq, Int.reduceEq, H.cv_3_29, H.cv_3_34, H.cv_5_3, H.cv_5_29, H.cv_29_3, H.cv_29_5, H.cv_33_3, t10, t11, t13, c1, c2, nat_add]
      refine hN _ ?_; clear hN N
      (refine W_seq_gen fun M hM => ?_)
      rw [W_block]
      have wu : IntKind.u64.wrap ((i : Nat) : Int) = ((i : Nat) : Int) := by rw [wrap_u64m]; omega
      have hp8 : (k + i) / 8 < q.length := by omega
      have w7 : IntKind.u64.wrap ((7 - (k + i) % 8 : Nat) : Int) = ((7 - (k + i) % 8 : Nat) : Int) := by rw [wrap_u64m]; omega
      have s7 : ((7 : Nat) : Int) - (((k + i) % 8 : Nat) : Int) = ((7 - (k + i) % 8 : Nat) : Int) := by omega
      by_cases d : pat / 2 ^ i % 2 = 1
      · have dd : decide (pat / 2 ^ i % 2 = 1) = true := decide_eq_true d
        have iad : ∀ t, aexIad 1 (((k + i) / 8 : Nat) : Int) t h' (.rs o 0 1 (b.length + 9) (some cap)) = some (.val (.op o ((k + i) / 8)) t h') := fun t => by
          have : (1 = 1 ∧ (0 : Int) ≤ (((k + i) / 8 : Nat) : Int) ∧ (((k + i) / 8 : Nat) : Int) < ((b.length + 9 : Nat) : Int)) := ⟨rfl, by omega, by omega⟩
          simp only [aexIad, this, and_self, if_true, Int.toNat_natCast, Nat.zero_add, Nat.mul_one]
        have hll : (k + i) / 8 + 1 ≤ ((u8s q).flatten ++ z).length := by rw [List.length_append, flat_u8s, List.length_map]; omega
        have hat := at_u8s q z hp8
        have hlt := q[(k + i) / 8].toNat_lt
        have h2e : 2 ^ (7 - (k + i) % 8) < 256 := Nat.pow_lt_pow_right (n := 8) (by decide) (by omega)
        have hxl := xor_lt q[(k + i) / 8] (7 - (k + i) % 8) (by omega)
        have hx := sb_xor (P := P) (ty := 5) (k := .u8) (a := q[(k + i) / 8].toNat) (b := 2 ^ (7 - (k + i) % 8)) rfl (by exact hlt) (by exact h2e)
        have r8 : (((k + i : Nat) : Int)).tmod ((8 : Nat) : Int) = (((k + i) % 8 : Nat) : Int) := rfl
        have hset := set_u8s q z hp8 (UInt8.ofNat (q[(k + i) / 8].toNat ^^^ 2 ^ (7 - (k + i) % 8)))
        rw [u8_n, Nat.mod_eq_of_lt hxl] at hset
        have single1 : ∀ x : AV, single false [x] = some x := fun x => rfl
        simp (disch := first | omega | (simp only [List.length_cons, List.length_nil, List.length_append, u8s_len]; omega)) only [go_sem, ↓reduceIte, Nat.reduceEqDiff, Nat.reduceAdd, Nat.reduceBEq, Int.reduceEq, H.cv_3_29, H.cv_3_34, H.cv_5_3, H.cv_5_29, H.cv_29_3, H.cv_29_5, H.cv_33_3, t2, t7, t11, t13, wu, sb_shr32, dd, nat_add, sb_q8, iad, ho, hll, hat, single1, r8, s7, w7, sb_sh8, hx, hset]
        refine hM _ ?_; clear hM M
        simp (disch := first | omega | (simp only [List.length_cons, List.length_nil, List.length_append, u8s_len]; omega)) only [go_sem, ↓reduceIte, Nat.reduceEqDiff, Nat.reduceAdd, Nat.reduceBEq, Int.reduceEq, H.cv_3_29, H.cv_3_34, H.cv_5_3, H.cv_5_29, H.cv_29_3, H.cv_29_5, H.cv_33_3, t13, nat_add]
        have ht : q.set ((k + i) / 8) (UInt8.ofNat (q[(k + i) / 8].toNat ^^^ 2 ^ (7 - (k + i) % 8))) = turn q (k + i) := by
          unfold turn
          rw [List.getD_eq_getElem?_getD, List.getElem?_eq_getElem hp8]
          rfl
        rw [ht]
        have htn : ∀ j, bitAt (turn q (k + i)) j = (bitAt q j != decide (j = k + i)) := fun j => turn_bit q (k + i) j (by omega)
        have hsame : bitAt q (k + i) = bitAt (recS b) (k + i) := Decidable.byContradiction fun hne => by
          have := hdiff (k + i) (by omega) hne
          omega
        refine ⟨24 - (i + 1), by omega, i + 1, turn q (k + i), true, rfl, by omega, by rw [turn_len, hq], by simp [upd], by simp [upd_at, t2], by simp [upd_at, t7, hrl, u8s_len], by simp [upd_at, t10], by simp [upd_at, t11], by simp [upd_at], by simp [upd_at], fun j hj hne => ?_, fun _ => ⟨k + i, by omega, ?_⟩⟩
        · rw [htn] at hne
          by_cases e : j = k + i
          · omega
          · rw [decide_eq_false e, Bool.bne_false] at hne
            have := hdiff j hj hne
            omega
        · rw [htn, hsame]
          simp
      · have dd : decide (pat / 2 ^ i % 2 = 1) = false := decide_eq_false d
        simp (disch := first | omega | (simp only [List.length_cons, List.length_nil, List.length_append, u8s_len]; omega)) only [go_sem, ↓reduceIte, Nat.reduceEqDiff, Nat.reduceAdd, Nat.reduceBEq, Int.reduceEq, H.cv_3_29, H.cv_3_34, H.cv_5_3, H.cv_5_29, H.cv_29_3, H.cv_29_5, H.cv_33_3, t2, t13, wu, sb_shr32, dd]
        refine hM _ ?_; clear hM M
        simp (disch := first | omega | (simp only [List.length_cons, List.length_nil, List.length_append, u8s_len]; omega)) only [go_sem, ↓reduceIte, Nat.reduceEqDiff, Nat.reduceAdd, Nat.reduceBEq, Int.reduceEq, H.cv_3_29, H.cv_3_34, H.cv_5_3, H.cv_5_29, H.cv_29_3, H.cv_29_5, H.cv_33_3, t13, nat_add]
        exact ⟨24 - (i + 1), by omega, i + 1, q, tb, rfl, by omega, hq, ho, by simp [upd_at, t2], by simp [upd_at, t7, hrl, u8s_len], by simp [upd_at, t10], by simp [upd_at, t11], by simp [upd_at, t12], by simp [upd_at], fun j hj hne => by have := hdiff j hj hne; omega, htb⟩
    · by_cases c1 : i < 24
      · have c2 : ¬ k + i < to := fun h => c ⟨c1, h⟩
        (refine W_seq_gen fun N hN => ?_); simp (disch := first | omega | (simp only [List.length_cons, List.length_nil, List.length_append, u8s_len]; omega)) only [go_sem, ↓reduceIte, Nat.reduceEqDiff, Nat.reduceAdd, Nat.reduceBEq, Int.reduceEq, H.cv_3_29, H.cv_3_34, H.cv_5_3, H.cv_5_29, H.cv_29_3, H.cv_29_5, H.cv_33_3, t10, t11, t13, c1, c2, nat_add]
        exact fin _ (by simp [upd_at, t7]) (by simp [upd_at, t12])
      · (refine W_seq_gen fun N hN => ?_); simp (disch := first | omega | (simp only [List.length_cons, List.length_nil, List.length_append, u8s_len]; omega)) only [go_sem, ↓reduceIte, Nat.reduceEqDiff, Nat.reduceAdd, Nat.reduceBEq, Int.reduceEq, H.cv_3_29, H.cv_3_34, H.cv_5_3, H.cv_5_29, H.cv_29_3, H.cv_29_5, H.cv_33_3, t10, t11, t13, c1]
        exact fin _ (by simp [upd_at, t7]) (by simp [upd_at, t12])
  rcases hzone with ⟨c, rfl, rfl⟩ | ⟨c, rfl, rfl⟩
  · have d : decide (a % 2 = 1) = true := decide_eq_true c
    simp (disch := first | omega | (simp only [List.length_cons, List.length_nil, List.length_append, u8s_len]; omega)) only [go_sem, ↓reduceIte, Nat.reduceEqDiff, Nat.reduceAdd, Nat.reduceBEq, Int.reduceEq, H.cv_3_29, H.cv_3_34, H.cv_5_3, H.cv_5_29, H.cv_29_3, H.cv_29_5, H.cv_33_3, t1, t7, d, s1, s2, sl, nat_mul]
    exact go _ (by simp [upd_at, t1]) (by simp [upd_at, t2]) (by simp [upd_at, t7]) (by simp [upd_at]) (by simp [upd_at])
  · have d : decide (a % 2 = 1) = false := decide_eq_false c
    simp (disch := first | omega | (simp only [List.length_cons, List.length_nil, List.length_append, u8s_len]; omega)) only [go_sem, ↓reduceIte, Nat.reduceEqDiff, Nat.reduceAdd, Nat.reduceBEq, Int.reduceEq, H.cv_3_29, H.cv_3_34, H.cv_5_3, H.cv_5_29, H.cv_29_3, H.cv_29_5, H.cv_33_3, t1, t7, d, s1, s2, sl]
    exact go _ (by simp [upd_at, t1]) (by simp [upd_at, t2]) (by simp [upd_at, t7]) (by simp [upd_at]) (by simp [upd_at])
end Go.Proofs.Ytfiaekgmblbmiaa
