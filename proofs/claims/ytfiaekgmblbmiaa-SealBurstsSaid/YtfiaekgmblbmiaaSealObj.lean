/- Sealed records as objects. -/
import Derived.Test.YtfiaekgmblbmiaaSealRec
import Derived.Test.YtfiaekgmblbmiaaAmRow
set_option linter.unusedVariables false
set_option linter.unusedSimpArgs false
namespace Go.Proofs.Ytfiaekgmblbmiaa
open Go.Am
variable {P : Program} (H : Has P)
include H
theorem put1_ok {h0 h : Heap} {v : AV} {l : List UInt8} (hv : RW h0 h 1 v (u8s l)) (hl : l.length < 2 ^ 40) (n : Nat) (hn : n < 2 ^ 24) : AWF P ann 1 18 [v, u32 n] h fun r h' => RW h0 h' 1 r (u8s (l ++ three n)) := by
  refine AWF.fnc H.f1_18 rfl ?_
  have hlen := @u8s_len l
  have h16 : n / 2 ^ 16 = n / 65536 := rfl
  have h8 : n / 2 ^ 8 = n / 256 := rfl
  obtain ⟨d1, d2, d3⟩ := hv.dis
  (refine W_seq_gen fun N hN => ?_); simp (disch := first | omega | (simp only [List.length_cons, List.length_nil, List.length_append, u8s_len]; omega)) only [go_sem, ↓reduceIte, Nat.reduceEqDiff, Nat.reduceAdd, Nat.reduceBEq, Int.reduceEq, H.cv_3_29, H.cv_3_34, H.cv_5_3, H.cv_5_29, H.cv_29_3, H.cv_29_5, H.cv_33_3]
  refine hN _ ?_; clear hN N
  simp (disch := first | omega | (simp only [List.length_cons, List.length_nil, List.length_append, u8s_len]; omega)) only [go_sem, ↓reduceIte, Nat.reduceEqDiff, Nat.reduceAdd, Nat.reduceBEq, Int.reduceEq, H.cv_3_29, H.cv_3_34, H.cv_5_3, H.cv_5_29, H.cv_29_3, H.cv_29_5, H.cv_33_3, u32, wrap_u8m, sb_shr32, h16, h8, d1]
  refine after_row hv ge_u8s (fun e he => ?_) rfl (by rw [hlen]; simp; omega) fun x h2 hx => ?_
  · simp only [List.mem_cons, List.not_mem_nil, or_false] at he
    rcases he with rfl | rfl | rfl <;> exact ⟨rfl, rfl⟩
  · obtain ⟨x1, x2, x3⟩ := hx.dis
    simp only [putd]
    simp (disch := first | omega | (simp only [List.length_cons, List.length_nil, List.length_append, u8s_len]; omega)) only [go_sem, ↓reduceIte, Nat.reduceEqDiff, Nat.reduceAdd, Nat.reduceBEq, Int.reduceEq, H.cv_3_29, H.cv_3_34, H.cv_5_3, H.cv_5_29, H.cv_29_3, H.cv_29_5, H.cv_33_3, x1]
    have e : u8s (l ++ three n) = u8s l ++ [[.sc (.int .u8 (((n / 65536 : Nat) : Int) % 256))], [.sc (.int .u8 (((n / 256 : Nat) : Int) % 256))], [.sc (.int .u8 ((n : Int) % 256))]] := by simp [u8s, three]
    rw [e]
    exact hx
theorem sum_rd {v : AV} {l : List UInt8} {h : Heap} (hv : RD h 1 v (u8s l)) (hl : l.length < 2 ^ 60) : AWF P ann 0 11 [v] h fun v h' => v = u32 (sumS l).toNat ∧ h' = h := by
  refine AWF.fn H.f0_11 rfl ?_
  have hlen := @u8s_len l
  have vl := fun t => hv.dis.len (t := t)
  simp (disch := first | omega | (simp only [List.length_cons, List.length_nil, List.length_append, u8s_len]; omega)) only [code0_11, u32, go_sem, ↓reduceIte, Nat.reduceEqDiff, Nat.reduceAdd, Nat.reduceBEq, Int.reduceEq, H.cv_3_29, H.cv_3_34, H.cv_5_3, H.cv_5_29, H.cv_29_3, H.cv_29_5, H.cv_33_3, vl]
  refine AW_loopN (fun n t h' => h' = h ∧ ∃ i, n = l.length - i ∧ i ≤ l.length ∧ t 6 = v.dis ∧ t 7 = .sc (.int .i64 (l.length : Nat)) ∧ t 8 = .sc (.int .i64 (i : Nat)) ∧ t 3 = .sc (.int .u32 ((l.take i).foldl byteS 0xB704CE).toNat))
    (n := l.length) ⟨rfl, 0, rfl, Nat.zero_le _, rfl, rfl, rfl, rfl⟩ ?_
  rintro n t h' ⟨rfl, i, rfl, hi, t6, t7, t8, t3⟩
  have hx : ∀ b : BitVec 24, b.toNat < 16777216 := fun b => b.isLt
  rcases Nat.lt_or_ge i l.length with hlt | hge
  · have hget := u8s_get hlt
    have hb : l[i].toNat < 256 := l[i].toNat_lt
    have hX := hx ((l.take i).foldl byteS 0xB704CE)
    have hq : i < l.length := by omega
    obtain ⟨p, p1, p2, p3⟩ := hv.dis.at1 hget
    simp (disch := first | omega | (simp only [List.length_cons, List.length_nil, List.length_append, u8s_len]; omega)) only [go_sem, ↓reduceIte, Nat.reduceEqDiff, Nat.reduceAdd, Nat.reduceBEq, Int.reduceEq, H.cv_3_29, H.cv_3_34, H.cv_5_3, H.cv_5_29, H.cv_29_3, H.cv_29_5, H.cv_33_3, t6, t7, t8, t3, hq, p1, p2, p3, wrap_u32u, sb_shl32, sb_xor32, xor_in]
    have hY := hx ((l.take i).foldl byteS 0xB704CE ^^^ BitVec.ofNat 24 l[i].toNat <<< 16)
    generalize hy : ((l.take i).foldl byteS 0xB704CE ^^^ BitVec.ofNat 24 l[i].toNat <<< 16) = y at hY
    refine AW_loopN (fun n t h2 => h2 = h' ∧ ∃ j, n = 8 - j ∧ j ≤ 8 ∧ t 6 = v.dis ∧ t 7 = .sc (.int .i64 (l.length : Nat)) ∧ t 8 = .sc (.int .i64 (i : Nat)) ∧ t 17 = .sc (.int .i64 (j : Nat)) ∧ t 3 = .sc (.int .u32 (Nat.repeat stepS j y).toNat))
      (n := 8) ?_ ?_
    · refine ⟨rfl, 0, rfl, Nat.zero_le _, ?_, ?_, ?_, ?_, ?_⟩ <;> simp only [upd_at] <;> simp [t6, t7, t8, Nat.repeat]
    · rintro n u h2 ⟨rfl, j, rfl, hj, u6, u7, u8, u17, u3⟩
      rcases Nat.lt_or_ge j 8 with hj8 | hj8
      · have hZ := hx (Nat.repeat stepS j y)
        have hq2 : j < 8 := by omega
        have hxo : ((Nat.repeat stepS j y).toNat * 2 ^ 1 ^^^ 8801531) < 4294967296 := Nat.xor_lt_two_pow (n := 32) (by omega) (by omega)
        cases hm : (Nat.repeat stepS j y).msb with
        | true =>
          have ha : ¬ ((Nat.repeat stepS j y).toNat &&& 8388608 = 0) := by rw [msb_and, hm]; simp
          simp (disch := first | omega | (simp only [List.length_cons, List.length_nil, List.length_append, u8s_len]; omega)) only [go_sem, ↓reduceIte, Nat.reduceEqDiff, Nat.reduceAdd, Nat.reduceBEq, Int.reduceEq, H.cv_3_29, H.cv_3_34, H.cv_5_3, H.cv_5_29, H.cv_29_3, H.cv_29_5, H.cv_33_3, u6, u7, u8, u17, u3, hq2, ha, sb_shl32, sb_xor32, sb_and32, step_one _ hm]
          exact ⟨8 - (j + 1), by omega, j + 1, rfl, by omega, rfl, rfl⟩
        | false =>
          have ha : ((Nat.repeat stepS j y).toNat &&& 8388608 = 0) := by rw [msb_and, hm]
          simp (disch := first | omega | (simp only [List.length_cons, List.length_nil, List.length_append, u8s_len]; omega)) only [go_sem, ↓reduceIte, Nat.reduceEqDiff, Nat.reduceAdd, Nat.reduceBEq, Int.reduceEq, H.cv_3_29, H.cv_3_34, H.cv_5_3, H.cv_5_29, H.cv_29_3, H.cv_29_5, H.cv_33_3, u6, u7, u8, u17, u3, hq2, ha, sb_shl32, sb_xor32, sb_and32, step_zero _ hm]
          exact ⟨8 - (j + 1), by omega, j + 1, rfl, by omega, rfl, rfl⟩
      · have hj' : j = 8 := by omega
        subst hj'
        have hq2 : ¬ 8 < 8 := by omega
        simp (disch := first | omega | (simp only [List.length_cons, List.length_nil, List.length_append, u8s_len]; omega)) only [go_sem, ↓reduceIte, Nat.reduceEqDiff, Nat.reduceAdd, Nat.reduceBEq, Int.reduceEq, H.cv_3_29, H.cv_3_34, H.cv_5_3, H.cv_5_29, H.cv_29_3, H.cv_29_5, H.cv_33_3, u6, u7, u8, u17, u3, hq2]
        refine ⟨l.length - (i + 1), by omega, i + 1, rfl, by omega, rfl, ?_⟩
        rw [← hy]
        have : l.take (i + 1) = l.take i ++ [l[i]] := by rw [List.take_add_one]; simp [hlt]
        rw [this, List.foldl_append]
        rfl
  · have hi' : i = l.length := by omega
    subst hi'
    have hq : ¬ l.length < l.length := by omega
    simp (disch := first | omega | (simp only [List.length_cons, List.length_nil, List.length_append, u8s_len]; omega)) only [go_sem, ↓reduceIte, Nat.reduceEqDiff, Nat.reduceAdd, Nat.reduceBEq, Int.reduceEq, H.cv_3_29, H.cv_3_34, H.cv_5_3, H.cv_5_29, H.cv_29_3, H.cv_29_5, H.cv_33_3, t6, t7, t8, t3, hq, List.take_length, sumS]
/-- A sealed record, as an object. -/
def RecR (h h' : Heap) (l : List UInt8) (r : AV) : Prop := ∃ x, r = .tu [x, .sc (.int .i64 ((0 : Nat) : Int))] ∧ RW h h' 1 x (u8s (recS l))
theorem record1_ok {v : AV} {l : List UInt8} (hv : SL 1 v (u8s l)) (hl : l.length ≤ 16384) (h : Heap) : AWF P ann 1 9 [v] h fun r h' => RecR h h' l r := by
  refine AWF.fnc H.f1_9 rfl ?_
  have hlen := @u8s_len l
  have hq : ¬ 16384 < l.length := by omega
  (refine W_seq_gen fun N hN => ?_); simp (disch := first | omega | (simp only [List.length_cons, List.length_nil, List.length_append, u8s_len]; omega)) only [go_sem, ↓reduceIte, Nat.reduceEqDiff, Nat.reduceAdd, Nat.reduceBEq, Int.reduceEq, H.cv_3_29, H.cv_3_34, H.cv_5_3, H.cv_5_29, H.cv_29_3, H.cv_29_5, H.cv_33_3]
  refine hN _ ?_; clear hN N
  (refine W_seq_gen fun N hN => ?_); simp (disch := first | omega | (simp only [List.length_cons, List.length_nil, List.length_append, u8s_len]; omega)) only [go_sem, ↓reduceIte, Nat.reduceEqDiff, Nat.reduceAdd, Nat.reduceBEq, Int.reduceEq, H.cv_3_29, H.cv_3_34, H.cv_5_3, H.cv_5_29, H.cv_29_3, H.cv_29_5, H.cv_33_3, hv.dis.len, hlen, hq]
  refine hN _ ?_; clear hN N
  (refine W_seq_gen fun N hN => ?_); simp (disch := first | omega | (simp only [List.length_cons, List.length_nil, List.length_append, u8s_len]; omega)) only [go_sem, ↓reduceIte, Nat.reduceEqDiff, Nat.reduceAdd, Nat.reduceBEq, Int.reduceEq, H.cv_3_29, H.cv_3_34, H.cv_5_3, H.cv_5_29, H.cv_29_3, H.cv_29_5, H.cv_33_3, hv.dis.len, hlen, wrap_u32u]
  refine (put1_ok H (h0 := h) (RW.nil (sz := 1)) (l := []) (by simp) l.length (by omega)).mono ?_
  intro a h1 ha
  rw [List.nil_append] at ha
  obtain ⟨a1, a2, a3⟩ := ha.dis
  rw [contK_some]; simp (disch := first | omega | (simp only [List.length_cons, List.length_nil, List.length_append, u8s_len]; omega)) only [go_sem, ↓reduceIte, Nat.reduceEqDiff, Nat.reduceAdd, Nat.reduceBEq, Int.reduceEq, H.cv_3_29, H.cv_3_34, H.cv_5_3, H.cv_5_29, H.cv_29_3, H.cv_29_5, H.cv_33_3, a1, a2]
  refine hN _ ?_; clear hN N
  have hs := sum_lt (three l.length)
  (refine W_seq_gen fun N hN => ?_); simp (disch := first | omega | (simp only [List.length_cons, List.length_nil, List.length_append, u8s_len]; omega)) only [go_sem, ↓reduceIte, Nat.reduceEqDiff, Nat.reduceAdd, Nat.reduceBEq, Int.reduceEq, H.cv_3_29, H.cv_3_34, H.cv_5_3, H.cv_5_29, H.cv_29_3, H.cv_29_5, H.cv_33_3, a1, a2]
  refine (sum_rd H (ha.rd ge_u8s) (by simp [three_len])).mono ?_
  rintro _ h1 ⟨rfl, rfl⟩
  rw [contK_some]; simp (disch := first | omega | (simp only [List.length_cons, List.length_nil, List.length_append, u8s_len]; omega)) only [go_sem, ↓reduceIte, Nat.reduceEqDiff, Nat.reduceAdd, Nat.reduceBEq, Int.reduceEq, H.cv_3_29, H.cv_3_34, H.cv_5_3, H.cv_5_29, H.cv_29_3, H.cv_29_5, H.cv_33_3, u32, a1, a2]
  refine (put1_ok H ha (by simp [three_len]) _ hs).mono ?_
  intro b h2 hb
  obtain ⟨b1, b2, b3⟩ := hb.dis
  rw [contK_some]; simp (disch := first | omega | (simp only [List.length_cons, List.length_nil, List.length_append, u8s_len]; omega)) only [go_sem, ↓reduceIte, Nat.reduceEqDiff, Nat.reduceAdd, Nat.reduceBEq, Int.reduceEq, H.cv_3_29, H.cv_3_34, H.cv_5_3, H.cv_5_29, H.cv_29_3, H.cv_29_5, H.cv_33_3, hv.dis.elems, b1, b2]
  refine after_row hb ge_u8s ge_u8s rfl (by simp [u8s_len, three_len]; omega) fun c h3 hc => ?_
  simp only [putd]
  obtain ⟨c1, c2, c3⟩ := hc.dis
  simp (disch := first | omega | (simp only [List.length_cons, List.length_nil, List.length_append, u8s_len]; omega)) only [go_sem, ↓reduceIte, Nat.reduceEqDiff, Nat.reduceAdd, Nat.reduceBEq, Int.reduceEq, H.cv_3_29, H.cv_3_34, H.cv_5_3, H.cv_5_29, H.cv_29_3, H.cv_29_5, H.cv_33_3, c1, c2]
  refine hN _ ?_; clear hN N
  have hs := sum_lt l
  rw [u8s_app] at hc
  (refine W_seq_gen fun N hN => ?_); simp (disch := first | omega | (simp only [List.length_cons, List.length_nil, List.length_append, u8s_len]; omega)) only [go_sem, ↓reduceIte, Nat.reduceEqDiff, Nat.reduceAdd, Nat.reduceBEq, Int.reduceEq, H.cv_3_29, H.cv_3_34, H.cv_5_3, H.cv_5_29, H.cv_29_3, H.cv_29_5, H.cv_33_3, c1, c2]
  refine (sum_ok H hv.dis (by omega) _).mono ?_
  rintro _ h3 ⟨rfl, rfl⟩
  rw [contK_some]; simp (disch := first | omega | (simp only [List.length_cons, List.length_nil, List.length_append, u8s_len]; omega)) only [go_sem, ↓reduceIte, Nat.reduceEqDiff, Nat.reduceAdd, Nat.reduceBEq, Int.reduceEq, H.cv_3_29, H.cv_3_34, H.cv_5_3, H.cv_5_29, H.cv_29_3, H.cv_29_5, H.cv_33_3, u32, c1, c2]
  refine (put1_ok H hc (by simp [three_len]; omega) _ hs).mono ?_
  intro d h4 hd
  obtain ⟨d1, d2, d3⟩ := hd.dis
  rw [contK_some]; simp (disch := first | omega | (simp only [List.length_cons, List.length_nil, List.length_append, u8s_len]; omega)) only [go_sem, ↓reduceIte, Nat.reduceEqDiff, Nat.reduceAdd, Nat.reduceBEq, Int.reduceEq, H.cv_3_29, H.cv_3_34, H.cv_5_3, H.cv_5_29, H.cv_29_3, H.cv_29_5, H.cv_33_3, d1, d2]
  refine hN _ ?_; clear hN N
  simp (disch := first | omega | (simp only [List.length_cons, List.length_nil, List.length_append, u8s_len]; omega)) only [go_sem, ↓reduceIte, Nat.reduceEqDiff, Nat.reduceAdd, Nat.reduceBEq, Int.reduceEq, H.cv_3_29, H.cv_3_34, H.cv_5_3, H.cv_5_29, H.cv_29_3, H.cv_29_5, H.cv_33_3, d1, d2]
  exact ⟨_, rfl, hd⟩
end Go.Proofs.Ytfiaekgmblbmiaa
