/- Cells: the program's decoder and its law. -/
import Derived.Test.YtjebhcflpibkkaaCellM2
import Derived.Test.YtjebhcflpibkkaaAmInv
import Derived.Test.YtjebhcflpibkkaaAmTab
import Derived.Test.YtjebhcflpibkkaaAmArg
section
set_option linter.unusedVariables false
set_option linter.unusedSimpArgs false
namespace Go.Proofs.Ytjebhcflpibkkaa
open Go.Am
theorem sb_shl7 {P : Program} {ty : TypeId} {m i : Nat} (hi : i < 9) (h : m * 128 ^ i < 2 ^ 63) : scalarBin P .shl ty (.int .i64 m) (.int .i64 ((7 * i : Nat) : Int)) = some (.int .i64 ((m * 128 ^ i : Nat) : Int)) := by
  rw [sb_shl (by omega)]
  have e : 128 ^ i = 2 ^ (7 * i) := by rw [show (128 : Nat) = 2 ^ 7 by decide, ← Nat.pow_mul]
  have hm : min ((7 * i : Nat) : Int).toNat IntKind.i64.bits = 7 * i := by
    have : IntKind.i64.bits = 64 := rfl
    rw [this]; omega
  have : (m : Int) * 2 ^ (min ((7 * i : Nat) : Int).toNat IntKind.i64.bits) = ((m * 128 ^ i : Nat) : Int) := by rw [hm, e]; push_cast; rfl
  rw [this, wrap_i64u (by omega) (by omega)]
def rdO (v : AV) (bad : Bool) (left : Int) : AObj := .arr [v, .sc (.bool bad), .sc (.int .i64 left)]
variable {P : Program} (H : Has P)
include H
theorem number_rd {o : Nat} {h : Heap} {v : AV} {l : List UInt8} {left : Int} (hv : SF 1 v (u8s l)) (hl : l.length < 2 ^ 60) (ho : h o = some (rdO v false left)) :
    AWF P ann 0 29 [.op o 0] h fun r h' => match readH 0 0 l with
      | some (N, k) => r = .sc (.int .i64 (N : Nat)) ∧ ∃ v', SF 1 v' (u8s (l.drop k)) ∧ h' = upd h o (some (rdO v' false left))
      | none => r = .sc (.int .i64 ((0 : Nat) : Int)) ∧ h' = upd h o (some (rdO v true left)) := by
  generalize hR : readH 0 0 l = R
  have ho' : h o = some (.arr [v, .sc (.bool false), .sc (.int .i64 left)]) := ho
  refine AWF.fnc H.f0_29 rfl ?_
  (refine W_seq_gen fun N hN => ?_); simp (disch := first | omega | (simp only [List.length_cons, List.length_nil, List.length_append, u8s_len]; omega)) only [go_sem, ↓reduceIte, true_and, Nat.reduceLeDiff, Nat.reduceEqDiff, Nat.reduceAdd, Nat.reduceBEq, Int.reduceEq, H.cv_3_5, H.cv_5_3]
  refine hN _ ?_; clear hN N
  (refine W_seq_gen fun N hN => ?_); simp (disch := first | omega | (simp only [List.length_cons, List.length_nil, List.length_append, u8s_len]; omega)) only [go_sem, ↓reduceIte, true_and, Nat.reduceLeDiff, Nat.reduceEqDiff, Nat.reduceAdd, Nat.reduceBEq, Int.reduceEq, H.cv_3_5, H.cv_5_3]
  refine hN _ ?_; clear hN N
  (refine W_seq_gen fun M hM => ?_)
  simp (disch := first | omega | (simp only [List.length_cons, List.length_nil, List.length_append, u8s_len]; omega)) only [go_sem, ↓reduceIte, true_and, Nat.reduceLeDiff, Nat.reduceEqDiff, Nat.reduceAdd, Nat.reduceBEq, Int.reduceEq, H.cv_3_5, H.cv_5_3, ho', hv.same, hv.disc, hv.sl.len, u8s_len]
  refine AW_loopN (fun m t h' => h' = h ∧ ∃ (i n : Nat), m = l.length - i ∧ i ≤ l.length ∧ i ≤ 9 ∧ n < 128 ^ i ∧ readH i n (l.drop i) = R ∧ t 0 = .op o 0 ∧ t 3 = .sc (.int .i64 (n : Nat)) ∧ t 9 = v ∧ t 10 = .sc (.int .i64 (l.length : Nat)) ∧ t 11 = .sc (.int .i64 (i : Nat)))
    (n := l.length) ⟨rfl, 0, 0, rfl, Nat.zero_le _, by omega, by decide, hR, by simp [upd_at] <;> rfl, by simp [upd_at], by simp [upd_at], by simp [upd_at], rfl⟩ ?_
  rintro m t h' ⟨rfl, i, n, rfl, hi, hi9, hn, hr, t0, t3, t9, t10, t11⟩
  have bad : ∀ t : Nat → AV, t 0 = .op o 0 → R = none → M ⟨t, h'⟩ := by
    clear t0 t3 t9 t10 t11 t
    intro t t0 hRn
    refine hM _ ?_; clear hM M
    subst hRn
    simp (disch := first | omega | (simp only [List.length_cons, List.length_nil, List.length_append, u8s_len]; omega)) only [go_sem, ↓reduceIte, true_and, Nat.reduceLeDiff, Nat.reduceEqDiff, Nat.reduceAdd, Nat.reduceBEq, Int.reduceEq, H.cv_3_5, H.cv_5_3, t0, ho']
    rfl
  clear hM
  rcases Nat.lt_or_ge i l.length with hlt | hge
  · rw [List.drop_eq_getElem_cons hlt, readH] at hr
    have g0 := u8s_get hlt
    generalize hb : l[i] = b at hr g0
    have hb256 : b.toNat < 256 := b.toNat_lt
    (refine W_seq_gen fun N hN => ?_); simp (disch := first | omega | (simp only [List.length_cons, List.length_nil, List.length_append, u8s_len]; omega)) only [go_sem, ↓reduceIte, true_and, Nat.reduceLeDiff, Nat.reduceEqDiff, Nat.reduceAdd, Nat.reduceBEq, Int.reduceEq, H.cv_3_5, H.cv_5_3, t10, t11, hlt]
    refine hN _ ?_; clear hN N
    (refine W_seq_gen fun N hN => ?_); simp (disch := first | omega | (simp only [List.length_cons, List.length_nil, List.length_append, u8s_len]; omega)) only [go_sem, ↓reduceIte, true_and, Nat.reduceLeDiff, Nat.reduceEqDiff, Nat.reduceAdd, Nat.reduceBEq, Int.reduceEq, H.cv_3_5, H.cv_5_3]
    refine hN _ ?_; clear hN N
    (refine W_seq_gen fun N hN => ?_)
    rw [W_block]
    (refine W_seq_gen fun N hN => ?_); simp (disch := first | omega | (simp only [List.length_cons, List.length_nil, List.length_append, u8s_len]; omega)) only [go_sem, ↓reduceIte, true_and, Nat.reduceLeDiff, Nat.reduceEqDiff, Nat.reduceAdd, Nat.reduceBEq, Int.reduceEq, H.cv_3_5, H.cv_5_3, t9, t11, hv.same, hv.disc, hv.sl.ia, g0]
    refine hN _ ?_; clear hN N
    refine W_forget (fun t => t 0 = .op o 0 ∧ t 3 = .sc (.int .i64 (n : Nat)) ∧ t 4 = .sc (.int .i64 (i : Nat)) ∧ t 5 = .sc (.int .u8 (b.toNat : Nat)) ∧ t 9 = v ∧ t 10 = .sc (.int .i64 (l.length : Nat)) ∧ t 11 = .sc (.int .i64 (i : Nat)) ∧ True) (by simp [upd_at, *] <;> (first | rfl | exact ⟨rfl, rfl⟩ | exact ⟨rfl, rfl, rfl⟩)) ?_; rintro t ⟨t0, t3, t4, t5, t9, t10, t11, -⟩
    by_cases c9 : i = 9
    · rw [if_pos (.inl c9)] at hr
      have d9 : decide (i = 9) = true := decide_eq_true c9
      simp (disch := first | omega | (simp only [List.length_cons, List.length_nil, List.length_append, u8s_len]; omega)) only [go_sem, ↓reduceIte, true_and, Nat.reduceLeDiff, Nat.reduceEqDiff, Nat.reduceAdd, Nat.reduceBEq, Int.reduceEq, H.cv_3_5, H.cv_5_3, t4, d9]
      exact bad _ (by simp [upd_at, t0]) hr.symm
    have d9 : decide (i = 9) = false := decide_eq_false c9
    by_cases cz : b.toNat = 0 ∧ 0 < i
    · rw [if_pos (.inr cz)] at hr
      have dz : decide (b.toNat = 0) = true := decide_eq_true cz.1
      have dp : decide (0 < i) = true := decide_eq_true cz.2
      simp (disch := first | omega | (simp only [List.length_cons, List.length_nil, List.length_append, u8s_len]; omega)) only [go_sem, ↓reduceIte, true_and, Nat.reduceLeDiff, Nat.reduceEqDiff, Nat.reduceAdd, Nat.reduceBEq, Int.reduceEq, H.cv_3_5, H.cv_5_3, t4, t5, d9, dz, dp]
      exact bad _ (by simp [upd_at, t0]) hr.symm
    rw [if_neg (by omega)] at hr
    clear bad
    (refine W_seq_gen fun K hK => ?_)
    have go : ∀ t : Nat → AV, t 0 = .op o 0 → t 3 = .sc (.int .i64 (n : Nat)) → t 4 = .sc (.int .i64 (i : Nat)) → t 5 = .sc (.int .u8 (b.toNat : Nat)) → t 9 = v → t 10 = .sc (.int .i64 (l.length : Nat)) → t 11 = .sc (.int .i64 (i : Nat)) → K ⟨t, h'⟩ := by
      clear t0 t3 t4 t5 t9 t10 t11
      intro t t0 t3 t4 t5 t9 t10 t11
      refine hK _ ?_; clear hK K
      have c9' : i < 9 := by omega
      obtain ⟨p1, p2, p3⟩ := pow_bd c9'
      have hm : 128 ^ i * (b.toNat % 128) ≤ 128 ^ i * 127 := Nat.mul_le_mul_left _ (by omega)
      have hcm : b.toNat % 128 * 128 ^ i = 128 ^ i * (b.toNat % 128) := Nat.mul_comm _ _
      have hsh := sb_shl7 (P := P) (ty := 3) (m := b.toNat % 128) c9' (by omega)
      have hor := sb_or64 (P := P) (ty := 3) (a := n) (b := b.toNat % 128 * 128 ^ i) (by omega) (by omega)
      rw [or_above hn] at hor
      (refine W_seq_gen fun N hN => ?_); simp (disch := first | omega | (simp only [List.length_cons, List.length_nil, List.length_append, u8s_len]; omega)) only [go_sem, ↓reduceIte, true_and, Nat.reduceLeDiff, Nat.reduceEqDiff, Nat.reduceAdd, Nat.reduceBEq, Int.reduceEq, H.cv_3_5, H.cv_5_3, t3, t4, t5, sb_and127, nat_mul, hsh, hor]
      refine hN _ ?_; clear hN N
      refine W_forget (fun t => t 0 = .op o 0 ∧ t 3 = .sc (.int .i64 (n + 128 ^ i * (b.toNat % 128) : Nat)) ∧ t 4 = .sc (.int .i64 (i : Nat)) ∧ t 5 = .sc (.int .u8 (b.toNat : Nat)) ∧ t 9 = v ∧ t 10 = .sc (.int .i64 (l.length : Nat)) ∧ t 11 = .sc (.int .i64 (i : Nat)) ∧ True) (by simp [upd_at, *] <;> (first | rfl | exact ⟨rfl, rfl⟩ | exact ⟨rfl, rfl, rfl⟩)) ?_; rintro t ⟨t0, t3, t4, t5, t9, t10, t11, -⟩
      by_cases c1 : b.toNat < 128
      · rw [if_pos c1] at hr
        have hcut := hv.sl.drop (i + 1)
        rw [u8s_len, u8s_drop] at hcut
        have scut := fun (t : Nat → AV) (h : Heap) => hv.sl.slc_l (t := t) (h := h) (l := i + 1) (k := .i64) (by rw [u8s_len]; omega)
        rw [u8s_len] at scut
        generalize cutV 1 (i + 1) l.length v = v2 at hcut scut
        subst hr
        simp (disch := first | omega | (simp only [List.length_cons, List.length_nil, List.length_append, u8s_len]; omega)) only [go_sem, ↓reduceIte, true_and, Nat.reduceLeDiff, Nat.reduceEqDiff, Nat.reduceAdd, Nat.reduceBEq, Int.reduceEq, H.cv_3_5, H.cv_5_3, t0, t3, t4, t5, c1, ho', hv.same, hv.disc, nat_add, scut, hcut.same, hcut.disc]
        rw [sl_cellsD hcut.sl, sl_tu hcut.sl]
        exact ⟨⟨rfl, rfl⟩, v2, hcut, by simp [setRange, rdO]⟩
      · rw [if_neg c1] at hr
        simp (disch := first | omega | (simp only [List.length_cons, List.length_nil, List.length_append, u8s_len]; omega)) only [go_sem, ↓reduceIte, true_and, Nat.reduceLeDiff, Nat.reduceEqDiff, Nat.reduceAdd, Nat.reduceBEq, Int.reduceEq, H.cv_3_5, H.cv_5_3, t5, c1]
        refine hN _ ?_; clear hN N
        simp (disch := first | omega | (simp only [List.length_cons, List.length_nil, List.length_append, u8s_len]; omega)) only [go_sem, ↓reduceIte, true_and, Nat.reduceLeDiff, Nat.reduceEqDiff, Nat.reduceAdd, Nat.reduceBEq, Int.reduceEq, H.cv_3_5, H.cv_5_3, t11, nat_add]
        have e128 : 128 ^ i * 128 = 128 ^ (i + 1) := by rw [p2]; omega
        exact ⟨l.length - (i + 1), by omega, i + 1, _, rfl, by omega, by omega, by omega, hr, t0, t3, t9, t10, rfl⟩
    clear hK hN
    by_cases c0 : b.toNat = 0
    · have dz : decide (b.toNat = 0) = true := decide_eq_true c0
      have dp : decide (0 < i) = false := decide_eq_false (by omega)
      simp (disch := first | omega | (simp only [List.length_cons, List.length_nil, List.length_append, u8s_len]; omega)) only [go_sem, ↓reduceIte, true_and, Nat.reduceLeDiff, Nat.reduceEqDiff, Nat.reduceAdd, Nat.reduceBEq, Int.reduceEq, H.cv_3_5, H.cv_5_3, t4, t5, d9, dz, dp]
      refine go _ ?_ ?_ ?_ ?_ ?_ ?_ ?_ <;> simp [upd_at, t0, t3, t4, t5, t9, t10, t11]
    · have dz : decide (b.toNat = 0) = false := decide_eq_false c0
      simp (disch := first | omega | (simp only [List.length_cons, List.length_nil, List.length_append, u8s_len]; omega)) only [go_sem, ↓reduceIte, true_and, Nat.reduceLeDiff, Nat.reduceEqDiff, Nat.reduceAdd, Nat.reduceBEq, Int.reduceEq, H.cv_3_5, H.cv_5_3, t4, t5, d9, dz]
      refine go _ ?_ ?_ ?_ ?_ ?_ ?_ ?_ <;> simp [upd_at, t0, t3, t4, t5, t9, t10, t11]
  · rw [List.drop_eq_nil_of_le hge, readH] at hr
    have h11 : ¬ i < l.length := by omega
    (refine W_seq_gen fun N hN => ?_); simp (disch := first | omega | (simp only [List.length_cons, List.length_nil, List.length_append, u8s_len]; omega)) only [go_sem, ↓reduceIte, true_and, Nat.reduceLeDiff, Nat.reduceEqDiff, Nat.reduceAdd, Nat.reduceBEq, Int.reduceEq, H.cv_3_5, H.cv_5_3, t10, t11, h11]
    refine hN _ ?_; clear hN N
    (refine W_seq_gen fun N hN => ?_); simp (disch := first | omega | (simp only [List.length_cons, List.length_nil, List.length_append, u8s_len]; omega)) only [go_sem, ↓reduceIte, true_and, Nat.reduceLeDiff, Nat.reduceEqDiff, Nat.reduceAdd, Nat.reduceBEq, Int.reduceEq, H.cv_3_5, H.cv_5_3]
    exact bad _ (by simp [upd_at, t0]) hr.symm
end Go.Proofs.Ytjebhcflpibkkaa
end

section
set_option linter.unusedVariables false
set_option linter.unusedSimpArgs false
namespace Go.Proofs.Ytjebhcflpibkkaa
open Go.Am
/-- A cell, as the reader reads it; so deep, of so many cells at most. -/
def rdS : Nat → List UInt8 → Nat → Option (Cel × List UInt8 × Nat)
  | 0, _, _ => none
  | _ + 1, [], _ => none
  | d + 1, k0 :: b, left => if left < 1 then none else match readH 0 0 b with
    | none => none
    | some (N, k) =>
      if k0.toNat = 1 then some (.mk 1 (numOf N) noS [], b.drop k, left - 1)
      else if k0.toNat = 2 then (if (b.drop k).length < N then none else some (.mk 2 0 (str ((b.drop k).take N)) [], (b.drop k).drop N, left - 1))
      else if k0.toNat = 3 then (if (b.drop k).length < N then none else match rlistF (rdS d) N (b.drop k) (left - 1) with
        | none => none
        | some (xs, b2, l2) => some (.mk 3 0 noS xs, b2, l2))
      else none
theorem zig_numOf (N : Nat) : zig (numOf N) = N := by
  unfold numOf
  split
  · unfold zig; rw [if_pos (by omega)]; omega
  · unfold zig; rw [if_neg (by omega)]; omega
theorem readH_split {b : List UInt8} {N k : Nat} (h : readH 0 0 b = some (N, k)) : b = numB N ++ b.drop k := by
  obtain ⟨m, r, rfl, h1, h2, _⟩ := readH_back b 0 0 N k h
  have e : N = m := by simpa using h1
  have e2 : k = (numB m).length := by omega
  rw [e, e2, List.drop_left]
theorem rlist_back {f : List UInt8 → Nat → Option (Cel × List UInt8 × Nat)} (hf : ∀ b l c r l', f b l = some (c, r, l') → b = encB c ++ r) :
    ∀ n b l xs r l', rlistF f n b l = some (xs, r, l') → b = encL xs ++ r ∧ xs.length = n := by
  intro n
  induction n with
  | zero =>
    intro b l xs r l' h
    simp only [rlistF, Option.some.injEq, Prod.mk.injEq] at h
    obtain ⟨rfl, rfl, rfl⟩ := h
    rw [encL]
    simp
  | succ n ih =>
    intro b l xs r l' h
    rw [rlistF] at h
    split at h
    · cases h
    · rename_i x b1 l1 h1
      split at h
      · cases h
      · rename_i ys b2 l2 h2
        simp only [Option.some.injEq, Prod.mk.injEq] at h
        obtain ⟨rfl, rfl, rfl⟩ := h
        obtain ⟨e1, e2⟩ := ih _ _ _ _ _ h2
        rw [hf _ _ _ _ _ h1, e1, encL, List.append_assoc]
        exact ⟨rfl, by simp [e2]⟩
theorem k_of {k0 : UInt8} {n : Nat} (h : k0.toNat = n) : k0 = UInt8.ofNat n := by rw [← h]; simp
theorem rdS_back : ∀ d b l c r l', rdS d b l = some (c, r, l') → b = encB c ++ r := by
  intro d
  induction d with
  | zero => intro b l c r l' h; cases b <;> cases h
  | succ d ih =>
    intro b l c r l' h
    cases b with
    | nil => cases h
    | cons k0 b =>
      rw [rdS] at h
      split at h
      · cases h
      split at h
      · cases h
      rename_i N k hN
      have hb := readH_split hN
      split at h
      · rename_i hk
        simp only [Option.some.injEq, Prod.mk.injEq] at h
        obtain ⟨rfl, rfl, rfl⟩ := h
        rw [encB, if_pos rfl, zig_numOf, List.cons_append, ← hb, k_of hk]
        rfl
      split at h
      · rename_i hk
        split at h
        · cases h
        · rename_i hlen
          simp only [Option.some.injEq, Prod.mk.injEq] at h
          obtain ⟨rfl, rfl, rfl⟩ := h
          have e1 : (str ((b.drop k).take N)).size = N := by rw [str_size, List.length_take]; omega
          have e2 : (str ((b.drop k).take N)).data.toList = (b.drop k).take N := by simp [str]
          rw [encB, if_neg (by decide), if_pos rfl, e1, e2, List.cons_append, List.append_assoc, List.take_append_drop, ← hb, k_of hk]
          rfl
      split at h
      · rename_i hk
        split at h
        · cases h
        split at h
        · cases h
        · rename_i xs b2 l2 h2
          simp only [Option.some.injEq, Prod.mk.injEq] at h
          obtain ⟨rfl, rfl, rfl⟩ := h
          obtain ⟨e1, e2⟩ := rlist_back ih _ _ _ _ _ _ h2
          rw [encB, if_neg (by decide), if_neg (by decide), e2, List.cons_append, List.append_assoc, ← e1, ← hb, k_of hk]
          rfl
      · cases h
theorem encL_len (l : List Cel) : l.length ≤ (encL l).length := by
  induction l with
  | nil => simp
  | cons x l ih =>
    have : 1 ≤ (encB x).length := by rw [encB_eq, List.length_cons]; omega
    rw [encL, List.length_append, List.length_cons]
    omega
theorem rdS_unfold {d m left : Nat} {k0 : UInt8} {r : List UInt8} (hm : m < 2 ^ 63) (hl : 1 ≤ left) : rdS (d + 1) (k0 :: (numB m ++ r)) left =
    if k0.toNat = 1 then some (.mk 1 (numOf m) noS [], r, left - 1)
    else if k0.toNat = 2 then (if r.length < m then none else some (.mk 2 0 (str (r.take m)) [], r.drop m, left - 1))
    else if k0.toNat = 3 then (if r.length < m then none else match rlistF (rdS d) m r (left - 1) with
      | none => none
      | some (xs, b2, l2) => some (.mk 3 0 noS xs, b2, l2))
    else none := by
  have h1 := readH_numB m 0 0 r (by have := numB_len hm; omega) (by omega)
  simp only [Nat.pow_zero, Nat.one_mul, Nat.zero_add] at h1
  rw [rdS, if_neg (by omega), h1]
  simp only [List.drop_left]
theorem rdlist_enc {d : Nat} {l : List Cel} (h : ∀ x ∈ l, ∀ (rest : List UInt8) (left : Nat), left < 2 ^ 60 → pureS x = true → okC x → deepS d x = false → 0 ≤ countS x left → rdS d (encB x ++ rest) left = some (x, rest, (countS x left).toNat)) :
    ∀ (rest : List UInt8) (left : Nat), left < 2 ^ 60 → pureL l = true → okL l → l.any (deepS d) = false → 0 ≤ countL l left → rlistF (rdS d) l.length (encL l ++ rest) left = some (l, rest, (countL l left).toNat) := by
  induction l with
  | nil => intro rest left _ _ _ _ _; rw [encL, countL]; simp [rlistF]
  | cons x l ih =>
    intro rest left hlt hp ho hd hc
    rw [pureL, Bool.and_eq_true] at hp
    rw [okL] at ho
    rw [List.any_cons, Bool.or_eq_false_iff] at hd
    rw [countL, if_neg (by omega)] at hc ⊢
    have h1 : 0 ≤ countS x left := by
      rcases Int.lt_or_le (countS x left) 0 with h | h
      · have := countL_neg (l := l) h
        omega
      · exact h
    have e : (((countS x left).toNat : Nat) : Int) = countS x left := by omega
    have a := h x (by simp) (encL l ++ rest) left hlt hp.1 ho.1 hd.1 h1
    have b := ih (fun y hy => h y (by simp [hy])) rest (countS x left).toNat (by have := countS_bd x left (by omega); omega) hp.2 ho.2 hd.2 (by rw [e]; exact hc)
    rw [e] at b
    rw [encL, List.append_assoc, List.length_cons, rlistF, a]
    simp only
    rw [b]
theorem rdS_enc : ∀ (d : Nat) (c : Cel) (rest : List UInt8) (left : Nat), left < 2 ^ 60 → pureS c = true → okC c → deepS d c = false → 0 ≤ countS c left → rdS d (encB c ++ rest) left = some (c, rest, (countS c left).toNat) := by
  intro d
  induction d with
  | zero => intro c rest left _ _ _ hd _; simp [deepS] at hd
  | succ d ih =>
    intro c rest left hlt hp ho hd hc
    cases c with
    | mk k n s l =>
      rw [okC] at ho
      obtain ⟨⟨o1, o2⟩, o3, o4⟩ := ho
      rw [countS, if_neg (by omega)] at hc ⊢
      rw [deepS_succ] at hd
      have hle : (l.length : Int) ≤ (left : Int) - 1 := by
        have := (encL_bd (l := l) (fun x _ => encB_bd x) ((left : Int) - 1) o4 (by omega) hc).2
        omega
      have h1 : 1 ≤ left := by omega
      have hz : zig n < 2 ^ 63 := by unfold zig; split <;> omega
      have cz : (left : Int) - 1 = ((left - 1 : Nat) : Int) := by omega
      rcases pureS_cases hp with ⟨rfl, rfl, rfl⟩ | ⟨rfl, rfl, rfl⟩ | ⟨rfl, rfl, rfl, hp'⟩
      · rw [encB, if_pos rfl, List.cons_append, rdS_unfold hz h1, if_pos (by decide), numOf_zig, countL, cz]
        rfl
      · have hlen : s.data.toList.length = s.size := by rw [Array.length_toList]; rfl
        rw [encB, if_neg (by decide), if_pos rfl, List.cons_append, List.append_assoc, rdS_unfold (by omega) h1, if_neg (by decide), if_pos (by decide), if_neg (by rw [List.length_append, hlen]; omega), countL, cz]
        rw [← hlen, List.take_left, List.drop_left, ← str_of]
        rfl
      · have a := rdlist_enc (d := d) (l := l) (fun x _ => ih x) rest (left - 1) (by omega) hp' o4 hd (by rw [← cz]; exact hc)
        have hll := encL_len l
        rw [encB, if_neg (by decide), if_neg (by decide), List.cons_append, List.append_assoc, rdS_unfold (by omega) h1, if_neg (by decide), if_neg (by decide), if_pos (by decide), if_neg (by rw [List.length_append]; omega), a, cz]
        rfl
end Go.Proofs.Ytjebhcflpibkkaa
end

section
set_option linter.unusedVariables false
set_option linter.unusedSimpArgs false
namespace Go.Proofs.Ytjebhcflpibkkaa
open Go.Am
theorem upd_eta {t : Nat → AV} {k : Nat} {v : AV} (h : t k = v) : upd t k v = t := by
  funext j
  simp only [upd]
  split
  · rename_i e; rw [e, h]
  · rfl
/-- What reading a cell leaves. -/
def RdB (o : Nat) (hB : Heap) (c : Cel) (R : Option (Cel × List UInt8 × Nat)) : Prop := match R with
  | some (c', b', l') => c = c' ∧ ∃ v', SF 1 v' (u8s b') ∧ hB o = some (rdO v' false l')
  | none => ∃ v' b' z, SF 1 v' (u8s b') ∧ hB o = some (rdO v' true z)
def RdC (o : Nat) (h : Heap) (R : Option (Cel × List UInt8 × Nat)) (r : AV) (h' : Heap) : Prop :=
  ∃ cs c, r = .ag cs ∧ CE cs c ∧ (∀ x, x ≠ o → h x ≠ none → h' x = h x) ∧ RdB o h' c R
theorem RdB.at {o : Nat} {h h' : Heap} {c : Cel} {R : Option (Cel × List UInt8 × Nat)} (H : RdB o h c R) (e : h' o = h o) : RdB o h' c R := by
  unfold RdB at H ⊢
  rw [e]
  exact H
def preT : List (List Nat) := [[], [0], [], [], [3], [2, 4], [5], [1, 6, 5], [0, 1, 2, 3, 4, 5, 6, 7], [8, 7, 7, 0, 1, 2, 3, 4, 5, 6, 7]]
structure LS (o4 o5 o d : Nat) (nn : AV) (w : AV) (l : Nat → Bool) (t : Nat → AV) : Prop where
  t0 : t 0 = .op o 0
  t1 : t 1 = .sc (.int .i64 ((d + 1 : Nat) : Int))
  t4 : t 4 = .op o4 0
  t5 : t 5 = .op o5 0
  t6 : t 6 = nn
  t136 : l 0 = true → t 136 = .op o5 3
  t138 : l 2 = true → t 138 = .op o 0
  t139 : l 3 = true → t 139 = .sc (.int .i64 ((d + 1 : Nat) : Int))
  t140 : l 4 = true → t 140 = .sc (.int .i64 (d : Nat))
  t144 : l 8 = true → t 144 = .op o5 3
  t137 : l 1 = true → l 7 = false → t 137 = w
structure LC (w : AV) (l : Nat → Bool) (t : Nat → AV) (wc : AV) (cs : List AV) : Prop where
  t141 : l 6 = false → t 141 = .ag cs
  t142 : l 6 = true → l 7 = false → t 142 = .bs true 4 [cs] (some 1)
  t143 : l 7 = true → l 9 = false → t 143 = catV 4 [cs] w
  fin : l 9 = true → wc = catV 4 [cs] w
def LInv (o4 o5 o d : Nat) (nn : AV) (w : AV) (hB : Heap) (Rq : Option (Cel × List UInt8 × Nat)) (l : Nat → Bool) (s : St) : Prop :=
  clo preT l ∧ LS o4 o5 o d nn w l s.t ∧ ∃ hB1 wc, OB hB1 [(o5, .arr [.sc (.int .i64 ((3 : Nat) : Int)), .sc (.int .i64 ((0 : Nat) : Int)), .sc (.string noS), wc]), (o4, .arr [.sc (.int .i64 ((0 : Nat) : Int)), .sc (.int .i64 ((0 : Nat) : Int)), .sc (.string noS), .sc (.slice none 0 0)])] s.h ∧
    (∀ x, x ≠ o → hB1 x = hB x) ∧ (l 1 = false → wc = w) ∧ (l 5 = false → hB1 o = hB o) ∧
    (l 5 = true → ∃ kk mm ss vv ves c, SF 4 vv ves ∧ CE [.sc (.int .i64 kk), .sc (.int .i64 mm), .sc (.string ss), vv] c ∧ RdB o hB1 c Rq ∧ LC w l s.t wc [.sc (.int .i64 kk), .sc (.int .i64 mm), .sc (.string ss), vv])
variable {P : Program} (H : Has P)
include H
theorem cell_turn {o4 o5 o d : Nat} {nn : AV} {w : AV} {es : List (List AV)} {hB h' : Heap} {t : Nat → AV} {Rq : Option (Cel × List UInt8 × Nat)} {Q : Ex → St → Prop} (hw : SG 4 w es) (hel : (es.length + 1) * 56 ≤ 2 ^ 47) (hd : d < 2 ^ 60)
    (t0 : t 0 = .op o 0) (t1 : t 1 = .sc (.int .i64 ((d + 1 : Nat) : Int))) (t4 : t 4 = .op o4 0) (t5 : t 5 = .op o5 0) (t6 : t 6 = nn)
    (hO : OB hB [(o5, .arr [.sc (.int .i64 ((3 : Nat) : Int)), .sc (.int .i64 ((0 : Nat) : Int)), .sc (.string noS), w]), (o4, .arr [.sc (.int .i64 ((0 : Nat) : Int)), .sc (.int .i64 ((0 : Nat) : Int)), .sc (.string noS), .sc (.slice none 0 0)])] h') (ho : hB o ≠ none)
    (hcall : ∀ h4 : Heap, h4 o = hB o → AWF P ann 0 21 [.op o 0, .sc (.int .i64 (d : Nat))] h4 fun r h5 => RdC o h4 Rq r h5)
    (fin : ∀ t' hB' h5 cs c w', t' 0 = .op o 0 → t' 1 = .sc (.int .i64 ((d + 1 : Nat) : Int)) → t' 4 = .op o4 0 → t' 5 = .op o5 0 → t' 6 = nn → CE cs c → SG 4 w' (es ++ [cs]) →
      OB hB' [(o5, .arr [.sc (.int .i64 ((3 : Nat) : Int)), .sc (.int .i64 ((0 : Nat) : Int)), .sc (.string noS), w']), (o4, .arr [.sc (.int .i64 ((0 : Nat) : Int)), .sc (.int .i64 ((0 : Nat) : Int)), .sc (.string noS), .sc (.slice none 0 0)])] h5 →
      (∀ x, x ≠ o → hB' x = hB x) → RdB o hB' c Rq → Q .normal ⟨t', h5⟩) :
    W P ann (.regd [⟨some 136, .fad 3 (.t 5), none⟩, ⟨some 137, .ld true false 1 (.t 136), none⟩, ⟨some 138, .mov false (.t 0), none⟩, ⟨some 139, .mov false (.t 1), none⟩, ⟨some 140, .bin .sub 3 (.t 139) (.c (.sc (.int .i64 (1 : Nat)))), none⟩, ⟨some 141, .call 0 21 [.t 138, .t 140], none⟩, ⟨some 142, .lit false 4 1 [.sc (.int .i64 (0 : Nat)), .sc (.int .i64 (0 : Nat)), .sc (.string ⟨#[]⟩), .sc (.slice none 0 0)] [(0, .t 141)], none⟩, ⟨some 143, .app false 4 56 [.sc (.int .i64 (0 : Nat)), .sc (.int .i64 (0 : Nat)), .sc (.string ⟨#[]⟩), .sc (.slice none 0 0)] (.t 137) (.t 142), none⟩, ⟨some 144, .fad 3 (.t 5), none⟩, ⟨none, .st 1 (.t 144) (.t 143), none⟩] [[], [0], [], [], [3], [2, 4], [5], [1, 6, 5], [0, 1, 2, 3, 4, 5, 6, 7], [8, 7, 7, 0, 1, 2, 3, 4, 5, 6, 7]]) ⟨t, h'⟩ Q := by
  have _hH := H
  have h54 : ¬ o5 = o := fun e => by have := hO.own0; rw [e] at this; exact ho this
  have h45 : ¬ o = o5 := fun e => h54 e.symm
  refine W_inv rfl (LInv o4 o5 o d nn w hB Rq) ⟨fun i h => (by cases h), ⟨t0, t1, t4, t5, t6, fun q => Bool.noConfusion q, fun q => Bool.noConfusion q, fun q => Bool.noConfusion q, fun q => Bool.noConfusion q, fun q => Bool.noConfusion q, fun q => Bool.noConfusion q⟩, hB, w, hO, fun _ _ => rfl, fun _ => rfl, fun _ => rfl, fun q => Bool.noConfusion q⟩ ?_ ?_
  · rintro l ⟨t, h⟩ i op ⟨hcl, hs, hB1, wc, hO, hx, hw1, hb5, hc5⟩ ⟨hlt, hi, hp⟩ hop
    clear fin
    simp only at hs hO hc5
    change ∀ j ∈ preT.getD i [], l j = true at hp
    obtain ⟨J, hJ⟩ : ∃ J : St → Prop, J = LInv o4 o5 o d nn w hB Rq (upd l i true) := ⟨_, rfl⟩
    rw [← hJ]
    refine W1_sound ?_
    change WO P ann [op] _ fun s => J s
    have e1 : ((d + 1 : Nat) : Int) - ((1 : Nat) : Int) = ((d : Nat) : Int) := by omega
    match i, hop with
    | 0, hop =>
      cases hop
      simp (disch := first | omega | (simp only [List.length_cons, List.length_nil, List.length_append, u8s_len]; omega)) only [go_sem, ↓reduceIte, true_and, Nat.reduceLeDiff, Nat.reduceEqDiff, Nat.reduceAdd, Nat.reduceBEq, Int.reduceEq, H.cv_3_5, H.cv_5_3, hs.t5]
      rw [hJ]
      exact ⟨clo_upd hcl hp, ⟨by simpa [upd] using hs.t0, by simpa [upd] using hs.t1, by simpa [upd] using hs.t4, by simpa [upd] using hs.t5, by simpa [upd] using hs.t6, fun q => (by first | (simp [upd]; done) | (simpa [upd] using hs.t136 (by simpa [upd] using q)) | simp [upd]), fun q => (by first | (simp [upd]; done) | (simpa [upd] using hs.t138 (by simpa [upd] using q)) | simp [upd]), fun q => (by first | (simp [upd]; done) | (simpa [upd] using hs.t139 (by simpa [upd] using q)) | simp [upd]), fun q => (by first | (simp [upd]; done) | (simpa [upd] using hs.t140 (by simpa [upd] using q)) | simp [upd]), fun q => (by first | (simp [upd]; done) | (simpa [upd] using hs.t144 (by simpa [upd] using q)) | simp [upd]), fun q q2 => (by first | (simp [upd]; done) | (simpa [upd] using hs.t137 (by simpa [upd] using q) (by simpa [upd] using q2)) | (simp [upd] at q2; done) | simp [upd])⟩, hB1, wc, hO, hx, by simpa [upd] using hw1, by simpa [upd] using hb5, by
        intro q
        obtain ⟨kk, mm, ss, vv, ves, c, a1, a2, a3, a4⟩ := hc5 (by simpa [upd] using q)
        exact ⟨kk, mm, ss, vv, ves, c, a1, a2, a3, ⟨fun q => (by first | (simp [upd]; done) | (simpa [upd] using a4.t141 (by simpa [upd] using q)) | simp [upd] | (simp [upd] at q)), fun q q2 => (by first | (simp [upd]; done) | (simpa [upd] using a4.t142 (by simpa [upd] using q) (by simpa [upd] using q2)) | (simp [upd] at q2; done) | simp [upd]), fun q q2 => (by first | (simp [upd]; done) | (simpa [upd] using a4.t143 (by simpa [upd] using q) (by simpa [upd] using q2)) | (simp [upd] at q2; done) | simp [upd]), fun q => (by first | (simp [upd]; done) | (simpa [upd] using a4.fin (by simpa [upd] using q)) | simp [upd] | (simp [upd] at q))⟩⟩⟩
    | 1, hop =>
      cases hop
      have n9 : l 9 = false := clo_not hcl hi (by decide)
      rw [hw1 hi] at hO
      have p0 := hs.t136 (hp 0 (by decide))
      have g0 : h o5 = some (.arr [.sc (.int .i64 ((3 : Nat) : Int)), .sc (.int .i64 ((0 : Nat) : Int)), .sc (.string noS), w]) := hO.get0
      simp (disch := first | omega | (simp only [List.length_cons, List.length_nil, List.length_append, u8s_len]; omega)) only [go_sem, ↓reduceIte, true_and, Nat.reduceLeDiff, Nat.reduceEqDiff, Nat.reduceAdd, Nat.reduceBEq, Int.reduceEq, H.cv_3_5, H.cv_5_3, p0, g0, hw.sl.dd, hw.sl.ddisc, hw.sl.disc]
      rw [hJ]
      exact ⟨clo_upd hcl hp, ⟨by simpa [upd] using hs.t0, by simpa [upd] using hs.t1, by simpa [upd] using hs.t4, by simpa [upd] using hs.t5, by simpa [upd] using hs.t6, fun q => (by first | (simp [upd]; done) | (simpa [upd] using hs.t136 (by simpa [upd] using q)) | simp [upd]), fun q => (by first | (simp [upd]; done) | (simpa [upd] using hs.t138 (by simpa [upd] using q)) | simp [upd]), fun q => (by first | (simp [upd]; done) | (simpa [upd] using hs.t139 (by simpa [upd] using q)) | simp [upd]), fun q => (by first | (simp [upd]; done) | (simpa [upd] using hs.t140 (by simpa [upd] using q)) | simp [upd]), fun q => (by first | (simp [upd]; done) | (simpa [upd] using hs.t144 (by simpa [upd] using q)) | simp [upd]), fun q q2 => (by first | (simp [upd]; done) | (simpa [upd] using hs.t137 (by simpa [upd] using q) (by simpa [upd] using q2)) | (simp [upd] at q2; done) | simp [upd])⟩, hB1, w.dis, hO.st0, hx, fun q => (by simp [upd] at q), by simpa [upd] using hb5, by
        intro q
        obtain ⟨kk, mm, ss, vv, ves, c, a1, a2, a3, a4⟩ := hc5 (by simpa [upd] using q)
        exact ⟨kk, mm, ss, vv, ves, c, a1, a2, a3, ⟨fun q => (by first | (simp [upd]; done) | (simpa [upd] using a4.t141 (by simpa [upd] using q)) | simp [upd] | (simp [upd] at q)), fun q q2 => (by first | (simp [upd]; done) | (simpa [upd] using a4.t142 (by simpa [upd] using q) (by simpa [upd] using q2)) | (simp [upd] at q2; done) | simp [upd]), fun q q2 => (by first | (simp [upd]; done) | (simpa [upd] using a4.t143 (by simpa [upd] using q) (by simpa [upd] using q2)) | (simp [upd] at q2; done) | simp [upd]), fun q => absurd q (by simp [upd, n9])⟩⟩⟩
    | 2, hop =>
      cases hop
      simp (disch := first | omega | (simp only [List.length_cons, List.length_nil, List.length_append, u8s_len]; omega)) only [go_sem, ↓reduceIte, true_and, Nat.reduceLeDiff, Nat.reduceEqDiff, Nat.reduceAdd, Nat.reduceBEq, Int.reduceEq, H.cv_3_5, H.cv_5_3, hs.t0]
      rw [hJ]
      exact ⟨clo_upd hcl hp, ⟨by simpa [upd] using hs.t0, by simpa [upd] using hs.t1, by simpa [upd] using hs.t4, by simpa [upd] using hs.t5, by simpa [upd] using hs.t6, fun q => (by first | (simp [upd]; done) | (simpa [upd] using hs.t136 (by simpa [upd] using q)) | simp [upd]), fun q => (by first | (simp [upd]; done) | (simpa [upd] using hs.t138 (by simpa [upd] using q)) | simp [upd]), fun q => (by first | (simp [upd]; done) | (simpa [upd] using hs.t139 (by simpa [upd] using q)) | simp [upd]), fun q => (by first | (simp [upd]; done) | (simpa [upd] using hs.t140 (by simpa [upd] using q)) | simp [upd]), fun q => (by first | (simp [upd]; done) | (simpa [upd] using hs.t144 (by simpa [upd] using q)) | simp [upd]), fun q q2 => (by first | (simp [upd]; done) | (simpa [upd] using hs.t137 (by simpa [upd] using q) (by simpa [upd] using q2)) | (simp [upd] at q2; done) | simp [upd])⟩, hB1, wc, hO, hx, by simpa [upd] using hw1, by simpa [upd] using hb5, by
        intro q
        obtain ⟨kk, mm, ss, vv, ves, c, a1, a2, a3, a4⟩ := hc5 (by simpa [upd] using q)
        exact ⟨kk, mm, ss, vv, ves, c, a1, a2, a3, ⟨fun q => (by first | (simp [upd]; done) | (simpa [upd] using a4.t141 (by simpa [upd] using q)) | simp [upd] | (simp [upd] at q)), fun q q2 => (by first | (simp [upd]; done) | (simpa [upd] using a4.t142 (by simpa [upd] using q) (by simpa [upd] using q2)) | (simp [upd] at q2; done) | simp [upd]), fun q q2 => (by first | (simp [upd]; done) | (simpa [upd] using a4.t143 (by simpa [upd] using q) (by simpa [upd] using q2)) | (simp [upd] at q2; done) | simp [upd]), fun q => (by first | (simp [upd]; done) | (simpa [upd] using a4.fin (by simpa [upd] using q)) | simp [upd] | (simp [upd] at q))⟩⟩⟩
    | 3, hop =>
      cases hop
      simp (disch := first | omega | (simp only [List.length_cons, List.length_nil, List.length_append, u8s_len]; omega)) only [go_sem, ↓reduceIte, true_and, Nat.reduceLeDiff, Nat.reduceEqDiff, Nat.reduceAdd, Nat.reduceBEq, Int.reduceEq, H.cv_3_5, H.cv_5_3, hs.t1]
      rw [hJ]
      exact ⟨clo_upd hcl hp, ⟨by simpa [upd] using hs.t0, by simpa [upd] using hs.t1, by simpa [upd] using hs.t4, by simpa [upd] using hs.t5, by simpa [upd] using hs.t6, fun q => (by first | (simp [upd]; done) | (simpa [upd] using hs.t136 (by simpa [upd] using q)) | simp [upd]), fun q => (by first | (simp [upd]; done) | (simpa [upd] using hs.t138 (by simpa [upd] using q)) | simp [upd]), fun q => (by first | (simp [upd]; done) | (simpa [upd] using hs.t139 (by simpa [upd] using q)) | simp [upd]), fun q => (by first | (simp [upd]; done) | (simpa [upd] using hs.t140 (by simpa [upd] using q)) | simp [upd]), fun q => (by first | (simp [upd]; done) | (simpa [upd] using hs.t144 (by simpa [upd] using q)) | simp [upd]), fun q q2 => (by first | (simp [upd]; done) | (simpa [upd] using hs.t137 (by simpa [upd] using q) (by simpa [upd] using q2)) | (simp [upd] at q2; done) | simp [upd])⟩, hB1, wc, hO, hx, by simpa [upd] using hw1, by simpa [upd] using hb5, by
        intro q
        obtain ⟨kk, mm, ss, vv, ves, c, a1, a2, a3, a4⟩ := hc5 (by simpa [upd] using q)
        exact ⟨kk, mm, ss, vv, ves, c, a1, a2, a3, ⟨fun q => (by first | (simp [upd]; done) | (simpa [upd] using a4.t141 (by simpa [upd] using q)) | simp [upd] | (simp [upd] at q)), fun q q2 => (by first | (simp [upd]; done) | (simpa [upd] using a4.t142 (by simpa [upd] using q) (by simpa [upd] using q2)) | (simp [upd] at q2; done) | simp [upd]), fun q q2 => (by first | (simp [upd]; done) | (simpa [upd] using a4.t143 (by simpa [upd] using q) (by simpa [upd] using q2)) | (simp [upd] at q2; done) | simp [upd]), fun q => (by first | (simp [upd]; done) | (simpa [upd] using a4.fin (by simpa [upd] using q)) | simp [upd] | (simp [upd] at q))⟩⟩⟩
    | 4, hop =>
      cases hop
      simp (disch := first | omega | (simp only [List.length_cons, List.length_nil, List.length_append, u8s_len]; omega)) only [go_sem, ↓reduceIte, true_and, Nat.reduceLeDiff, Nat.reduceEqDiff, Nat.reduceAdd, Nat.reduceBEq, Int.reduceEq, H.cv_3_5, H.cv_5_3, hs.t139 (hp 3 (by decide)), e1]
      rw [hJ]
      exact ⟨clo_upd hcl hp, ⟨by simpa [upd] using hs.t0, by simpa [upd] using hs.t1, by simpa [upd] using hs.t4, by simpa [upd] using hs.t5, by simpa [upd] using hs.t6, fun q => (by first | (simp [upd]; done) | (simpa [upd] using hs.t136 (by simpa [upd] using q)) | simp [upd]), fun q => (by first | (simp [upd]; done) | (simpa [upd] using hs.t138 (by simpa [upd] using q)) | simp [upd]), fun q => (by first | (simp [upd]; done) | (simpa [upd] using hs.t139 (by simpa [upd] using q)) | simp [upd]), fun q => (by first | (simp [upd]; done) | (simpa [upd] using hs.t140 (by simpa [upd] using q)) | simp [upd]), fun q => (by first | (simp [upd]; done) | (simpa [upd] using hs.t144 (by simpa [upd] using q)) | simp [upd]), fun q q2 => (by first | (simp [upd]; done) | (simpa [upd] using hs.t137 (by simpa [upd] using q) (by simpa [upd] using q2)) | (simp [upd] at q2; done) | simp [upd])⟩, hB1, wc, hO, hx, by simpa [upd] using hw1, by simpa [upd] using hb5, by
        intro q
        obtain ⟨kk, mm, ss, vv, ves, c, a1, a2, a3, a4⟩ := hc5 (by simpa [upd] using q)
        exact ⟨kk, mm, ss, vv, ves, c, a1, a2, a3, ⟨fun q => (by first | (simp [upd]; done) | (simpa [upd] using a4.t141 (by simpa [upd] using q)) | simp [upd] | (simp [upd] at q)), fun q q2 => (by first | (simp [upd]; done) | (simpa [upd] using a4.t142 (by simpa [upd] using q) (by simpa [upd] using q2)) | (simp [upd] at q2; done) | simp [upd]), fun q q2 => (by first | (simp [upd]; done) | (simpa [upd] using a4.t143 (by simpa [upd] using q) (by simpa [upd] using q2)) | (simp [upd] at q2; done) | simp [upd]), fun q => (by first | (simp [upd]; done) | (simpa [upd] using a4.fin (by simpa [upd] using q)) | simp [upd] | (simp [upd] at q))⟩⟩⟩
    | 8, hop =>
      cases hop
      simp (disch := first | omega | (simp only [List.length_cons, List.length_nil, List.length_append, u8s_len]; omega)) only [go_sem, ↓reduceIte, true_and, Nat.reduceLeDiff, Nat.reduceEqDiff, Nat.reduceAdd, Nat.reduceBEq, Int.reduceEq, H.cv_3_5, H.cv_5_3, hs.t5]
      rw [hJ]
      exact ⟨clo_upd hcl hp, ⟨by simpa [upd] using hs.t0, by simpa [upd] using hs.t1, by simpa [upd] using hs.t4, by simpa [upd] using hs.t5, by simpa [upd] using hs.t6, fun q => (by first | (simp [upd]; done) | (simpa [upd] using hs.t136 (by simpa [upd] using q)) | simp [upd]), fun q => (by first | (simp [upd]; done) | (simpa [upd] using hs.t138 (by simpa [upd] using q)) | simp [upd]), fun q => (by first | (simp [upd]; done) | (simpa [upd] using hs.t139 (by simpa [upd] using q)) | simp [upd]), fun q => (by first | (simp [upd]; done) | (simpa [upd] using hs.t140 (by simpa [upd] using q)) | simp [upd]), fun q => (by first | (simp [upd]; done) | (simpa [upd] using hs.t144 (by simpa [upd] using q)) | simp [upd]), fun q q2 => (by first | (simp [upd]; done) | (simpa [upd] using hs.t137 (by simpa [upd] using q) (by simpa [upd] using q2)) | (simp [upd] at q2; done) | simp [upd])⟩, hB1, wc, hO, hx, by simpa [upd] using hw1, by simpa [upd] using hb5, by
        intro q
        obtain ⟨kk, mm, ss, vv, ves, c, a1, a2, a3, a4⟩ := hc5 (by simpa [upd] using q)
        exact ⟨kk, mm, ss, vv, ves, c, a1, a2, a3, ⟨fun q => (by first | (simp [upd]; done) | (simpa [upd] using a4.t141 (by simpa [upd] using q)) | simp [upd] | (simp [upd] at q)), fun q q2 => (by first | (simp [upd]; done) | (simpa [upd] using a4.t142 (by simpa [upd] using q) (by simpa [upd] using q2)) | (simp [upd] at q2; done) | simp [upd]), fun q q2 => (by first | (simp [upd]; done) | (simpa [upd] using a4.t143 (by simpa [upd] using q) (by simpa [upd] using q2)) | (simp [upd] at q2; done) | simp [upd]), fun q => (by first | (simp [upd]; done) | (simpa [upd] using a4.fin (by simpa [upd] using q)) | simp [upd] | (simp [upd] at q))⟩⟩⟩
    | 5, hop =>
      cases hop
      have p2 := hs.t138 (hp 2 (by decide))
      have p4 := hs.t140 (hp 4 (by decide))
      have n6 : l 6 = false := clo_not hcl hi (by decide)
      have n7 : l 7 = false := clo_not hcl hi (by decide)
      have n9 : l 9 = false := clo_not hcl n7 (by decide)
      simp (disch := first | omega | (simp only [List.length_cons, List.length_nil, List.length_append, u8s_len]; omega)) only [go_sem, ↓reduceIte, true_and, Nat.reduceLeDiff, Nat.reduceEqDiff, Nat.reduceAdd, Nat.reduceBEq, Int.reduceEq, H.cv_3_5, H.cv_5_3, p2, p4]
      have hbo : hB1 o ≠ none := by rw [hb5 hi]; exact ho
      refine (hcall h (by rw [← hb5 hi]; exact hO.keep o hbo)).mono ?_
      rintro r h5 ⟨cs, c, rfl, hce, hk, hb⟩
      rw [contK_some]
      simp (disch := first | omega | (simp only [List.length_cons, List.length_nil, List.length_append, u8s_len]; omega)) only [go_sem, ↓reduceIte, true_and, Nat.reduceLeDiff, Nat.reduceEqDiff, Nat.reduceAdd, Nat.reduceBEq, Int.reduceEq, H.cv_3_5, H.cv_5_3]
      rw [hJ]
      obtain ⟨vv, ves, rfl, hvv, _, _⟩ := id hce.out
      exact ⟨clo_upd hcl hp, ⟨by simpa [upd] using hs.t0, by simpa [upd] using hs.t1, by simpa [upd] using hs.t4, by simpa [upd] using hs.t5, by simpa [upd] using hs.t6, fun q => (by first | (simp [upd]; done) | (simpa [upd] using hs.t136 (by simpa [upd] using q)) | simp [upd]), fun q => (by first | (simp [upd]; done) | (simpa [upd] using hs.t138 (by simpa [upd] using q)) | simp [upd]), fun q => (by first | (simp [upd]; done) | (simpa [upd] using hs.t139 (by simpa [upd] using q)) | simp [upd]), fun q => (by first | (simp [upd]; done) | (simpa [upd] using hs.t140 (by simpa [upd] using q)) | simp [upd]), fun q => (by first | (simp [upd]; done) | (simpa [upd] using hs.t144 (by simpa [upd] using q)) | simp [upd]), fun q q2 => (by first | (simp [upd]; done) | (simpa [upd] using hs.t137 (by simpa [upd] using q) (by simpa [upd] using q2)) | (simp [upd] at q2; done) | simp [upd])⟩, upd hB1 o (h5 o), wc, hO.heard hbo hk, fun x hx' => by rw [upd_ne _ _ hx']; exact hx x hx', by simpa [upd] using hw1, fun q => (by simp [upd] at q), fun q => ⟨_, _, _, vv, ves, c, hvv, hce, hb.at (by rw [upd_same]), ⟨fun q => (by simp [upd]), fun q => absurd q (by simp [upd, n6]), fun q => absurd q (by simp [upd, n7]), fun q => absurd q (by simp [upd, n9])⟩⟩⟩
    | 6, hop =>
      cases hop
      obtain ⟨kk, mm, ss, vv, ves, c, a1, a2, a3, a4⟩ := hc5 (hp 5 (by decide))
      have q1 := a4.t141 hi
      simp (disch := first | omega | (simp only [List.length_cons, List.length_nil, List.length_append, u8s_len]; omega)) only [go_sem, ↓reduceIte, true_and, Nat.reduceLeDiff, Nat.reduceEqDiff, Nat.reduceAdd, Nat.reduceBEq, Int.reduceEq, H.cv_3_5, H.cv_5_3, q1, a1.disc, a1.same]
      rw [hJ]
      exact ⟨clo_upd hcl hp, ⟨by simpa [upd] using hs.t0, by simpa [upd] using hs.t1, by simpa [upd] using hs.t4, by simpa [upd] using hs.t5, by simpa [upd] using hs.t6, fun q => (by first | (simp [upd]; done) | (simpa [upd] using hs.t136 (by simpa [upd] using q)) | simp [upd]), fun q => (by first | (simp [upd]; done) | (simpa [upd] using hs.t138 (by simpa [upd] using q)) | simp [upd]), fun q => (by first | (simp [upd]; done) | (simpa [upd] using hs.t139 (by simpa [upd] using q)) | simp [upd]), fun q => (by first | (simp [upd]; done) | (simpa [upd] using hs.t140 (by simpa [upd] using q)) | simp [upd]), fun q => (by first | (simp [upd]; done) | (simpa [upd] using hs.t144 (by simpa [upd] using q)) | simp [upd]), fun q q2 => (by first | (simp [upd]; done) | (simpa [upd] using hs.t137 (by simpa [upd] using q) (by simpa [upd] using q2)) | (simp [upd] at q2; done) | simp [upd])⟩, hB1, wc, hO, hx, by simpa [upd] using hw1, by simpa [upd] using hb5, fun _ => ⟨kk, mm, ss, vv, ves, c, a1, a2, a3, ⟨fun q => (by simp [upd] at q), fun q q2 => (by simp [upd]), fun q q2 => (by first | (simp [upd]; done) | (simpa [upd] using a4.t143 (by simpa [upd] using q) (by simpa [upd] using q2)) | (simp [upd] at q2; done) | simp [upd]), fun q => (by first | (simp [upd]; done) | (simpa [upd] using a4.fin (by simpa [upd] using q)) | simp [upd] | (simp [upd] at q))⟩⟩⟩
    | 7, hop =>
      cases hop
      obtain ⟨kk, mm, ss, vv, ves, c, a1, a2, a3, a4⟩ := hc5 (hp 5 (by decide))
      have happ := fun (t : Nat → AV) (h : Heap) => hw.app (t := t) (h := h) (ys := [[.sc (.int .i64 kk), .sc (.int .i64 mm), .sc (.string ss), vv]]) (bytes := 56) (by simp only [List.length_cons, List.length_nil]; omega)
      have hw2 := hw.cat [[.sc (.int .i64 kk), .sc (.int .i64 mm), .sc (.string ss), vv]]
      have n9 : l 9 = false := clo_not hcl hi (by decide)
      have q1 := hs.t137 (hp 1 (by decide)) hi
      have q2 := a4.t142 (hp 6 (by decide)) hi
      simp (disch := first | omega | (simp only [List.length_cons, List.length_nil, List.length_append, u8s_len]; omega)) only [go_sem, ↓reduceIte, true_and, Nat.reduceLeDiff, Nat.reduceEqDiff, Nat.reduceAdd, Nat.reduceBEq, Int.reduceEq, H.cv_3_5, H.cv_5_3, q1, q2, happ]
      rw [hJ]
      exact ⟨clo_upd hcl hp, ⟨by simpa [upd] using hs.t0, by simpa [upd] using hs.t1, by simpa [upd] using hs.t4, by simpa [upd] using hs.t5, by simpa [upd] using hs.t6, fun q => (by first | (simp [upd]; done) | (simpa [upd] using hs.t136 (by simpa [upd] using q)) | simp [upd]), fun q => (by first | (simp [upd]; done) | (simpa [upd] using hs.t138 (by simpa [upd] using q)) | simp [upd]), fun q => (by first | (simp [upd]; done) | (simpa [upd] using hs.t139 (by simpa [upd] using q)) | simp [upd]), fun q => (by first | (simp [upd]; done) | (simpa [upd] using hs.t140 (by simpa [upd] using q)) | simp [upd]), fun q => (by first | (simp [upd]; done) | (simpa [upd] using hs.t144 (by simpa [upd] using q)) | simp [upd]), fun q q2 => (by first | (simp [upd]; done) | (simpa [upd] using hs.t137 (by simpa [upd] using q) (by simpa [upd] using q2)) | (simp [upd] at q2; done) | simp [upd])⟩, hB1, wc, hO, hx, by simpa [upd] using hw1, by simpa [upd] using hb5, fun _ => ⟨kk, mm, ss, vv, ves, c, a1, a2, a3, ⟨fun q => (by first | (simp [upd]; done) | (simpa [upd] using a4.t141 (by simpa [upd] using q)) | simp [upd] | (simp [upd] at q)), fun q q2 => (by simp [upd] at q2), fun q q2 => (by simp [upd]), fun q => absurd q (by simp [upd, n9])⟩⟩⟩
    | 9, hop =>
      cases hop
      obtain ⟨kk, mm, ss, vv, ves, c, a1, a2, a3, a4⟩ := hc5 (hp 5 (by decide))
      have happ := fun (t : Nat → AV) (h : Heap) => hw.app (t := t) (h := h) (ys := [[.sc (.int .i64 kk), .sc (.int .i64 mm), .sc (.string ss), vv]]) (bytes := 56) (by simp only [List.length_cons, List.length_nil]; omega)
      have hw2 := hw.cat [[.sc (.int .i64 kk), .sc (.int .i64 mm), .sc (.string ss), vv]]
      have q1 := a4.t143 (hp 7 (by decide)) hi
      have q2 := hs.t144 (hp 8 (by decide))
      have g0 : h o5 = some (.arr [.sc (.int .i64 ((3 : Nat) : Int)), .sc (.int .i64 ((0 : Nat) : Int)), .sc (.string noS), wc]) := hO.get0
      simp (disch := first | omega | (simp only [List.length_cons, List.length_nil, List.length_append, u8s_len]; omega)) only [go_sem, ↓reduceIte, true_and, Nat.reduceLeDiff, Nat.reduceEqDiff, Nat.reduceAdd, Nat.reduceBEq, Int.reduceEq, H.cv_3_5, H.cv_5_3, q1, q2, g0, sl_cellsD hw2.sl, sl_tu hw2.sl]
      rw [hJ]
      exact ⟨clo_upd hcl hp, ⟨by simpa [upd] using hs.t0, by simpa [upd] using hs.t1, by simpa [upd] using hs.t4, by simpa [upd] using hs.t5, by simpa [upd] using hs.t6, fun q => (by first | (simp [upd]; done) | (simpa [upd] using hs.t136 (by simpa [upd] using q)) | simp [upd]), fun q => (by first | (simp [upd]; done) | (simpa [upd] using hs.t138 (by simpa [upd] using q)) | simp [upd]), fun q => (by first | (simp [upd]; done) | (simpa [upd] using hs.t139 (by simpa [upd] using q)) | simp [upd]), fun q => (by first | (simp [upd]; done) | (simpa [upd] using hs.t140 (by simpa [upd] using q)) | simp [upd]), fun q => (by first | (simp [upd]; done) | (simpa [upd] using hs.t144 (by simpa [upd] using q)) | simp [upd]), fun q q2 => (by first | (simp [upd]; done) | (simpa [upd] using hs.t137 (by simpa [upd] using q) (by simpa [upd] using q2)) | (simp [upd] at q2; done) | simp [upd])⟩, hB1, _, hO.st0, hx, fun q => absurd q (by simp [upd, hp 1 (by decide)]), by simpa [upd] using hb5, fun _ => ⟨kk, mm, ss, vv, ves, c, a1, a2, a3, ⟨fun q => (by first | (simp [upd]; done) | (simpa [upd] using a4.t141 (by simpa [upd] using q)) | simp [upd] | (simp [upd] at q)), fun q q2 => (by first | (simp [upd]; done) | (simpa [upd] using a4.t142 (by simpa [upd] using q) (by simpa [upd] using q2)) | (simp [upd] at q2; done) | simp [upd]), fun q q2 => (by simp [upd] at q2), fun q => rfl⟩⟩⟩
    | n + 10, hop => cases hop
  · rintro l ⟨t, h⟩ ⟨hcl, hs, hB1, wc, hO, hx, hw1, hb5, hc5⟩ hn
    have hl := all_done (n := 10) (by decide) hn
    obtain ⟨kk, mm, ss, vv, ves, c, a1, a2, a3, a4⟩ := hc5 (hl 5 (by decide))
    rw [a4.fin (hl 9 (by decide))] at hO
    exact fin _ hB1 _ _ c _ hs.t0 hs.t1 hs.t4 hs.t5 hs.t6 a2 (hw.cat _) hO hx a3
end Go.Proofs.Ytjebhcflpibkkaa
end

section
set_option linter.unusedVariables false
set_option linter.unusedSimpArgs false
namespace Go.Proofs.Ytjebhcflpibkkaa
open Go.Am
/-- An object that was there ahead is written. -/
theorem ob_base {h h1 : Heap} {l : List (Nat × AObj)} {o : Nat} {X : AObj} (H : OB h l h1) (ho : h o ≠ none) : OB (upd h o (some X)) l (upd h1 o (some X)) := by
  refine ⟨fun x hx => ?_, fun p hp => ?_, H.2.2⟩
  · simp only [upd] at hx ⊢
    split
    · rfl
    · rename_i hne
      rw [if_neg hne] at hx
      exact H.1 x hx
  · have h1 := H.2.1 p hp
    have hne : p.1 ≠ o := fun e => ho (by rw [← e]; exact h1.1)
    simp only [upd, if_neg hne]
    exact h1
theorem rdS_bd : ∀ d b l c b' l', rdS d b l = some (c, b', l') → l' + 1 ≤ l ∧ b'.length ≤ b.length := by
  intro d
  induction d with
  | zero => intro b l c b' l' h; cases b <;> cases h
  | succ d ih =>
    intro b l c b' l' h
    cases b with
    | nil => cases h
    | cons k0 b =>
      rw [rdS] at h
      split at h
      · cases h
      split at h
      · cases h
      split at h
      · simp only [Option.some.injEq, Prod.mk.injEq] at h
        obtain ⟨_, rfl, rfl⟩ := h
        simp only [List.length_drop, List.length_cons]; omega
      split at h
      · split at h
        · cases h
        · simp only [Option.some.injEq, Prod.mk.injEq] at h
          obtain ⟨_, rfl, rfl⟩ := h
          simp only [List.length_drop, List.length_cons]; omega
      split at h
      · split at h
        · cases h
        split at h
        · cases h
        · rename_i xs b2 l2 h2
          simp only [Option.some.injEq, Prod.mk.injEq] at h
          obtain ⟨_, rfl, rfl⟩ := h
          have := rlistF_bd ih _ _ _ _ _ _ h2
          simp only [List.length_drop, List.length_cons] at this ⊢
          omega
      · cases h
theorem readH_lt : ∀ (l : List UInt8) (i n N k : Nat), n < 128 ^ i → i ≤ 9 → readH i n l = some (N, k) → N < 2 ^ 63 ∧ k ≤ i + l.length := by
  intro l
  induction l with
  | nil => intro i n N k _ _ h; cases h
  | cons b r ih =>
    intro i n N k hn hi h
    rw [readH] at h
    split at h
    · cases h
    rename_i hc
    have i8 : i < 9 := by omega
    obtain ⟨p1, p2, p3⟩ := pow_bd i8
    have hm : 128 ^ i * (b.toNat % 128) ≤ 128 ^ i * 127 := Nat.mul_le_mul_left _ (by omega)
    split at h
    · simp only [Option.some.injEq, Prod.mk.injEq] at h
      rw [List.length_cons]
      omega
    · have := ih (i + 1) _ N k (by omega) (by omega) h
      rw [List.length_cons]
      omega
theorem sb_and1 {P : Program} {ty : TypeId} {a : Nat} (ha : a < 2 ^ 63) : scalarBin P .and ty (.int .i64 a) (.int .i64 ((1 : Nat) : Int)) = some (.int .i64 ((a % 2 : Nat) : Int)) := by
  have ha' : a < 2 ^ IntKind.i64.bits := Nat.lt_of_lt_of_le ha (by decide)
  have hb' : 1 < 2 ^ IntKind.i64.bits := by decide
  simp only [scalarBin, eqGuard, binOp, Op.intBits, pureRun, bv_nat, BitVec.toNat_and, BitVec.toNat_ofNat, Nat.mod_eq_of_lt ha', Nat.mod_eq_of_lt hb', Nat.and_one_is_mod]
  simp [pureRun, pr_pure]
  exact wrap_i64u (by omega) (by omega)
theorem sb_shr1 {P : Program} {ty : TypeId} {q : IntKind} {n : Nat} : scalarBin P .shr ty (.int .i64 n) (.int q ((1 : Nat) : Int)) = some (.int .i64 ((n / 2 : Nat) : Int)) := by
  rw [sb_shr (by decide)]
  congr 2
  rw [Int.fdiv_eq_ediv_of_nonneg _ (by decide)]
  have : (2 : Int) ^ (min ((1 : Nat) : Int).toNat IntKind.i64.bits) = 2 := by decide
  rw [this]
  omega
theorem num_neg {n : Nat} (h : n < 2 ^ 63 - 1) (h1 : n % 2 = 1) : IntKind.i64.wrap ((0 - (((n : Nat) : Int) + ((1 : Nat) : Int))).tdiv ((2 : Nat) : Int)) = numOf n := by
  rw [show ((n : Nat) : Int) + ((1 : Nat) : Int) = ((n + 1 : Nat) : Int) from rfl]
  rw [numOf, if_pos h1, Int.zero_sub, Int.neg_tdiv, show ((n + 1 : Nat) : Int).tdiv ((2 : Nat) : Int) = (((n + 1) / 2 : Nat) : Int) from rfl, wrap_i64u (by omega) (by omega)]
  omega
variable {P : Program} (H : Has P)
include H
theorem cell_end {o o4 o5 : Nat} {h hB h' : Heap} {R : Option (Cel × List UInt8 × Nat)} {t : Nat → AV} {kk nn : Int} {ss : ByteArray} {vv : AV} {c : Cel} (t4 : t 4 = .op o4 0) (t5 : t 5 = .op o5 0) (fB : ∀ x, x ≠ o → hB x = h x)
    (hO : OB hB [(o5, .arr [.sc (.int .i64 kk), .sc (.int .i64 nn), .sc (.string ss), vv]), (o4, .arr [.sc (.int .i64 ((0 : Nat) : Int)), .sc (.int .i64 ((0 : Nat) : Int)), .sc (.string noS), .sc (.slice none 0 0)])] h')
    (hce : CE [.sc (.int .i64 kk), .sc (.int .i64 nn), .sc (.string ss), vv.dis] c)
    (hR : RdB o hB c R)
    (e1 : vv.disc = vv.dis) (e2 : vv.dis.disc = vv.dis) (e3 : vv.dis.dis = vv.dis) :
    W P ann (.seq (.reg [⟨some 145, .ld false true 4 (.t 5), none⟩, ⟨none, .st 4 (.t 4) (.t 145), none⟩]) .ret) ⟨t, h'⟩ fun e s => (e = .ret ∨ e = .normal) ∧ ∃ v, resA [.cell 4 true 4] s = some v ∧ RdC o h R v s.h := by
  have _h := H
  simp (disch := first | omega | (simp only [List.length_cons, List.length_nil, List.length_append, u8s_len]; omega)) only [go_sem, ↓reduceIte, true_and, Nat.reduceLeDiff, Nat.reduceEqDiff, Nat.reduceAdd, Nat.reduceBEq, Int.reduceEq, H.cv_3_5, H.cv_5_3, t4, t5, hO.get0, hO.get1, e1, e2, e3]
  have hO := hO.st1 (Y := .arr [.sc (.int .i64 kk), .sc (.int .i64 nn), .sc (.string ss), vv.dis])
  refine ⟨_, _, rfl, hce, fun x hx hlx => ?_, ?_⟩
  · rw [← fB x hx] at hlx ⊢
    exact hO.keep x hlx
  · match R with
    | none =>
      obtain ⟨v', b', z, hv, hB⟩ := hR
      exact ⟨v', b', z, hv, hO.live hB⟩
    | some (c', b', l') =>
      obtain ⟨hc, v', hv, hB⟩ := hR
      exact ⟨hc, v', hv, hO.live hB⟩
theorem cell_rd : ∀ (d : Nat), d < 2 ^ 60 → ∀ {o : Nat} {h : Heap} {v : AV} {l : List UInt8} {left : Nat}, SF 1 v (u8s l) → l.length < 2 ^ 40 → left ≤ 4096 → h o = some (rdO v false left) →
    AWF P ann 0 21 [.op o 0, .sc (.int .i64 (d : Nat))] h fun r h' => RdC o h (rdS d l left) r h' := by
  intro d
  induction d using Nat.strongRecOn with
  | _ d ih =>
    intro hd o h v l left hv hl hleft ho
    have ho' : h o = some (.arr [v, .sc (.bool false), .sc (.int .i64 (left : Nat))]) := ho
    generalize hR : rdS d l left = R
    refine AWF.fnc H.f0_21 rfl ?_
    have hO := OB.nil (h := h)
    have hne : h o ≠ none := by rw [ho]; simp
    (refine W_seq_gen fun N hN => ?_); simp (disch := first | omega | (simp only [List.length_cons, List.length_nil, List.length_append, u8s_len]; omega)) only [go_sem, ↓reduceIte, true_and, Nat.reduceLeDiff, Nat.reduceEqDiff, Nat.reduceAdd, Nat.reduceBEq, Int.reduceEq, H.cv_3_5, H.cv_5_3]
    intro o4 h4
    refine hN _ ?_; clear hN N; refine W_ob (hO.new h4) fun hc hO => ?_
    have hlv := hO.live ho'
    (refine W_seq_gen fun M hM => ?_)
    (refine W_seq_gen fun N hN => ?_); simp (disch := first | omega | (simp only [List.length_cons, List.length_nil, List.length_append, u8s_len]; omega)) only [go_sem, ↓reduceIte, true_and, Nat.reduceLeDiff, Nat.reduceEqDiff, Nat.reduceAdd, Nat.reduceBEq, Int.reduceEq, H.cv_3_5, H.cv_5_3, hlv]
    refine hN _ ?_; clear hN N; refine W_ob (ob_base hO hne) fun hc hO => ?_
    refine W_forget (fun t => t 0 = .op o 0 ∧ t 1 = .sc (.int .i64 (d : Nat)) ∧ t 4 = .op o4 0 ∧ True) (by simp [upd_at, *] <;> (first | rfl | exact ⟨rfl, rfl⟩ | exact ⟨rfl, rfl, rfl⟩)) ?_; rintro t ⟨t0, t1, t4, -⟩
    have hlv : hc o = some (.arr [v, .sc (.bool false), .sc (.int .i64 ((left : Nat) - ((1 : Nat) : Int)))]) := hO.live (by simp [upd])
    have n4 : ¬ o4 = o := fun e => by have := hO.own0; rw [e] at this; simp [upd] at this
    have n4' : ¬ o = o4 := fun e => n4 e.symm
    have zce : CE [.sc (.int .i64 ((0 : Nat) : Int)), .sc (.int .i64 ((0 : Nat) : Int)), .sc (.string noS), .sc (.slice none 0 0)] (.mk 0 0 noS []) :=
      CE.in (fits_small (by omega) (by omega) (by decide) (by decide)) SF.nil RR.nil
    (refine W_seq_gen fun N hN => ?_)
    have quit : R = none → ∀ t : Nat → AV, t 0 = .op o 0 → t 4 = .op o4 0 → t 36 = .sc (.bool true) → N ⟨t, hc⟩ := by
      clear t0 t1 t4
      intro hRn t t0 t4 t36
      refine hN _ ?_; clear hN N
      simp (disch := first | omega | (simp only [List.length_cons, List.length_nil, List.length_append, u8s_len]; omega)) only [go_sem, ↓reduceIte, true_and, Nat.reduceLeDiff, Nat.reduceEqDiff, Nat.reduceAdd, Nat.reduceBEq, Int.reduceEq, H.cv_3_5, H.cv_5_3, t0, t4, t36, hlv, hO.get0, n4, n4']
      subst hRn
      refine ⟨_, _, rfl, zce, fun x hx hlx => ?_, v, l, (left : Int) - ((1 : Nat) : Int), hv, ?_⟩
      · have hx4 : x ≠ o4 := fun e => hlx (by rw [e]; exact h4)
        have := hO.keep x (by simp only [upd, if_neg hx]; exact hlx)
        simp only [upd, if_neg hx, if_neg hx4] at this ⊢
        exact this
      · simp only [upd, if_neg n4', rdO, if_true]
    by_cases c1 : l.length = 0
    · have d1 : decide (l.length = 0) = true := decide_eq_true c1
      have hRn : R = none := by
        have : l = [] := List.eq_nil_of_length_eq_zero c1
        rw [← hR, this]
        cases d <;> rfl
      simp (disch := first | omega | (simp only [List.length_cons, List.length_nil, List.length_append, u8s_len]; omega)) only [go_sem, ↓reduceIte, true_and, Nat.reduceLeDiff, Nat.reduceEqDiff, Nat.reduceAdd, Nat.reduceBEq, Int.reduceEq, H.cv_3_5, H.cv_5_3, t0, t4, hlv, hv.same, hv.disc, hv.sl.len, u8s_len, d1, hO.get0, n4, n4']
      exact quit hRn _ (by simp [upd_at, t0]) (by simp [upd_at, t4]) (by simp [upd_at])
    have d1 : decide (l.length = 0) = false := decide_eq_false c1
    by_cases c2 : d = 0
    · have d2 : decide (d = 0) = true := decide_eq_true c2
      have hRn : R = none := by
        rw [← hR, c2]
        cases l <;> rfl
      simp (disch := first | omega | (simp only [List.length_cons, List.length_nil, List.length_append, u8s_len]; omega)) only [go_sem, ↓reduceIte, true_and, Nat.reduceLeDiff, Nat.reduceEqDiff, Nat.reduceAdd, Nat.reduceBEq, Int.reduceEq, H.cv_3_5, H.cv_5_3, t0, t1, t4, hlv, hv.same, hv.disc, hv.sl.len, u8s_len, d1, d2, hO.get0, n4, n4']
      exact quit hRn _ (by simp [upd_at, t0]) (by simp [upd_at, t4]) (by simp [upd_at])
    have d2 : decide (d = 0) = false := decide_eq_false c2
    obtain ⟨d, rfl⟩ : ∃ d', d = d' + 1 := ⟨d - 1, by omega⟩
    obtain ⟨k0, b, rfl⟩ : ∃ k0 b, l = k0 :: b := by
      cases l with
      | nil => simp at c1
      | cons k0 b => exact ⟨k0, b, rfl⟩
    rw [rdS] at hR
    by_cases c3 : left < 1
    · have c3' : ((left : Nat) : Int) - ((1 : Nat) : Int) < ((0 : Nat) : Int) := by omega
      rw [if_pos c3] at hR
      simp (disch := first | omega | (simp only [List.length_cons, List.length_nil, List.length_append, u8s_len]; omega)) only [go_sem, ↓reduceIte, true_and, Nat.reduceLeDiff, Nat.reduceEqDiff, Nat.reduceAdd, Nat.reduceBEq, Int.reduceEq, H.cv_3_5, H.cv_5_3, t0, t1, t4, hlv, hv.same, hv.disc, hv.sl.len, u8s_len, d1, d2, c3', hO.get0, n4, n4']
      exact quit hR.symm _ (by simp [upd_at, t0]) (by simp [upd_at, t4]) (by simp [upd_at])
    rw [if_neg c3] at hR
    have sb : ((left : Nat) : Int) - ((1 : Nat) : Int) = ((left - 1 : Nat) : Int) := by omega
    rw [sb] at hlv hO
    have d3 : decide (left - 1 < 0) = false := by simp
    simp (disch := first | omega | (simp only [List.length_cons, List.length_nil, List.length_append, u8s_len]; omega)) only [go_sem, ↓reduceIte, true_and, Nat.reduceLeDiff, Nat.reduceEqDiff, Nat.reduceAdd, Nat.reduceBEq, Int.reduceEq, H.cv_3_5, H.cv_5_3, t0, t1, t4, hlv, hv.same, hv.disc, hv.sl.len, u8s_len, d1, d2, d3, hO.get0, n4, n4']
    clear quit
    refine hN _ ?_; clear hN N
    simp (disch := first | omega | (simp only [List.length_cons, List.length_nil, List.length_append, u8s_len]; omega)) only [go_sem, ↓reduceIte, true_and, Nat.reduceLeDiff, Nat.reduceEqDiff, Nat.reduceAdd, Nat.reduceBEq, Int.reduceEq, H.cv_3_5, H.cv_5_3]
    refine hM _ ?_; clear hM M
    clear d1 d2 d3 sb c1 c2
    rw [show (k0 :: b).length = b.length + 1 from rfl] at hl
    have hb0 : k0.toNat < 256 := k0.toNat_lt
    have g0 : (u8s (k0 :: b))[0]? = some [.sc (.int .u8 (k0.toNat : Int))] := rfl
    refine W_forget (fun t => t 0 = .op o 0 ∧ t 1 = .sc (.int .i64 ((d + 1 : Nat) : Int)) ∧ t 4 = .op o4 0 ∧ True) (by simp [upd_at, *] <;> (first | rfl | exact ⟨rfl, rfl⟩ | exact ⟨rfl, rfl, rfl⟩)) ?_; rintro t ⟨t0, t1, t4, -⟩
    (refine W_seq_gen fun N hN => ?_); simp (disch := first | omega | (simp only [List.length_cons, List.length_nil, List.length_append, u8s_len]; omega)) only [go_sem, ↓reduceIte, true_and, Nat.reduceLeDiff, Nat.reduceEqDiff, Nat.reduceAdd, Nat.reduceBEq, Int.reduceEq, H.cv_3_5, H.cv_5_3, t0, hlv, hv.same, hv.disc, hv.sl.ia, g0]
    intro o5 h5
    refine hN _ ?_; clear hN N; refine W_ob (hO.new h5) fun hc hO => ?_
    refine W_forget (fun t => t 0 = .op o 0 ∧ t 1 = .sc (.int .i64 ((d + 1 : Nat) : Int)) ∧ t 4 = .op o4 0 ∧ t 5 = .op o5 0 ∧ True) (by simp [upd_at, *] <;> (first | rfl | exact ⟨rfl, rfl⟩ | exact ⟨rfl, rfl, rfl⟩)) ?_; rintro t ⟨t0, t1, t4, t5, -⟩
    obtain ⟨h1, e1, f1, hO⟩ : ∃ h1 : Heap, h1 o = some (.arr [v, .sc (.bool false), .sc (.int .i64 ((left - 1 : Nat) : Int))]) ∧ (∀ x, x ≠ o → h1 x = h x) ∧
        OB h1 [(o5, .arr [.sc (.int .i64 (k0.toNat : Nat)), .sc (.int .i64 ((0 : Nat) : Int)), .sc (.string noS), .sc (.slice none 0 0)]), (o4, .arr [.sc (.int .i64 ((0 : Nat) : Int)), .sc (.int .i64 ((0 : Nat) : Int)), .sc (.string noS), .sc (.slice none 0 0)])] hc :=
      ⟨_, by simp [upd], fun x hx => by simp [upd, hx], hO⟩
    have hlv1 := hO.live e1
    have hne1 : h1 o ≠ none := by rw [e1]; simp
    have hcut := hv.sl.drop 1
    have scut := fun (t : Nat → AV) (h : Heap) => hv.sl.slc_l (t := t) (h := h) (l := 1) (k := .i64) (by rw [u8s_len]; simp)
    rw [u8s_len] at hcut scut
    rw [u8s_drop, show (k0 :: b).drop 1 = b from rfl] at hcut
    generalize cutV 1 1 (k0 :: b).length v = w at hcut scut
    (refine W_seq_gen fun N hN => ?_); simp (disch := first | omega | (simp only [List.length_cons, List.length_nil, List.length_append, u8s_len]; omega)) only [go_sem, ↓reduceIte, true_and, Nat.reduceLeDiff, Nat.reduceEqDiff, Nat.reduceAdd, Nat.reduceBEq, Int.reduceEq, H.cv_3_5, H.cv_5_3, t0, hlv1, hv.same, hv.disc, scut, hcut.same, hcut.disc, sl_cellsD hcut.sl, sl_tu hcut.sl]
    refine hN _ ?_; clear hN N
    refine W_ob (ob_base hO hne1) fun hc hO => ?_
    refine W_forget (fun t => t 0 = .op o 0 ∧ t 1 = .sc (.int .i64 ((d + 1 : Nat) : Int)) ∧ t 4 = .op o4 0 ∧ t 5 = .op o5 0 ∧ True) (by simp [upd_at, *] <;> (first | rfl | exact ⟨rfl, rfl⟩ | exact ⟨rfl, rfl, rfl⟩)) ?_; rintro t ⟨t0, t1, t4, t5, -⟩
    obtain ⟨h2, e2, f2, hO⟩ : ∃ h2 : Heap, h2 o = some (rdO w false ((left - 1 : Nat) : Int)) ∧ (∀ x, x ≠ o → h2 x = h x) ∧
        OB h2 [(o5, .arr [.sc (.int .i64 (k0.toNat : Nat)), .sc (.int .i64 ((0 : Nat) : Int)), .sc (.string noS), .sc (.slice none 0 0)]), (o4, .arr [.sc (.int .i64 ((0 : Nat) : Int)), .sc (.int .i64 ((0 : Nat) : Int)), .sc (.string noS), .sc (.slice none 0 0)])] hc :=
      ⟨_, by simp [upd, setRange, rdO], fun x hx => by simp [upd, hx, f1 x hx], hO⟩
    have hne2 : h2 o ≠ none := by rw [e2]; simp
    have hbl : b.length < 2 ^ 40 := by omega
    have kce : CE [.sc (.int .i64 (k0.toNat : Nat)), .sc (.int .i64 ((0 : Nat) : Int)), .sc (.string noS), .sc (.slice none 0 0)] (.mk (k0.toNat : Nat) 0 noS []) :=
      CE.in (fits_small (by omega) (by omega) (by decide) (by decide)) SF.nil RR.nil
    clear hlv hlv1 e1 f1 hne1 hv scut n4 n4'
    (refine W_seq_gen fun N hN => ?_); simp (disch := first | omega | (simp only [List.length_cons, List.length_nil, List.length_append, u8s_len]; omega)) only [go_sem, ↓reduceIte, true_and, Nat.reduceLeDiff, Nat.reduceEqDiff, Nat.reduceAdd, Nat.reduceBEq, Int.reduceEq, H.cv_3_5, H.cv_5_3, t0]
    refine (number_rd H hcut (by omega) (hO.live e2)).mono ?_
    cases hN0 : readH 0 0 b with
    | none =>
      rw [hN0] at hR
      rintro _ _ ⟨rfl, rfl⟩
      rw [contK_some]; simp (disch := first | omega | (simp only [List.length_cons, List.length_nil, List.length_append, u8s_len]; omega)) only [go_sem, ↓reduceIte, true_and, Nat.reduceLeDiff, Nat.reduceEqDiff, Nat.reduceAdd, Nat.reduceBEq, Int.reduceEq, H.cv_3_5, H.cv_5_3]
      refine hN _ ?_; clear hN N
      refine W_ob (ob_base hO hne2) fun hc hO => ?_
      refine W_forget (fun t => t 0 = .op o 0 ∧ t 4 = .op o4 0 ∧ t 5 = .op o5 0 ∧ True) (by simp [upd_at, *] <;> (first | rfl | exact ⟨rfl, rfl⟩ | exact ⟨rfl, rfl, rfl⟩)) ?_; rintro t ⟨t0, t4, t5, -⟩
      have hlv : hc o = some (.arr [w, .sc (.bool true), .sc (.int .i64 ((left - 1 : Nat) : Int))]) := hO.live (by simp [upd, rdO])
      (refine W_seq_gen fun K hK => ?_)
      rw [W_block]
      (refine W_seq_gen fun N hN => ?_); simp (disch := first | omega | (simp only [List.length_cons, List.length_nil, List.length_append, u8s_len]; omega)) only [go_sem, ↓reduceIte, true_and, Nat.reduceLeDiff, Nat.reduceEqDiff, Nat.reduceAdd, Nat.reduceBEq, Int.reduceEq, H.cv_3_5, H.cv_5_3, t0, hlv]
      refine hN _ ?_; clear hN N
      simp (disch := first | omega | (simp only [List.length_cons, List.length_nil, List.length_append, u8s_len]; omega)) only [go_sem, ↓reduceIte, true_and, Nat.reduceLeDiff, Nat.reduceEqDiff, Nat.reduceAdd, Nat.reduceBEq, Int.reduceEq, H.cv_3_5, H.cv_5_3]
      refine hK _ (cell_end H (by simp [upd_at, t4]) (by simp [upd_at, t5]) (hB := upd h2 o (some (rdO w true ((left - 1 : Nat) : Int)))) (fun x hx => by simp [upd, hx, f2 x hx]) hO kce (c := .mk (k0.toNat : Nat) 0 noS []) ?_ rfl rfl rfl)
      subst hR
      exact ⟨w, b, ((left - 1 : Nat) : Int), hcut, by simp [upd]⟩
    | some p =>
      obtain ⟨n, k⟩ := p
      rw [hN0] at hR
      simp only at hR
      obtain ⟨hn63, hk⟩ := readH_lt b 0 0 n k (by decide) (by decide) hN0
      rintro _ _ ⟨rfl, w2, hw2, rfl⟩
      rw [contK_some]; simp (disch := first | omega | (simp only [List.length_cons, List.length_nil, List.length_append, u8s_len]; omega)) only [go_sem, ↓reduceIte, true_and, Nat.reduceLeDiff, Nat.reduceEqDiff, Nat.reduceAdd, Nat.reduceBEq, Int.reduceEq, H.cv_3_5, H.cv_5_3]
      refine hN _ ?_; clear hN N
      refine W_ob (ob_base hO hne2) fun hc hO => ?_
      refine W_forget (fun t => t 0 = .op o 0 ∧ t 1 = .sc (.int .i64 ((d + 1 : Nat) : Int)) ∧ t 4 = .op o4 0 ∧ t 5 = .op o5 0 ∧ t 6 = .sc (.int .i64 (n : Nat)) ∧ True) (by simp [upd_at, *] <;> (first | rfl | exact ⟨rfl, rfl⟩ | exact ⟨rfl, rfl, rfl⟩)) ?_; rintro t ⟨t0, t1, t4, t5, t6, -⟩
      have hB : upd h2 o (some (rdO w2 false ((left - 1 : Nat) : Int))) o = some (rdO w2 false ((left - 1 : Nat) : Int)) := by simp [upd]
      have fB : ∀ x, x ≠ o → upd h2 o (some (rdO w2 false ((left - 1 : Nat) : Int))) x = h x := fun x hx => by simp [upd, hx, f2 x hx]
      generalize upd h2 o (some (rdO w2 false ((left - 1 : Nat) : Int))) = h3 at hO hB fB
      have hlv : hc o = some (.arr [w2, .sc (.bool false), .sc (.int .i64 ((left - 1 : Nat) : Int))]) := hO.live hB
      clear e2 f2 hne2 hN0
      have hne3 : h3 o ≠ none := by rw [hB]; simp
      have hb1 : (b.drop k).length < 2 ^ 40 := by rw [List.length_drop]; omega
      generalize b.drop k = b1 at hR hw2 hb1
      (refine W_seq_gen fun K hK => ?_)
      rw [W_block]
      (refine W_seq_gen fun N hN => ?_); simp (disch := first | omega | (simp only [List.length_cons, List.length_nil, List.length_append, u8s_len]; omega)) only [go_sem, ↓reduceIte, true_and, Nat.reduceLeDiff, Nat.reduceEqDiff, Nat.reduceAdd, Nat.reduceBEq, Int.reduceEq, H.cv_3_5, H.cv_5_3, t0, hlv]
      refine hN _ ?_; clear hN N
      by_cases k1 : k0.toNat = 1
      · rw [if_pos k1] at hR
        rw [k1] at hO
        have nce : CE [.sc (.int .i64 ((1 : Nat) : Int)), .sc (.int .i64 (numOf n)), .sc (.string noS), (AV.sc (.slice none 0 0)).dis] (.mk 1 (numOf n) noS []) :=
          CE.in (fits_small (by omega) (by unfold numOf; split <;> omega) (by decide) (by decide)) SF.nil RR.nil
        have nR : RdB o h3 (.mk 1 (numOf n) noS []) R := by
          rw [← hR]
          exact ⟨rfl, w2, hw2, hB⟩
        by_cases c4 : n % 2 = 1
        · have d4 : decide (n % 2 = 1) = true := decide_eq_true c4
          by_cases c5 : n < 2 ^ 63 - 1
          · have e1 := num_neg c5 c4
            
            simp (disch := first | omega | (simp only [List.length_cons, List.length_nil, List.length_append, u8s_len]; omega)) only [go_sem, ↓reduceIte, true_and, Nat.reduceLeDiff, Nat.reduceEqDiff, Nat.reduceAdd, Nat.reduceBEq, Int.reduceEq, H.cv_3_5, H.cv_5_3, t5, t6, hO.get0, sb_shr1, sb_and1, d4, un_neg, e1]
            exact hK _ (cell_end H (by simp [upd_at, t4]) (by simp [upd_at, t5]) fB hO.st0 nce nR rfl rfl rfl)
          · obtain ⟨z, hz⟩ : ∃ z : Int, z = -9223372036854775808 := ⟨_, rfl⟩
            obtain rfl : n = 9223372036854775807 := by omega
            have e1 : IntKind.i64.wrap (((9223372036854775807 : Nat) : Int) + ((1 : Nat) : Int)) = z := by rw [hz]; decide +kernel
            have e2 : IntKind.i64.wrap (0 - z) = z := by rw [hz]; decide +kernel
            have e3 : IntKind.i64.wrap (z.tdiv ((2 : Nat) : Int)) = numOf 9223372036854775807 := by rw [hz]; decide +kernel
            simp (disch := first | omega | (simp only [List.length_cons, List.length_nil, List.length_append, u8s_len]; omega)) only [go_sem, ↓reduceIte, true_and, Nat.reduceLeDiff, Nat.reduceEqDiff, Nat.reduceAdd, Nat.reduceBEq, Int.reduceEq, H.cv_3_5, H.cv_5_3, t5, t6, hO.get0, sb_shr1, sb_and1, d4, un_neg, e1, e2, e3]
            exact hK _ (cell_end H (by simp [upd_at, t4]) (by simp [upd_at, t5]) fB hO.st0 nce nR rfl rfl rfl)
        · have d4 : decide (n % 2 = 1) = false := decide_eq_false c4
          simp (disch := first | omega | (simp only [List.length_cons, List.length_nil, List.length_append, u8s_len]; omega)) only [go_sem, ↓reduceIte, true_and, Nat.reduceLeDiff, Nat.reduceEqDiff, Nat.reduceAdd, Nat.reduceBEq, Int.reduceEq, H.cv_3_5, H.cv_5_3, t5, t6, hO.get0, sb_shr1, sb_and1, d4]
          refine hK _ (cell_end H (by simp [upd_at, t4]) (by simp [upd_at, t5]) fB hO.st0 ?_ nR rfl rfl rfl)
          rw [show ((n / 2 : Nat) : Int) = numOf n by rw [numOf, if_neg c4]]
          exact nce
      rw [if_neg k1] at hR
      have d1 : decide (k0.toNat = 1) = false := decide_eq_false k1
      have bad : n = n → R = none → ∀ t : Nat → AV, t 4 = .op o4 0 → t 5 = .op o5 0 → K ⟨t, upd hc o (some (rdO w2 true ((left - 1 : Nat) : Int)))⟩ := by
        clear t0 t1 t4 t5 t6
        intro _ hRn t t4 t5
        refine hK _ (cell_end H t4 t5 (hB := upd h3 o (some (rdO w2 true ((left - 1 : Nat) : Int)))) (fun x hx => by simp [upd, hx, fB x hx]) (ob_base hO hne3) kce (c := .mk (k0.toNat : Nat) 0 noS []) ?_ rfl rfl rfl)
        rw [hRn]
        exact ⟨w2, b1, ((left - 1 : Nat) : Int), hw2, by simp [upd]⟩
      by_cases k2 : k0.toNat = 2
      · rw [if_pos k2] at hR
        rw [k2] at hO kce
        by_cases c5 : b1.length < n
        · rw [if_pos c5] at hR
          have c6 : ¬ n ≤ b1.length := by omega
          simp (disch := first | omega | (simp only [List.length_cons, List.length_nil, List.length_append, u8s_len]; omega)) only [go_sem, ↓reduceIte, true_and, Nat.reduceLeDiff, Nat.reduceEqDiff, Nat.reduceAdd, Nat.reduceBEq, Int.reduceEq, H.cv_3_5, H.cv_5_3, t0, t5, t6, hlv, hO.get0, hw2.same, hw2.disc, hw2.sl.len, u8s_len, c6]
          exact bad rfl hR.symm _ (by simp [upd_at, t4]) (by simp [upd_at, t5])
        rw [if_neg c5] at hR
        have c6 : n ≤ b1.length := by omega
        simp (disch := first | omega | (simp only [List.length_cons, List.length_nil, List.length_append, u8s_len]; omega)) only [go_sem, ↓reduceIte, true_and, Nat.reduceLeDiff, Nat.reduceEqDiff, Nat.reduceAdd, Nat.reduceBEq, Int.reduceEq, H.cv_3_5, H.cv_5_3, t0, t5, t6, hlv, hO.get0, hw2.same, hw2.disc, hw2.sl.len, u8s_len, c6]
        refine W_forget (fun t => t 0 = .op o 0 ∧ t 4 = .op o4 0 ∧ t 5 = .op o5 0 ∧ t 6 = .sc (.int .i64 (n : Nat)) ∧ True) (by simp [upd_at, *] <;> (first | rfl | exact ⟨rfl, rfl⟩ | exact ⟨rfl, rfl, rfl⟩)) ?_; rintro t ⟨t0, t4, t5, t6, -⟩
        have sx := fun (t : Nat → AV) (h : Heap) => hw2.sl.slc_u (t := t) (h := h) (u := n) (k := .i64) (by rw [u8s_len]; omega)
        have sy := fun (t : Nat → AV) (h : Heap) => hw2.sl.slc_l (t := t) (h := h) (l := n) (k := .i64) (by rw [u8s_len]; omega)
        have bx := hw2.sl.take n
        have by' := hw2.sl.drop n
        rw [u8s_take] at bx
        rw [u8s_len] at sy
        rw [u8s_len, u8s_drop] at by'
        generalize cutV 1 0 n w2 = x2 at sx bx
        generalize cutV 1 n b1.length w2 = y2 at sy by'
        have h5 := hO.get0
        have n5 : ¬ o5 = o := fun e => by have := hO.own0; rw [e, hB] at this; cases this
        have n5' : ¬ o = o5 := fun e => n5 e.symm
        refine W_tabU rfl rfl (fun i => match i with
          | 4 => w2 | 5 => .sc (.int .i64 (n : Nat)) | 6 => x2 | 7 => .sc (.string (str (b1.take n))) | 11 => w2 | 12 => .sc (.int .i64 (n : Nat)) | 13 => y2 | 14 => .op o5 2 | 15 => .undef | 18 => .undef | _ => .op o 0)
          (fun l => if l 18 then upd (upd hc o5 (some (.arr [.sc (.int .i64 ((2 : Nat) : Int)), .sc (.int .i64 ((0 : Nat) : Int)), .sc (.string (str (b1.take n))), .sc (.slice none 0 0)]))) o (some (rdO y2 false ((left - 1 : Nat) : Int)))
            else if l 15 then upd hc o5 (some (.arr [.sc (.int .i64 ((2 : Nat) : Int)), .sc (.int .i64 ((0 : Nat) : Int)), .sc (.string (str (b1.take n))), .sc (.slice none 0 0)])) else hc) rfl ?_ ?_
        · intro T hT ⟨s0, s1, s2, s3, s4, s5, s6, s7, s8, s9, s10, s11, s12, s13, s14, _, s16, s17, _, _⟩
          replace s0 : ∀ l, T l 95 = _ := s0
          replace s1 : ∀ l, T l 96 = _ := s1
          replace s2 : ∀ l, T l 97 = _ := s2
          replace s3 : ∀ l, T l 98 = _ := s3
          replace s4 : ∀ l, T l 99 = _ := s4
          replace s5 : ∀ l, T l 100 = _ := s5
          replace s6 : ∀ l, T l 101 = _ := s6
          replace s7 : ∀ l, T l 102 = _ := s7
          replace s8 : ∀ l, T l 103 = _ := s8
          replace s9 : ∀ l, T l 104 = _ := s9
          replace s10 : ∀ l, T l 105 = _ := s10
          replace s11 : ∀ l, T l 106 = _ := s11
          replace s12 : ∀ l, T l 107 = _ := s12
          replace s13 : ∀ l, T l 108 = _ := s13
          replace s14 : ∀ l, T l 109 = _ := s14
          replace s16 : ∀ l, T l 110 = _ := s16
          replace s17 : ∀ l, T l 111 = _ := s17
          have u0 : ∀ l, T l 0 = .op o 0 := fun l => by rw [hT 0 rfl, t0]
          have u5 : ∀ l, T l 5 = .op o5 0 := fun l => by rw [hT 5 rfl, t5]
          have u6 : ∀ l, T l 6 = .sc (.int .i64 (n : Nat)) := fun l => by rw [hT 6 rfl, t6]
          clear hT
          -- DEF P: List.getD_cons_succ, List.getD_cons_zero, List.forall_mem_cons, List.not_mem_nil, false_implies, implies_true, and_true
          refine ⟨fun l hcl hi hp => ?_, fun l hcl hi hp => ?_, fun l hcl hi hp => ?_, fun l hcl hi hp => ?_, fun l hcl hi hp => ?_, fun l hcl hi hp => ?_, fun l hcl hi hp => ?_, fun l hcl hi hp => ?_, fun l hcl hi hp => ?_, fun l hcl hi hp => ?_, fun l hcl hi hp => ?_, fun l hcl hi hp => ?_, fun l hcl hi hp => ?_, fun l hcl hi hp => ?_, fun l hcl hi hp => ?_, fun l hcl hi hp => ?_, fun l hcl hi hp => ?_, fun l hcl hi hp => ?_, fun l hcl hi hp => ?_, trivial⟩ <;> simp only [List.getD_cons_succ, List.getD_cons_zero, List.forall_mem_cons, List.not_mem_nil, false_implies, implies_true, and_true] at hp
          · have n18 : l 18 = false := by
              cases q : l 18 with
              | false => rfl
              | true => exact absurd (hcl 18 q 0 (by decide)) (by rw [hi]; decide)
            cases q15 : l 15 <;> simp (disch := first | omega | (simp only [List.length_cons, List.length_nil, List.length_append, u8s_len]; omega)) only [go_sem, ↓reduceIte, true_and, Nat.reduceLeDiff, Nat.reduceEqDiff, Nat.reduceAdd, Nat.reduceBEq, Int.reduceEq, H.cv_3_5, H.cv_5_3, s0, s1, s2, s3, s4, s5, s6, s7, s8, s9, s10, s11, s12, s13, s14, s16, s17, u0, u5, u6, hp, hi, upd_at, n18, q15, hlv, h5, n5, n5', hw2.same, hw2.disc, sx, sy, bx.sl.b2s, bx.same, bx.disc, by'.same, by'.disc, upd_ne, ne_eq, not_false_eq_true, Bool.false_eq_true]
          · have n18 : l 18 = false := by
              cases q : l 18 with
              | false => rfl
              | true => exact absurd (hcl 18 q 1 (by decide)) (by rw [hi]; decide)
            cases q15 : l 15 <;> simp (disch := first | omega | (simp only [List.length_cons, List.length_nil, List.length_append, u8s_len]; omega)) only [go_sem, ↓reduceIte, true_and, Nat.reduceLeDiff, Nat.reduceEqDiff, Nat.reduceAdd, Nat.reduceBEq, Int.reduceEq, H.cv_3_5, H.cv_5_3, s0, s1, s2, s3, s4, s5, s6, s7, s8, s9, s10, s11, s12, s13, s14, s16, s17, u0, u5, u6, hp, hi, upd_at, n18, q15, hlv, h5, n5, n5', hw2.same, hw2.disc, sx, sy, bx.sl.b2s, bx.same, bx.disc, by'.same, by'.disc, upd_ne, ne_eq, not_false_eq_true, Bool.false_eq_true]
          · have n18 : l 18 = false := by
              cases q : l 18 with
              | false => rfl
              | true => exact absurd (hcl 18 q 2 (by decide)) (by rw [hi]; decide)
            cases q15 : l 15 <;> simp (disch := first | omega | (simp only [List.length_cons, List.length_nil, List.length_append, u8s_len]; omega)) only [go_sem, ↓reduceIte, true_and, Nat.reduceLeDiff, Nat.reduceEqDiff, Nat.reduceAdd, Nat.reduceBEq, Int.reduceEq, H.cv_3_5, H.cv_5_3, s0, s1, s2, s3, s4, s5, s6, s7, s8, s9, s10, s11, s12, s13, s14, s16, s17, u0, u5, u6, hp, hi, upd_at, n18, q15, hlv, h5, n5, n5', hw2.same, hw2.disc, sx, sy, bx.sl.b2s, bx.same, bx.disc, by'.same, by'.disc, upd_ne, ne_eq, not_false_eq_true, Bool.false_eq_true]
          · have n18 : l 18 = false := by
              cases q : l 18 with
              | false => rfl
              | true => exact absurd (hcl 18 q 3 (by decide)) (by rw [hi]; decide)
            cases q15 : l 15 <;> simp (disch := first | omega | (simp only [List.length_cons, List.length_nil, List.length_append, u8s_len]; omega)) only [go_sem, ↓reduceIte, true_and, Nat.reduceLeDiff, Nat.reduceEqDiff, Nat.reduceAdd, Nat.reduceBEq, Int.reduceEq, H.cv_3_5, H.cv_5_3, s0, s1, s2, s3, s4, s5, s6, s7, s8, s9, s10, s11, s12, s13, s14, s16, s17, u0, u5, u6, hp, hi, upd_at, n18, q15, hlv, h5, n5, n5', hw2.same, hw2.disc, sx, sy, bx.sl.b2s, bx.same, bx.disc, by'.same, by'.disc, upd_ne, ne_eq, not_false_eq_true, Bool.false_eq_true]
          · have n18 : l 18 = false := by
              cases q : l 18 with
              | false => rfl
              | true => exact absurd (hcl 18 q 4 (by decide)) (by rw [hi]; decide)
            cases q15 : l 15 <;> simp (disch := first | omega | (simp only [List.length_cons, List.length_nil, List.length_append, u8s_len]; omega)) only [go_sem, ↓reduceIte, true_and, Nat.reduceLeDiff, Nat.reduceEqDiff, Nat.reduceAdd, Nat.reduceBEq, Int.reduceEq, H.cv_3_5, H.cv_5_3, s0, s1, s2, s3, s4, s5, s6, s7, s8, s9, s10, s11, s12, s13, s14, s16, s17, u0, u5, u6, hp, hi, upd_at, n18, q15, hlv, h5, n5, n5', hw2.same, hw2.disc, sx, sy, bx.sl.b2s, bx.same, bx.disc, by'.same, by'.disc, upd_ne, ne_eq, not_false_eq_true, Bool.false_eq_true]
          · have n18 : l 18 = false := by
              cases q : l 18 with
              | false => rfl
              | true => exact absurd (hcl 18 q 5 (by decide)) (by rw [hi]; decide)
            cases q15 : l 15 <;> simp (disch := first | omega | (simp only [List.length_cons, List.length_nil, List.length_append, u8s_len]; omega)) only [go_sem, ↓reduceIte, true_and, Nat.reduceLeDiff, Nat.reduceEqDiff, Nat.reduceAdd, Nat.reduceBEq, Int.reduceEq, H.cv_3_5, H.cv_5_3, s0, s1, s2, s3, s4, s5, s6, s7, s8, s9, s10, s11, s12, s13, s14, s16, s17, u0, u5, u6, hp, hi, upd_at, n18, q15, hlv, h5, n5, n5', hw2.same, hw2.disc, sx, sy, bx.sl.b2s, bx.same, bx.disc, by'.same, by'.disc, upd_ne, ne_eq, not_false_eq_true, Bool.false_eq_true]
          · have n18 : l 18 = false := by
              cases q : l 18 with
              | false => rfl
              | true => exact absurd (hcl 18 q 6 (by decide)) (by rw [hi]; decide)
            cases q15 : l 15 <;> simp (disch := first | omega | (simp only [List.length_cons, List.length_nil, List.length_append, u8s_len]; omega)) only [go_sem, ↓reduceIte, true_and, Nat.reduceLeDiff, Nat.reduceEqDiff, Nat.reduceAdd, Nat.reduceBEq, Int.reduceEq, H.cv_3_5, H.cv_5_3, s0, s1, s2, s3, s4, s5, s6, s7, s8, s9, s10, s11, s12, s13, s14, s16, s17, u0, u5, u6, hp, hi, upd_at, n18, q15, hlv, h5, n5, n5', hw2.same, hw2.disc, sx, sy, bx.sl.b2s, bx.same, bx.disc, by'.same, by'.disc, upd_ne, ne_eq, not_false_eq_true, Bool.false_eq_true]
          · have n18 : l 18 = false := by
              cases q : l 18 with
              | false => rfl
              | true => exact absurd (hcl 18 q 7 (by decide)) (by rw [hi]; decide)
            cases q15 : l 15 <;> simp (disch := first | omega | (simp only [List.length_cons, List.length_nil, List.length_append, u8s_len]; omega)) only [go_sem, ↓reduceIte, true_and, Nat.reduceLeDiff, Nat.reduceEqDiff, Nat.reduceAdd, Nat.reduceBEq, Int.reduceEq, H.cv_3_5, H.cv_5_3, s0, s1, s2, s3, s4, s5, s6, s7, s8, s9, s10, s11, s12, s13, s14, s16, s17, u0, u5, u6, hp, hi, upd_at, n18, q15, hlv, h5, n5, n5', hw2.same, hw2.disc, sx, sy, bx.sl.b2s, bx.same, bx.disc, by'.same, by'.disc, upd_ne, ne_eq, not_false_eq_true, Bool.false_eq_true]
          · have n18 : l 18 = false := by
              cases q : l 18 with
              | false => rfl
              | true => exact absurd (hcl 18 q 8 (by decide)) (by rw [hi]; decide)
            cases q15 : l 15 <;> simp (disch := first | omega | (simp only [List.length_cons, List.length_nil, List.length_append, u8s_len]; omega)) only [go_sem, ↓reduceIte, true_and, Nat.reduceLeDiff, Nat.reduceEqDiff, Nat.reduceAdd, Nat.reduceBEq, Int.reduceEq, H.cv_3_5, H.cv_5_3, s0, s1, s2, s3, s4, s5, s6, s7, s8, s9, s10, s11, s12, s13, s14, s16, s17, u0, u5, u6, hp, hi, upd_at, n18, q15, hlv, h5, n5, n5', hw2.same, hw2.disc, sx, sy, bx.sl.b2s, bx.same, bx.disc, by'.same, by'.disc, upd_ne, ne_eq, not_false_eq_true, Bool.false_eq_true]
          · have n18 : l 18 = false := by
              cases q : l 18 with
              | false => rfl
              | true => exact absurd (hcl 18 q 9 (by decide)) (by rw [hi]; decide)
            cases q15 : l 15 <;> simp (disch := first | omega | (simp only [List.length_cons, List.length_nil, List.length_append, u8s_len]; omega)) only [go_sem, ↓reduceIte, true_and, Nat.reduceLeDiff, Nat.reduceEqDiff, Nat.reduceAdd, Nat.reduceBEq, Int.reduceEq, H.cv_3_5, H.cv_5_3, s0, s1, s2, s3, s4, s5, s6, s7, s8, s9, s10, s11, s12, s13, s14, s16, s17, u0, u5, u6, hp, hi, upd_at, n18, q15, hlv, h5, n5, n5', hw2.same, hw2.disc, sx, sy, bx.sl.b2s, bx.same, bx.disc, by'.same, by'.disc, upd_ne, ne_eq, not_false_eq_true, Bool.false_eq_true]
          · have n18 : l 18 = false := by
              cases q : l 18 with
              | false => rfl
              | true => exact absurd (hcl 18 q 10 (by decide)) (by rw [hi]; decide)
            cases q15 : l 15 <;> simp (disch := first | omega | (simp only [List.length_cons, List.length_nil, List.length_append, u8s_len]; omega)) only [go_sem, ↓reduceIte, true_and, Nat.reduceLeDiff, Nat.reduceEqDiff, Nat.reduceAdd, Nat.reduceBEq, Int.reduceEq, H.cv_3_5, H.cv_5_3, s0, s1, s2, s3, s4, s5, s6, s7, s8, s9, s10, s11, s12, s13, s14, s16, s17, u0, u5, u6, hp, hi, upd_at, n18, q15, hlv, h5, n5, n5', hw2.same, hw2.disc, sx, sy, bx.sl.b2s, bx.same, bx.disc, by'.same, by'.disc, upd_ne, ne_eq, not_false_eq_true, Bool.false_eq_true]
          · have n18 : l 18 = false := by
              cases q : l 18 with
              | false => rfl
              | true => exact absurd (hcl 18 q 11 (by decide)) (by rw [hi]; decide)
            cases q15 : l 15 <;> simp (disch := first | omega | (simp only [List.length_cons, List.length_nil, List.length_append, u8s_len]; omega)) only [go_sem, ↓reduceIte, true_and, Nat.reduceLeDiff, Nat.reduceEqDiff, Nat.reduceAdd, Nat.reduceBEq, Int.reduceEq, H.cv_3_5, H.cv_5_3, s0, s1, s2, s3, s4, s5, s6, s7, s8, s9, s10, s11, s12, s13, s14, s16, s17, u0, u5, u6, hp, hi, upd_at, n18, q15, hlv, h5, n5, n5', hw2.same, hw2.disc, sx, sy, bx.sl.b2s, bx.same, bx.disc, by'.same, by'.disc, upd_ne, ne_eq, not_false_eq_true, Bool.false_eq_true]
          · have n18 : l 18 = false := by
              cases q : l 18 with
              | false => rfl
              | true => exact absurd (hcl 18 q 12 (by decide)) (by rw [hi]; decide)
            cases q15 : l 15 <;> simp (disch := first | omega | (simp only [List.length_cons, List.length_nil, List.length_append, u8s_len]; omega)) only [go_sem, ↓reduceIte, true_and, Nat.reduceLeDiff, Nat.reduceEqDiff, Nat.reduceAdd, Nat.reduceBEq, Int.reduceEq, H.cv_3_5, H.cv_5_3, s0, s1, s2, s3, s4, s5, s6, s7, s8, s9, s10, s11, s12, s13, s14, s16, s17, u0, u5, u6, hp, hi, upd_at, n18, q15, hlv, h5, n5, n5', hw2.same, hw2.disc, sx, sy, bx.sl.b2s, bx.same, bx.disc, by'.same, by'.disc, upd_ne, ne_eq, not_false_eq_true, Bool.false_eq_true]
          · have n18 : l 18 = false := by
              cases q : l 18 with
              | false => rfl
              | true => exact absurd (hcl 18 q 13 (by decide)) (by rw [hi]; decide)
            cases q15 : l 15 <;> simp (disch := first | omega | (simp only [List.length_cons, List.length_nil, List.length_append, u8s_len]; omega)) only [go_sem, ↓reduceIte, true_and, Nat.reduceLeDiff, Nat.reduceEqDiff, Nat.reduceAdd, Nat.reduceBEq, Int.reduceEq, H.cv_3_5, H.cv_5_3, s0, s1, s2, s3, s4, s5, s6, s7, s8, s9, s10, s11, s12, s13, s14, s16, s17, u0, u5, u6, hp, hi, upd_at, n18, q15, hlv, h5, n5, n5', hw2.same, hw2.disc, sx, sy, bx.sl.b2s, bx.same, bx.disc, by'.same, by'.disc, upd_ne, ne_eq, not_false_eq_true, Bool.false_eq_true]
          · have n18 : l 18 = false := by
              cases q : l 18 with
              | false => rfl
              | true => exact absurd (hcl 18 q 14 (by decide)) (by rw [hi]; decide)
            cases q15 : l 15 <;> simp (disch := first | omega | (simp only [List.length_cons, List.length_nil, List.length_append, u8s_len]; omega)) only [go_sem, ↓reduceIte, true_and, Nat.reduceLeDiff, Nat.reduceEqDiff, Nat.reduceAdd, Nat.reduceBEq, Int.reduceEq, H.cv_3_5, H.cv_5_3, s0, s1, s2, s3, s4, s5, s6, s7, s8, s9, s10, s11, s12, s13, s14, s16, s17, u0, u5, u6, hp, hi, upd_at, n18, q15, hlv, h5, n5, n5', hw2.same, hw2.disc, sx, sy, bx.sl.b2s, bx.same, bx.disc, by'.same, by'.disc, upd_ne, ne_eq, not_false_eq_true, Bool.false_eq_true]
          · have n18 : l 18 = false := by
              cases q : l 18 with
              | false => rfl
              | true => exact absurd (hcl 18 q 15 (by decide)) (by rw [hi]; decide)
            simp (disch := first | omega | (simp only [List.length_cons, List.length_nil, List.length_append, u8s_len]; omega)) only [go_sem, ↓reduceIte, true_and, Nat.reduceLeDiff, Nat.reduceEqDiff, Nat.reduceAdd, Nat.reduceBEq, Int.reduceEq, H.cv_3_5, H.cv_5_3, s0, s1, s2, s3, s4, s5, s6, s7, s8, s9, s10, s11, s12, s13, s14, s16, s17, u0, u5, u6, hp, hi, upd_at, hlv, h5, n5, n5', hw2.same, hw2.disc, sx, sy, bx.sl.b2s, bx.same, bx.disc, by'.same, by'.disc, upd_ne, ne_eq, not_false_eq_true, Bool.false_eq_true, n18]
            rw [upd_eta (by rw [s7, hp.2.1]; rfl)]
          · have n18 : l 18 = false := by
              cases q : l 18 with
              | false => rfl
              | true => exact absurd (hcl 17 (hcl 18 q 17 (by decide)) 16 (by decide)) (by rw [hi]; decide)
            cases q15 : l 15 <;> simp (disch := first | omega | (simp only [List.length_cons, List.length_nil, List.length_append, u8s_len]; omega)) only [go_sem, ↓reduceIte, true_and, Nat.reduceLeDiff, Nat.reduceEqDiff, Nat.reduceAdd, Nat.reduceBEq, Int.reduceEq, H.cv_3_5, H.cv_5_3, s0, s1, s2, s3, s4, s5, s6, s7, s8, s9, s10, s11, s12, s13, s14, s16, s17, u0, u5, u6, hp, hi, upd_at, n18, q15, hlv, h5, n5, n5', hw2.same, hw2.disc, sx, sy, bx.sl.b2s, bx.same, bx.disc, by'.same, by'.disc, upd_ne, ne_eq, not_false_eq_true, Bool.false_eq_true]
          · have n18 : l 18 = false := by
              cases q : l 18 with
              | false => rfl
              | true => exact absurd (hcl 18 q 17 (by decide)) (by rw [hi]; decide)
            cases q15 : l 15 <;> simp (disch := first | omega | (simp only [List.length_cons, List.length_nil, List.length_append, u8s_len]; omega)) only [go_sem, ↓reduceIte, true_and, Nat.reduceLeDiff, Nat.reduceEqDiff, Nat.reduceAdd, Nat.reduceBEq, Int.reduceEq, H.cv_3_5, H.cv_5_3, s0, s1, s2, s3, s4, s5, s6, s7, s8, s9, s10, s11, s12, s13, s14, s16, s17, u0, u5, u6, hp, hi, upd_at, n18, q15, hlv, h5, n5, n5', hw2.same, hw2.disc, sx, sy, bx.sl.b2s, bx.same, bx.disc, by'.same, by'.disc, upd_ne, ne_eq, not_false_eq_true, Bool.false_eq_true]
          · simp (disch := first | omega | (simp only [List.length_cons, List.length_nil, List.length_append, u8s_len]; omega)) only [go_sem, ↓reduceIte, true_and, Nat.reduceLeDiff, Nat.reduceEqDiff, Nat.reduceAdd, Nat.reduceBEq, Int.reduceEq, H.cv_3_5, H.cv_5_3, s0, s1, s2, s3, s4, s5, s6, s7, s8, s9, s10, s11, s12, s13, s14, s16, s17, u0, u5, u6, hp, hi, upd_at, hlv, h5, n5, n5', hw2.same, hw2.disc, sx, sy, bx.sl.b2s, bx.same, bx.disc, by'.same, by'.disc, upd_ne, ne_eq, not_false_eq_true, Bool.false_eq_true, sl_cellsD by'.sl, sl_tu by'.sl]
            rw [upd_eta (by rw [s13, hp.2.1]; rfl)]
            simp [setRange, rdO]
        · intro l t' hk _ hl
          have ht4 : t' 4 = .op o4 0 := by rw [hk 4 rfl, t4]
          have ht5 : t' 5 = .op o5 0 := by rw [hk 5 rfl, t5]
          rw [if_pos (hl 18 (by decide))]
          refine hK _ (cell_end H ht4 ht5 (hB := upd h3 o (some (rdO y2 false ((left - 1 : Nat) : Int)))) (fun x hx => by simp [upd, hx, fB x hx]) (ob_base (hO.st0 (Y := .arr [.sc (.int .i64 ((2 : Nat) : Int)), .sc (.int .i64 ((0 : Nat) : Int)), .sc (.string (str (b1.take n))), .sc (.slice none 0 0)])) hne3)
            (c := .mk 2 0 (str (b1.take n)) []) (CE.in (fits_small (by omega) (by omega) (by rw [str_size, List.length_take]; omega) (by decide)) SF.nil RR.nil) ?_ rfl rfl rfl)
          rw [← hR]
          exact ⟨rfl, y2, by', by simp [upd]⟩
      rw [if_neg k2] at hR
      have d2 : decide (k0.toNat = 2) = false := decide_eq_false k2
      by_cases k3 : k0.toNat = 3
      · rw [if_pos k3] at hR
        rw [k3] at hO kce
        by_cases c5 : b1.length < n
        · rw [if_pos c5] at hR
          have c6 : ¬ n ≤ b1.length := by omega
          simp (disch := first | omega | (simp only [List.length_cons, List.length_nil, List.length_append, u8s_len]; omega)) only [go_sem, ↓reduceIte, true_and, Nat.reduceLeDiff, Nat.reduceEqDiff, Nat.reduceAdd, Nat.reduceBEq, Int.reduceEq, H.cv_3_5, H.cv_5_3, t0, t5, t6, hlv, hO.get0, hw2.same, hw2.disc, hw2.sl.len, u8s_len, c6]
          exact bad rfl hR.symm _ (by simp [upd_at, t4]) (by simp [upd_at, t5])
        rw [if_neg c5] at hR
        have c6 : n ≤ b1.length := by omega
        clear bad
        simp (disch := first | omega | (simp only [List.length_cons, List.length_nil, List.length_append, u8s_len]; omega)) only [go_sem, ↓reduceIte, true_and, Nat.reduceLeDiff, Nat.reduceEqDiff, Nat.reduceAdd, Nat.reduceBEq, Int.reduceEq, H.cv_3_5, H.cv_5_3, t0, t5, t6, hlv, hO.get0, hw2.same, hw2.disc, hw2.sl.len, u8s_len, c6]
        refine AW_loopN (fun m t h' => ∃ (i : Nat) (xs : List Cel) (es : List (List AV)) (w : AV) (hB : Heap), m = n - i ∧ i ≤ n ∧ xs.length = i ∧ SG 4 w es ∧ RR CE es xs ∧
            OB hB [(o5, .arr [.sc (.int .i64 ((3 : Nat) : Int)), .sc (.int .i64 ((0 : Nat) : Int)), .sc (.string noS), w]), (o4, .arr [.sc (.int .i64 ((0 : Nat) : Int)), .sc (.int .i64 ((0 : Nat) : Int)), .sc (.string noS), .sc (.slice none 0 0)])] h' ∧
            (∀ x, x ≠ o → hB x = h x) ∧ t 0 = .op o 0 ∧ t 1 = .sc (.int .i64 ((d + 1 : Nat) : Int)) ∧ t 4 = .op o4 0 ∧ t 5 = .op o5 0 ∧ t 6 = .sc (.int .i64 ((n - i : Nat) : Int)) ∧
            ((∃ v' b' l', SF 1 v' (u8s b') ∧ b'.length ≤ b1.length ∧ l' ≤ left - 1 ∧ hB o = some (rdO v' false ((l' : Nat) : Int)) ∧
              rlistF (rdS d) n b1 (left - 1) = match rlistF (rdS d) (n - i) b' l' with | none => none | some (ys, b2, l2) => some (xs ++ ys, b2, l2)) ∨
              (R = none ∧ ∃ v' b' z, SF 1 v' (u8s b') ∧ hB o = some (rdO v' true z))))
          (n := n) ⟨0, [], [], _, h3, rfl, Nat.zero_le _, rfl, SG.nil, RR.nil, hO, fB, by simp [upd_at, t0], by simp [upd_at, t1], by simp [upd_at, t4], by simp [upd_at, t5], by simp [upd_at, t6],
            .inl ⟨w2, b1, left - 1, hw2, Nat.le_refl _, Nat.le_refl _, hB, by rw [Nat.sub_zero]; split <;> simp_all⟩⟩ ?_
        clear hO hB fB hne3 hlv t0 t1 t4 t5 t6
        rintro m t h' ⟨i, xs, es, w, hB, rfl, hi, hxs, hw, hr, hO, fB, t0, t1, t4, t5, t6, hrest⟩
        have hel : es.length = i := by rw [hr.len, hxs]
        have fin : ∀ t : Nat → AV, t 4 = .op o4 0 → t 5 = .op o5 0 → RdB o hB (.mk 3 0 noS xs) R → K ⟨t, h'⟩ := fun t t4 t5 hRd =>
          hK _ (cell_end H t4 t5 fB hO (CE.in (fits_small (by omega) (by omega) (by decide) (by omega)) hw.sl.df hr) hRd hw.sl.disc hw.sl.ddisc hw.sl.dd)
        rcases hrest with ⟨v', b', l', hv', hbl', hl', hBo, hrest⟩ | ⟨hRn, v', b', z, hv', hBo⟩
        case inr =>
          have hlv : h' o = some (.arr [v', .sc (.bool true), .sc (.int .i64 z)]) := hO.live hBo
          have fin2 : RdB o hB (.mk 3 0 noS xs) R := by
            rw [hRn]
            exact ⟨v', b', z, hv', hBo⟩
          rcases Nat.lt_or_ge i n with hlt | hge
          · have d8 : 0 < n - i := by omega
            (refine W_seq_gen fun N hN => ?_); simp (disch := first | omega | (simp only [List.length_cons, List.length_nil, List.length_append, u8s_len]; omega)) only [go_sem, ↓reduceIte, true_and, Nat.reduceLeDiff, Nat.reduceEqDiff, Nat.reduceAdd, Nat.reduceBEq, Int.reduceEq, H.cv_3_5, H.cv_5_3, t0, t6, hlv, d8]
            exact fin _ (by simp [upd_at, t4]) (by simp [upd_at, t5]) fin2
          · have d8 : ¬ 0 < n - i := by omega
            (refine W_seq_gen fun N hN => ?_); simp (disch := first | omega | (simp only [List.length_cons, List.length_nil, List.length_append, u8s_len]; omega)) only [go_sem, ↓reduceIte, true_and, Nat.reduceLeDiff, Nat.reduceEqDiff, Nat.reduceAdd, Nat.reduceBEq, Int.reduceEq, H.cv_3_5, H.cv_5_3, t0, t6, hlv, d8]
            exact fin _ (by simp [upd_at, t4]) (by simp [upd_at, t5]) fin2
        have hlv : h' o = some (.arr [v', .sc (.bool false), .sc (.int .i64 ((l' : Nat) : Int))]) := hO.live hBo
        rcases Nat.lt_or_ge i n with hlt | hge
        · have d8 : 0 < n - i := by omega
          have hstep : rlistF (rdS d) (n - i) b' l' = match rdS d b' l' with
            | none => none
            | some (x, b1, l1) => match rlistF (rdS d) (n - (i + 1)) b1 l1 with
              | none => none
              | some (xs, b2, l2) => some (x :: xs, b2, l2) := by
            rw [show n - i = (n - (i + 1)) + 1 by omega]; rfl
          have hbd := rdS_bd d b' l'
          have ihx := fun h4 (e : h4 o = some (rdO v' false ((l' : Nat) : Int))) => ih d (by omega) (by omega) (h := h4) (left := l') hv' (by omega) (by omega) e
          generalize rdS d b' l' = q at hstep ihx hbd
          clear fin
          (refine W_seq_gen fun N hN => ?_); simp (disch := first | omega | (simp only [List.length_cons, List.length_nil, List.length_append, u8s_len]; omega)) only [go_sem, ↓reduceIte, true_and, Nat.reduceLeDiff, Nat.reduceEqDiff, Nat.reduceAdd, Nat.reduceBEq, Int.reduceEq, H.cv_3_5, H.cv_5_3, t0, t6, hlv, d8]
          refine hN _ ?_; clear hN N
          (refine W_seq_gen fun N hN => ?_)
          rw [W_block]
          refine cell_turn H (nn := .sc (.int .i64 ((n - i : Nat) : Int))) hw (by omega) (by omega) (by simp [upd_at, t0]) (by simp [upd_at, t1]) (by simp [upd_at, t4]) (by simp [upd_at, t5]) (by simp [upd_at, t6]) hO (by rw [hBo]; simp) (fun h4 e => ihx h4 (by rw [e, hBo])) ?_
          clear t0 t1 t4 t5 t6
          intro t hB' h5 cs c w' t0 t1 t4 t5 t6 hce hw' hO fB' hq
          refine hN _ ?_; clear hN N
          have e1 : ((n - i : Nat) : Int) - ((1 : Nat) : Int) = ((n - (i + 1) : Nat) : Int) := by omega
          simp (disch := first | omega | (simp only [List.length_cons, List.length_nil, List.length_append, u8s_len]; omega)) only [go_sem, ↓reduceIte, true_and, Nat.reduceLeDiff, Nat.reduceEqDiff, Nat.reduceAdd, Nat.reduceBEq, Int.reduceEq, H.cv_3_5, H.cv_5_3, t6, e1]
          refine ⟨n - (i + 1), by omega, i + 1, xs ++ [c], _, w', hB', rfl, by omega, by simp [hxs], hw', RR.append hr (RR.one hce), hO, fun x hx => by rw [fB' x hx, fB x hx], by simp [upd_at, t0], by simp [upd_at, t1], by simp [upd_at, t4], by simp [upd_at, t5], by simp [upd_at], ?_⟩
          match q with
          | none =>
            obtain ⟨v2, b2, z, hv2, hB2⟩ := hq
            refine .inr ⟨?_, v2, b2, z, hv2, hB2⟩
            rw [hstep] at hrest
            simp only at hrest
            rw [hrest] at hR
            exact hR.symm
          | some (x, b2, l2) =>
            obtain ⟨rfl, v2, hv2, hB2⟩ := hq
            have hb2 := hbd c b2 l2 rfl
            refine .inl ⟨v2, b2, l2, hv2, by omega, by omega, hB2, ?_⟩
            rw [hrest, hstep]
            simp only
            cases rlistF (rdS d) (n - (i + 1)) b2 l2 with
            | none => rfl
            | some y => simp
        · obtain rfl : i = n := by omega
          have d8 : ¬ 0 < i - i := by omega
          rw [Nat.sub_self] at hrest
          simp only [rlistF, List.append_nil] at hrest
          rw [hrest] at hR
          (refine W_seq_gen fun N hN => ?_); simp (disch := first | omega | (simp only [List.length_cons, List.length_nil, List.length_append, u8s_len]; omega)) only [go_sem, ↓reduceIte, true_and, Nat.reduceLeDiff, Nat.reduceEqDiff, Nat.reduceAdd, Nat.reduceBEq, Int.reduceEq, H.cv_3_5, H.cv_5_3, t0, t6, hlv, d8]
          refine fin _ (by simp [upd_at, t4]) (by simp [upd_at, t5]) ?_
          rw [← hR]
          exact ⟨rfl, v', hv', hBo⟩
      rw [if_neg k3] at hR
      have d3 : decide (k0.toNat = 3) = false := decide_eq_false k3
      simp (disch := first | omega | (simp only [List.length_cons, List.length_nil, List.length_append, u8s_len]; omega)) only [go_sem, ↓reduceIte, true_and, Nat.reduceLeDiff, Nat.reduceEqDiff, Nat.reduceAdd, Nat.reduceBEq, Int.reduceEq, H.cv_3_5, H.cv_5_3, t0, t5, t6, hlv, hO.get0, d1, d2, d3]
      exact bad rfl hR.symm _ (by simp [upd_at, t4]) (by simp [upd_at, t5])
end Go.Proofs.Ytjebhcflpibkkaa
end

section
set_option linter.unusedVariables false
set_option linter.unusedSimpArgs false
namespace Go.Proofs.Ytjebhcflpibkkaa
open Go.Am
/-- What the decoder answers. -/
def DcR (b : List UInt8) (r : AV) : Prop :=
  if 65536 < b.length then r = .tu [zeroA, errN 3] else
  (∃ c cs, checkS c = 0 ∧ encB c = b ∧ r = .tu [.ag cs, errN 0] ∧ CE cs c) ∨ ((∀ c, ¬ (checkS c = 0 ∧ encB c = b)) ∧ r = .tu [zeroA, errN 5])
theorem decS_some {b : List UInt8} {c : Cel} (h1 : checkS c = 0) (h2 : encB c = b) : ∃ l, rdS 12 b 4096 = some (c, [], l) := by
  obtain ⟨a1, a2, a3⟩ := checkS_ok h1
  have ho := okC_of c 4096 a2 a3
  have := rdS_enc 12 c [] 4096 (by omega) a2 ho a1 a3
  rw [List.append_nil, h2] at this
  exact ⟨_, this⟩
theorem sl_cells {sz v es} (h : SL sz v es) : v.cells = [v] := by rcases h with ⟨rfl, _⟩ | ⟨o, l, rfl⟩ <;> rfl
variable {P : Program} (H : Has P)
include H
theorem decode_ok {v : AV} {b : List UInt8} (hv0 : SL 1 v (u8s b)) (h : Heap) : AWF P ann 0 16 [v] h fun r h' => DcR b r ∧ h' = h := by
  refine AWF.fnPurec H.f0_16 rfl ?_
  have hO := OB.nil (h := h)
  (refine W_seq_gen fun N hN => ?_); simp (disch := first | omega | (simp only [List.length_cons, List.length_nil, List.length_append, u8s_len]; omega)) only [go_sem, ↓reduceIte, true_and, Nat.reduceLeDiff, Nat.reduceEqDiff, Nat.reduceAdd, Nat.reduceBEq, Int.reduceEq, H.cv_3_5, H.cv_5_3]
  intro o2 h2
  refine hN _ ?_; clear hN N; refine W_ob (hO.new h2) fun hc hO => ?_
  refine W_forget (fun t => t 0 = v ∧ t 2 = .op o2 0 ∧ True) (by simp [upd_at, *] <;> (first | rfl | exact ⟨rfl, rfl⟩ | exact ⟨rfl, rfl, rfl⟩)) ?_; rintro t ⟨t0, t2, -⟩
  have hv := hv0.df
  by_cases c0 : 65536 < b.length
  · (refine W_seq_gen fun N hN => ?_); simp (disch := first | omega | (simp only [List.length_cons, List.length_nil, List.length_append, u8s_len]; omega)) only [go_sem, ↓reduceIte, true_and, Nat.reduceLeDiff, Nat.reduceEqDiff, Nat.reduceAdd, Nat.reduceBEq, Int.reduceEq, H.cv_3_5, H.cv_5_3, t0, t2, hv0.dd, hv0.disc, hv0.ddisc, hv.sl.len, u8s_len, c0, hO.get0]
    refine ⟨?_, hO.st0.keep⟩
    rw [DcR, if_pos c0]
    rfl
  (refine W_seq_gen fun N hN => ?_); simp (disch := first | omega | (simp only [List.length_cons, List.length_nil, List.length_append, u8s_len]; omega)) only [go_sem, ↓reduceIte, true_and, Nat.reduceLeDiff, Nat.reduceEqDiff, Nat.reduceAdd, Nat.reduceBEq, Int.reduceEq, H.cv_3_5, H.cv_5_3, t0, t2, hv0.dd, hv0.disc, hv0.ddisc, hv.sl.len, u8s_len, c0]
  refine hN _ ?_; clear hN N
  (refine W_seq_gen fun N hN => ?_); simp (disch := first | omega | (simp only [List.length_cons, List.length_nil, List.length_append, u8s_len]; omega)) only [go_sem, ↓reduceIte, true_and, Nat.reduceLeDiff, Nat.reduceEqDiff, Nat.reduceAdd, Nat.reduceBEq, Int.reduceEq, H.cv_3_5, H.cv_5_3, t0, hv0.dd, hv0.disc, hv0.ddisc, sl_cells hv.sl, sl_tu hv.sl]
  intro o4 h4
  refine hN _ ?_; clear hN N; refine W_ob (hO.new h4) fun hc hO => ?_
  refine W_forget (fun t => t 0 = v ∧ t 2 = .op o2 0 ∧ t 4 = .op o4 0 ∧ True) (by simp [upd_at, *] <;> (first | rfl | exact ⟨rfl, rfl⟩ | exact ⟨rfl, rfl, rfl⟩)) ?_; rintro t ⟨t0, t2, t4, -⟩
  have n42 : ¬ o4 = o2 := hO.ne01
  have n24 : ¬ o2 = o4 := fun e => n42 e.symm
  (refine W_seq_gen fun N hN => ?_); simp (disch := first | omega | (simp only [List.length_cons, List.length_nil, List.length_append, u8s_len]; omega)) only [go_sem, ↓reduceIte, true_and, Nat.reduceLeDiff, Nat.reduceEqDiff, Nat.reduceAdd, Nat.reduceBEq, Int.reduceEq, H.cv_3_5, H.cv_5_3, t4]
  have e4 : hc o4 = some (rdO v.dis false ((4096 : Nat) : Int)) := hO.get0
  refine (cell_rd H 12 (by omega) hv (by omega) (by omega) e4).mono ?_
  rintro r h5 ⟨cs, c, rfl, hce, hk, hR⟩
  obtain ⟨vv, ees, rfl, hvv, _, _⟩ := id hce.out
  have key := fun c h1 h2 => decS_some (b := b) (c := c) h1 h2
  generalize hq : rdS 12 b 4096 = q at hR key
  match q with
  | none =>
    obtain ⟨v', b', z, hv', h5o⟩ := hR
    replace hO := hO.hear0 hk h5o
    rw [contK_some]; simp (disch := first | omega | (simp only [List.length_cons, List.length_nil, List.length_append, u8s_len]; omega)) only [go_sem, ↓reduceIte, true_and, Nat.reduceLeDiff, Nat.reduceEqDiff, Nat.reduceAdd, Nat.reduceBEq, Int.reduceEq, H.cv_3_5, H.cv_5_3, hvv.disc, hvv.same]
    intro o5 h5n
    have n54 : ¬ o5 = o4 := fun e => by rw [e, h5o] at h5n; cases h5n
    refine hN _ ?_; clear hN N; refine W_ob (hO.new h5n) fun hc hO => ?_
    refine W_forget (fun t => t 0 = v ∧ t 2 = .op o2 0 ∧ t 4 = .op o4 0 ∧ t 5 = .op o5 0 ∧ True) (by simp [upd_at, *] <;> (first | rfl | exact ⟨rfl, rfl⟩ | exact ⟨rfl, rfl, rfl⟩)) ?_; rintro t ⟨t0, t2, t4, t5, -⟩
    (refine W_seq_gen fun N hN => ?_); simp (disch := first | omega | (simp only [List.length_cons, List.length_nil, List.length_append, u8s_len]; omega)) only [go_sem, ↓reduceIte, true_and, Nat.reduceLeDiff, Nat.reduceEqDiff, Nat.reduceAdd, Nat.reduceBEq, Int.reduceEq, H.cv_3_5, H.cv_5_3, t2, t4, hO.get1, hO.get2, rdO]
    refine ⟨?_, hO.st2.keep⟩
    rw [DcR, if_neg c0]
    refine .inr ⟨fun c ⟨q1, q2⟩ => ?_, rfl⟩
    obtain ⟨l, hl⟩ := key c q1 q2
    cases hl
  | some (c', rest, l') =>
    obtain ⟨rfl, v2, hv2, h5o⟩ := hR
    replace hO := hO.hear0 hk h5o
    have bad : (rest = [] → checkS c = 0 → encB c = b → False) → DcR b (.tu [zeroA, errN 5]) := fun hbad => by
      rw [DcR, if_neg c0]
      refine .inr ⟨fun c' ⟨q1, q2⟩ => ?_, rfl⟩
      obtain ⟨l', hl⟩ := key c' q1 q2
      simp only [Option.some.injEq, Prod.mk.injEq] at hl
      obtain ⟨rfl, rfl, rfl⟩ := hl
      exact hbad rfl q1 q2
    rw [contK_some]; simp (disch := first | omega | (simp only [List.length_cons, List.length_nil, List.length_append, u8s_len]; omega)) only [go_sem, ↓reduceIte, true_and, Nat.reduceLeDiff, Nat.reduceEqDiff, Nat.reduceAdd, Nat.reduceBEq, Int.reduceEq, H.cv_3_5, H.cv_5_3, hvv.disc, hvv.same]
    intro o5 h5n
    have n54 : ¬ o5 = o4 := fun e => by rw [e, h5o] at h5n; cases h5n
    refine hN _ ?_; clear hN N; refine W_ob (hO.new h5n) fun hc hO => ?_
    refine W_forget (fun t => t 0 = v ∧ t 2 = .op o2 0 ∧ t 4 = .op o4 0 ∧ t 5 = .op o5 0 ∧ True) (by simp [upd_at, *] <;> (first | rfl | exact ⟨rfl, rfl⟩ | exact ⟨rfl, rfl, rfl⟩)) ?_; rintro t ⟨t0, t2, t4, t5, -⟩
    by_cases c1 : 0 < rest.length
    · (refine W_seq_gen fun N hN => ?_); simp (disch := first | omega | (simp only [List.length_cons, List.length_nil, List.length_append, u8s_len]; omega)) only [go_sem, ↓reduceIte, true_and, Nat.reduceLeDiff, Nat.reduceEqDiff, Nat.reduceAdd, Nat.reduceBEq, Int.reduceEq, H.cv_3_5, H.cv_5_3, t2, t4, hO.get1, hO.get2, rdO, hv2.same, hv2.disc, hv2.sl.len, u8s_len, c1]
      exact ⟨bad fun q _ _ => by subst q; simp at c1, hO.st2.keep⟩
    obtain rfl : rest = [] := List.eq_nil_of_length_eq_zero (by omega)
    have dz : decide ((0 : Nat) < 0) = false := by decide
    (refine W_seq_gen fun N hN => ?_); simp (disch := first | omega | (simp only [List.length_cons, List.length_nil, List.length_append, u8s_len]; omega)) only [go_sem, ↓reduceIte, true_and, Nat.reduceLeDiff, Nat.reduceEqDiff, Nat.reduceAdd, Nat.reduceBEq, Int.reduceEq, H.cv_3_5, H.cv_5_3, t4, t5, hO.get0, hO.get1, rdO, hv2.same, hv2.disc, hv2.sl.len, u8s_len, List.length_nil, dz, hvv.disc, hvv.same]
    refine (check_ok H hce _).mono ?_
    rintro _ _ ⟨rfl, hh⟩; subst hh
    by_cases k0 : checkS c = 0
    case neg =>
      have q : (!decide (checkS c = 0)) = true := by simp [k0]
      rw [contK_some]; simp (disch := first | omega | (simp only [List.length_cons, List.length_nil, List.length_append, u8s_len]; omega)) only [go_sem, ↓reduceIte, true_and, Nat.reduceLeDiff, Nat.reduceEqDiff, Nat.reduceAdd, Nat.reduceBEq, Int.reduceEq, H.cv_3_5, H.cv_5_3, errN, q, t2, hO.get2]
      exact ⟨bad fun _ q _ => k0 q, hO.st2.keep⟩
    rw [k0]
    rw [contK_some]; simp (disch := first | omega | (simp only [List.length_cons, List.length_nil, List.length_append, u8s_len]; omega)) only [go_sem, ↓reduceIte, true_and, Nat.reduceLeDiff, Nat.reduceEqDiff, Nat.reduceAdd, Nat.reduceBEq, Int.reduceEq, H.cv_3_5, H.cv_5_3, errN, t2, t5, hO.get0, hO.get2, hvv.disc, hvv.same]
    refine hN _ ?_; clear hN N
    simp (disch := first | omega | (simp only [List.length_cons, List.length_nil, List.length_append, u8s_len]; omega)) only [go_sem, ↓reduceIte, true_and, Nat.reduceLeDiff, Nat.reduceEqDiff, Nat.reduceAdd, Nat.reduceBEq, Int.reduceEq, H.cv_3_5, H.cv_5_3, t2, t5, hO.get0, hO.get2, hvv.disc, hvv.same]
    refine ⟨?_, hO.st2.keep⟩
    rw [DcR, if_neg c0]
    have hb := rdS_back _ _ _ _ _ _ hq
    rw [List.append_nil] at hb
    exact .inl ⟨c, _, k0, hb.symm, rfl, hce⟩
end Go.Proofs.Ytjebhcflpibkkaa
end

section
set_option linter.unusedVariables false
set_option linter.unusedSimpArgs false
namespace Go.Proofs.Ytjebhcflpibkkaa
open Go.Am
variable {P : Program} (H : Has P)
include H
theorem makes_law {n : Int} {s : ByteArray} {v : AV} {es : List (List AV)} {l : List Cel} (hv : SF 4 v es) (hl : RR CE es l) (hn : -9223372036854775808 ≤ n ∧ n < 9223372036854775808) (hs : s.size < 2 ^ 47) (hb : es.length * 56 ≤ 2 ^ 47) (h : Heap) :
    AWF P ann 0 3 [.sc (.int .i64 n), .sc (.string s), v] h fun r _ => r = .sc (.bool true) := by
  have hes := hl.len
  refine AWF.fnc H.f0_3 rfl ?_
  have hO := OB.nil (h := h)
  (refine W_seq_gen fun N hN => ?_); simp (disch := first | omega | (simp only [List.length_cons, List.length_nil, List.length_append, u8s_len]; omega)) only [go_sem, ↓reduceIte, true_and, Nat.reduceLeDiff, Nat.reduceEqDiff, Nat.reduceAdd, Nat.reduceBEq, Int.reduceEq, H.cv_3_5, H.cv_5_3]
  refine hN _ ?_; clear hN N
  refine W_forget (fun t => t 0 = .sc (.int .i64 n) ∧ t 1 = .sc (.string s) ∧ t 2 = v ∧ True) (by simp [upd_at, *] <;> (first | rfl | exact ⟨rfl, rfl⟩ | exact ⟨rfl, rfl, rfl⟩)) ?_; rintro t ⟨t0, t1, t2, -⟩
  (refine W_seq_gen fun N hN => ?_); simp (disch := first | omega | (simp only [List.length_cons, List.length_nil, List.length_append, u8s_len]; omega)) only [go_sem, ↓reduceIte, true_and, Nat.reduceLeDiff, Nat.reduceEqDiff, Nat.reduceAdd, Nat.reduceBEq, Int.reduceEq, H.cv_3_5, H.cv_5_3, t0, t1, t2, hv.same, hv.disc]
  refine (num_ok H n _).mono ?_
  rintro _ _ ⟨rfl, hh⟩; subst hh
  rw [contK_some]; simp (disch := first | omega | (simp only [List.length_cons, List.length_nil, List.length_append, u8s_len]; omega)) only [go_sem, ↓reduceIte, true_and, Nat.reduceLeDiff, Nat.reduceEqDiff, Nat.reduceAdd, Nat.reduceBEq, Int.reduceEq, H.cv_3_5, H.cv_5_3, t1, t2, hv.same, hv.disc]
  refine (text_ok H s _).mono ?_
  rintro _ _ ⟨rfl, hh⟩; subst hh
  rw [contK_some]; simp (disch := first | omega | (simp only [List.length_cons, List.length_nil, List.length_append, u8s_len]; omega)) only [go_sem, ↓reduceIte, true_and, Nat.reduceLeDiff, Nat.reduceEqDiff, Nat.reduceAdd, Nat.reduceBEq, Int.reduceEq, H.cv_3_5, H.cv_5_3, t1, t2, hv.same, hv.disc]
  refine (list_ok H hv.sl hb _).mono ?_
  rintro _ _ ⟨⟨v', rfl, hv'⟩, hh⟩; subst hh
  rw [contK_some]; simp (disch := first | omega | (simp only [List.length_cons, List.length_nil, List.length_append, u8s_len]; omega)) only [go_sem, ↓reduceIte, true_and, Nat.reduceLeDiff, Nat.reduceEqDiff, Nat.reduceAdd, Nat.reduceBEq, Int.reduceEq, H.cv_3_5, H.cv_5_3, hv'.same, hv'.disc]
  intro o7 h7 o8 h8 o9 h9
  have hO8 := ((hO.new h7 (X := .arr [.sc (.int .i64 (0 : Nat)), .sc (.int .i64 (0 : Nat)), .sc (.string noS), .sc (.slice none 0 0)])).new h8 (X := .arr [.sc (.int .i64 (0 : Nat)), .sc (.int .i64 (0 : Nat)), .sc (.string noS), .sc (.slice none 0 0)])).new h9 (X := .arr [.sc (.int .i64 (0 : Nat)), .sc (.int .i64 (0 : Nat)), .sc (.string noS), .sc (.slice none 0 0)])
  have n98 : ¬ o9 = o8 := hO8.ne01
  have n97 : ¬ o9 = o7 := hO8.ne02
  have n87 : ¬ o8 = o7 := hO8.ne12
  have n89 : ¬ o8 = o9 := fun e => n98 e.symm
  have n79 : ¬ o7 = o9 := fun e => n97 e.symm
  have n78 : ¬ o7 = o8 := fun e => n87 e.symm
  clear hO
  simp (disch := first | omega | (simp only [List.length_cons, List.length_nil, List.length_append, u8s_len]; omega)) only [go_sem, ↓reduceIte, true_and, Nat.reduceLeDiff, Nat.reduceEqDiff, Nat.reduceAdd, Nat.reduceBEq, Int.reduceEq, H.cv_3_5, H.cv_5_3, n98, n97, n87, n89, n79, n78]
  refine hN _ ?_; clear hN N; refine W_ob (hO8.st2.st1.st0) fun hc hO => ?_
  clear hO8
  refine W_forget (fun t => t 0 = .sc (.int .i64 n) ∧ t 1 = .sc (.string s) ∧ t 2 = v ∧ t 7 = .op o7 0 ∧ t 8 = .op o8 0 ∧ t 9 = .op o9 0 ∧ True) (by simp [upd_at, *] <;> (first | rfl | exact ⟨rfl, rfl⟩ | exact ⟨rfl, rfl, rfl⟩)) ?_; rintro t ⟨t0, t1, t2, t7, t8, t9, -⟩
  -- DEF T: t0, t1, t2, t7, t8, t9, hO.get0, hO.get1, hO.get2, hv.same, hv.disc, hv'.same, hv'.disc, hv.sl.cells, sl_tu hv.sl
  have ca : CE [.sc (.int .i64 ((1 : Nat) : Int)), .sc (.int .i64 n), .sc (.string noS), .sc (.slice none 0 0)] (.mk 1 n noS []) :=
    CE.in (fits_small (by omega) (by omega) (by decide) (by decide)) SF.nil RR.nil
  have cb : CE [.sc (.int .i64 ((2 : Nat) : Int)), .sc (.int .i64 ((0 : Nat) : Int)), .sc (.string s), .sc (.slice none 0 0)] (.mk 2 0 s []) :=
    CE.in (fits_small (by omega) (by omega) hs (by decide)) SF.nil RR.nil
  have cc : CE [.sc (.int .i64 ((3 : Nat) : Int)), .sc (.int .i64 ((0 : Nat) : Int)), .sc (.string noS), v'] (.mk 3 0 noS l) :=
    CE.in (fits_small (by omega) (by omega) (by decide) (by omega)) hv' hl
  have cd : CE [.sc (.int .i64 ((3 : Nat) : Int)), .sc (.int .i64 ((0 : Nat) : Int)), .sc (.string noS), v] (.mk 3 0 noS l) :=
    CE.in (fits_small (by omega) (by omega) (by decide) (by omega)) hv hl
  generalize hz : sizeS (.mk 3 0 noS l) 0 = z
  have hsz := size_ok H (.mk 3 0 noS l) _ ((0 : Nat) : Int) (by omega) (by omega) cc
  rw [show sizeS (.mk 3 0 noS l) ((0 : Nat) : Int) = z from hz] at hsz
  by_cases c1 : z > ((6000 : Nat) : Int)
  · (refine W_seq_gen fun N hN => ?_); simp (disch := first | omega | (simp only [List.length_cons, List.length_nil, List.length_append, u8s_len]; omega)) only [go_sem, ↓reduceIte, true_and, Nat.reduceLeDiff, Nat.reduceEqDiff, Nat.reduceAdd, Nat.reduceBEq, Int.reduceEq, H.cv_3_5, H.cv_5_3, t0, t1, t2, t7, t8, t9, hO.get0, hO.get1, hO.get2, hv.same, hv.disc, hv'.same, hv'.disc, hv.sl.cells, sl_tu hv.sl]
    refine (hsz _).mono ?_
    rintro _ _ ⟨rfl, hh⟩; subst hh
    rw [contK_some]; simp (disch := first | omega | (simp only [List.length_cons, List.length_nil, List.length_append, u8s_len]; omega)) only [go_sem, ↓reduceIte, true_and, Nat.reduceLeDiff, Nat.reduceEqDiff, Nat.reduceAdd, Nat.reduceBEq, Int.reduceEq, H.cv_3_5, H.cv_5_3, c1]
    refine (awake_ok H _).mono ?_
    rintro _ _ ⟨rfl, hh⟩; subst hh
    rw [contK_some]; simp (disch := first | omega | (simp only [List.length_cons, List.length_nil, List.length_append, u8s_len]; omega)) only [go_sem, ↓reduceIte, true_and, Nat.reduceLeDiff, Nat.reduceEqDiff, Nat.reduceAdd, Nat.reduceBEq, Int.reduceEq, H.cv_3_5, H.cv_5_3]
  by_cases c2 : s.size > 6000
  · (refine W_seq_gen fun N hN => ?_); simp (disch := first | omega | (simp only [List.length_cons, List.length_nil, List.length_append, u8s_len]; omega)) only [go_sem, ↓reduceIte, true_and, Nat.reduceLeDiff, Nat.reduceEqDiff, Nat.reduceAdd, Nat.reduceBEq, Int.reduceEq, H.cv_3_5, H.cv_5_3, t0, t1, t2, t7, t8, t9, hO.get0, hO.get1, hO.get2, hv.same, hv.disc, hv'.same, hv'.disc, hv.sl.cells, sl_tu hv.sl]
    refine (hsz _).mono ?_
    rintro _ _ ⟨rfl, hh⟩; subst hh
    rw [contK_some]; simp (disch := first | omega | (simp only [List.length_cons, List.length_nil, List.length_append, u8s_len]; omega)) only [go_sem, ↓reduceIte, true_and, Nat.reduceLeDiff, Nat.reduceEqDiff, Nat.reduceAdd, Nat.reduceBEq, Int.reduceEq, H.cv_3_5, H.cv_5_3, c1, c2, t0, t1, t2, t7, t8, t9, hO.get0, hO.get1, hO.get2, hv.same, hv.disc, hv'.same, hv'.disc, hv.sl.cells, sl_tu hv.sl]
    refine (awake_ok H _).mono ?_
    rintro _ _ ⟨rfl, hh⟩; subst hh
    rw [contK_some]; simp (disch := first | omega | (simp only [List.length_cons, List.length_nil, List.length_append, u8s_len]; omega)) only [go_sem, ↓reduceIte, true_and, Nat.reduceLeDiff, Nat.reduceEqDiff, Nat.reduceAdd, Nat.reduceBEq, Int.reduceEq, H.cv_3_5, H.cv_5_3]
  (refine W_seq_gen fun N hN => ?_); simp (disch := first | omega | (simp only [List.length_cons, List.length_nil, List.length_append, u8s_len]; omega)) only [go_sem, ↓reduceIte, true_and, Nat.reduceLeDiff, Nat.reduceEqDiff, Nat.reduceAdd, Nat.reduceBEq, Int.reduceEq, H.cv_3_5, H.cv_5_3, t0, t1, t2, t7, t8, t9, hO.get0, hO.get1, hO.get2, hv.same, hv.disc, hv'.same, hv'.disc, hv.sl.cells, sl_tu hv.sl]
  refine (hsz _).mono ?_
  rintro _ _ ⟨rfl, hh⟩; subst hh
  rw [contK_some]; simp (disch := first | omega | (simp only [List.length_cons, List.length_nil, List.length_append, u8s_len]; omega)) only [go_sem, ↓reduceIte, true_and, Nat.reduceLeDiff, Nat.reduceEqDiff, Nat.reduceAdd, Nat.reduceBEq, Int.reduceEq, H.cv_3_5, H.cv_5_3, c1, c2, t0, t1, t2, t7, t8, t9, hO.get0, hO.get1, hO.get2, hv.same, hv.disc, hv'.same, hv'.disc, hv.sl.cells, sl_tu hv.sl]
  refine hN _ ?_; clear hN N
  simp (disch := first | omega | (simp only [List.length_cons, List.length_nil, List.length_append, u8s_len]; omega)) only [go_sem, ↓reduceIte, true_and, Nat.reduceLeDiff, Nat.reduceEqDiff, Nat.reduceAdd, Nat.reduceBEq, Int.reduceEq, H.cv_3_5, H.cv_5_3, t0, t1, t2, t7, t8, t9, hO.get0, hO.get1, hO.get2, hv.same, hv.disc, hv'.same, hv'.disc, hv.sl.cells, sl_tu hv.sl]
  refine (same_ok H _ _ _ _ ca ca _).mono ?_
  rw [sameS_refl]
  rintro _ _ ⟨rfl, hh⟩; subst hh
  rw [contK_some]; simp (disch := first | omega | (simp only [List.length_cons, List.length_nil, List.length_append, u8s_len]; omega)) only [go_sem, ↓reduceIte, true_and, Nat.reduceLeDiff, Nat.reduceEqDiff, Nat.reduceAdd, Nat.reduceBEq, Int.reduceEq, H.cv_3_5, H.cv_5_3, t0, t1, t2, t7, t8, t9, hO.get0, hO.get1, hO.get2, hv.same, hv.disc, hv'.same, hv'.disc, hv.sl.cells, sl_tu hv.sl]
  refine (same_ok H _ _ _ _ cb cb _).mono ?_
  rw [sameS_refl]
  rintro _ _ ⟨rfl, hh⟩; subst hh
  rw [contK_some]; simp (disch := first | omega | (simp only [List.length_cons, List.length_nil, List.length_append, u8s_len]; omega)) only [go_sem, ↓reduceIte, true_and, Nat.reduceLeDiff, Nat.reduceEqDiff, Nat.reduceAdd, Nat.reduceBEq, Int.reduceEq, H.cv_3_5, H.cv_5_3, t0, t1, t2, t7, t8, t9, hO.get0, hO.get1, hO.get2, hv.same, hv.disc, hv'.same, hv'.disc, hv.sl.cells, sl_tu hv.sl]
  refine (same_ok H _ _ _ _ cc cd _).mono ?_
  rw [sameS_refl]
  rintro _ _ ⟨rfl, hh⟩; subst hh
  rw [contK_some]; simp (disch := first | omega | (simp only [List.length_cons, List.length_nil, List.length_append, u8s_len]; omega)) only [go_sem, ↓reduceIte, true_and, Nat.reduceLeDiff, Nat.reduceEqDiff, Nat.reduceAdd, Nat.reduceBEq, Int.reduceEq, H.cv_3_5, H.cv_5_3]
  refine (awake_ok H _).mono ?_
  rintro _ _ ⟨rfl, hh⟩; subst hh
  rw [contK_some]; simp (disch := first | omega | (simp only [List.length_cons, List.length_nil, List.length_append, u8s_len]; omega)) only [go_sem, ↓reduceIte, true_and, Nat.reduceLeDiff, Nat.reduceEqDiff, Nat.reduceAdd, Nat.reduceBEq, Int.reduceEq, H.cv_3_5, H.cv_5_3]
end Go.Proofs.Ytjebhcflpibkkaa
end

section
set_option linter.unusedVariables false
set_option linter.unusedSimpArgs false
namespace Go.Proofs.Ytjebhcflpibkkaa
open Go.Am
abbrev slW : TypeId → Nat → Prop := fun e n => n * Try.prog.bytesOf e ≤ reachBytes
abbrev stW : Nat → Prop := fun n => n ≤ reachBytes
theorem cells24 : Try.prog.cellsOf 24 = 4 := by kernel_rfl
theorem bytes24 : Try.prog.bytesOf 24 = 56 := by kernel_rfl
theorem i64_rng {x : Int} (h : IntKind.i64.min ≤ x ∧ x ≤ IntKind.i64.max) : -9223372036854775808 ≤ x ∧ x < 9223372036854775808 := by
  simp [IntKind.min, IntKind.max, IntKind.signed, IntKind.bits] at h
  omega
theorem len_rng {α : Type} {xs : List α} (h : xs ≠ [] → slW 24 xs.length) : xs.length * 56 ≤ 2 ^ 47 := by
  by_cases hx : xs = []
  · subst hx; simp
  · have := h hx
    simp only [slW, bytes24, reachBytes] at this
    omega
theorem cell_av : ∀ (m : Nat) (x : List AV), OkAv Try.prog slW stW m 24 x → ∃ c, CE x c := by
  intro m
  induction m using Nat.strongRecOn with
  | _ m ih =>
    intro x hx
    obtain ⟨k, hk, hf⟩ := okav_struct Try.underlying24 hx
    obtain ⟨a, b, rfl, ha, b1, b2, rfl, hb, c1, c2, rfl, hc, d1, d2, rfl, hd, rfl⟩ := hf
    obtain ⟨kk, rfl, hkk⟩ := okav_int Try.underlying3 ha
    obtain ⟨nn, rfl, hnn⟩ := okav_int Try.underlying3 hb
    obtain ⟨s, rfl, hs1, hs2⟩ := okav_string Try.underlying9 hc
    obtain ⟨w, es, xs, rfl, h1, h2, h3, h4⟩ := okav_slice (R := CE) Try.underlying22 cells24 (fun m' x' hm' hx' => ih m' (by omega) x' hx') hd
    have hl := len_rng h4
    refine ⟨.mk kk nn s xs, CE.in (fits_small (i64_rng hkk) (i64_rng hnn) ?_ (by omega)) h1 h2⟩
    simp only [stW, reachBytes] at hs2
    omega
theorem cells_arg {a : AV} (h : OkArg Try.prog slW stW 22 a) : ∃ es l, SF 4 a es ∧ RR CE es l ∧ es.length * 56 ≤ 2 ^ 47 := by
  obtain ⟨es, xs, h1, h2, h3, h4⟩ := okarg_slice (R := CE) Try.underlying22 cells24 (fun m x hx => cell_av m x hx) h
  exact ⟨es, xs, h1, h2, by rw [h2.len]; exact len_rng h4⟩
theorem cell_arg {a : AV} (h : OkArg Try.prog slW stW 24 a) : ∃ cs c, a = .ag cs ∧ CE cs c := by
  obtain ⟨n, cs, rfl, hf⟩ := okarg_struct Try.underlying24 h
  have : OkAv Try.prog slW stW (n + 1) 24 cs := by
    simp only [OkAv, Try.underlying24]
    exact hf
  obtain ⟨c, hc⟩ := cell_av _ _ this
  exact ⟨cs, c, rfl, hc⟩
theorem makes_row {avs : List AV} (h : okArgs Try.prog slW stW Try.f3.params.toList avs) : AWF Try.prog ann 0 3 avs (fun _ => none) fun v _ => v = .sc (.bool true) := by
  obtain ⟨a, b, c, rfl, ha, hb, hc⟩ := okArgs3 (t := 3) (u := 9) (v := 22) h
  obtain ⟨n, rfl, hn⟩ := okarg_int Try.underlying3 ha
  obtain ⟨s, rfl, _, hs⟩ := okarg_string Try.underlying9 hb
  obtain ⟨es, l, h1, h2, h3⟩ := cells_arg hc
  simp only [stW, reachBytes] at hs
  exact makes_law has h1 h2 (i64_rng hn) (by omega) h3 _
end Go.Proofs.Ytjebhcflpibkkaa
end

section
set_option linter.unusedVariables false
set_option linter.unusedSimpArgs false
namespace Go.Proofs.Ytjebhcflpibkkaa
open Go.Am
theorem zero_ce : CE [.sc (.int .i64 ((0 : Nat) : Int)), .sc (.int .i64 ((0 : Nat) : Int)), .sc (.string noS), .sc (.slice none 0 0)] (.mk 0 0 noS []) :=
  CE.in (fits_small (by omega) (by omega) (by decide) (by decide)) SF.nil RR.nil
section
variable {P : Program} (H : Has P)
include H
theorem decodes_law {v : AV} {b : List UInt8} (hv : SF 1 v (u8s b)) (hb : b.length ≤ 2 ^ 47) (h : Heap) :
    AWF P ann 0 6 [v] h fun r _ => r = .sc (.bool true) := by
  refine AWF.fnc H.f0_6 rfl ?_
  have hO := OB.nil (h := h)
  (refine W_seq_gen fun N hN => ?_); simp (disch := first | omega | (simp only [List.length_cons, List.length_nil, List.length_append, u8s_len]; omega)) only [go_sem, ↓reduceIte, true_and, Nat.reduceLeDiff, Nat.reduceEqDiff, Nat.reduceAdd, Nat.reduceBEq, Int.reduceEq, H.cv_3_5, H.cv_5_3]
  refine hN _ ?_; clear hN N
  refine W_forget (fun t => t 0 = v ∧ True) (by simp [upd_at, *] <;> (first | rfl | exact ⟨rfl, rfl⟩ | exact ⟨rfl, rfl, rfl⟩)) ?_; rintro t ⟨t0, -⟩
  by_cases c1 : 3000 < b.length ∧ b.length ≤ 65536
  · obtain ⟨c1, c2⟩ := c1
    (refine W_seq_gen fun N hN => ?_); simp (disch := first | omega | (simp only [List.length_cons, List.length_nil, List.length_append, u8s_len]; omega)) only [go_sem, ↓reduceIte, true_and, Nat.reduceLeDiff, Nat.reduceEqDiff, Nat.reduceAdd, Nat.reduceBEq, Int.reduceEq, H.cv_3_5, H.cv_5_3, t0, hv.same, hv.disc, hv.sl.len, u8s_len, c1, c2]
    refine (awake_ok H _).mono ?_
    rintro _ _ ⟨rfl, hh⟩; subst hh
    rw [contK_some]; simp (disch := first | omega | (simp only [List.length_cons, List.length_nil, List.length_append, u8s_len]; omega)) only [go_sem, ↓reduceIte, true_and, Nat.reduceLeDiff, Nat.reduceEqDiff, Nat.reduceAdd, Nat.reduceBEq, Int.reduceEq, H.cv_3_5, H.cv_5_3]
  have happ := fun (t : Nat → AV) (h : Heap) => (SG.bs (sz := 1) (es := []) (lim := some 0)).app (t := t) (h := h) (ys := u8s b) (bytes := 1) (by rw [u8s_len]; simpa using hb)
  have hc := (SG.bs (sz := 1) (es := []) (lim := some 0)).cat (u8s b)
  rw [List.nil_append] at hc
  generalize catV 1 (u8s b) (.bs true 1 [] (some 0)) = w at happ hc
  (refine W_seq_gen fun M hM => ?_)
  have go : ∀ t, t 0 = v → M ⟨t, h⟩ := by
    clear t0 t
    intro t t0
    refine hM _ ?_; clear hM M
    (refine W_seq_gen fun N hN => ?_); simp (disch := first | omega | (simp only [List.length_cons, List.length_nil, List.length_append, u8s_len]; omega)) only [go_sem, ↓reduceIte, true_and, Nat.reduceLeDiff, Nat.reduceEqDiff, Nat.reduceAdd, Nat.reduceBEq, Int.reduceEq, H.cv_3_5, H.cv_5_3, t0, hv.same, hv.disc, hv.sl.elems, happ]
    refine (decode_ok H hc.sl _).mono ?_
    rintro r _ ⟨hr, hh⟩; subst hh
    by_cases c2 : 65536 < b.length
    · rw [DcR, if_pos c2] at hr
      subst hr
      rw [contK_some]; simp (disch := first | omega | (simp only [List.length_cons, List.length_nil, List.length_append, u8s_len]; omega)) only [go_sem, ↓reduceIte, true_and, Nat.reduceLeDiff, Nat.reduceEqDiff, Nat.reduceAdd, Nat.reduceBEq, Int.reduceEq, H.cv_3_5, H.cv_5_3, zeroA, errN]
      intro o3 h3
      refine hN _ ?_; clear hN N; refine W_ob (hO.new h3) fun hc hO => ?_
      refine W_forget (fun t => t 0 = v ∧ t 3 = .op o3 0 ∧ t 4 = .sc (.int .i64 ((3 : Nat) : Int)) ∧ True) (by simp [upd_at, *] <;> (first | rfl | exact ⟨rfl, rfl⟩ | exact ⟨rfl, rfl, rfl⟩)) ?_; rintro t ⟨t0, t3, t4, -⟩
      (refine W_seq_gen fun N hN => ?_); simp (disch := first | omega | (simp only [List.length_cons, List.length_nil, List.length_append, u8s_len]; omega)) only [go_sem, ↓reduceIte, true_and, Nat.reduceLeDiff, Nat.reduceEqDiff, Nat.reduceAdd, Nat.reduceBEq, Int.reduceEq, H.cv_3_5, H.cv_5_3, t0, t3, t4, hv.same, hv.disc, hv.sl.len, u8s_len, c2, hO.get0]
      refine (same_ok H _ _ _ _ zero_ce zero_ce _).mono ?_
      rintro _ _ ⟨rfl, hh⟩; subst hh
      rw [sameS_refl]
      rw [contK_some]; simp (disch := first | omega | (simp only [List.length_cons, List.length_nil, List.length_append, u8s_len]; omega)) only [go_sem, ↓reduceIte, true_and, Nat.reduceLeDiff, Nat.reduceEqDiff, Nat.reduceAdd, Nat.reduceBEq, Int.reduceEq, H.cv_3_5, H.cv_5_3]
      refine (awake_ok H _).mono ?_
      rintro _ _ ⟨rfl, hh⟩; subst hh
      rw [contK_some]; simp (disch := first | omega | (simp only [List.length_cons, List.length_nil, List.length_append, u8s_len]; omega)) only [go_sem, ↓reduceIte, true_and, Nat.reduceLeDiff, Nat.reduceEqDiff, Nat.reduceAdd, Nat.reduceBEq, Int.reduceEq, H.cv_3_5, H.cv_5_3]
    rw [DcR, if_neg c2] at hr
    have hrd := rdecode_ok H hv (by omega)
    rcases hr with ⟨c, cs, k0, k1, rfl, hce⟩ | ⟨hno, rfl⟩
    · obtain ⟨vv, ees, rfl, hvv, _, _⟩ := id hce.out
      rw [contK_some]; simp (disch := first | omega | (simp only [List.length_cons, List.length_nil, List.length_append, u8s_len]; omega)) only [go_sem, ↓reduceIte, true_and, Nat.reduceLeDiff, Nat.reduceEqDiff, Nat.reduceAdd, Nat.reduceBEq, Int.reduceEq, H.cv_3_5, H.cv_5_3, errN, hvv.disc, hvv.same]
      intro o3 h3
      refine hN _ ?_; clear hN N; refine W_ob (hO.new h3) fun hc hO => ?_
      refine W_forget (fun t => t 0 = v ∧ t 3 = .op o3 0 ∧ t 4 = .sc (.int .i64 ((0 : Nat) : Int)) ∧ True) (by simp [upd_at, *] <;> (first | rfl | exact ⟨rfl, rfl⟩ | exact ⟨rfl, rfl, rfl⟩)) ?_; rintro t ⟨t0, t3, t4, -⟩
      (refine W_seq_gen fun N hN => ?_); simp (disch := first | omega | (simp only [List.length_cons, List.length_nil, List.length_append, u8s_len]; omega)) only [go_sem, ↓reduceIte, true_and, Nat.reduceLeDiff, Nat.reduceEqDiff, Nat.reduceAdd, Nat.reduceBEq, Int.reduceEq, H.cv_3_5, H.cv_5_3, t0, hv.same, hv.disc, hv.sl.len, u8s_len, c2]
      refine hN _ ?_; clear hN N
      (refine W_seq_gen fun N hN => ?_); simp (disch := first | omega | (simp only [List.length_cons, List.length_nil, List.length_append, u8s_len]; omega)) only [go_sem, ↓reduceIte, true_and, Nat.reduceLeDiff, Nat.reduceEqDiff, Nat.reduceAdd, Nat.reduceBEq, Int.reduceEq, H.cv_3_5, H.cv_5_3, t0, hv.same, hv.disc]
      refine (hrd _).mono ?_
      rintro r _ ⟨hr, hh⟩; subst hh
      rcases hr with ⟨c', cs', q0, q1, rfl, hce'⟩ | ⟨hno, rfl⟩
      case inr => exact absurd ⟨k0, k1⟩ (hno c)
      obtain rfl : c = c' := by
        obtain ⟨l, h1⟩ := decS_some k0 k1
        obtain ⟨l', h2⟩ := decS_some q0 q1
        rw [h1] at h2
        simp only [Option.some.injEq, Prod.mk.injEq] at h2
        exact h2.1
      obtain ⟨vw, ees', rfl, hvw, _, _⟩ := id hce'.out
      rw [contK_some]; simp (disch := first | omega | (simp only [List.length_cons, List.length_nil, List.length_append, u8s_len]; omega)) only [go_sem, ↓reduceIte, true_and, Nat.reduceLeDiff, Nat.reduceEqDiff, Nat.reduceAdd, Nat.reduceBEq, Int.reduceEq, H.cv_3_5, H.cv_5_3, hvw.disc, hvw.same]
      intro o5 h5
      refine hN _ ?_; clear hN N; refine W_ob (hO.new h5) fun hc hO => ?_
      refine W_forget (fun t => t 0 = v ∧ t 3 = .op o3 0 ∧ t 4 = .sc (.int .i64 ((0 : Nat) : Int)) ∧ t 5 = .op o5 0 ∧ t 6 = .sc (.bool true) ∧ True) (by simp [upd_at, *] <;> (first | rfl | exact ⟨rfl, rfl⟩ | exact ⟨rfl, rfl, rfl⟩)) ?_; rintro t ⟨t0, t3, t4, t5, t6, -⟩
      (refine W_seq_gen fun N hN => ?_); simp (disch := first | omega | (simp only [List.length_cons, List.length_nil, List.length_append, u8s_len]; omega)) only [go_sem, ↓reduceIte, true_and, Nat.reduceLeDiff, Nat.reduceEqDiff, Nat.reduceAdd, Nat.reduceBEq, Int.reduceEq, H.cv_3_5, H.cv_5_3, t6]
      refine hN _ ?_; clear hN N
      simp (disch := first | omega | (simp only [List.length_cons, List.length_nil, List.length_append, u8s_len]; omega)) only [go_sem, ↓reduceIte, true_and, Nat.reduceLeDiff, Nat.reduceEqDiff, Nat.reduceAdd, Nat.reduceBEq, Int.reduceEq, H.cv_3_5, H.cv_5_3, t3, t4, t5, hO.get0, hO.get1, hvv.disc, hvv.same, hvw.disc, hvw.same]
      refine (same_ok H _ _ _ _ hce hce' _).mono ?_
      rintro _ _ ⟨rfl, hh⟩; subst hh
      rw [sameS_refl]
      rw [contK_some]; simp (disch := first | omega | (simp only [List.length_cons, List.length_nil, List.length_append, u8s_len]; omega)) only [go_sem, ↓reduceIte, true_and, Nat.reduceLeDiff, Nat.reduceEqDiff, Nat.reduceAdd, Nat.reduceBEq, Int.reduceEq, H.cv_3_5, H.cv_5_3]
      refine (awake_ok H _).mono ?_
      rintro _ _ ⟨rfl, hh⟩; subst hh
      rw [contK_some]; simp (disch := first | omega | (simp only [List.length_cons, List.length_nil, List.length_append, u8s_len]; omega)) only [go_sem, ↓reduceIte, true_and, Nat.reduceLeDiff, Nat.reduceEqDiff, Nat.reduceAdd, Nat.reduceBEq, Int.reduceEq, H.cv_3_5, H.cv_5_3]
    · rw [contK_some]; simp (disch := first | omega | (simp only [List.length_cons, List.length_nil, List.length_append, u8s_len]; omega)) only [go_sem, ↓reduceIte, true_and, Nat.reduceLeDiff, Nat.reduceEqDiff, Nat.reduceAdd, Nat.reduceBEq, Int.reduceEq, H.cv_3_5, H.cv_5_3, zeroA, errN]
      intro o3 h3
      refine hN _ ?_; clear hN N; refine W_ob (hO.new h3) fun hc hO => ?_
      refine W_forget (fun t => t 0 = v ∧ t 3 = .op o3 0 ∧ t 4 = .sc (.int .i64 ((5 : Nat) : Int)) ∧ True) (by simp [upd_at, *] <;> (first | rfl | exact ⟨rfl, rfl⟩ | exact ⟨rfl, rfl, rfl⟩)) ?_; rintro t ⟨t0, t3, t4, -⟩
      (refine W_seq_gen fun N hN => ?_); simp (disch := first | omega | (simp only [List.length_cons, List.length_nil, List.length_append, u8s_len]; omega)) only [go_sem, ↓reduceIte, true_and, Nat.reduceLeDiff, Nat.reduceEqDiff, Nat.reduceAdd, Nat.reduceBEq, Int.reduceEq, H.cv_3_5, H.cv_5_3, t0, hv.same, hv.disc, hv.sl.len, u8s_len, c2]
      refine hN _ ?_; clear hN N
      (refine W_seq_gen fun N hN => ?_); simp (disch := first | omega | (simp only [List.length_cons, List.length_nil, List.length_append, u8s_len]; omega)) only [go_sem, ↓reduceIte, true_and, Nat.reduceLeDiff, Nat.reduceEqDiff, Nat.reduceAdd, Nat.reduceBEq, Int.reduceEq, H.cv_3_5, H.cv_5_3, t0, hv.same, hv.disc]
      refine (hrd _).mono ?_
      rintro r _ ⟨hr, hh⟩; subst hh
      rcases hr with ⟨c', cs', q0, q1, rfl, hce'⟩ | ⟨_, rfl⟩
      case inl => exact absurd ⟨q0, q1⟩ (hno c')
      rw [contK_some]; simp (disch := first | omega | (simp only [List.length_cons, List.length_nil, List.length_append, u8s_len]; omega)) only [go_sem, ↓reduceIte, true_and, Nat.reduceLeDiff, Nat.reduceEqDiff, Nat.reduceAdd, Nat.reduceBEq, Int.reduceEq, H.cv_3_5, H.cv_5_3, zeroA]
      intro o5 h5
      refine hN _ ?_; clear hN N; refine W_ob (hO.new h5) fun hc hO => ?_
      refine W_forget (fun t => t 0 = v ∧ t 3 = .op o3 0 ∧ t 4 = .sc (.int .i64 ((5 : Nat) : Int)) ∧ t 5 = .op o5 0 ∧ t 6 = .sc (.bool false) ∧ True) (by simp [upd_at, *] <;> (first | rfl | exact ⟨rfl, rfl⟩ | exact ⟨rfl, rfl, rfl⟩)) ?_; rintro t ⟨t0, t3, t4, t5, t6, -⟩
      (refine W_seq_gen fun N hN => ?_); simp (disch := first | omega | (simp only [List.length_cons, List.length_nil, List.length_append, u8s_len]; omega)) only [go_sem, ↓reduceIte, true_and, Nat.reduceLeDiff, Nat.reduceEqDiff, Nat.reduceAdd, Nat.reduceBEq, Int.reduceEq, H.cv_3_5, H.cv_5_3, t3, t4, t6, hO.get1]
      refine (same_ok H _ _ _ _ zero_ce zero_ce _).mono ?_
      rintro _ _ ⟨rfl, hh⟩; subst hh
      rw [sameS_refl]
      rw [contK_some]; simp (disch := first | omega | (simp only [List.length_cons, List.length_nil, List.length_append, u8s_len]; omega)) only [go_sem, ↓reduceIte, true_and, Nat.reduceLeDiff, Nat.reduceEqDiff, Nat.reduceAdd, Nat.reduceBEq, Int.reduceEq, H.cv_3_5, H.cv_5_3]
      refine (awake_ok H _).mono ?_
      rintro _ _ ⟨rfl, hh⟩; subst hh
      rw [contK_some]; simp (disch := first | omega | (simp only [List.length_cons, List.length_nil, List.length_append, u8s_len]; omega)) only [go_sem, ↓reduceIte, true_and, Nat.reduceLeDiff, Nat.reduceEqDiff, Nat.reduceAdd, Nat.reduceBEq, Int.reduceEq, H.cv_3_5, H.cv_5_3]
  by_cases c2 : 3000 < b.length
  · have d3 : ¬ b.length ≤ 65536 := by omega
    simp (disch := first | omega | (simp only [List.length_cons, List.length_nil, List.length_append, u8s_len]; omega)) only [go_sem, ↓reduceIte, true_and, Nat.reduceLeDiff, Nat.reduceEqDiff, Nat.reduceAdd, Nat.reduceBEq, Int.reduceEq, H.cv_3_5, H.cv_5_3, t0, hv.same, hv.disc, hv.sl.len, u8s_len, c2, d3]
    exact go _ (by simp [upd_at, t0])
  · simp (disch := first | omega | (simp only [List.length_cons, List.length_nil, List.length_append, u8s_len]; omega)) only [go_sem, ↓reduceIte, true_and, Nat.reduceLeDiff, Nat.reduceEqDiff, Nat.reduceAdd, Nat.reduceBEq, Int.reduceEq, H.cv_3_5, H.cv_5_3, t0, hv.same, hv.disc, hv.sl.len, u8s_len, c2]
    exact go _ (by simp [upd_at, t0])
end
theorem decodes_row {avs : List AV} (h : okArgs Try.prog slW stW Try.f6.params.toList avs) : AWF Try.prog ann 0 6 avs (fun _ => none) fun v _ => v = .sc (.bool true) := by
  obtain ⟨a, rfl, ha⟩ := okArgs1 (t := 32) h
  obtain ⟨b, h1, h2, h3⟩ := okarg_bytes Try.underlying32 Try.underlying5 (by kernel_rfl) ha
  refine decodes_law has h1 ?_ _
  by_cases hb : b = []
  · subst hb; simp
  · have := h3 hb
    have b5 : Try.prog.bytesOf 5 = 1 := by kernel_rfl
    simp only [slW, b5, reachBytes] at this
    omega
end Go.Proofs.Ytjebhcflpibkkaa
end
