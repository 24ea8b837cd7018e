/- What the functions come to: a cell's bytes. -/
import Derived.Test.YtjebhcflpibkkaaCellFn5
set_option linter.unusedVariables false
set_option linter.unusedSimpArgs false
namespace Go.Proofs.Ytjebhcflpibkkaa
open Go.Am
theorem aexIsnil_bs {neg own sz es lim} {t : Nat → AV} {h : Heap} : aexIsnil 0 neg t h (.bs own sz es lim) = some (.val (.sc (.bool neg)) t h) := rfl
theorem aexIsnil_f {t : Nat → AV} {h : Heap} : aexIsnil 0 false t h (.sc (.slice none 0 0)) = some (.val (.sc (.bool true)) t h) := rfl
theorem aexIsnil_t {t : Nat → AV} {h : Heap} : aexIsnil 0 true t h (.sc (.slice none 0 0)) = some (.val (.sc (.bool false)) t h) := rfl
attribute [go_sem] aexIsnil_bs aexIsnil_f aexIsnil_t
def zig (n : Int) : Nat := if n < 0 then (-2 * n - 1).toNat else (2 * n).toNat
mutual
def encB : Cel → List UInt8
  | .mk k n s l => UInt8.ofNat (k % 256).toNat :: (if k = 1 then numB (zig n) else if k = 2 then numB s.size ++ s.data.toList else numB l.length ++ encL l)
def encL : List Cel → List UInt8
  | [] => []
  | c :: l => encB c ++ encL l
end
theorem encL_append (l m : List Cel) : encL (l ++ m) = encL l ++ encL m := by
  induction l with
  | nil => rw [encL]; rfl
  | cons c l ih => rw [List.cons_append, encL, encL, ih, List.append_assoc]
theorem encL_take {l : List Cel} {i : Nat} (h : i < l.length) : encL (l.take (i + 1)) = encL (l.take i) ++ encB l[i] := by
  have : l.take (i + 1) = l.take i ++ [l[i]] := by rw [List.take_add_one]; simp [h]
  rw [this, encL_append, encL, encL, List.append_nil]
theorem encL_split {l : List Cel} (i : Nat) : (encL (l.take i)).length ≤ (encL l).length := by
  have : encL l = encL (l.take i) ++ encL (l.drop i) := by rw [← encL_append, List.take_append_drop]
  rw [this]; simp
theorem encB_eq (c : Cel) : encB c = UInt8.ofNat (c.k % 256).toNat :: (if c.k = 1 then numB (zig c.n) else if c.k = 2 then numB c.s.size ++ c.s.data.toList else numB c.l.length ++ encL c.l) := by
  cases c; rw [encB]; rfl
theorem un_neg {P : Program} {k : IntKind} {n : Int} : pureRun P (Op.unary .neg (.int k n)) = some (.int k (k.wrap (0 - n))) := by
  simp [Op.unary, Op.intArith, pr_pure]
theorem u8k (k : Int) : IntKind.u8.wrap k = (((k % 256).toNat : Nat) : Int) := by rw [wrap_u8m]; omega
theorem sg_ne {v : AV} {l : List UInt8} (h : SG 1 v (u8s l)) (hl : l ≠ []) : ∃ lim, v = .bs true 1 (u8s l) lim := by
  rcases h with ⟨_, h⟩ | h
  · cases l
    · exact absurd rfl hl
    · simp [u8s] at h
  · exact h
/-- What comes of bytes and a cell behind them. -/
def PutR (b : List UInt8) (c : Cel) (r : AV) : Prop :=
  if b.length + (encB c).length ≤ 65536 then ∃ lim, r = .bs true 1 (u8s (b ++ encB c)) lim else r = .sc (.slice none 0 0)
variable {P : Program} (H : Has P)
include H
theorem put_ok (c : Cel) : ∀ (cs : List AV), CE cs c → okC c → ∀ (v : AV) (b : List UInt8), SG 1 v (u8s b) → b.length + (encB c).length ≤ 2 ^ 40 → ∀ h, AWF P ann 0 19 [v, .ag cs] h fun r h' => PutR b c r ∧ h' = h := by
  induction c using Cel.ind with
  | h c ih =>
  intro cs hc hok w b hw hb h
  obtain ⟨v, es, rfl, hv, hl, hf⟩ := hc.out
  have hfl := hf.l
  have hes := hl.len
  obtain ⟨⟨o1, o2⟩, o3, o4⟩ : (-9007199254740992 ≤ c.n ∧ c.n ≤ 9007199254740992) ∧ c.s.size ≤ 65536 ∧ okL c.l := by cases c; rw [okC] at hok; exact hok
  have hE := encB_eq c
  have hbl : b.length ≤ 2 ^ 40 := by omega
  generalize ht : (if c.k = 1 then numB (zig c.n) else if c.k = 2 then numB c.s.size ++ c.s.data.toList else numB c.l.length ++ encL c.l) = tl at hE
  have hE1 : (encB c).length = 1 + tl.length := by rw [hE, List.length_cons]; omega
  refine AWF.fnPurec H.f0_19 rfl ?_
  have hO := OB.nil (h := h)
  (refine W_seq_gen fun N hN => ?_); simp (disch := first | omega | (simp only [List.length_cons, List.length_nil, List.length_append, u8s_len]; omega)) only [go_sem, ↓reduceIte, true_and, Nat.reduceLeDiff, Nat.reduceEqDiff, Nat.reduceAdd, Nat.reduceBEq, Int.reduceEq, H.cv_3_5, H.cv_5_3, hv.disc, hv.same]
  intro o3' h3
  refine hN _ ?_; clear hN N; refine W_ob (hO.new h3) fun hc hO => ?_
  refine W_forget (fun t => t 0 = w ∧ t 3 = .op o3' 0 ∧ t 4 = .sc (.slice none 0 0) ∧ True) (by simp [upd_at, *] <;> (first | rfl | exact ⟨rfl, rfl⟩ | exact ⟨rfl, rfl, rfl⟩)) ?_; rintro t ⟨t0, t3, t4, -⟩
  have happ := fun (t : Nat → AV) (h : Heap) => hw.app (t := t) (h := h) (ys := u8s [UInt8.ofNat (c.k % 256).toNat]) (bytes := 1) (by simp [u8s_len]; omega)
  have hu : u8s [UInt8.ofNat (c.k % 256).toNat] = [[.sc (.int .u8 (((c.k % 256).toNat : Nat) : Int))]] := by simp [u8s]; omega
  have hg := hw.cat (u8s [UInt8.ofNat (c.k % 256).toNat])
  rw [u8s_app] at hg
  rw [hu] at happ hg
  generalize hw1 : catV 1 [[.sc (.int .u8 (((c.k % 256).toNat : Nat) : Int))]] w = w1 at hg
  (refine W_seq_gen fun N hN => ?_); simp (disch := first | omega | (simp only [List.length_cons, List.length_nil, List.length_append, u8s_len]; omega)) only [go_sem, ↓reduceIte, true_and, Nat.reduceLeDiff, Nat.reduceEqDiff, Nat.reduceAdd, Nat.reduceBEq, Int.reduceEq, H.cv_3_5, H.cv_5_3, t0, t3, hO.get0, u8k, happ, hw1]
  refine hN _ ?_; clear hN N
  refine W_forget (fun t => t 0 = w1 ∧ t 3 = .op o3' 0 ∧ t 4 = .sc (.slice none 0 0) ∧ True) (by simp [upd_at, *] <;> (first | rfl | exact ⟨rfl, rfl⟩ | exact ⟨rfl, rfl, rfl⟩)) ?_; rintro t ⟨t0, t3, t4, -⟩
  (refine W_seq_gen fun M hM => ?_)
  have fin : ∀ (t : Nat → AV) (h' : Heap) (r : AV), t 0 = r → SG 1 r (u8s (b ++ encB c)) → (encB c).length ≤ 2 ^ 40 → (∀ o, ¬ h o = none → h' o = h o) → M ⟨t, h'⟩ := by
    clear t0 t3 t4 hO
    intro t h' r t0 hr hlen hk
    refine hM _ ?_; clear hM M
    obtain ⟨lim, rfl⟩ := sg_ne hr (by rw [hE]; simp)
    by_cases c1 : b.length + (encB c).length ≤ 65536
    · have c1' : ¬ 65536 < (b ++ encB c).length := by rw [List.length_append]; omega
      (refine W_seq_gen fun N hN => ?_); simp (disch := first | omega | (simp only [List.length_cons, List.length_nil, List.length_append, u8s_len]; omega)) only [go_sem, ↓reduceIte, true_and, Nat.reduceLeDiff, Nat.reduceEqDiff, Nat.reduceAdd, Nat.reduceBEq, Int.reduceEq, H.cv_3_5, H.cv_5_3, t0, c1']
      refine hN _ ?_; clear hN N
      simp (disch := first | omega | (simp only [List.length_cons, List.length_nil, List.length_append, u8s_len]; omega)) only [go_sem, ↓reduceIte, true_and, Nat.reduceLeDiff, Nat.reduceEqDiff, Nat.reduceAdd, Nat.reduceBEq, Int.reduceEq, H.cv_3_5, H.cv_5_3, t0]
      rw [PutR, if_pos c1]
      exact ⟨⟨lim, rfl⟩, hk⟩
    · have c1' : 65536 < (b ++ encB c).length := by rw [List.length_append]; omega
      (refine W_seq_gen fun N hN => ?_); simp (disch := first | omega | (simp only [List.length_cons, List.length_nil, List.length_append, u8s_len]; omega)) only [go_sem, ↓reduceIte, true_and, Nat.reduceLeDiff, Nat.reduceEqDiff, Nat.reduceAdd, Nat.reduceBEq, Int.reduceEq, H.cv_3_5, H.cv_5_3, t0, c1']
      rw [PutR, if_neg c1]
      exact ⟨rfl, hk⟩
  by_cases k1 : c.k = 1
  · have q1 : (c.k == ((1 : Nat) : Int)) = true := by simpa using k1
    rw [if_pos k1] at ht
    have nz := numB_len (n := zig c.n) (by unfold zig; split <;> omega)
    (refine W_seq_gen fun N hN => ?_)
    simp (disch := first | omega | (simp only [List.length_cons, List.length_nil, List.length_append, u8s_len]; omega)) only [go_sem, ↓reduceIte, true_and, Nat.reduceLeDiff, Nat.reduceEqDiff, Nat.reduceAdd, Nat.reduceBEq, Int.reduceEq, H.cv_3_5, H.cv_5_3, t3, hO.get0]
    refine hN _ ?_; clear hN N
    refine W_forget (fun t => t 0 = w1 ∧ t 3 = .op o3' 0 ∧ t 15 = .sc (.int .i64 c.k) ∧ True) (by simp [upd_at, *] <;> (first | rfl | exact ⟨rfl, rfl⟩ | exact ⟨rfl, rfl, rfl⟩)) ?_; rintro t ⟨t0, t3, t15, -⟩
    rw [W_block]
    have hnum := number_ok H (n := zig c.n) hg (by simp; omega) (by unfold zig; split <;> omega)
    by_cases c0 : c.n < ((0 : Nat) : Int)
    · have e1 : (0 - ((2 : Nat) : Int) * c.n) - ((1 : Nat) : Int) = ((zig c.n : Nat) : Int) := by unfold zig; rw [if_pos (show c.n < 0 from c0)]; omega
      (refine W_seq_gen fun N hN => ?_); simp (disch := first | omega | (simp only [List.length_cons, List.length_nil, List.length_append, u8s_len]; omega)) only [go_sem, ↓reduceIte, true_and, Nat.reduceLeDiff, Nat.reduceEqDiff, Nat.reduceAdd, Nat.reduceBEq, Int.reduceEq, H.cv_3_5, H.cv_5_3, t15, q1]
      refine hN _ ?_; clear hN N
      simp (disch := first | omega | (simp only [List.length_cons, List.length_nil, List.length_append, u8s_len]; omega)) only [go_sem, ↓reduceIte, true_and, Nat.reduceLeDiff, Nat.reduceEqDiff, Nat.reduceAdd, Nat.reduceBEq, Int.reduceEq, H.cv_3_5, H.cv_5_3, t0, t3, hO.get0, c0, un_neg, e1]
      refine (hnum _).mono ?_
      rintro _ _ ⟨rfl, hh⟩; subst hh
      rw [contK_some]; simp (disch := first | omega | (simp only [List.length_cons, List.length_nil, List.length_append, u8s_len]; omega)) only [go_sem, ↓reduceIte, true_and, Nat.reduceLeDiff, Nat.reduceEqDiff, Nat.reduceAdd, Nat.reduceBEq, Int.reduceEq, H.cv_3_5, H.cv_5_3]
      have hg2 := snocs_ok hg (numB (zig c.n))
      rw [List.append_assoc] at hg2
      refine fin _ _ (snocs w1 (numB (zig c.n))) (by first | rfl | simp [upd_at]) (by rw [hE, ← ht]; exact hg2) (by omega) hO.keep
    · have e1 : ((2 : Nat) : Int) * c.n = ((zig c.n : Nat) : Int) := by unfold zig; rw [if_neg (show ¬ c.n < 0 from c0)]; omega
      (refine W_seq_gen fun N hN => ?_); simp (disch := first | omega | (simp only [List.length_cons, List.length_nil, List.length_append, u8s_len]; omega)) only [go_sem, ↓reduceIte, true_and, Nat.reduceLeDiff, Nat.reduceEqDiff, Nat.reduceAdd, Nat.reduceBEq, Int.reduceEq, H.cv_3_5, H.cv_5_3, t15, q1]
      refine hN _ ?_; clear hN N
      simp (disch := first | omega | (simp only [List.length_cons, List.length_nil, List.length_append, u8s_len]; omega)) only [go_sem, ↓reduceIte, true_and, Nat.reduceLeDiff, Nat.reduceEqDiff, Nat.reduceAdd, Nat.reduceBEq, Int.reduceEq, H.cv_3_5, H.cv_5_3, t0, t3, hO.get0, c0, e1]
      refine (hnum _).mono ?_
      rintro _ _ ⟨rfl, hh⟩; subst hh
      rw [contK_some]; simp (disch := first | omega | (simp only [List.length_cons, List.length_nil, List.length_append, u8s_len]; omega)) only [go_sem, ↓reduceIte, true_and, Nat.reduceLeDiff, Nat.reduceEqDiff, Nat.reduceAdd, Nat.reduceBEq, Int.reduceEq, H.cv_3_5, H.cv_5_3]
      have hg2 := snocs_ok hg (numB (zig c.n))
      rw [List.append_assoc] at hg2
      refine fin _ _ (snocs w1 (numB (zig c.n))) (by first | rfl | simp [upd_at]) (by rw [hE, ← ht]; exact hg2) (by omega) hO.keep
  have q1 : (c.k == ((1 : Nat) : Int)) = false := by simpa using k1
  rw [if_neg k1] at ht
  by_cases k2 : c.k = 2
  · have q2 : (c.k == ((2 : Nat) : Int)) = true := by simpa using k2
    rw [if_pos k2] at ht
    have hsb : c.s = str c.s.data.toList := str_of _
    generalize c.s.data.toList = sb at hsb ht
    have hss : c.s.size = sb.length := by rw [hsb, str_size]
    rw [hss] at ht o3
    rw [hsb] at hO
    have nz := numB_len (n := sb.length) (by omega)
    (refine W_seq_gen fun N hN => ?_)
    simp (disch := first | omega | (simp only [List.length_cons, List.length_nil, List.length_append, u8s_len]; omega)) only [go_sem, ↓reduceIte, true_and, Nat.reduceLeDiff, Nat.reduceEqDiff, Nat.reduceAdd, Nat.reduceBEq, Int.reduceEq, H.cv_3_5, H.cv_5_3, t3, hO.get0]
    refine hN _ ?_; clear hN N
    refine W_forget (fun t => t 0 = w1 ∧ t 3 = .op o3' 0 ∧ t 15 = .sc (.int .i64 c.k) ∧ True) (by simp [upd_at, *] <;> (first | rfl | exact ⟨rfl, rfl⟩ | exact ⟨rfl, rfl, rfl⟩)) ?_; rintro t ⟨t0, t3, t15, -⟩
    rw [W_block]
    have hnum := number_ok H (n := sb.length) hg (by simp; omega) (by omega)
    have hg2 := snocs_ok hg (numB sb.length)
    have happ2 := fun (t : Nat → AV) (h : Heap) => hg2.app (t := t) (h := h) (ys := u8s sb) (bytes := 1) (by simp [u8s_len]; omega)
    have hg3 := hg2.cat (u8s sb)
    rw [u8s_app, List.append_assoc, List.append_assoc] at hg3
    (refine W_seq_gen fun N hN => ?_); simp (disch := first | omega | (simp only [List.length_cons, List.length_nil, List.length_append, u8s_len]; omega)) only [go_sem, ↓reduceIte, true_and, Nat.reduceLeDiff, Nat.reduceEqDiff, Nat.reduceAdd, Nat.reduceBEq, Int.reduceEq, H.cv_3_5, H.cv_5_3, t15, q1]
    refine hN _ ?_; clear hN N
    simp (disch := first | omega | (simp only [List.length_cons, List.length_nil, List.length_append, u8s_len]; omega)) only [go_sem, ↓reduceIte, true_and, Nat.reduceLeDiff, Nat.reduceEqDiff, Nat.reduceAdd, Nat.reduceBEq, Int.reduceEq, H.cv_3_5, H.cv_5_3, t0, t3, t15, q2, hO.get0]
    refine ⟨_, hnum _, ?_⟩
    rw [contK_some]; simp (disch := first | omega | (simp only [List.length_cons, List.length_nil, List.length_append, u8s_len]; omega)) only [go_sem, ↓reduceIte, true_and, Nat.reduceLeDiff, Nat.reduceEqDiff, Nat.reduceAdd, Nat.reduceBEq, Int.reduceEq, H.cv_3_5, H.cv_5_3, t3, hO.get0, happ2]
    refine fin _ _ (catV 1 (u8s sb) (snocs w1 (numB sb.length))) (by first | rfl | simp [upd_at]) (by rw [hE, ← ht]; exact hg3) (by omega) hO.keep
  have q2 : (c.k == ((2 : Nat) : Int)) = false := by simpa using k2
  rw [if_neg k2] at ht
  have nz := numB_len (n := c.l.length) (by omega)
  (refine W_seq_gen fun N hN => ?_)
  simp (disch := first | omega | (simp only [List.length_cons, List.length_nil, List.length_append, u8s_len]; omega)) only [go_sem, ↓reduceIte, true_and, Nat.reduceLeDiff, Nat.reduceEqDiff, Nat.reduceAdd, Nat.reduceBEq, Int.reduceEq, H.cv_3_5, H.cv_5_3, t3, hO.get0]
  refine hN _ ?_; clear hN N
  refine W_forget (fun t => t 0 = w1 ∧ t 3 = .op o3' 0 ∧ t 15 = .sc (.int .i64 c.k) ∧ True) (by simp [upd_at, *] <;> (first | rfl | exact ⟨rfl, rfl⟩ | exact ⟨rfl, rfl, rfl⟩)) ?_; rintro t ⟨t0, t3, t15, -⟩
  rw [W_block]
  have hnum := number_ok H (n := c.l.length) hg (by simp; omega) (by omega)
  have hg2 := snocs_ok hg (numB c.l.length)
  (refine W_seq_gen fun N hN => ?_); simp (disch := first | omega | (simp only [List.length_cons, List.length_nil, List.length_append, u8s_len]; omega)) only [go_sem, ↓reduceIte, true_and, Nat.reduceLeDiff, Nat.reduceEqDiff, Nat.reduceAdd, Nat.reduceBEq, Int.reduceEq, H.cv_3_5, H.cv_5_3, t15, q1]
  refine hN _ ?_; clear hN N
  simp (disch := first | omega | (simp only [List.length_cons, List.length_nil, List.length_append, u8s_len]; omega)) only [go_sem, ↓reduceIte, true_and, Nat.reduceLeDiff, Nat.reduceEqDiff, Nat.reduceAdd, Nat.reduceBEq, Int.reduceEq, H.cv_3_5, H.cv_5_3, t0, t3, t15, q2, hO.get0, hv.disc, hv.same, hv.sl.len, hes]
  refine (hnum _).mono ?_
  rintro _ _ ⟨rfl, hh⟩; subst hh
  rw [contK_some]; simp (disch := first | omega | (simp only [List.length_cons, List.length_nil, List.length_append, u8s_len]; omega)) only [go_sem, ↓reduceIte, true_and, Nat.reduceLeDiff, Nat.reduceEqDiff, Nat.reduceAdd, Nat.reduceBEq, Int.reduceEq, H.cv_3_5, H.cv_5_3, t3, hO.get0, hv.disc, hv.same, hv.sl.len, hes]
  have hE2 : ∀ i, b ++ UInt8.ofNat (c.k % 256).toNat :: (numB c.l.length ++ encL (c.l.take i)) = (b ++ [UInt8.ofNat (c.k % 256).toNat] ++ numB c.l.length) ++ encL (c.l.take i) := by intro i; simp
  have hlE : (encB c).length = 1 + (numB c.l.length).length + (encL c.l).length := by rw [hE, ← ht]; simp; omega
  refine AW_loopN (fun m t h' => ∃ (i : Nat) (r : AV), m = c.l.length - i ∧ i ≤ c.l.length ∧ SG 1 r (u8s ((b ++ [UInt8.ofNat (c.k % 256).toNat] ++ numB c.l.length) ++ encL (c.l.take i))) ∧
      t 0 = r ∧ t 22 = v ∧ t 23 = .sc (.int .i64 (c.l.length : Nat)) ∧ t 24 = .sc (.int .i64 (i : Nat)) ∧
      OB h [(o3', .arr [.sc (.int .i64 c.k), .sc (.int .i64 c.n), .sc (.string c.s), v])] h')
    (n := c.l.length) ⟨0, _, rfl, Nat.zero_le _, by rw [List.take_zero, encL, List.append_nil]; exact hg2, rfl, by simp [upd_at], by simp [upd_at], rfl, hO⟩ ?_
  clear hO t0 t3 t15
  rintro m t h' ⟨i, r, rfl, hi, hr, t0, t22, t23, t24, hO⟩
  rcases Nat.lt_or_ge i c.l.length with hlt2 | hge
  · obtain ⟨e, he, hce⟩ := hl.lt hlt2
    have ihx := ih c.l[i] (List.getElem_mem hlt2) e hce (okL_get hlt2 o4)
    have htk := encL_take hlt2
    have hsp := encL_split (l := c.l) (i + 1)
    generalize c.l[i] = x at hce ihx htk
    have hsl : (encL (c.l.take (i + 1))).length = (encL (c.l.take i)).length + (encB x).length := by rw [htk, List.length_append]
    obtain ⟨v', es', rfl, hv', hl', hf'⟩ := hce.out
    (refine W_seq_gen fun N hN => ?_); simp (disch := first | omega | (simp only [List.length_cons, List.length_nil, List.length_append, u8s_len]; omega)) only [go_sem, ↓reduceIte, true_and, Nat.reduceLeDiff, Nat.reduceEqDiff, Nat.reduceAdd, Nat.reduceBEq, Int.reduceEq, H.cv_3_5, H.cv_5_3, t23, t24, hlt2]
    refine hN _ ?_; clear hN N
    (refine W_seq_gen fun N hN => ?_); simp (disch := first | omega | (simp only [List.length_cons, List.length_nil, List.length_append, u8s_len]; omega)) only [go_sem, ↓reduceIte, true_and, Nat.reduceLeDiff, Nat.reduceEqDiff, Nat.reduceAdd, Nat.reduceBEq, Int.reduceEq, H.cv_3_5, H.cv_5_3]
    refine hN _ ?_; clear hN N
    (refine W_seq_gen fun N hN => ?_)
    rw [W_block]
    (refine W_seq_gen fun N hN => ?_); simp (disch := first | omega | (simp only [List.length_cons, List.length_nil, List.length_append, u8s_len]; omega)) only [go_sem, ↓reduceIte, true_and, Nat.reduceLeDiff, Nat.reduceEqDiff, Nat.reduceAdd, Nat.reduceBEq, Int.reduceEq, H.cv_3_5, H.cv_5_3, t22, t24, hv.same, hv.sl.ia, he, hv'.disc, hv'.same]
    intro o7 h7
    refine hN _ ?_; clear hN N; refine W_ob (hO.new h7) fun hc hO => ?_
    (refine W_seq_gen fun N hN => ?_); simp (disch := first | omega | (simp only [List.length_cons, List.length_nil, List.length_append, u8s_len]; omega)) only [go_sem, ↓reduceIte, true_and, Nat.reduceLeDiff, Nat.reduceEqDiff, Nat.reduceAdd, Nat.reduceBEq, Int.reduceEq, H.cv_3_5, H.cv_5_3, t0, hO.get0, hv'.same, hv'.disc]
    refine (ihx r _ hr (by simp only [List.length_append, List.length_cons, List.length_nil]; omega) _).mono ?_
    rintro r' _ ⟨hr', hh⟩; subst hh
    have key : ((b ++ [UInt8.ofNat (c.k % 256).toNat] ++ numB c.l.length) ++ encL (c.l.take i)) ++ encB x = (b ++ [UInt8.ofNat (c.k % 256).toNat] ++ numB c.l.length) ++ encL (c.l.take (i + 1)) := by rw [List.append_assoc, ← htk]
    rw [PutR, key] at hr'
    split at hr'
    · rename_i hle
      obtain ⟨lim, rfl⟩ := hr'
      rw [contK_some]; simp (disch := first | omega | (simp only [List.length_cons, List.length_nil, List.length_append, u8s_len]; omega)) only [go_sem, ↓reduceIte, true_and, Nat.reduceLeDiff, Nat.reduceEqDiff, Nat.reduceAdd, Nat.reduceBEq, Int.reduceEq, H.cv_3_5, H.cv_5_3]
      refine hN _ ?_; clear hN N
      simp (disch := first | omega | (simp only [List.length_cons, List.length_nil, List.length_append, u8s_len]; omega)) only [go_sem, ↓reduceIte, true_and, Nat.reduceLeDiff, Nat.reduceEqDiff, Nat.reduceAdd, Nat.reduceBEq, Int.reduceEq, H.cv_3_5, H.cv_5_3]
      refine hN _ ?_; clear hN N
      simp (disch := first | omega | (simp only [List.length_cons, List.length_nil, List.length_append, u8s_len]; omega)) only [go_sem, ↓reduceIte, true_and, Nat.reduceLeDiff, Nat.reduceEqDiff, Nat.reduceAdd, Nat.reduceBEq, Int.reduceEq, H.cv_3_5, H.cv_5_3, t24, nat_add]
      exact ⟨c.l.length - (i + 1), by omega, i + 1, _, rfl, by omega, .inr ⟨lim, rfl⟩, rfl, t22, t23, rfl, hO.tail⟩
    · rename_i hle
      subst hr'
      rw [contK_some]; simp (disch := first | omega | (simp only [List.length_cons, List.length_nil, List.length_append, u8s_len]; omega)) only [go_sem, ↓reduceIte, true_and, Nat.reduceLeDiff, Nat.reduceEqDiff, Nat.reduceAdd, Nat.reduceBEq, Int.reduceEq, H.cv_3_5, H.cv_5_3]
      refine hN _ ?_; clear hN N
      simp (disch := first | omega | (simp only [List.length_cons, List.length_nil, List.length_append, u8s_len]; omega)) only [go_sem, ↓reduceIte, true_and, Nat.reduceLeDiff, Nat.reduceEqDiff, Nat.reduceAdd, Nat.reduceBEq, Int.reduceEq, H.cv_3_5, H.cv_5_3]
      simp only [List.length_append, List.length_cons, List.length_nil] at hle
      rw [PutR, if_neg (by omega)]
      exact ⟨rfl, hO.keep⟩
  obtain rfl : i = c.l.length := by omega
  rw [List.take_length] at hr
  (refine W_seq_gen fun N hN => ?_); simp (disch := first | omega | (simp only [List.length_cons, List.length_nil, List.length_append, u8s_len]; omega)) only [go_sem, ↓reduceIte, true_and, Nat.reduceLeDiff, Nat.reduceEqDiff, Nat.reduceAdd, Nat.reduceBEq, Int.reduceEq, H.cv_3_5, H.cv_5_3, t23, t24, Nat.lt_irrefl]
  refine hN _ ?_; clear hN N
  (refine W_seq_gen fun N hN => ?_); simp (disch := first | omega | (simp only [List.length_cons, List.length_nil, List.length_append, u8s_len]; omega)) only [go_sem, ↓reduceIte, true_and, Nat.reduceLeDiff, Nat.reduceEqDiff, Nat.reduceAdd, Nat.reduceBEq, Int.reduceEq, H.cv_3_5, H.cv_5_3]
  refine fin _ _ r (by first | exact t0 | simp [upd_at, t0]) (by rw [hE, ← ht]; simpa using hr) (by omega) hO.keep
end Go.Proofs.Ytjebhcflpibkkaa
