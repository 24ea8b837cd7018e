/- The laws of values that are made, and of their order. -/
import Derived.Test.YtmellpjoinldnaaRankKey
set_option linter.unusedVariables false
set_option linter.unusedSimpArgs false
namespace Go.Proofs.Ytmellpjoinldnaa
open Go.Am

theorem box3 {h : Heap} {o p q : Nat} {X Y Z : AObj} (ho : h o = none) (hp : upd h o (some X) p = none) (hq : upd (upd h o (some X)) p (some Y) q = none) :
    ∃ h3, upd (upd (upd h o (some X)) p (some Y)) q (some Z) = h3 ∧ h3 o = some X ∧ h3 p = some Y ∧ h3 q = some Z := by
  obtain ⟨h2, hh, f1, f2, _⟩ := box2 ho hp (Y := some Y)
  rw [hh] at hq
  refine ⟨_, rfl, ?_, ?_, upd_same _ _ _⟩
  · rw [hh, upd_keep hq o (by rw [f1]; simp), f1]
  · rw [hh, upd_keep hq p (by rw [f2]; simp), f2]
theorem cmpI_neg (a b : Int) : cmpI a b = - cmpI b a := by
  unfold cmpI
  split <;> split <;> (try split) <;> (try split) <;> omega
theorem cb_neg (a b : ByteArray) : cb a b = - cb b a := by
  unfold cb
  cases h1 : sl a b with
  | true =>
    have h2 := sl_asym h1
    have h3 : ¬ b = a := fun e => by rw [e, sl_irr] at h1; cases h1
    simp [h2, h3]
  | false =>
    cases h2 : sl b a with
    | true =>
      have h3 : ¬ a = b := fun e => by rw [e, sl_irr] at h2; cases h2
      simp [h3]
    | false =>
      have := sl_tri h1 h2
      simp [this]
theorem orI_neg : ∀ (l m : List Int), l = m.map (fun n => -n) → orI l = - orI m
  | [], [], _ => rfl
  | a :: l, b :: m, h => by
    simp only [List.map_cons, List.cons.injEq] at h
    rw [orI, orI, orI_neg l m h.2]
    by_cases hb : b = 0
    · rw [if_pos (by omega), if_pos hb]
    · rw [if_neg (by omega), if_neg hb]; exact h.1
  | [], _ :: _, h => by simp at h
  | _ :: _, [], h => by simp at h
theorem cmpV_neg (a b : Vl) : cmpV a b = - cmpV b a := orI_neg _ _ (by simp [← cmpI_neg, ← cb_neg])
theorem cmpI_zero {a b : Int} : cmpI a b = 0 ↔ a = b := by
  unfold cmpI
  split
  · omega
  · split <;> omega
theorem cb_zero {a b : ByteArray} : cb a b = 0 ↔ a = b := by
  unfold cb
  cases h1 : sl a b with
  | true =>
    have h3 : ¬ a = b := fun e => by rw [e, sl_irr] at h1; cases h1
    simp [h3]
  | false => by_cases h : a = b <;> simp [h]
theorem orI_zero : ∀ l : List Int, orI l = 0 ↔ ∀ x ∈ l, x = 0
  | [] => by simp [orI]
  | a :: l => by
    rw [orI]
    by_cases h : a = 0
    · rw [if_pos h, orI_zero l]; simp [h]
    · rw [if_neg h]; simp [h]
theorem cmpV_zero {a b : Vl} : cmpV a b = 0 ↔ a = b := by
  rw [cmpV, orI_zero]
  simp only [List.mem_cons, List.not_mem_nil, or_false, forall_eq_or_imp, forall_eq, cmpI_zero, cb_zero, str_inj]
  cases a; cases b
  simp
theorem orI_range : ∀ l : List Int, (∀ x ∈ l, -1 ≤ x ∧ x ≤ 1) → -1 ≤ orI l ∧ orI l ≤ 1
  | [], _ => by simp [orI]
  | a :: l, h => by
    rw [orI]
    split
    · exact orI_range l fun x hx => h x (by simp [hx])
    · exact h a (by simp)
theorem cmpV_range (a b : Vl) : -1 ≤ cmpV a b ∧ cmpV a b ≤ 1 := by
  have h1 : ∀ a b : Int, -1 ≤ cmpI a b ∧ cmpI a b ≤ 1 := fun a b => by unfold cmpI; split <;> (try split) <;> omega
  have h2 : ∀ a b : ByteArray, -1 ≤ cb a b ∧ cb a b ≤ 1 := fun a b => by unfold cb; split <;> (try split) <;> omega
  refine orI_range _ fun x hx => ?_
  simp only [List.mem_cons, List.not_mem_nil, or_false] at hx
  rcases hx with rfl | rfl | rfl | rfl | rfl
  · exact h1 _ _
  · exact h1 _ _
  · exact h2 _ _
  · exact h1 _ _
  · exact h1 _ _
theorem orI_trans : ∀ (l : List (Int × Int × Int)), (∀ p ∈ l, p.1 ≤ 0 → p.2.1 ≤ 0 → p.2.2 ≤ 0 ∧ (p.2.2 = 0 → p.1 = 0 ∧ p.2.1 = 0)) → orI (l.map (·.1)) ≤ 0 → orI (l.map (·.2.1)) ≤ 0 → orI (l.map (·.2.2)) ≤ 0
  | [], _, _, _ => by simp [orI]
  | p :: l, hp, h1, h2 => by
    simp only [List.map_cons, orI] at h1 h2 ⊢
    have h := hp p (by simp)
    have hx : p.1 ≤ 0 := by split at h1 <;> omega
    have hy : p.2.1 ≤ 0 := by split at h2 <;> omega
    have hz := h hx hy
    split
    · rename_i h0
      have := hz.2 h0
      rw [if_pos this.1] at h1
      rw [if_pos this.2] at h2
      exact orI_trans l (fun q hq => hp q (by simp [hq])) h1 h2
    · exact hz.1
theorem cmpI_trans (a b c : Int) : cmpI a b ≤ 0 → cmpI b c ≤ 0 → cmpI a c ≤ 0 ∧ (cmpI a c = 0 → cmpI a b = 0 ∧ cmpI b c = 0) := by
  unfold cmpI
  intro h1 h2
  constructor
  · split at h1 <;> split at h2 <;> (try split at h1) <;> (try split at h2) <;> split <;> (try split) <;> omega
  · intro h3
    split at h1 <;> split at h2 <;> (try split at h1) <;> (try split at h2) <;> split at h3 <;> (try split at h3) <;> simp_all <;> omega
theorem cb_le {a b : ByteArray} : cb a b ≤ 0 ↔ (sl a b = true ∨ a = b) := by
  unfold cb
  cases h1 : sl a b with
  | true => simp
  | false => by_cases h : a = b <;> simp [h]
theorem cb_trans (a b c : ByteArray) : cb a b ≤ 0 → cb b c ≤ 0 → cb a c ≤ 0 ∧ (cb a c = 0 → cb a b = 0 ∧ cb b c = 0) := by
  intro h1 h2
  rw [cb_le] at h1 h2 ⊢
  rw [cb_zero, cb_zero, cb_zero]
  rcases h1 with h1 | rfl
  · rcases h2 with h2 | rfl
    · refine ⟨.inl (sl_trans h1 h2), fun e => ?_⟩
      subst e
      rw [sl_asym h1] at h2
      cases h2
    · refine ⟨.inl h1, fun e => ?_⟩
      subst e
      rw [sl_irr] at h1
      cases h1
  · refine ⟨h2, fun e => ⟨rfl, e⟩⟩
theorem cmpV_trans {a b c : Vl} (h1 : cmpV a b ≤ 0) (h2 : cmpV b c ≤ 0) : cmpV a c ≤ 0 := by
  have := orI_trans [(cmpI a.kind b.kind, cmpI b.kind c.kind, cmpI a.kind c.kind), (cmpI a.num b.num, cmpI b.num c.num, cmpI a.num c.num), (cb (str a.text) (str b.text), cb (str b.text) (str c.text), cb (str a.text) (str c.text)),
    (cmpI a.re b.re, cmpI b.re c.re, cmpI a.re c.re), (cmpI a.im b.im, cmpI b.im c.im, cmpI a.im c.im)] (fun p hp => by
      simp only [List.mem_cons, List.not_mem_nil, or_false] at hp
      rcases hp with rfl | rfl | rfl | rfl | rfl
      · exact cmpI_trans _ _ _
      · exact cmpI_trans _ _ _
      · exact cb_trans _ _ _
      · exact cmpI_trans _ _ _
      · exact cmpI_trans _ _ _) h1 h2
  exact this

variable {P : Program} (H : Has P) (HC : HasC P) (L : Lb P)
include H HC L

theorem makes_law (n : Int) (s : List UInt8) (x y : Int) (h : Heap) : AWF P ann 0 4 [.sc (.int .i64 n), .sc (.string (str s)), .ag [.sc (.int .i64 x), .sc (.int .i64 y)]] h fun r h' => r = .sc (.bool true) := by
  refine AWF.fnc H.f0_4 rfl ?_
  (refine W_seq_gen fun N hN => ?_); simp (disch := first | omega | (simp only [List.length_cons, List.length_nil, List.length_append, u8s_len]; omega)) only [go_sem, ↓reduceIte, true_and, Nat.reduceLeDiff, Nat.reduceEqDiff, Nat.reduceAdd, Nat.reduceBEq, Int.reduceEq, H.cv_3_5, H.cv_3_49, H.cv_49_5]
  intro o ho
  have f1 : upd h o (some (.arr [.sc (.int .i64 x), .sc (.int .i64 y)])) o = some (.arr [.sc (.int .i64 x), .sc (.int .i64 y)]) := upd_same _ _ _
  refine hN _ ?_; clear hN N
  generalize upd h o (some (.arr [.sc (.int .i64 x), .sc (.int .i64 y)])) = h2 at f1
  have q1 : scalarBin P .eql 31 (.agg #[.int .i64 1, .int .i64 n, .string (str []), .int .i64 0, .int .i64 0]) (.agg #[.int .i64 ((1 : Nat) : Int), .int .i64 n, .string ⟨#[]⟩, .int .i64 ((0 : Nat) : Int), .int .i64 ((0 : Nat) : Int)]) = some (.bool true) := by
    have := HC.eq (numV n) (numV n)
    rw [decide_eq_true rfl] at this
    exact this
  have q2 : scalarBin P .eql 31 (.agg #[.int .i64 2, .int .i64 0, .string (str s), .int .i64 0, .int .i64 0]) (.agg #[.int .i64 ((2 : Nat) : Int), .int .i64 ((0 : Nat) : Int), .string (str s), .int .i64 ((0 : Nat) : Int), .int .i64 ((0 : Nat) : Int)]) = some (.bool true) := by
    have := HC.eq (textV s) (textV s)
    rw [decide_eq_true rfl] at this
    exact this
  have q3 : scalarBin P .eql 31 (.agg #[.int .i64 3, .int .i64 0, .string (str []), .int .i64 x, .int .i64 y]) (.agg #[.int .i64 ((3 : Nat) : Int), .int .i64 ((0 : Nat) : Int), .string ⟨#[]⟩, .int .i64 x, .int .i64 y]) = some (.bool true) := by
    have := HC.eq (pointV x y) (pointV x y)
    rw [decide_eq_true rfl] at this
    exact this
  simp (disch := first | omega | (simp only [List.length_cons, List.length_nil, List.length_append, u8s_len]; omega)) only [go_sem, ↓reduceIte, true_and, Nat.reduceLeDiff, Nat.reduceEqDiff, Nat.reduceAdd, Nat.reduceBEq, Int.reduceEq, H.cv_3_5, H.cv_3_49, H.cv_49_5, f1]
  refine ⟨_, num_ok H _ _, ?_⟩
  rw [contK_some]; simp (disch := first | omega | (simp only [List.length_cons, List.length_nil, List.length_append, u8s_len]; omega)) only [go_sem, ↓reduceIte, true_and, Nat.reduceLeDiff, Nat.reduceEqDiff, Nat.reduceAdd, Nat.reduceBEq, Int.reduceEq, H.cv_3_5, H.cv_3_49, H.cv_49_5, numV_av, f1, q1]
  refine ⟨_, text_ok H _ _, ?_⟩
  rw [contK_some]; simp (disch := first | omega | (simp only [List.length_cons, List.length_nil, List.length_append, u8s_len]; omega)) only [go_sem, ↓reduceIte, true_and, Nat.reduceLeDiff, Nat.reduceEqDiff, Nat.reduceAdd, Nat.reduceBEq, Int.reduceEq, H.cv_3_5, H.cv_3_49, H.cv_49_5, textV_av, f1, q2]
  refine ⟨_, point_ok H _ _ _, ?_⟩
  rw [contK_some]; simp (disch := first | omega | (simp only [List.length_cons, List.length_nil, List.length_append, u8s_len]; omega)) only [go_sem, ↓reduceIte, true_and, Nat.reduceLeDiff, Nat.reduceEqDiff, Nat.reduceAdd, Nat.reduceBEq, Int.reduceEq, H.cv_3_5, H.cv_3_49, H.cv_49_5, pointV_av, f1, q3]
  refine ⟨_, awake_ok H HC L _, ?_⟩
  rw [contK_some]; simp (disch := first | omega | (simp only [List.length_cons, List.length_nil, List.length_append, u8s_len]; omega)) only [go_sem, ↓reduceIte, true_and, Nat.reduceLeDiff, Nat.reduceEqDiff, Nat.reduceAdd, Nat.reduceBEq, Int.reduceEq, H.cv_3_5, H.cv_3_49, H.cv_49_5]

theorem sorts_law (a b c : Vl) (h : Heap) : AWF P ann 0 5 [a.av, b.av, c.av] h fun r h' => r = .sc (.bool true) := by
  refine AWF.fnc H.f0_5 rfl ?_
  (refine W_seq_gen fun N hN => ?_); simp (disch := first | omega | (simp only [List.length_cons, List.length_nil, List.length_append, u8s_len]; omega)) only [go_sem, ↓reduceIte, true_and, Nat.reduceLeDiff, Nat.reduceEqDiff, Nat.reduceAdd, Nat.reduceBEq, Int.reduceEq, H.cv_3_5, H.cv_3_49, H.cv_49_5, Vl.av, Vl.cells]
  intro o ho p hp q hq
  obtain ⟨h3, hh, g1, g2, g3⟩ := box3 ho hp hq (Z := .arr c.cells)
  refine hN _ ?_; clear hN N
  rw [Vl.cells] at hh g3
  rw [hh]
  clear ho hp hq hh
  (refine W_seq_gen fun N hN => ?_); simp (disch := first | omega | (simp only [List.length_cons, List.length_nil, List.length_append, u8s_len]; omega)) only [go_sem, ↓reduceIte, true_and, Nat.reduceLeDiff, Nat.reduceEqDiff, Nat.reduceAdd, Nat.reduceBEq, Int.reduceEq, H.cv_3_5, H.cv_3_49, H.cv_49_5, g1]
  refine (check_ok H HC a _).mono ?_
  rintro _ _ ⟨rfl, hh⟩; subst hh
  by_cases ca : checkS a = 0
  · rw [contK_some]; simp (disch := first | omega | (simp only [List.length_cons, List.length_nil, List.length_append, u8s_len]; omega)) only [go_sem, ↓reduceIte, true_and, Nat.reduceLeDiff, Nat.reduceEqDiff, Nat.reduceAdd, Nat.reduceBEq, Int.reduceEq, H.cv_3_5, H.cv_3_49, H.cv_49_5, ca, g1, g2, g3]
    refine (check_ok H HC b _).mono ?_
    rintro _ _ ⟨rfl, hh⟩; subst hh
    by_cases cb : checkS b = 0
    · rw [contK_some]; simp (disch := first | omega | (simp only [List.length_cons, List.length_nil, List.length_append, u8s_len]; omega)) only [go_sem, ↓reduceIte, true_and, Nat.reduceLeDiff, Nat.reduceEqDiff, Nat.reduceAdd, Nat.reduceBEq, Int.reduceEq, H.cv_3_5, H.cv_3_49, H.cv_49_5, cb, g1, g2, g3]
      refine (check_ok H HC c _).mono ?_
      rintro _ _ ⟨rfl, hh⟩; subst hh
      by_cases cc : checkS c = 0
      · rw [contK_some]; simp (disch := first | omega | (simp only [List.length_cons, List.length_nil, List.length_append, u8s_len]; omega)) only [go_sem, ↓reduceIte, true_and, Nat.reduceLeDiff, Nat.reduceEqDiff, Nat.reduceAdd, Nat.reduceBEq, Int.reduceEq, H.cv_3_5, H.cv_3_49, H.cv_49_5, cc]
        refine hN _ ?_; clear hN N
        clear ca cb cc
        have hr := cmpV_range b a
        have hneg := cmpV_neg a b
        have he : scalarBin P .eql 31 (.agg #[.int .i64 a.kind, .int .i64 a.num, .string (str a.text), .int .i64 a.re, .int .i64 a.im]) (.agg #[.int .i64 b.kind, .int .i64 b.num, .string (str b.text), .int .i64 b.re, .int .i64 b.im]) = some (.bool (decide (a = b))) := HC.eq a b
        (refine W_seq_gen fun N hN => ?_); simp (disch := first | omega | (simp only [List.length_cons, List.length_nil, List.length_append, u8s_len]; omega)) only [go_sem, ↓reduceIte, true_and, Nat.reduceLeDiff, Nat.reduceEqDiff, Nat.reduceAdd, Nat.reduceBEq, Int.reduceEq, H.cv_3_5, H.cv_3_49, H.cv_49_5, g1, g2]
        refine ⟨_, compare_ok H L a b _, ?_⟩
        rw [contK_some]; simp (disch := first | omega | (simp only [List.length_cons, List.length_nil, List.length_append, u8s_len]; omega)) only [go_sem, ↓reduceIte, true_and, Nat.reduceLeDiff, Nat.reduceEqDiff, Nat.reduceAdd, Nat.reduceBEq, Int.reduceEq, H.cv_3_5, H.cv_3_49, H.cv_49_5, g1, g2]
        refine ⟨_, compare_ok H L b a _, ?_⟩
        have hn : ∀ x : Int, pureRun P (Op.unary .neg (.int .i64 x)) = some (.int .i64 (IntKind.i64.wrap (0 - x))) := fun x => by
          simp [Op.unary, Op.intArith, pr_pure]
        have hw : IntKind.i64.wrap (0 - cmpV b a) = cmpV a b := by rw [wrap_i64u (by omega) (by omega)]; omega
        have hq : (cmpV a b != cmpV a b) = false := by simp
        rw [contK_some]; simp (disch := first | omega | (simp only [List.length_cons, List.length_nil, List.length_append, u8s_len]; omega)) only [go_sem, ↓reduceIte, true_and, Nat.reduceLeDiff, Nat.reduceEqDiff, Nat.reduceAdd, Nat.reduceBEq, Int.reduceEq, H.cv_3_5, H.cv_3_49, H.cv_49_5, g1, g2, hn, hw, hq]
        refine ⟨_, compare_ok H L a b _, ?_⟩
        have hz : (cmpV a b == ((0 : Nat) : Int)) = decide (a = b) := by
          have := @cmpV_zero a b
          by_cases hab : a = b
          · rw [decide_eq_true hab, this.2 hab]; rfl
          · rw [decide_eq_false hab]
            have : ¬ cmpV a b = 0 := fun e => hab (this.1 e)
            simpa using this
        have hbb : ∀ q : Bool, scalarBin P .neq 4 (.bool q) (.bool q) = some (.bool false) := fun q => by rw [HC.bne]; cases q <;> rfl
        rw [contK_some]; simp (disch := first | omega | (simp only [List.length_cons, List.length_nil, List.length_append, u8s_len]; omega)) only [go_sem, ↓reduceIte, true_and, Nat.reduceLeDiff, Nat.reduceEqDiff, Nat.reduceAdd, Nat.reduceBEq, Int.reduceEq, H.cv_3_5, H.cv_3_49, H.cv_49_5, g1, g2, he, hz, hbb]
        refine hN _ ?_; clear hN N
        clear hn hw hq hz hbb he hneg hr
        simp (disch := first | omega | (simp only [List.length_cons, List.length_nil, List.length_append, u8s_len]; omega)) only [go_sem, ↓reduceIte, true_and, Nat.reduceLeDiff, Nat.reduceEqDiff, Nat.reduceAdd, Nat.reduceBEq, Int.reduceEq, H.cv_3_5, H.cv_3_49, H.cv_49_5, g1, g2]
        refine (compare_ok H L a b _).mono ?_
        rintro _ _ ⟨rfl, hh⟩; subst hh
        by_cases h1 : cmpV a b > 0
        · have h1' : cmpV a b > ((0 : Nat) : Int) := h1
          rw [contK_some]; simp (disch := first | omega | (simp only [List.length_cons, List.length_nil, List.length_append, u8s_len]; omega)) only [go_sem, ↓reduceIte, true_and, Nat.reduceLeDiff, Nat.reduceEqDiff, Nat.reduceAdd, Nat.reduceBEq, Int.reduceEq, H.cv_3_5, H.cv_3_49, H.cv_49_5, h1']
          refine (awake_ok H HC L _).mono ?_
          rintro _ _ ⟨rfl, hh⟩; subst hh
          rw [contK_some]; simp (disch := first | omega | (simp only [List.length_cons, List.length_nil, List.length_append, u8s_len]; omega)) only [go_sem, ↓reduceIte, true_and, Nat.reduceLeDiff, Nat.reduceEqDiff, Nat.reduceAdd, Nat.reduceBEq, Int.reduceEq, H.cv_3_5, H.cv_3_49, H.cv_49_5]
        · have h1' : ¬ cmpV a b > ((0 : Nat) : Int) := h1
          rw [contK_some]; simp (disch := first | omega | (simp only [List.length_cons, List.length_nil, List.length_append, u8s_len]; omega)) only [go_sem, ↓reduceIte, true_and, Nat.reduceLeDiff, Nat.reduceEqDiff, Nat.reduceAdd, Nat.reduceBEq, Int.reduceEq, H.cv_3_5, H.cv_3_49, H.cv_49_5, h1', g2, g3]
          refine (compare_ok H L b c _).mono ?_
          rintro _ _ ⟨rfl, hh⟩; subst hh
          by_cases h2 : cmpV b c > 0
          · have h2' : cmpV b c > ((0 : Nat) : Int) := h2
            rw [contK_some]; simp (disch := first | omega | (simp only [List.length_cons, List.length_nil, List.length_append, u8s_len]; omega)) only [go_sem, ↓reduceIte, true_and, Nat.reduceLeDiff, Nat.reduceEqDiff, Nat.reduceAdd, Nat.reduceBEq, Int.reduceEq, H.cv_3_5, H.cv_3_49, H.cv_49_5, h2']
            refine (awake_ok H HC L _).mono ?_
            rintro _ _ ⟨rfl, hh⟩; subst hh
            rw [contK_some]; simp (disch := first | omega | (simp only [List.length_cons, List.length_nil, List.length_append, u8s_len]; omega)) only [go_sem, ↓reduceIte, true_and, Nat.reduceLeDiff, Nat.reduceEqDiff, Nat.reduceAdd, Nat.reduceBEq, Int.reduceEq, H.cv_3_5, H.cv_3_49, H.cv_49_5]
          · have h2' : ¬ cmpV b c > ((0 : Nat) : Int) := h2
            rw [contK_some]; simp (disch := first | omega | (simp only [List.length_cons, List.length_nil, List.length_append, u8s_len]; omega)) only [go_sem, ↓reduceIte, true_and, Nat.reduceLeDiff, Nat.reduceEqDiff, Nat.reduceAdd, Nat.reduceBEq, Int.reduceEq, H.cv_3_5, H.cv_3_49, H.cv_49_5, h2', g1, g3]
            refine (compare_ok H L a c _).mono ?_
            rintro _ _ ⟨rfl, hh⟩; subst hh
            have h3 : cmpV a c ≤ ((0 : Nat) : Int) := cmpV_trans (by omega) (by omega) (b := b)
            rw [contK_some]; simp (disch := first | omega | (simp only [List.length_cons, List.length_nil, List.length_append, u8s_len]; omega)) only [go_sem, ↓reduceIte, true_and, Nat.reduceLeDiff, Nat.reduceEqDiff, Nat.reduceAdd, Nat.reduceBEq, Int.reduceEq, H.cv_3_5, H.cv_3_49, H.cv_49_5, h3]
            refine (awake_ok H HC L _).mono ?_
            rintro _ _ ⟨rfl, hh⟩; subst hh
            rw [contK_some]; simp (disch := first | omega | (simp only [List.length_cons, List.length_nil, List.length_append, u8s_len]; omega)) only [go_sem, ↓reduceIte, true_and, Nat.reduceLeDiff, Nat.reduceEqDiff, Nat.reduceAdd, Nat.reduceBEq, Int.reduceEq, H.cv_3_5, H.cv_3_49, H.cv_49_5]
      · have q : (((checkS c : Nat) : Int) != ((0 : Nat) : Int)) = true := by simpa using cc
        rw [contK_some]; simp (disch := first | omega | (simp only [List.length_cons, List.length_nil, List.length_append, u8s_len]; omega)) only [go_sem, ↓reduceIte, true_and, Nat.reduceLeDiff, Nat.reduceEqDiff, Nat.reduceAdd, Nat.reduceBEq, Int.reduceEq, H.cv_3_5, H.cv_3_49, H.cv_49_5, q]
        refine (awake_ok H HC L _).mono ?_
        rintro _ _ ⟨rfl, hh⟩; subst hh
        rw [contK_some]; simp (disch := first | omega | (simp only [List.length_cons, List.length_nil, List.length_append, u8s_len]; omega)) only [go_sem, ↓reduceIte, true_and, Nat.reduceLeDiff, Nat.reduceEqDiff, Nat.reduceAdd, Nat.reduceBEq, Int.reduceEq, H.cv_3_5, H.cv_3_49, H.cv_49_5]
    · have q : (((checkS b : Nat) : Int) != ((0 : Nat) : Int)) = true := by simpa using cb
      rw [contK_some]; simp (disch := first | omega | (simp only [List.length_cons, List.length_nil, List.length_append, u8s_len]; omega)) only [go_sem, ↓reduceIte, true_and, Nat.reduceLeDiff, Nat.reduceEqDiff, Nat.reduceAdd, Nat.reduceBEq, Int.reduceEq, H.cv_3_5, H.cv_3_49, H.cv_49_5, q]
      refine (awake_ok H HC L _).mono ?_
      rintro _ _ ⟨rfl, hh⟩; subst hh
      rw [contK_some]; simp (disch := first | omega | (simp only [List.length_cons, List.length_nil, List.length_append, u8s_len]; omega)) only [go_sem, ↓reduceIte, true_and, Nat.reduceLeDiff, Nat.reduceEqDiff, Nat.reduceAdd, Nat.reduceBEq, Int.reduceEq, H.cv_3_5, H.cv_3_49, H.cv_49_5]
  · have q : (((checkS a : Nat) : Int) != ((0 : Nat) : Int)) = true := by simpa using ca
    rw [contK_some]; simp (disch := first | omega | (simp only [List.length_cons, List.length_nil, List.length_append, u8s_len]; omega)) only [go_sem, ↓reduceIte, true_and, Nat.reduceLeDiff, Nat.reduceEqDiff, Nat.reduceAdd, Nat.reduceBEq, Int.reduceEq, H.cv_3_5, H.cv_3_49, H.cv_49_5, q]
    refine (awake_ok H HC L _).mono ?_
    rintro _ _ ⟨rfl, hh⟩; subst hh
    rw [contK_some]; simp (disch := first | omega | (simp only [List.length_cons, List.length_nil, List.length_append, u8s_len]; omega)) only [go_sem, ↓reduceIte, true_and, Nat.reduceLeDiff, Nat.reduceEqDiff, Nat.reduceAdd, Nat.reduceBEq, Int.reduceEq, H.cv_3_5, H.cv_3_49, H.cv_49_5]
end Go.Proofs.Ytmellpjoinldnaa
