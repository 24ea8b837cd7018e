/- What the functions come to: measures. -/
import Derived.Test.YtjnoigekhdjkcaaGaussOps4
set_option linter.unusedVariables false
set_option linter.unusedSimpArgs false
namespace Go.Proofs.Ytjnoigekhdjkcaa
open Go.Am
def gcdS (a b : Pt) : Pt × Nat := if okPt a ∧ okPt b then (upP (gcdP a b), 0) else ((0, 0), 1)
theorem rotN_one (p : Pt) : rotN ((1 : Int) % 4).toNat p = rotP p := rfl

theorem A_scopeM {P : Program} {ann : Ann} {c : AC} {t : Nat → AV} {h : Heap} {Q : Ex → St → Prop} (J : Nat → Nat → (Nat → AV) → Heap → Prop) (M : Nat)
    (first : AW P ann c ⟨t, h⟩ (jumpQ (fun l s => ∃ m', m' < M ∧ J l m' s.t s.h) Q))
    (pass : ∀ l m t h, J l m t h → ∃ rest, findA c l = some rest ∧ AW P ann rest ⟨t, h⟩ (jumpQ (fun l' s => ∃ m', m' < m ∧ J l' m' s.t s.h) Q)) : AW P ann (.scope c c) ⟨t, h⟩ Q := by
  refine A_scope J (first.mono fun e s hq => ?_) pass
  cases e <;> first | exact hq | (obtain ⟨m, _, hJ⟩ := hq; exact ⟨m, hJ⟩)

def gcdC : AC := match code0_24.code with
  | .seq _ (.scope c _) => c
  | c => c
def gcdB : AC := match findA gcdC 0 with
  | some (.seq .skip b) => b
  | _ => .skip
def gcdD : AC := match findA gcdC 1 with
  | some (.seq .skip b) => b
  | _ => .skip
theorem gcdC_0 : findA gcdC 0 = some (.seq .skip gcdB) := by rfl
theorem gcdC_1 : findA gcdC 1 = some (.seq .skip gcdD) := by rfl

variable {P : Program} (H : Has P) (HC : HasC P)
include H HC
theorem gcd_ok (a b : Pt) (h : Heap) : AWF P ann 0 24 [ptA a, ptA b] h fun r h' => r = resP (gcdS a b) ∧ h' = h := by
  refine AWF.fnPurec H.f0_24 rfl ?_
  have hO := OB.nil (h := h)
  (refine W_seq_gen fun N hN => ?_); simp (disch := first | omega | (simp only [List.length_cons, List.length_nil, List.length_append, u8s_len]; omega)) only [go_sem, ↓reduceIte, true_and, Nat.reduceLeDiff, Nat.reduceEqDiff, Nat.reduceAdd, Nat.reduceBEq, Int.reduceEq, ptA]
  intro o2 h2 o3 h3 o4 h4
  refine hN _ ?_; clear hN N; refine W_ob (((hO.new h2).new h3).new h4) fun hc hO => ?_
  by_cases q : okPt a ∧ okPt b
  case neg =>
    rw [W_scope]
    refine A_scope (fun _ _ _ _ => False) (W_sound ?_) (fun _ _ _ _ h => h.elim)
    (refine W_seq_gen fun N hN => ?_); simp (disch := first | omega | (simp only [List.length_cons, List.length_nil, List.length_append, u8s_len]; omega)) only [go_sem, ↓reduceIte, true_and, Nat.reduceLeDiff, Nat.reduceEqDiff, Nat.reduceAdd, Nat.reduceBEq, Int.reduceEq, hO.get0, hO.get1, hO.get2]
    refine (both_ok H _ _ _ _ _ _ _).mono ?_
    rintro _ _ ⟨rfl, hh⟩; subst hh
    have e : bothN a.1 a.2 b.1 b.2 a.1 a.2 = 1 := by rw [bothN, if_neg q]
    rw [e]
    rw [contK_some]; simp (disch := first | omega | (simp only [List.length_cons, List.length_nil, List.length_append, u8s_len]; omega)) only [go_sem, ↓reduceIte, true_and, Nat.reduceLeDiff, Nat.reduceEqDiff, Nat.reduceAdd, Nat.reduceBEq, Int.reduceEq, errN, hO.get0, hO.get1, hO.get2]
    rw [gcdS, if_neg q]
    exact ⟨rfl, hO.st0.keep⟩
  rw [W_scope]
  have zn : ∀ p : Pt, decide (p.1 = ((0 : Nat) : Int) ∧ p.2 = ((0 : Nat) : Int)) = decide (p = (0, 0)) := fun p => by
    rw [decide_eq_decide]
    exact ⟨fun ⟨a, b⟩ => pt_ext a b, fun h => by subst h; exact ⟨rfl, rfl⟩⟩
  generalize hJ : (fun (l m : Nat) (t : Nat → AV) (hc : Heap) => ∃ x y : Pt, okPt x ∧ okPt y ∧ t 2 = .op o2 0 ∧ t 3 = .op o3 0 ∧ t 4 = .op o4 0 ∧
    OB h [(o4, .arr [.sc (.int .i64 (0 : Nat)), .sc (.int .i64 (0 : Nat))]), (o3, .arr [.sc (.int .i64 y.1), .sc (.int .i64 y.2)]), (o2, .arr [.sc (.int .i64 x.1), .sc (.int .i64 x.2)])] hc ∧
    ((l = 0 ∧ m = (nrm y).toNat + 10 ∧ gcdP x y = gcdP a b) ∨ (l = 1 ∧ m = upK x ∧ upP x = upP (gcdP a b)))) = J
  have D : ∀ (M : Nat) (x y : Pt) (t : Nat → AV) (hc : Heap), okPt x → okPt y → t 2 = .op o2 0 → t 3 = .op o3 0 → t 4 = .op o4 0 →
      OB h [(o4, .arr [.sc (.int .i64 (0 : Nat)), .sc (.int .i64 (0 : Nat))]), (o3, .arr [.sc (.int .i64 y.1), .sc (.int .i64 y.2)]), (o2, .arr [.sc (.int .i64 x.1), .sc (.int .i64 x.2)])] hc → upP x = upP (gcdP a b) → upK x ≤ M →
      W P ann gcdD ⟨t, hc⟩ (jumpQ (fun l' s => ∃ m', m' < M ∧ J l' m' s.t s.h) fun e s => (e = .ret ∨ e = .normal) ∧ (∃ v, resA [.cell 4 true 2, .tmp 5] s = some v ∧ v = resP (gcdS a b)) ∧ ∀ o, ¬ h o = none → s.h o = h o) := by
    intro M x y t hc okx oky t2 t3 t4 hO hup hM
    have ne := HC.ne x.1 x.2 ((0 : Nat) : Int) ((0 : Nat) : Int)
    rw [zn x] at ne
    simp only [gcdD, gcdC, code0_24, findA, Nat.reduceBEq, if_true, Bool.false_eq_true, if_false]
    have fin : upP x = x → ∀ (N : St → Prop), (∀ s', W P ann (.seq (.reg [⟨some 45, .ld false true 2 (.t 2), none⟩, ⟨none, .st 2 (.t 4) (.t 45), none⟩, ⟨some 5, .mov true (.c (.sc (.int .i64 (0 : Nat)))), none⟩]) .ret) s'
        (jumpQ (fun l' s => ∃ m', m' < M ∧ J l' m' s.t s.h) fun e s => (e = .ret ∨ e = .normal) ∧ (∃ v, resA [.cell 4 true 2, .tmp 5] s = some v ∧ v = resP (gcdS a b)) ∧ ∀ o, ¬ h o = none → s.h o = h o) → N s') → ∀ t : Nat → AV, t 2 = .op o2 0 → t 4 = .op o4 0 → N ⟨t, hc⟩ := by
      intro hx N hN t t2 t4
      refine hN _ ?_
      simp (disch := first | omega | (simp only [List.length_cons, List.length_nil, List.length_append, u8s_len]; omega)) only [go_sem, ↓reduceIte, true_and, Nat.reduceLeDiff, Nat.reduceEqDiff, Nat.reduceAdd, Nat.reduceBEq, Int.reduceEq, t2, t4, hO.get0, hO.get2]
      rw [gcdS, if_pos q, ← hup, hx]
      exact ⟨rfl, hO.st0.keep⟩
    have rot : ∀ (t : Nat → AV), x ≠ (0, 0) → ¬ (x.1 > 0 ∧ x.2 ≥ 0) → t 2 = .op o2 0 → t 3 = .op o3 0 → t 4 = .op o4 0 → ∃ m', m' < M ∧ J 1 m' t (upd hc o2 (some (.arr [.sc (.int .i64 (rotP x).1), .sc (.int .i64 (rotP x).2)]))) := by
      intro t hx0 hq t2 t3 t4
      have hk := upK_rot hx0 hq
      refine ⟨upK (rotP x), by omega, ?_⟩
      rw [← hJ]
      exact ⟨rotP x, y, rot_ok okx, oky, t2, t3, t4, hO.st2, .inr ⟨rfl, rfl, by rw [← hup]; exact (upP_rot hx0 hq).symm⟩⟩
    by_cases hx0 : x = (0, 0)
    · rw [decide_eq_true hx0] at ne
      (refine W_seq_gen fun N hN => ?_); simp (disch := first | omega | (simp only [List.length_cons, List.length_nil, List.length_append, u8s_len]; omega)) only [go_sem, ↓reduceIte, true_and, Nat.reduceLeDiff, Nat.reduceEqDiff, Nat.reduceAdd, Nat.reduceBEq, Int.reduceEq, t2, hO.get2, ne]
      refine fin (by rw [hx0]; exact upP_zero) N hN _ ?_ ?_
      · simpa [upd_at] using t2
      · simpa [upd_at] using t4
    rw [decide_eq_false hx0] at ne
    by_cases c1 : x.1 ≤ ((0 : Nat) : Int)
    · (refine W_seq_gen fun N hN => ?_); simp (disch := first | omega | (simp only [List.length_cons, List.length_nil, List.length_append, u8s_len]; omega)) only [go_sem, ↓reduceIte, true_and, Nat.reduceLeDiff, Nat.reduceEqDiff, Nat.reduceAdd, Nat.reduceBEq, Int.reduceEq, t2, hO.get2, ne, c1]
      refine (turn_ok H x 1 _).mono ?_
      rw [if_pos okx, rotN_one]
      rintro _ _ ⟨rfl, hh⟩; subst hh
      rw [contK_some]; simp (disch := first | omega | (simp only [List.length_cons, List.length_nil, List.length_append, u8s_len]; omega)) only [go_sem, ↓reduceIte, true_and, Nat.reduceLeDiff, Nat.reduceEqDiff, Nat.reduceAdd, Nat.reduceBEq, Int.reduceEq, ptA, t2, hO.get2]
      refine rot _ hx0 (fun h => by omega) ?_ ?_ ?_
      · simpa [upd_at] using t2
      · simpa [upd_at] using t3
      · simpa [upd_at] using t4
    by_cases c2 : x.2 < ((0 : Nat) : Int)
    · (refine W_seq_gen fun N hN => ?_); simp (disch := first | omega | (simp only [List.length_cons, List.length_nil, List.length_append, u8s_len]; omega)) only [go_sem, ↓reduceIte, true_and, Nat.reduceLeDiff, Nat.reduceEqDiff, Nat.reduceAdd, Nat.reduceBEq, Int.reduceEq, t2, hO.get2, ne, c1, c2]
      refine (turn_ok H x 1 _).mono ?_
      rw [if_pos okx, rotN_one]
      rintro _ _ ⟨rfl, hh⟩; subst hh
      rw [contK_some]; simp (disch := first | omega | (simp only [List.length_cons, List.length_nil, List.length_append, u8s_len]; omega)) only [go_sem, ↓reduceIte, true_and, Nat.reduceLeDiff, Nat.reduceEqDiff, Nat.reduceAdd, Nat.reduceBEq, Int.reduceEq, ptA, t2, hO.get2]
      refine rot _ hx0 (fun h => by omega) ?_ ?_ ?_
      · simpa [upd_at] using t2
      · simpa [upd_at] using t3
      · simpa [upd_at] using t4
    · (refine W_seq_gen fun N hN => ?_); simp (disch := first | omega | (simp only [List.length_cons, List.length_nil, List.length_append, u8s_len]; omega)) only [go_sem, ↓reduceIte, true_and, Nat.reduceLeDiff, Nat.reduceEqDiff, Nat.reduceAdd, Nat.reduceBEq, Int.reduceEq, t2, hO.get2, ne, c1, c2]
      have h0 : upK x = 0 := (upK_zero hx0).2 ⟨by omega, by omega⟩
      refine fin (by unfold upP; rw [h0]; rfl) N hN _ ?_ ?_
      · simpa [upd_at] using t2
      · simpa [upd_at] using t4
  have B : ∀ (M : Nat) (x y : Pt) (t : Nat → AV) (hc : Heap), okPt x → okPt y → t 2 = .op o2 0 → t 3 = .op o3 0 → t 4 = .op o4 0 →
      OB h [(o4, .arr [.sc (.int .i64 (0 : Nat)), .sc (.int .i64 (0 : Nat))]), (o3, .arr [.sc (.int .i64 y.1), .sc (.int .i64 y.2)]), (o2, .arr [.sc (.int .i64 x.1), .sc (.int .i64 x.2)])] hc → gcdP x y = gcdP a b → (nrm y).toNat + 10 ≤ M →
      W P ann gcdB ⟨t, hc⟩ (jumpQ (fun l' s => ∃ m', m' < M ∧ J l' m' s.t s.h) fun e s => (e = .ret ∨ e = .normal) ∧ (∃ v, resA [.cell 4 true 2, .tmp 5] s = some v ∧ v = resP (gcdS a b)) ∧ ∀ o, ¬ h o = none → s.h o = h o) := by
    intro M x y t hc okx oky t2 t3 t4 hO hg hM
    have ne := HC.ne y.1 y.2 ((0 : Nat) : Int) ((0 : Nat) : Int)
    rw [zn y] at ne
    simp only [gcdB, gcdC, code0_24, findA, Nat.reduceBEq, if_true, Bool.false_eq_true, if_false]
    by_cases hy0 : y = (0, 0)
    · rw [decide_eq_true hy0] at ne
      (refine W_seq_gen fun N hN => ?_); simp (disch := first | omega | (simp only [List.length_cons, List.length_nil, List.length_append, u8s_len]; omega)) only [go_sem, ↓reduceIte, true_and, Nat.reduceLeDiff, Nat.reduceEqDiff, Nat.reduceAdd, Nat.reduceBEq, Int.reduceEq, t3, hO.get1, ne]
      refine hN _ ?_; clear hN N
      (refine W_seq_gen fun N hN => ?_); simp (disch := first | omega | (simp only [List.length_cons, List.length_nil, List.length_append, u8s_len]; omega)) only [go_sem, ↓reduceIte, true_and, Nat.reduceLeDiff, Nat.reduceEqDiff, Nat.reduceAdd, Nat.reduceBEq, Int.reduceEq]
      refine hN _ ?_; clear hN N
      have hu : upK x ≤ M := by
        have : upK x ≤ 3 := by unfold upK; split <;> (try split) <;> (try split) <;> (try split) <;> omega
        omega
      refine D M x y _ hc okx oky ?_ ?_ ?_ hO ?_ hu
      · simpa [upd_at] using t2
      · simpa [upd_at] using t3
      · simpa [upd_at] using t4
      · rw [← hg, hy0, gcdP_zero]
    · rw [decide_eq_false hy0] at ne
      have hd : divS x y = ((quoP x y, remP x y), 0) := by rw [divS, if_pos ⟨okx, oky, hy0⟩]
      (refine W_seq_gen fun N hN => ?_); simp (disch := first | omega | (simp only [List.length_cons, List.length_nil, List.length_append, u8s_len]; omega)) only [go_sem, ↓reduceIte, true_and, Nat.reduceLeDiff, Nat.reduceEqDiff, Nat.reduceAdd, Nat.reduceBEq, Int.reduceEq, t2, t3, hO.get1, hO.get2, ne]
      refine (div_ok H x y _).mono ?_
      rw [hd]
      rintro _ _ ⟨rfl, hh⟩; subst hh
      rw [contK_some]; simp (disch := first | omega | (simp only [List.length_cons, List.length_nil, List.length_append, u8s_len]; omega)) only [go_sem, ↓reduceIte, true_and, Nat.reduceLeDiff, Nat.reduceEqDiff, Nat.reduceAdd, Nat.reduceBEq, Int.reduceEq, res3, ptA, errN]
      intro b7 h7 b8 h8
      have hO8 := (hO.new h7 (X := .arr [.sc (.int .i64 (0 : Nat)), .sc (.int .i64 (0 : Nat))])).new h8 (X := .arr [.sc (.int .i64 (0 : Nat)), .sc (.int .i64 (0 : Nat))])
      have n87 : ¬ b8 = b7 := hO8.ne01
      have n78 : ¬ b7 = b8 := fun e => n87 e.symm
      have n38 : ¬ o3 = b8 := fun e => hO8.ne03 e.symm
      have n37 : ¬ o3 = b7 := fun e => hO8.ne13 e.symm
      have n28 : ¬ o2 = b8 := fun e => hO8.ne04 e.symm
      have n27 : ¬ o2 = b7 := fun e => hO8.ne14 e.symm
      have n32 : ¬ o3 = o2 := hO8.ne34
      simp (disch := first | omega | (simp only [List.length_cons, List.length_nil, List.length_append, u8s_len]; omega)) only [go_sem, ↓reduceIte, true_and, Nat.reduceLeDiff, Nat.reduceEqDiff, Nat.reduceAdd, Nat.reduceBEq, Int.reduceEq, t2, t3, hO.get1, hO.get2, n87, n78, n38, n37, n28, n27, n32]
      have hlt := rem_lt (a := x) hy0
      refine ⟨(nrm (remP x y)).toNat + 10, by omega, ?_⟩
      rw [← hJ]
      refine ⟨y, remP x y, oky, rem_ok oky (nrm_pos hy0), ?_, ?_, ?_, hO8.st1.st0.st4.st3.tail.tail, .inl ⟨rfl, rfl, ?_⟩⟩
      · simpa [upd_at] using t2
      · simpa [upd_at] using t3
      · simpa [upd_at] using t4
      · rw [← hg, gcdP_step hy0]
  refine A_scopeM J ((nrm b).toNat + 11) (W_sound ?_) ?_
  · refine (?_ : W P ann gcdC _ _)
    simp only [gcdC, code0_24]
    (refine W_seq_gen fun N hN => ?_); simp (disch := first | omega | (simp only [List.length_cons, List.length_nil, List.length_append, u8s_len]; omega)) only [go_sem, ↓reduceIte, true_and, Nat.reduceLeDiff, Nat.reduceEqDiff, Nat.reduceAdd, Nat.reduceBEq, Int.reduceEq, hO.get0, hO.get1, hO.get2]
    refine (both_ok H _ _ _ _ _ _ _).mono ?_
    rintro _ _ ⟨rfl, hh⟩; subst hh
    have e : bothN a.1 a.2 b.1 b.2 a.1 a.2 = 0 := by rw [bothN, if_pos q, if_pos q.1]
    rw [e]
    rw [contK_some]; simp (disch := first | omega | (simp only [List.length_cons, List.length_nil, List.length_append, u8s_len]; omega)) only [go_sem, ↓reduceIte, true_and, Nat.reduceLeDiff, Nat.reduceEqDiff, Nat.reduceAdd, Nat.reduceBEq, Int.reduceEq, errN]
    refine hN _ ?_; clear hN N
    refine B ((nrm b).toNat + 11) a b _ _ q.1 q.2 ?_ ?_ ?_ hO rfl (by omega)
    · simp [upd_at]
    · simp [upd_at]
    · simp [upd_at]
  · intro l m t hc hj
    rw [← hJ] at hj
    obtain ⟨x, y, okx, oky, t2, t3, t4, hO, hl⟩ := hj
    rcases hl with ⟨rfl, rfl, hg⟩ | ⟨rfl, rfl, hu⟩
    · refine ⟨_, gcdC_0, W_sound ?_⟩
      simp only [W_seq, W_skip, thenQ_normal]
      exact B _ x y t hc okx oky t2 t3 t4 hO hg (Nat.le_refl _)
    · refine ⟨_, gcdC_1, W_sound ?_⟩
      simp only [W_seq, W_skip, thenQ_normal]
      exact D _ x y t hc okx oky t2 t3 t4 hO hu (Nat.le_refl _)
end Go.Proofs.Ytjnoigekhdjkcaa
