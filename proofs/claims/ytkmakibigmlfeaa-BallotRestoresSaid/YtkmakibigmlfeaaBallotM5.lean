/- One master alone. -/
import Derived.Test.YtkmakibigmlfeaaBallotM4
section
set_option linter.unusedVariables false
set_option linter.unusedSimpArgs false
namespace Go.Proofs.Ytkmakibigmlfeaa
open Go.Am
/-- A master alone. -/
def MS (id T vote : Int) (l : List (Int × List UInt8)) (com role k : Nat) (cs : List AV) : Prop :=
  ∃ (lead : Int) (pv lv yv nv mv : AV) (es ye ne me : List (List AV)), cs = [.sc (.int .i64 id), pv, .sc (.int .i64 T), .sc (.int .i64 vote), lv, .sc (.int .i64 (com : Nat)), .sc (.int .i64 (role : Nat)), .sc (.int .i64 lead), yv, .sc (.int .i64 (k : Nat)), nv, mv] ∧
    SF 1 pv (ints [id]) ∧ SF 2 lv es ∧ SF 1 yv ye ∧ SF 1 nv ne ∧ SF 1 mv me ∧ RR LgR es l ∧ (lv = .sc (.slice none 0 0) ∨ es ≠ []) ∧ ye.length ≤ 8 ∧ ne.length ≤ 8 ∧ me.length ≤ 8
/-- What is bounded of its records. -/
def LB (l : List (Int × List UInt8)) : Prop := l.length < 512 ∧ ∀ x ∈ l, x.2.length ≤ 2 ^ 30
theorem lgv_or {L : List (List AV)} : lgv L = .sc (.slice none 0 0) ∨ L ≠ [] := by
  cases L with
  | nil => exact .inl rfl
  | cons a L => exact .inr (by simp)
variable {P : Program} (H : Has P)
include H
theorem tick_f {id T vote : Int} {l : List (Int × List UInt8)} {com k : Nat} {cs : List AV} (hm : MS id T vote l com 1 k cs) (hb : LB l) (hk : k < 7) (h : Heap) :
    AWF P ann 0 7 [.ag cs] h fun r h' => (∃ cs', r = .tu [.ag cs', .sc (.slice none 0 0)] ∧ MS id T vote l com 1 (k + 1) cs') ∧ h' = h := by
  obtain ⟨lead, pv, lv, yv, nv, mv, es, ye, ne, me, rfl, a1, a2, a3, a4, a5, a6, a7, a8, a9, a10⟩ := hm
  refine (tickwait_ok H a1 a2 a3 a4 a5 a6 (by have := hb.1; omega) hb.2 (by omega) (by omega) (by omega) a7 (by omega) (by omega) h).mono ?_
  rintro _ h1 ⟨rfl, rfl⟩
  exact ⟨⟨_, rfl, lead, _, _, _, _, _, _, ye, ne, me, by simp, frz_sf a1, lgv_sf, frz_sf a3, frz_sf a4, frz_sf a5, lgr_D a6, lgv_or, a8, a9, a10⟩, rfl⟩
theorem tick_l {id T vote : Int} {l : List (Int × List UInt8)} {com k : Nat} {cs : List AV} (hm : MS id T vote l com 3 k cs) (hb : LB l) (h : Heap) :
    AWF P ann 0 7 [.ag cs] h fun r h' => (∃ cs', r = .tu [.ag cs', .sc (.slice none 0 0)] ∧ MS id T vote l com 3 k cs') ∧ h' = h := by
  obtain ⟨lead, pv, lv, yv, nv, mv, es, ye, ne, me, rfl, a1, a2, a3, a4, a5, a6, a7, a8, a9, a10⟩ := hm
  refine (ticklead_ok H a1 a2 a3 a4 a5 a6 (by have := hb.1; omega) hb.2 (by omega) (by omega) (by omega) a7 h).mono ?_
  rintro _ h1 ⟨rfl, rfl⟩
  exact ⟨⟨_, rfl, lead, _, _, _, _, _, _, ye, ne, me, rfl, frz_sf a1, lgv_sf, frz_sf a3, frz_sf a4, frz_sf a5, lgr_D a6, lgv_or, a8, a9, a10⟩, rfl⟩
theorem tick_s {id T vote : Int} {l : List (Int × List UInt8)} {com : Nat} {cs : List AV} (hm : MS id T vote l com 1 7 cs) (hb : LB l) (hc : com ≤ l.length) (hT0 : 0 ≤ T) (hT : T < 2147483647) (h : Heap) :
    AWF P ann 0 7 [.ag cs] h fun r h' => (∃ cs', r = .tu [.ag cs', .sc (.slice none 0 0)] ∧ MS id (T + 1) id (l ++ [(T + 1, [])]) (l.length + 1) 3 0 cs') ∧ h' = h := by
  obtain ⟨lead, pv, lv, yv, nv, mv, es, ye, ne, me, rfl, a1, a2, a3, a4, a5, a6, a7, a8, a9, a10⟩ := hm
  have hl := a6.len
  refine (tickstand_ok H a1 a2 a3 a4 a5 a6 (by have := hb.1; omega) hb.2 (by omega) (by omega) (by omega) a7 (by simp) (by simp) hT0 hT (by rw [hl]; exact hb.1) (by rw [hl]; exact hc) h).mono ?_
  rintro _ h1 ⟨rfl, rfl⟩
  rw [hl]
  exact ⟨⟨_, rfl, id, _, _, _, _, _, _, [], _, _, rfl, frz_sf a1, lgv_sf, .inl ⟨rfl, rfl⟩, .inr ⟨_, rfl⟩, .inr ⟨_, rfl⟩, (lgr_D a6).append (.one ⟨_, rfl, .inl ⟨rfl, rfl⟩⟩), lgv_or, by simp, by simp, by simp⟩, rfl⟩
omit H in
/-- After so many ticks. -/
def TS (id T vote : Int) (l : List (Int × List UInt8)) (n : Nat) (cs : List AV) : Prop :=
  if n < 8 then MS id T vote l 0 1 n cs else MS id (T + 1) id (l ++ [(T + 1, [])]) (l.length + 1) 3 0 cs
theorem tick_n {id T vote : Int} {l : List (Int × List UInt8)} {n : Nat} {cs : List AV} (hm : TS id T vote l n cs) (hb : LB l) (hl : l.length < 511) (hT0 : 0 ≤ T) (hT : T < 2147483647) (h : Heap) :
    AWF P ann 0 7 [.ag cs] h fun r h' => (∃ cs', r = .tu [.ag cs', .sc (.slice none 0 0)] ∧ TS id T vote l (n + 1) cs') ∧ h' = h := by
  unfold TS at hm ⊢
  by_cases c : n < 8
  · rw [if_pos c] at hm
    by_cases c7 : n = 7
    · subst c7
      simp only [Nat.reduceAdd, Nat.lt_irrefl, if_false]
      exact tick_s H hm hb (Nat.zero_le _) hT0 hT h
    · have : n + 1 < 8 := by omega
      simp only [if_pos this]
      exact tick_f H hm hb (by omega) h
  · rw [if_neg c] at hm
    have : ¬ n + 1 < 8 := by omega
    simp only [if_neg this]
    refine tick_l H hm ⟨by simp; omega, fun x hx => ?_⟩ h
    rcases List.mem_append.1 hx with hx | hx
    · exact hb.2 x hx
    · rw [List.mem_singleton] at hx
      subst hx
      simp
omit H in
theorem MS.at {id T vote : Int} {l : List (Int × List UInt8)} {com role k : Nat} {cs : List AV} (hm : MS id T vote l com role k cs) : ∃ (lead : Int) (pv lv yv nv mv : AV), cs = [.sc (.int .i64 id), pv, .sc (.int .i64 T), .sc (.int .i64 vote), lv, .sc (.int .i64 (com : Nat)), .sc (.int .i64 (role : Nat)), .sc (.int .i64 lead), yv, .sc (.int .i64 (k : Nat)), nv, mv] ∧
    pv.disc = pv ∧ lv.disc = lv ∧ yv.disc = yv ∧ nv.disc = nv ∧ mv.disc = mv := by
  obtain ⟨lead, pv, lv, yv, nv, mv, es, ye, ne, me, rfl, a1, a2, a3, a4, a5, _⟩ := hm
  exact ⟨lead, pv, lv, yv, nv, mv, rfl, a1.disc, a2.disc, a3.disc, a4.disc, a5.disc⟩
omit H in
theorem rest_ms {pv lv : AV} {id T vote : Int} {es : List (List AV)} {l : List (Int × List UInt8)} (hpv : SF 1 pv (ints [id])) (hlv : SF 2 lv es) (hL : RR LgR es l) (hne : lv = .sc (.slice none 0 0) ∨ es ≠ []) :
    ∃ cs, RestV id pv T vote lv true = .tu [.ag cs, .sc (.int .i64 ((0 : Nat) : Int))] ∧ MS id T vote l 0 1 0 cs := by
  refine ⟨_, rfl, ((0 : Nat) : Int), _, _, _, _, _, es.map logD, [], [], [], rfl, frz_sf hpv, ?_, .inl ⟨rfl, rfl⟩, .inl ⟨rfl, rfl⟩, .inl ⟨rfl, rfl⟩, lgr_D hL, ?_, by simp, by simp, by simp⟩
  · rcases hlv with ⟨rfl, rfl⟩ | ⟨lim, rfl⟩
    · exact .inl ⟨rfl, rfl⟩
    · exact .inr ⟨none, rfl⟩
  · rcases hne with rfl | h
    · exact .inl rfl
    · exact .inr (by simpa using h)
theorem new1_ok {pv : AV} {id : Int} (hpv : SL 1 pv (ints [id])) (h0 : 1 ≤ id) (h1 : id ≤ 999) (h : Heap) :
    AWF P ann 0 6 [.sc (.int .i64 id), pv] h fun r h' => (∃ cs, r = .tu [.ag cs, .sc (.int .i64 ((0 : Nat) : Int))] ∧ MS id 0 0 [] 0 1 0 cs) ∧ h' = h := by
  refine (new_ok H hpv (by simp) h).mono ?_
  rintro _ h2 ⟨rfl, rfl⟩
  have hb : restB id [id] 0 0 [] = true := by
    have c1 : ¬ id < 1 := by omega
    have c2 : ¬ 999 < id := by omega
    simp [restB, rest0, peersB, goodP, goodL, bP, c1, c2]
  rw [hb]
  exact ⟨rest_ms (toF hpv) (.inl ⟨rfl, rfl⟩) (l := []) trivial (.inl rfl), rfl⟩
omit H in
theorem TS.at {id T vote : Int} {l : List (Int × List UInt8)} {n : Nat} {cs : List AV} (hm : TS id T vote l n cs) : ∃ (lead T' vote' com role k : Int) (pv lv yv nv mv : AV), cs = [.sc (.int .i64 id), pv, .sc (.int .i64 T'), .sc (.int .i64 vote'), lv, .sc (.int .i64 com), .sc (.int .i64 role), .sc (.int .i64 lead), yv, .sc (.int .i64 k), nv, mv] ∧
    pv.disc = pv ∧ lv.disc = lv ∧ yv.disc = yv ∧ nv.disc = nv ∧ mv.disc = mv := by
  unfold TS at hm
  split at hm
  · obtain ⟨lead, pv, lv, yv, nv, mv, rfl, h⟩ := hm.at
    exact ⟨_, _, _, _, _, _, _, _, _, _, _, rfl, h⟩
  · obtain ⟨lead, pv, lv, yv, nv, mv, rfl, h⟩ := hm.at
    exact ⟨_, _, _, _, _, _, _, _, _, _, _, rfl, h⟩
theorem prop_f {id T vote : Int} {l : List (Int × List UInt8)} {com k : Nat} {cs : List AV} {cv : AV} {ce : List (List AV)} (hm : MS id T vote l com 1 k cs) (hb : LB l) (hcv : SF 1 cv ce) (hcl : ce.length ≤ 1024) :
    ∃ cs', (∀ h, AWF P ann 0 9 [.ag cs, cv] h fun r h' => r = .tu [.ag cs', .sc (.slice none 0 0), .sc (.bool false)] ∧ h' = h) ∧ MS id T vote l com 1 k cs' := by
  obtain ⟨lead, pv, lv, yv, nv, mv, es, ye, ne, me, rfl, a1, a2, a3, a4, a5, a6, a7, a8, a9, a10⟩ := hm
  refine ⟨_, fun h => propno_ok H a1 a2 a3 a4 a5 a6 (by have := hb.1; omega) hb.2 (by omega) (by omega) (by omega) a7 hcv hcl h, ?_⟩
  exact ⟨lead, _, _, _, _, _, _, ye, ne, me, rfl, frz_sf a1, lgv_sf, frz_sf a3, frz_sf a4, frz_sf a5, lgr_D a6, lgv_or, a8, a9, a10⟩
theorem prop_l {id T vote : Int} {l : List (Int × List UInt8)} {com k : Nat} {cs : List AV} {cv : AV} {b : List UInt8} (hm : MS id T vote l com 3 k cs) (hb : LB l) (hc : com ≤ l.length) (hcv : SF 1 cv (u8s b)) (hcl : b.length ≤ 1024) :
    ∃ cs', (∀ h, AWF P ann 0 9 [.ag cs, cv] h fun r h' => r = .tu [.ag cs', .sc (.slice none 0 0), .sc (.bool true)] ∧ h' = h) ∧ MS id T vote (l ++ [(T, b)]) (l.length + 1) 3 k cs' := by
  obtain ⟨lead, pv, lv, yv, nv, mv, es, ye, ne, me, rfl, a1, a2, a3, a4, a5, a6, a7, a8, a9, a10⟩ := hm
  have hl := a6.len
  refine ⟨_, fun h => propyes_ok H a1 a2 a3 a4 a5 a6 (by have := hb.1; omega) hb.2 (by omega) (by omega) (by omega) a7 (by rw [hl]; exact hb.1) (by rw [hl]; exact hc) hcv (by rw [u8s_len]; exact hcl) h, ?_⟩
  rw [hl]
  exact ⟨lead, _, _, _, _, _, _, ye, ne, me, rfl, frz_sf a1, lgv_sf, frz_sf a3, frz_sf a4, frz_sf a5, (lgr_D a6).append (.one ⟨_, rfl, frz_sf hcv⟩), lgv_or, a8, a9, a10⟩
end Go.Proofs.Ytkmakibigmlfeaa
end

section
set_option linter.unusedVariables false
set_option linter.unusedSimpArgs false
namespace Go.Proofs.Ytkmakibigmlfeaa
open Go.Am
variable {P : Program} (H : Has P)
include H
theorem awake_ok (h : Heap) : AWF P ann 0 8 [] h fun r h' => r = .sc (.bool true) ∧ h' = h := by
  refine AWF.fnPurec H.f0_8 rfl ?_
  have hpv : SL 1 (.bs true 1 [[.sc (.int .i64 ((1 : Nat) : Int))]] (some 1)) (ints [((1 : Nat) : Int)]) := .inr ⟨_, _, rfl⟩
  (refine W_seq_gen fun N hN => ?_); simp (disch := first | omega | (simp only [List.length_cons, List.length_nil, List.length_append, u8s_len]; omega)) only [go_sem, ↓reduceIte, true_and, Nat.reduceLeDiff, Nat.reduceEqDiff, Nat.reduceAdd, Nat.reduceBEq, Int.reduceEq, H.cv_5_3]
  refine hN _ ?_; clear hN N
  (refine W_seq_gen fun N hN => ?_)
  simp (disch := first | omega | (simp only [List.length_cons, List.length_nil, List.length_append, u8s_len]; omega)) only [go_sem, ↓reduceIte, true_and, Nat.reduceLeDiff, Nat.reduceEqDiff, Nat.reduceAdd, Nat.reduceBEq, Int.reduceEq, H.cv_5_3]
  refine (new1_ok H hpv (by decide) (by decide) _).mono ?_
  rintro _ h1 ⟨⟨cs, rfl, hm⟩, rfl⟩
  have hT : TS ((1 : Nat) : Int) 0 0 [] 0 cs := by unfold TS; rw [if_pos (by decide)]; exact hm
  clear hm
  obtain ⟨a1, a2, a3, a4, a5, a6, pv, lv, yv, nv, mv, rfl, d1, d2, d3, d4, d5⟩ := id hT.at
  rw [contK_some]; simp (disch := first | omega | (simp only [List.length_cons, List.length_nil, List.length_append, u8s_len]; omega)) only [go_sem, ↓reduceIte, true_and, Nat.reduceLeDiff, Nat.reduceEqDiff, Nat.reduceAdd, Nat.reduceBEq, Int.reduceEq, H.cv_5_3, d1, d2, d3, d4, d5]
  intro o1 ho1
  have hO := (OB.nil (h := h1)).new ho1 (X := .arr zero12)
  refine hN _ ?_; clear hN N
  clear hO
  (refine W_seq_gen fun M hM => ?_)
  (refine W_seq_gen fun N hN => ?_); simp (disch := first | omega | (simp only [List.length_cons, List.length_nil, List.length_append, u8s_len]; omega)) only [go_sem, ↓reduceIte, true_and, Nat.reduceLeDiff, Nat.reduceEqDiff, Nat.reduceAdd, Nat.reduceBEq, Int.reduceEq, H.cv_5_3]
  refine hN _ ?_; clear hN N
  refine AW_loopN (fun m t h' => ∃ i cs, m = 8 - i ∧ i ≤ 8 ∧ t 1 = .op o1 0 ∧ t 2 = .sc (.int .i64 ((0 : Nat) : Int)) ∧ t 3 = .sc (.int .i64 (i : Nat)) ∧ TS ((1 : Nat) : Int) 0 0 [] i cs ∧ h' o1 = some (.arr cs) ∧ ∀ x, h1 x ≠ none → h' x = h1 x) (n := 8)
    ⟨0, _, rfl, by omega, by simp [upd_at], by simp [upd_at], by simp [upd_at], hT, by rw [upd_same], fun x hx => ?_⟩ ?_
  · have n1 : x ≠ o1 := fun e => hx (by rw [e]; exact ho1)
    rw [upd_ne _ _ n1]
  clear hT d1 d2 d3 d4 d5
  rintro m t h' ⟨i, cs, rfl, hi, t1, t2, t3, hT, hz, hk⟩
  obtain ⟨a1, a2, a3, a4, a5, a6, pv, lv, yv, nv, mv, rfl, d1, d2, d3, d4, d5⟩ := id hT.at
  rcases Nat.lt_or_ge i 8 with hlt | hge
  · have d8 : decide (i < 8) = true := by simpa using hlt
    (refine W_seq_gen fun N hN => ?_); simp (disch := first | omega | (simp only [List.length_cons, List.length_nil, List.length_append, u8s_len]; omega)) only [go_sem, ↓reduceIte, true_and, Nat.reduceLeDiff, Nat.reduceEqDiff, Nat.reduceAdd, Nat.reduceBEq, Int.reduceEq, H.cv_5_3, t3, d8]
    refine hN _ ?_; clear hN N
    (refine W_seq_gen fun R hR => ?_)
    rw [W_block]
    simp (disch := first | omega | (simp only [List.length_cons, List.length_nil, List.length_append, u8s_len]; omega)) only [go_sem, ↓reduceIte, true_and, Nat.reduceLeDiff, Nat.reduceEqDiff, Nat.reduceAdd, Nat.reduceBEq, Int.reduceEq, H.cv_5_3, t1, hz, d1, d2, d3, d4, d5]
    refine (tick_n H hT ⟨by simp, fun x hx => by cases hx⟩ (by simp) (by omega) (by omega) _).mono ?_
    rintro _ h3 ⟨⟨cs', rfl, hT'⟩, rfl⟩
    obtain ⟨a1', a2', a3', a4', a5', a6', pv', lv', yv', nv', mv', rfl, d1', d2', d3', d4', d5'⟩ := id hT'.at
    rw [contK_some]; simp (disch := first | omega | (simp only [List.length_cons, List.length_nil, List.length_append, u8s_len]; omega)) only [go_sem, ↓reduceIte, true_and, Nat.reduceLeDiff, Nat.reduceEqDiff, Nat.reduceAdd, Nat.reduceBEq, Int.reduceEq, H.cv_5_3, t1, hz, d1', d2', d3', d4', d5']
    refine hR _ ?_; clear hR R
    simp (disch := first | omega | (simp only [List.length_cons, List.length_nil, List.length_append, u8s_len]; omega)) only [go_sem, ↓reduceIte, true_and, Nat.reduceLeDiff, Nat.reduceEqDiff, Nat.reduceAdd, Nat.reduceBEq, Int.reduceEq, H.cv_5_3, t3, nat_add]
    refine ⟨8 - (i + 1), by omega, i + 1, _, rfl, by omega, by simp [upd_at, t1], by simp [upd_at, t2], by simp [upd_at], hT', by simp, fun x hx => ?_⟩
    have n1 : x ≠ o1 := fun e => hx (by rw [e]; exact ho1)
    simp only [if_neg n1]
    exact hk x hx
  · obtain rfl : i = 8 := by omega
    have d8 : decide ((8 : Nat) < 8) = false := by decide
    (refine W_seq_gen fun N hN => ?_); simp (disch := first | omega | (simp only [List.length_cons, List.length_nil, List.length_append, u8s_len]; omega)) only [go_sem, ↓reduceIte, true_and, Nat.reduceLeDiff, Nat.reduceEqDiff, Nat.reduceAdd, Nat.reduceBEq, Int.reduceEq, H.cv_5_3, t3, d8]
    refine hM _ ?_; clear hN N hM M
    unfold TS at hT
    rw [if_neg (by decide)] at hT
    obtain ⟨lead, pv, lv, yv, nv, mv, e, _⟩ := hT.at
    rw [e, show (0 : Int) + 1 = ((1 : Nat) : Int) from rfl] at hz
    have b1 : (((3 : Nat) : Int) == ((3 : Nat) : Int)) = true := by decide
    have b2 : (((1 : Nat) : Int) == ((1 : Nat) : Int)) = true := by decide
    have b0 : (((0 : Nat) : Int) == ((0 : Nat) : Int)) = true := by decide
    have e1 : ([] : List (Int × List UInt8)).length + 1 = 1 := rfl
    rw [e1] at hz
    simp (disch := first | omega | (simp only [List.length_cons, List.length_nil, List.length_append, u8s_len]; omega)) only [go_sem, ↓reduceIte, true_and, Nat.reduceLeDiff, Nat.reduceEqDiff, Nat.reduceAdd, Nat.reduceBEq, Int.reduceEq, H.cv_5_3, t1, t2, hz, b0, b1, b2]
    exact hk
end Go.Proofs.Ytkmakibigmlfeaa
end
