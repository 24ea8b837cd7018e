/- The law of one master alone. -/
import Derived.Test.YtkmakibigmlfeaaBallotM5
set_option linter.unusedVariables false
set_option linter.unusedSimpArgs false
namespace Go.Proofs.Ytkmakibigmlfeaa
open Go.Am
/-- A command of the arguments. -/
def CmR (e : List AV) (b : List UInt8) : Prop := ∃ w, e = [w] ∧ SF 1 w (u8s b)
theorem LB.nil : LB [] := ⟨by simp, fun x hx => by cases hx⟩
theorem rest7 {T vote : Int} {l : List (Int × List UInt8)} (hT : T = 0 ∨ T = 1) (hv : vote = 0 ∨ vote = 7) (hl : l.length ≤ 512) (ht : ∀ x ∈ l, x.1 = 1 ∧ T = 1) : restB ((7 : Nat) : Int) [((7 : Nat) : Int)] T vote (l.map Prod.fst) = true := by
  have h1 : peersB ((7 : Nat) : Int) [((7 : Nat) : Int)] = true := by decide
  have h2 : goodL T (l.map Prod.fst) = true := by
    unfold goodL
    rw [good_true]
    · rfl
    · intro j hj
      rw [List.length_map] at hj
      have g : ∀ i, i < l.length → (l.map Prod.fst).getD i 0 = 1 ∧ T = 1 := fun i hi => by
        have := ht l[i] (List.getElem_mem hi)
        refine ⟨?_, this.2⟩
        simp [hi, this.1]
      obtain ⟨g1, g2⟩ := g j hj
      unfold bL
      rw [g1, g2]
      by_cases c : 0 < j
      · rw [(g (j - 1) (by omega)).1]; simp
      · simp [c]
  have h3 : decide (0 ≤ T) = true := by rcases hT with rfl | rfl <;> decide
  have h4 : decide (T ≤ 2147483647) = true := by rcases hT with rfl | rfl <;> decide
  have h5 : (vote == 0 || decide (vote ∈ ([((7 : Nat) : Int)] : List Int))) = true := by rcases hv with rfl | rfl <;> decide
  have h6 : decide ((l.map Prod.fst).length ≤ 512) = true := by simpa using hl
  unfold restB rest0
  rw [h1, h2, h3, h4, h5, h6]
  rfl
variable {P : Program} (H : Has P) (HN : ∀ p q : Bool, scalarBin P .neq 4 (.bool p) (.bool q) = some (.bool (p != q)))
include H HN
theorem alone_law {n : Nat} {lv : AV} {ls : List (List AV)} {l : List (List UInt8)} (hn : n < 256) (hlv : SF 1 lv ls) (hL : RR CmR ls l) (hl : l.length < 2 ^ 60) (h : Heap) :
    AWF P ann 0 3 [.sc (.int .u8 (n : Nat)), lv] h fun r h' => r = .sc (.bool true) := by
  refine AWF.fnc H.f0_3 rfl ?_
  have hel := hL.len
  have hpv : SL 1 (.bs true 1 [[.sc (.int .i64 ((7 : Nat) : Int))]] (some 1)) (ints [((7 : Nat) : Int)]) := .inr ⟨_, _, rfl⟩
  (refine W_seq_gen fun N hN => ?_); simp (disch := first | omega | (simp only [List.length_cons, List.length_nil, List.length_append, u8s_len]; omega)) only [go_sem, ↓reduceIte, true_and, Nat.reduceLeDiff, Nat.reduceEqDiff, Nat.reduceAdd, Nat.reduceBEq, Int.reduceEq, H.cv_5_3]
  refine hN _ ?_; clear hN N
  (refine W_seq_gen fun N hN => ?_)
  simp (disch := first | omega | (simp only [List.length_cons, List.length_nil, List.length_append, u8s_len]; omega)) only [go_sem, ↓reduceIte, true_and, Nat.reduceLeDiff, Nat.reduceEqDiff, Nat.reduceAdd, Nat.reduceBEq, Int.reduceEq, H.cv_5_3]
  refine (new1_ok H hpv (by decide) (by decide) _).mono ?_
  rintro _ h1 ⟨⟨cs, rfl, hm⟩, rfl⟩
  have hT : TS ((7 : Nat) : Int) 0 0 [] 0 cs := by unfold TS; rw [if_pos (by decide)]; exact hm
  clear hm
  obtain ⟨a1, a2, a3, a4, a5, a6, pv, qv, yv, nv, mv, rfl, d1, d2, d3, d4, d5⟩ := id hT.at
  rw [contK_some]; simp (disch := first | omega | (simp only [List.length_cons, List.length_nil, List.length_append, u8s_len]; omega)) only [go_sem, ↓reduceIte, true_and, Nat.reduceLeDiff, Nat.reduceEqDiff, Nat.reduceAdd, Nat.reduceBEq, Int.reduceEq, H.cv_5_3, d1, d2, d3, d4, d5]
  intro o5 ho5
  refine hN _ ?_; clear hN N
  refine W_forget (fun t => t 0 = .sc (.int .u8 (n : Nat)) ∧ t 1 = lv ∧ t 5 = .op o5 0 ∧ t 6 = .sc (.int .i64 ((0 : Nat) : Int)) ∧ True) (by simp [upd_at, *] <;> (first | rfl | exact ⟨rfl, rfl⟩ | exact ⟨rfl, rfl, rfl⟩ | exact ⟨rfl, rfl, rfl, rfl⟩ | exact ⟨rfl, rfl, rfl, rfl, rfl⟩)) ?_; rintro t ⟨t0, t1, t5, t6, -⟩
  have b0 : (((0 : Nat) : Int) != ((0 : Nat) : Int)) = false := by decide
  (refine W_seq_gen fun N hN => ?_); simp (disch := first | omega | (simp only [List.length_cons, List.length_nil, List.length_append, u8s_len]; omega)) only [go_sem, ↓reduceIte, true_and, Nat.reduceLeDiff, Nat.reduceEqDiff, Nat.reduceAdd, Nat.reduceBEq, Int.reduceEq, H.cv_5_3, t6, b0]
  refine hN _ ?_; clear hN N
  (refine W_seq_gen fun M hM => ?_)
  simp (disch := first | omega | (simp only [List.length_cons, List.length_nil, List.length_append, u8s_len]; omega)) only [go_sem, ↓reduceIte, true_and, Nat.reduceLeDiff, Nat.reduceEqDiff, Nat.reduceAdd, Nat.reduceBEq, Int.reduceEq, H.cv_5_3]
  generalize hr : n % 40 = r
  have hr40 : r < 40 := by omega
  have fin1 : ∀ t h2 cs, t 0 = .sc (.int .u8 (n : Nat)) → t 1 = lv → t 5 = .op o5 0 → TS ((7 : Nat) : Int) 0 0 [] r cs → h2 o5 = some (.arr cs) → M ⟨t, h2⟩ := by
    intro t h2 cs t0 t1 t5 hT hz
    refine hM _ ?_; clear hM M
    (refine W_seq_gen fun N hN => ?_)
    have cont : ∀ t', t' 1 = lv → t' 5 = .op o5 0 → N ⟨t', h2⟩ := by
      intro t' t1 t5
      refine hN _ ?_; clear hN N
      (refine W_seq_gen fun N hN => ?_); simp (disch := first | omega | (simp only [List.length_cons, List.length_nil, List.length_append, u8s_len]; omega)) only [go_sem, ↓reduceIte, true_and, Nat.reduceLeDiff, Nat.reduceEqDiff, Nat.reduceAdd, Nat.reduceBEq, Int.reduceEq, H.cv_5_3]
      refine hN _ ?_; clear hN N
      (refine W_seq_gen fun K hK => ?_)
      simp (disch := first | omega | (simp only [List.length_cons, List.length_nil, List.length_append, u8s_len]; omega)) only [go_sem, ↓reduceIte, true_and, Nat.reduceLeDiff, Nat.reduceEqDiff, Nat.reduceAdd, Nat.reduceBEq, Int.reduceEq, H.cv_5_3]
      have fin2 : ∀ t h2 cs (T vote : Int) L com role k, t 5 = .op o5 0 → MS ((7 : Nat) : Int) T vote L com role k cs → h2 o5 = some (.arr cs) → (T = 0 ∨ T = 1) → (vote = 0 ∨ vote = ((7 : Nat) : Int)) → L.length ≤ 41 →
          (∀ x ∈ L, x.1 = 1 ∧ T = 1) → (∀ x ∈ L, x.2.length ≤ 2 ^ 30) → K ⟨t, h2⟩ := by
        intro t h2 cs T vote L com role k t5 hm hz hT hv hl41 ht hLb
        refine hK _ ?_; clear hK K
        obtain ⟨lead, pv, qv, yv, nv, mv, es, ye, ne, me, rfl, a1, a2, a3, a4, a5, a6, a7, a8, a9, a10⟩ := id hm
        clear hm
        (refine W_seq_gen fun N hN => ?_)
        simp (disch := first | omega | (simp only [List.length_cons, List.length_nil, List.length_append, u8s_len]; omega)) only [go_sem, ↓reduceIte, true_and, Nat.reduceLeDiff, Nat.reduceEqDiff, Nat.reduceAdd, Nat.reduceBEq, Int.reduceEq, H.cv_5_3, t5, hz, a2.same, a2.disc, a2.own, Bool.not_false, Bool.true_or]
        refine (restore_ok H hpv a2 a6 (by simp) (by omega) hLb _).mono ?_
        rintro _ h3 ⟨rfl, rfl⟩
        rw [rest7 hT hv (by omega) ht]
        obtain ⟨cs2, e2, hm2⟩ := rest_ms (id := ((7 : Nat) : Int)) (T := T) (vote := vote) (toF hpv) a2 a6 a7
        rw [e2]
        clear e2
        obtain ⟨lead2, pv2, qv2, yv2, nv2, mv2, e2, d1, d2, d3, d4, d5⟩ := id hm2.at
        have hT3 : TS ((7 : Nat) : Int) T vote L 0 cs2 := by unfold TS; rw [if_pos (by decide)]; exact hm2
        subst e2
        rw [contK_some]; simp (disch := first | omega | (simp only [List.length_cons, List.length_nil, List.length_append, u8s_len]; omega)) only [go_sem, ↓reduceIte, true_and, Nat.reduceLeDiff, Nat.reduceEqDiff, Nat.reduceAdd, Nat.reduceBEq, Int.reduceEq, H.cv_5_3, t5, hz, d1, d2, d3, d4, d5]
        intro o11 ho11
        have n1 : ¬ o5 = o11 := fun e => by rw [e, ho11] at hz; cases hz
        have n2 : ¬ o11 = o5 := fun e => n1 e.symm
        refine hN _ ?_; clear hN N
        refine W_forget (fun t => t 5 = .op o5 0 ∧ t 11 = .op o11 0 ∧ t 12 = .sc (.int .i64 ((0 : Nat) : Int)) ∧ True) (by simp [upd_at, *] <;> (first | rfl | exact ⟨rfl, rfl⟩ | exact ⟨rfl, rfl, rfl⟩ | exact ⟨rfl, rfl, rfl, rfl⟩ | exact ⟨rfl, rfl, rfl, rfl, rfl⟩)) ?_; rintro t ⟨t5, t11, t12, -⟩
        (refine W_seq_gen fun M hM => ?_)
        simp (disch := first | omega | (simp only [List.length_cons, List.length_nil, List.length_append, u8s_len]; omega)) only [go_sem, ↓reduceIte, true_and, Nat.reduceLeDiff, Nat.reduceEqDiff, Nat.reduceAdd, Nat.reduceBEq, Int.reduceEq, H.cv_5_3]
        refine AW_loopN (fun m t h' => ∃ i cs, m = 8 - i ∧ i ≤ 8 ∧ t 5 = .op o5 0 ∧ t 11 = .op o11 0 ∧ t 12 = .sc (.int .i64 ((0 : Nat) : Int)) ∧ t 13 = .sc (.int .i64 (i : Nat)) ∧ TS ((7 : Nat) : Int) T vote L i cs ∧ h' o11 = some (.arr cs) ∧
            h' o5 = some (.arr [.sc (.int .i64 ((7 : Nat) : Int)), pv, .sc (.int .i64 T), .sc (.int .i64 vote), qv, .sc (.int .i64 (com : Nat)), .sc (.int .i64 (role : Nat)), .sc (.int .i64 lead), yv, .sc (.int .i64 (k : Nat)), nv, mv])) (n := 8)
          ⟨0, _, rfl, by omega, by simp [upd_at, t5], by simp [upd_at, t11], by simp [upd_at, t12], by simp [upd_at], hT3, by rw [upd_same], by rw [upd_ne _ _ n1]; exact hz⟩ ?_
        clear hT3 d1 d2 d3 d4 d5 hm2 hz t5 t11 t12 t
        rintro m t h' ⟨i, cs, rfl, hi, t5, t11, t12, t13, hT3, hz1, hz⟩
        have hT0 : 0 ≤ T := by rcases hT with rfl | rfl <;> decide
        have hT1 : T < 2147483647 := by rcases hT with rfl | rfl <;> decide
        rcases Nat.lt_or_ge i 8 with hlt | hge
        · have d8 : decide (i < 8) = true := by simpa using hlt
          obtain ⟨b1, b2, b3, b4, b5, b6, pv1, qv1, yv1, nv1, mv1, rfl, d1, d2, d3, d4, d5⟩ := id hT3.at
          (refine W_seq_gen fun N hN => ?_); simp (disch := first | omega | (simp only [List.length_cons, List.length_nil, List.length_append, u8s_len]; omega)) only [go_sem, ↓reduceIte, true_and, Nat.reduceLeDiff, Nat.reduceEqDiff, Nat.reduceAdd, Nat.reduceBEq, Int.reduceEq, H.cv_5_3, t13, d8]
          refine hN _ ?_; clear hN N
          (refine W_seq_gen fun R hR => ?_)
          rw [W_block]
          simp (disch := first | omega | (simp only [List.length_cons, List.length_nil, List.length_append, u8s_len]; omega)) only [go_sem, ↓reduceIte, true_and, Nat.reduceLeDiff, Nat.reduceEqDiff, Nat.reduceAdd, Nat.reduceBEq, Int.reduceEq, H.cv_5_3, t11, hz1, d1, d2, d3, d4, d5]
          refine (tick_n H hT3 ⟨by omega, hLb⟩ (by omega) hT0 hT1 _).mono ?_
          rintro _ h4 ⟨⟨cs', rfl, hT'⟩, rfl⟩
          obtain ⟨c1, c2, c3, c4, c5, c6, pv3, qv3, yv3, nv3, mv3, rfl, f1, f2, f3, f4, f5⟩ := id hT'.at
          rw [contK_some]; simp (disch := first | omega | (simp only [List.length_cons, List.length_nil, List.length_append, u8s_len]; omega)) only [go_sem, ↓reduceIte, true_and, Nat.reduceLeDiff, Nat.reduceEqDiff, Nat.reduceAdd, Nat.reduceBEq, Int.reduceEq, H.cv_5_3, t11, hz1, f1, f2, f3, f4, f5]
          refine hR _ ?_; clear hR R
          simp (disch := first | omega | (simp only [List.length_cons, List.length_nil, List.length_append, u8s_len]; omega)) only [go_sem, ↓reduceIte, true_and, Nat.reduceLeDiff, Nat.reduceEqDiff, Nat.reduceAdd, Nat.reduceBEq, Int.reduceEq, H.cv_5_3, t13, nat_add]
          exact ⟨8 - (i + 1), by omega, i + 1, _, rfl, by omega, by simp [upd_at, t5], by simp [upd_at, t11], by simp [upd_at, t12], by simp [upd_at], hT', by simp, by simp only [if_neg n1]; exact hz⟩
        · obtain rfl : i = 8 := by omega
          have d8 : decide ((8 : Nat) < 8) = false := by decide
          (refine W_seq_gen fun N hN => ?_); simp (disch := first | omega | (simp only [List.length_cons, List.length_nil, List.length_append, u8s_len]; omega)) only [go_sem, ↓reduceIte, true_and, Nat.reduceLeDiff, Nat.reduceEqDiff, Nat.reduceAdd, Nat.reduceBEq, Int.reduceEq, H.cv_5_3, t13, d8]
          refine hM _ ?_; clear hN N hM M
          unfold TS at hT3
          rw [if_neg (by decide)] at hT3
          obtain ⟨lead4, pv4, qv4, yv4, nv4, mv4, e4, _⟩ := hT3.at
          rw [e4] at hz1
          have g1 : (((3 : Nat) : Int) == ((3 : Nat) : Int)) = true := by decide
          have g0 : (((0 : Nat) : Int) == ((0 : Nat) : Int)) = true := by decide
          have g2 : (T + 1 == T + 1) = true := by simp
          have g3 : (((L.length + 1 : Nat) : Int) == ((L.length + 1 : Nat) : Int)) = true := by simp
          have hel2 := a6.len
          simp (disch := first | omega | (simp only [List.length_cons, List.length_nil, List.length_append, u8s_len]; omega)) only [go_sem, ↓reduceIte, true_and, Nat.reduceLeDiff, Nat.reduceEqDiff, Nat.reduceAdd, Nat.reduceBEq, Int.reduceEq, H.cv_5_3, t5, t11, t12, hz, hz1, g0, g1, g2, g3, i64_succ hT0 hT1, a2.same, a2.disc, a2.sl.len, hel2, nat_add]
          refine (awake_ok H _).mono ?_
          rintro _ h4 ⟨rfl, rfl⟩
          rw [contK_some]; simp (disch := first | omega | (simp only [List.length_cons, List.length_nil, List.length_append, u8s_len]; omega)) only [go_sem, ↓reduceIte, true_and, Nat.reduceLeDiff, Nat.reduceEqDiff, Nat.reduceAdd, Nat.reduceBEq, Int.reduceEq, H.cv_5_3]
      by_cases c : r < 8
      · have hm : MS ((7 : Nat) : Int) 0 0 [] 0 1 r cs := by unfold TS at hT; rwa [if_pos c] at hT
        refine AW_loopN (fun m t h' => ∃ i cs, m = l.length - i ∧ i ≤ l.length ∧ i ≤ 40 ∧ t 1 = lv ∧ t 5 = .op o5 0 ∧ t 8 = .sc (.int .i64 (0 : Nat)) ∧ t 9 = .sc (.int .i64 (i : Nat)) ∧ MS ((7 : Nat) : Int) 0 0 [] 0 1 r cs ∧ h' o5 = some (.arr cs)) (n := l.length)
          ⟨0, _, rfl, Nat.zero_le _, by omega, by simp [upd_at, t1], by simp [upd_at, t5], by simp [upd_at], by simp [upd_at], hm, hz⟩ ?_
        clear hm hz t1 t5
        rintro m t h' ⟨i, cs, rfl, hi, hi40, t1, t5, t8, t9, hm, hz⟩
        by_cases hc : i < l.length
        · have dl : decide (i < ls.length) = true := by rw [hel]; simpa using hc
          by_cases hc40 : i < 40
          · have d40 : decide (i < 40) = true := by simpa using hc40
            obtain ⟨e, g0, w, rfl, hw⟩ := hL.lt hc
            generalize hb : l[i] = b at hw
            (refine W_seq_gen fun N hN => ?_); simp (disch := first | omega | (simp only [List.length_cons, List.length_nil, List.length_append, u8s_len]; omega)) only [go_sem, ↓reduceIte, true_and, Nat.reduceLeDiff, Nat.reduceEqDiff, Nat.reduceAdd, Nat.reduceBEq, Int.reduceEq, H.cv_5_3, t1, t9, hlv.same, hlv.disc, hlv.sl.len, dl, d40]
            refine hN _ ?_; clear hN N
            (refine W_seq_gen fun R hR => ?_)
            rw [W_block]
            (refine W_seq_gen fun S hS => ?_)
            by_cases c1000 : 1000 < b.length
            · have d1 : decide (1000 < b.length) = true := by simpa using c1000
              simp (disch := first | omega | (simp only [List.length_cons, List.length_nil, List.length_append, u8s_len]; omega)) only [go_sem, ↓reduceIte, true_and, Nat.reduceLeDiff, Nat.reduceEqDiff, Nat.reduceAdd, Nat.reduceBEq, Int.reduceEq, H.cv_5_3, t1, t9, hlv.same, hlv.disc, hlv.sl.ia, g0, hw.same, hw.disc, hw.sl.len, u8s_len, d1]
              refine (awake_ok H _).mono ?_
              rintro _ h4 ⟨rfl, rfl⟩
              rw [contK_some]; simp (disch := first | omega | (simp only [List.length_cons, List.length_nil, List.length_append, u8s_len]; omega)) only [go_sem, ↓reduceIte, true_and, Nat.reduceLeDiff, Nat.reduceEqDiff, Nat.reduceAdd, Nat.reduceBEq, Int.reduceEq, H.cv_5_3]
            · have d1 : decide (1000 < b.length) = false := by simpa using c1000
              simp (disch := first | omega | (simp only [List.length_cons, List.length_nil, List.length_append, u8s_len]; omega)) only [go_sem, ↓reduceIte, true_and, Nat.reduceLeDiff, Nat.reduceEqDiff, Nat.reduceAdd, Nat.reduceBEq, Int.reduceEq, H.cv_5_3, t1, t9, hlv.same, hlv.disc, hlv.sl.ia, g0, hw.same, hw.disc, hw.sl.len, u8s_len, d1]
              refine hS _ ?_; clear hS S
              (refine W_seq_gen fun N hN => ?_); simp (disch := first | omega | (simp only [List.length_cons, List.length_nil, List.length_append, u8s_len]; omega)) only [go_sem, ↓reduceIte, true_and, Nat.reduceLeDiff, Nat.reduceEqDiff, Nat.reduceAdd, Nat.reduceBEq, Int.reduceEq, H.cv_5_3]
              refine hN _ ?_; clear hN N
              obtain ⟨cs', hp, hm'⟩ := prop_f H hm .nil hw (by rw [u8s_len]; omega)
              obtain ⟨lead, pv, qv, yv, nv, mv, rfl, d1, d2, d3, d4, d5⟩ := id hm.at
              obtain ⟨lead', pv', qv', yv', nv', mv', e', d1', d2', d3', d4', d5'⟩ := id hm'.at
              rw [e'] at hp
              (refine W_seq_gen fun N hN => ?_)
              simp (disch := first | omega | (simp only [List.length_cons, List.length_nil, List.length_append, u8s_len]; omega)) only [go_sem, ↓reduceIte, true_and, Nat.reduceLeDiff, Nat.reduceEqDiff, Nat.reduceAdd, Nat.reduceBEq, Int.reduceEq, H.cv_5_3, t1, t5, t9, hz, hlv.same, hlv.disc, hlv.sl.ia, g0, hw.same, hw.disc, d1, d2, d3, d4, d5]
              refine ⟨_, fun h' => hp h', ?_⟩
              rw [contK_some]; simp (disch := first | omega | (simp only [List.length_cons, List.length_nil, List.length_append, u8s_len]; omega)) only [go_sem, ↓reduceIte, true_and, Nat.reduceLeDiff, Nat.reduceEqDiff, Nat.reduceAdd, Nat.reduceBEq, Int.reduceEq, H.cv_5_3, t5, hz, d1', d2', d3', d4', d5']
              refine hN _ ?_; clear hN N
              refine W_forget (fun t => t 1 = lv ∧ t 5 = .op o5 0 ∧ t 8 = .sc (.int .i64 (0 : Nat)) ∧ t 9 = .sc (.int .i64 (i : Nat)) ∧ t 10 = .sc (.bool false) ∧ True) (by simp [upd_at, *] <;> (first | rfl | exact ⟨rfl, rfl⟩ | exact ⟨rfl, rfl, rfl⟩ | exact ⟨rfl, rfl, rfl, rfl⟩ | exact ⟨rfl, rfl, rfl, rfl, rfl⟩)) ?_; rintro t ⟨t1, t5, t8, t9, t10, -⟩
              have b1 : (((1 : Nat) : Int) == ((3 : Nat) : Int)) = false := by decide
              have bx : ((false : Bool) != false) = false := rfl
              (refine W_seq_gen fun N hN => ?_)
              simp (disch := first | omega | (simp only [List.length_cons, List.length_nil, List.length_append, u8s_len]; omega)) only [go_sem, ↓reduceIte, true_and, Nat.reduceLeDiff, Nat.reduceEqDiff, Nat.reduceAdd, Nat.reduceBEq, Int.reduceEq, H.cv_5_3, t5, t10, upd_same, b1, HN, bx]
              refine hN _ ?_; clear hN N
              simp (disch := first | omega | (simp only [List.length_cons, List.length_nil, List.length_append, u8s_len]; omega)) only [go_sem, ↓reduceIte, true_and, Nat.reduceLeDiff, Nat.reduceEqDiff, Nat.reduceAdd, Nat.reduceBEq, Int.reduceEq, H.cv_5_3, t10]
              refine hR _ ?_; clear hR R
              simp (disch := first | omega | (simp only [List.length_cons, List.length_nil, List.length_append, u8s_len]; omega)) only [go_sem, ↓reduceIte, true_and, Nat.reduceLeDiff, Nat.reduceEqDiff, Nat.reduceAdd, Nat.reduceBEq, Int.reduceEq, H.cv_5_3, t9, nat_add]
              exact ⟨l.length - (i + 1), by omega, i + 1, _, rfl, by omega, by omega, by simp [upd_at, t1], by simp [upd_at, t5], by simp [upd_at, t8], by simp [upd_at], hm', by first | (rw [e']; done) | (rw [e']; simp)⟩
          · obtain rfl : i = 40 := by omega
            have d40 : decide ((40 : Nat) < 40) = false := by decide
            (refine W_seq_gen fun N hN => ?_); simp (disch := first | omega | (simp only [List.length_cons, List.length_nil, List.length_append, u8s_len]; omega)) only [go_sem, ↓reduceIte, true_and, Nat.reduceLeDiff, Nat.reduceEqDiff, Nat.reduceAdd, Nat.reduceBEq, Int.reduceEq, H.cv_5_3, t1, t9, hlv.same, hlv.disc, hlv.sl.len, dl, d40]
            clear hN N
            exact fin2 _ _ _ 0 0 [] _ _ _ (by simp [upd_at, t5]) hm hz (.inl rfl) (.inl rfl) (by simp) (fun x hx => by cases hx) (fun x hx => by cases hx)
        · have dl : decide (i < ls.length) = false := by rw [hel]; simpa using hc
          (refine W_seq_gen fun N hN => ?_); simp (disch := first | omega | (simp only [List.length_cons, List.length_nil, List.length_append, u8s_len]; omega)) only [go_sem, ↓reduceIte, true_and, Nat.reduceLeDiff, Nat.reduceEqDiff, Nat.reduceAdd, Nat.reduceBEq, Int.reduceEq, H.cv_5_3, t1, t9, hlv.same, hlv.disc, hlv.sl.len, dl]
          clear hN N
          exact fin2 _ _ _ 0 0 [] _ _ _ (by simp [upd_at, t5]) hm hz (.inl rfl) (.inl rfl) (by simp) (fun x hx => by cases hx) (fun x hx => by cases hx)

      · have hm : MS ((7 : Nat) : Int) (0 + 1) ((7 : Nat) : Int) ([] ++ [(0 + 1, [])]) (0 + 1) 3 0 cs := by unfold TS at hT; rwa [if_neg c] at hT
        refine AW_loopN (fun m t h' => ∃ i cs, m = l.length - i ∧ i ≤ l.length ∧ i ≤ 40 ∧ t 1 = lv ∧ t 5 = .op o5 0 ∧ t 8 = .sc (.int .i64 (i : Nat)) ∧ t 9 = .sc (.int .i64 (i : Nat)) ∧ MS ((7 : Nat) : Int) 1 ((7 : Nat) : Int) ((1, []) :: (l.take i).map fun c => ((1 : Int), c)) (i + 1) 3 0 cs ∧ h' o5 = some (.arr cs) ∧ ∀ c ∈ l.take i, c.length ≤ 1000) (n := l.length)
          ⟨0, _, rfl, Nat.zero_le _, by omega, by simp [upd_at, t1], by simp [upd_at, t5], by simp [upd_at], by simp [upd_at], (by rw [show (0 : Int) + 1 = 1 from rfl] at hm; simpa using hm), hz, by simp⟩ ?_
        clear hm hz t1 t5
        rintro m t h' ⟨i, cs, rfl, hi, hi40, t1, t5, t8, t9, hm, hz, hcl⟩
        have hLlen : ((1, []) :: (l.take i).map fun c => ((1 : Int), c)).length = i + 1 := by simp; omega
        have hLt : ∀ x ∈ ((1, []) :: (l.take i).map fun c => ((1 : Int), c)), x.1 = 1 := fun x hx => by
          rcases List.mem_cons.1 hx with rfl | hx
          · rfl
          · obtain ⟨c, _, rfl⟩ := List.mem_map.1 hx
            rfl
        have hLb : ∀ x ∈ ((1, []) :: (l.take i).map fun c => ((1 : Int), c)), x.2.length ≤ 2 ^ 30 := fun x hx => by
          rcases List.mem_cons.1 hx with rfl | hx
          · simp
          · obtain ⟨c, hc, rfl⟩ := List.mem_map.1 hx
            have := hcl c hc
            simp only
            omega
        by_cases hc : i < l.length
        · have dl : decide (i < ls.length) = true := by rw [hel]; simpa using hc
          by_cases hc40 : i < 40
          · have d40 : decide (i < 40) = true := by simpa using hc40
            obtain ⟨e, g0, w, rfl, hw⟩ := hL.lt hc
            generalize hb : l[i] = b at hw
            (refine W_seq_gen fun N hN => ?_); simp (disch := first | omega | (simp only [List.length_cons, List.length_nil, List.length_append, u8s_len]; omega)) only [go_sem, ↓reduceIte, true_and, Nat.reduceLeDiff, Nat.reduceEqDiff, Nat.reduceAdd, Nat.reduceBEq, Int.reduceEq, H.cv_5_3, t1, t9, hlv.same, hlv.disc, hlv.sl.len, dl, d40]
            refine hN _ ?_; clear hN N
            (refine W_seq_gen fun R hR => ?_)
            rw [W_block]
            (refine W_seq_gen fun S hS => ?_)
            by_cases c1000 : 1000 < b.length
            · have d1 : decide (1000 < b.length) = true := by simpa using c1000
              simp (disch := first | omega | (simp only [List.length_cons, List.length_nil, List.length_append, u8s_len]; omega)) only [go_sem, ↓reduceIte, true_and, Nat.reduceLeDiff, Nat.reduceEqDiff, Nat.reduceAdd, Nat.reduceBEq, Int.reduceEq, H.cv_5_3, t1, t9, hlv.same, hlv.disc, hlv.sl.ia, g0, hw.same, hw.disc, hw.sl.len, u8s_len, d1]
              refine (awake_ok H _).mono ?_
              rintro _ h4 ⟨rfl, rfl⟩
              rw [contK_some]; simp (disch := first | omega | (simp only [List.length_cons, List.length_nil, List.length_append, u8s_len]; omega)) only [go_sem, ↓reduceIte, true_and, Nat.reduceLeDiff, Nat.reduceEqDiff, Nat.reduceAdd, Nat.reduceBEq, Int.reduceEq, H.cv_5_3]
            · have d1 : decide (1000 < b.length) = false := by simpa using c1000
              simp (disch := first | omega | (simp only [List.length_cons, List.length_nil, List.length_append, u8s_len]; omega)) only [go_sem, ↓reduceIte, true_and, Nat.reduceLeDiff, Nat.reduceEqDiff, Nat.reduceAdd, Nat.reduceBEq, Int.reduceEq, H.cv_5_3, t1, t9, hlv.same, hlv.disc, hlv.sl.ia, g0, hw.same, hw.disc, hw.sl.len, u8s_len, d1]
              refine hS _ ?_; clear hS S
              (refine W_seq_gen fun N hN => ?_); simp (disch := first | omega | (simp only [List.length_cons, List.length_nil, List.length_append, u8s_len]; omega)) only [go_sem, ↓reduceIte, true_and, Nat.reduceLeDiff, Nat.reduceEqDiff, Nat.reduceAdd, Nat.reduceBEq, Int.reduceEq, H.cv_5_3]
              refine hN _ ?_; clear hN N
              obtain ⟨cs', hp, hm'⟩ := prop_l H hm ⟨by rw [hLlen]; omega, hLb⟩ (by rw [hLlen]; exact Nat.le_refl _) hw (by omega)
              rw [hLlen] at hm'
              have hL2 : ((1, []) :: (l.take i).map fun c => ((1 : Int), c)) ++ [((1 : Int), b)] = (1, []) :: (l.take (i + 1)).map fun c => ((1 : Int), c) := by
                rw [List.take_add_one, List.getElem?_eq_getElem hc, hb]
                simp
              rw [hL2] at hm'
              obtain ⟨lead, pv, qv, yv, nv, mv, rfl, d1, d2, d3, d4, d5⟩ := id hm.at
              obtain ⟨lead', pv', qv', yv', nv', mv', e', d1', d2', d3', d4', d5'⟩ := id hm'.at
              rw [e'] at hp
              (refine W_seq_gen fun N hN => ?_)
              simp (disch := first | omega | (simp only [List.length_cons, List.length_nil, List.length_append, u8s_len]; omega)) only [go_sem, ↓reduceIte, true_and, Nat.reduceLeDiff, Nat.reduceEqDiff, Nat.reduceAdd, Nat.reduceBEq, Int.reduceEq, H.cv_5_3, t1, t5, t9, hz, hlv.same, hlv.disc, hlv.sl.ia, g0, hw.same, hw.disc, d1, d2, d3, d4, d5]
              refine ⟨_, fun h' => hp h', ?_⟩
              rw [contK_some]; simp (disch := first | omega | (simp only [List.length_cons, List.length_nil, List.length_append, u8s_len]; omega)) only [go_sem, ↓reduceIte, true_and, Nat.reduceLeDiff, Nat.reduceEqDiff, Nat.reduceAdd, Nat.reduceBEq, Int.reduceEq, H.cv_5_3, t5, hz, d1', d2', d3', d4', d5']
              refine hN _ ?_; clear hN N
              refine W_forget (fun t => t 1 = lv ∧ t 5 = .op o5 0 ∧ t 8 = .sc (.int .i64 (i : Nat)) ∧ t 9 = .sc (.int .i64 (i : Nat)) ∧ t 10 = .sc (.bool true) ∧ True) (by simp [upd_at, *] <;> (first | rfl | exact ⟨rfl, rfl⟩ | exact ⟨rfl, rfl, rfl⟩ | exact ⟨rfl, rfl, rfl, rfl⟩ | exact ⟨rfl, rfl, rfl, rfl, rfl⟩)) ?_; rintro t ⟨t1, t5, t8, t9, t10, -⟩
              have b1 : (((3 : Nat) : Int) == ((3 : Nat) : Int)) = true := by decide
              have bx : ((true : Bool) != true) = false := rfl
              (refine W_seq_gen fun N hN => ?_)
              simp (disch := first | omega | (simp only [List.length_cons, List.length_nil, List.length_append, u8s_len]; omega)) only [go_sem, ↓reduceIte, true_and, Nat.reduceLeDiff, Nat.reduceEqDiff, Nat.reduceAdd, Nat.reduceBEq, Int.reduceEq, H.cv_5_3, t5, t10, upd_same, b1, HN, bx]
              refine hN _ ?_; clear hN N
              (refine W_seq_gen fun N hN => ?_)
              obtain ⟨lead2, pv2, qv2, yv2, nv2, mv2, es', ye', ne', me', e2, g1, g2, g3, g4, g5, g6, _⟩ := id hm'
              rw [e'] at e2
              obtain ⟨rfl⟩ : qv2 = qv' := by simp only [List.cons.injEq] at e2; exact e2.2.2.2.2.1.symm
              obtain ⟨el, gl, w', rfl, hw'⟩ := g6.get (i := i + 1) (x := (1, b)) (by simp [List.take_add_one, List.getElem?_eq_getElem hc, hb, Nat.min_eq_left (Nat.le_of_lt hc)])
              have hcl' : ∀ c ∈ l.take (i + 1), c.length ≤ 1000 := fun c hc' => by
                rw [List.take_add_one, List.getElem?_eq_getElem hc, hb] at hc'
                rcases List.mem_append.1 hc' with q | q
                · exact hcl c q
                · simp at q
                  subst q
                  omega
              have b5 : (((i + 1 + 1 : Nat) : Int) != ((i + 1 + 1 : Nat) : Int)) = false := by simp
              have b6 : (!decide (str b = str b)) = false := by simp
              simp (disch := first | omega | (simp only [List.length_cons, List.length_nil, List.length_append, u8s_len]; omega)) only [go_sem, ↓reduceIte, true_and, Nat.reduceLeDiff, Nat.reduceEqDiff, Nat.reduceAdd, Nat.reduceBEq, Int.reduceEq, H.cv_5_3, t10]
              refine hN _ ?_; clear hN N
              simp (disch := first | omega | (simp only [List.length_cons, List.length_nil, List.length_append, u8s_len]; omega)) only [go_sem, ↓reduceIte, true_and, Nat.reduceLeDiff, Nat.reduceEqDiff, Nat.reduceAdd, Nat.reduceBEq, Int.reduceEq, H.cv_5_3, t8, t1, t5, t9, upd_same, nat_add, b5, g2.same, g2.disc, g2.sl.ia, gl, hw'.same, hw'.disc, hw'.sl.b2s, hlv.same, hlv.disc, hlv.sl.ia, g0, hw.same, hw.disc, hw.sl.b2s, b6]
              refine hR _ ?_; clear hR R
              simp (disch := first | omega | (simp only [List.length_cons, List.length_nil, List.length_append, u8s_len]; omega)) only [go_sem, ↓reduceIte, true_and, Nat.reduceLeDiff, Nat.reduceEqDiff, Nat.reduceAdd, Nat.reduceBEq, Int.reduceEq, H.cv_5_3, t9, nat_add]
              exact ⟨l.length - (i + 1), by omega, i + 1, _, rfl, by omega, by omega, by simp [upd_at, t1], by simp [upd_at, t5], by simp [upd_at, t8], by simp [upd_at], hm', by first | (rw [e']; done) | (rw [e']; simp), hcl'⟩

          · obtain rfl : i = 40 := by omega
            have d40 : decide ((40 : Nat) < 40) = false := by decide
            (refine W_seq_gen fun N hN => ?_); simp (disch := first | omega | (simp only [List.length_cons, List.length_nil, List.length_append, u8s_len]; omega)) only [go_sem, ↓reduceIte, true_and, Nat.reduceLeDiff, Nat.reduceEqDiff, Nat.reduceAdd, Nat.reduceBEq, Int.reduceEq, H.cv_5_3, t1, t9, hlv.same, hlv.disc, hlv.sl.len, dl, d40]
            clear hN N
            exact fin2 _ _ _ 1 ((7 : Nat) : Int) _ _ _ _ (by simp [upd_at, t5]) hm hz (.inr rfl) (.inr rfl) (by rw [hLlen]; omega) (fun x hx => ⟨hLt x hx, rfl⟩) hLb
        · have dl : decide (i < ls.length) = false := by rw [hel]; simpa using hc
          (refine W_seq_gen fun N hN => ?_); simp (disch := first | omega | (simp only [List.length_cons, List.length_nil, List.length_append, u8s_len]; omega)) only [go_sem, ↓reduceIte, true_and, Nat.reduceLeDiff, Nat.reduceEqDiff, Nat.reduceAdd, Nat.reduceBEq, Int.reduceEq, H.cv_5_3, t1, t9, hlv.same, hlv.disc, hlv.sl.len, dl]
          clear hN N
          exact fin2 _ _ _ 1 ((7 : Nat) : Int) _ _ _ _ (by simp [upd_at, t5]) hm hz (.inr rfl) (.inr rfl) (by rw [hLlen]; omega) (fun x hx => ⟨hLt x hx, rfl⟩) hLb

    have bf : ((false : Bool) != false) = false := rfl
    have bt : ((true : Bool) != true) = false := rfl
    by_cases c : r < 8
    · have hm : MS ((7 : Nat) : Int) 0 0 [] 0 1 r cs := by unfold TS at hT; rwa [if_pos c] at hT
      obtain ⟨lead, pv, qv, yv, nv, mv, e, _⟩ := id hm.at
      have b1 : (((1 : Nat) : Int) == ((3 : Nat) : Int)) = false := by decide
      have b2 : decide (r ≥ 8) = false := by simp; omega
      have b3 : decide (8 ≤ r) = false := by simp; omega
      rw [e] at hz
      simp (disch := first | omega | (simp only [List.length_cons, List.length_nil, List.length_append, u8s_len]; omega)) only [go_sem, ↓reduceIte, true_and, Nat.reduceLeDiff, Nat.reduceEqDiff, Nat.reduceAdd, Nat.reduceBEq, Int.reduceEq, H.cv_5_3, t0, t5, hz, hr, b1, b2, b3, HN, bf]
      exact cont _ (by simp [upd_at, t1]) (by simp [upd_at, t5])
    · have hm : MS ((7 : Nat) : Int) (0 + 1) ((7 : Nat) : Int) ([] ++ [(0 + 1, [])]) (0 + 1) 3 0 cs := by unfold TS at hT; rwa [if_neg c] at hT
      obtain ⟨lead, pv, qv, yv, nv, mv, e, _⟩ := id hm.at
      have b1 : (((3 : Nat) : Int) == ((3 : Nat) : Int)) = true := by decide
      have b2 : decide (r ≥ 8) = true := by simp; omega
      have b3 : decide (8 ≤ r) = true := by simp; omega
      rw [e] at hz
      simp (disch := first | omega | (simp only [List.length_cons, List.length_nil, List.length_append, u8s_len]; omega)) only [go_sem, ↓reduceIte, true_and, Nat.reduceLeDiff, Nat.reduceEqDiff, Nat.reduceAdd, Nat.reduceBEq, Int.reduceEq, H.cv_5_3, t0, t5, hz, hr, b1, b2, b3, HN, bt]
      exact cont _ (by simp [upd_at, t1]) (by simp [upd_at, t5])
  refine AW_loopN (fun m t h' => ∃ i cs, m = r - i ∧ i ≤ r ∧ t 0 = .sc (.int .u8 (n : Nat)) ∧ t 1 = lv ∧ t 5 = .op o5 0 ∧ t 7 = .sc (.int .i64 (i : Nat)) ∧ TS ((7 : Nat) : Int) 0 0 [] i cs ∧ h' o5 = some (.arr cs)) (n := r)
    ⟨0, _, rfl, Nat.zero_le _, by simp [upd_at, t0], by simp [upd_at, t1], by simp [upd_at, t5], by simp [upd_at], hT, by rw [upd_same]⟩ ?_
  clear hT d1 d2 d3 d4 d5 t0 t1 t5 t6 t hM
  rintro m t h' ⟨i, cs, rfl, hi, t0, t1, t5, t7, hT, hz⟩
  rcases Nat.lt_or_ge i r with hlt | hge
  · have d8 : decide (i < r) = true := by simpa using hlt
    obtain ⟨a1, a2, a3, a4, a5, a6, pv, qv, yv, nv, mv, rfl, d1, d2, d3, d4, d5⟩ := id hT.at
    (refine W_seq_gen fun N hN => ?_); simp (disch := first | omega | (simp only [List.length_cons, List.length_nil, List.length_append, u8s_len]; omega)) only [go_sem, ↓reduceIte, true_and, Nat.reduceLeDiff, Nat.reduceEqDiff, Nat.reduceAdd, Nat.reduceBEq, Int.reduceEq, H.cv_5_3, t0, t7, hr, d8]
    refine hN _ ?_; clear hN N
    (refine W_seq_gen fun R hR => ?_)
    rw [W_block]
    simp (disch := first | omega | (simp only [List.length_cons, List.length_nil, List.length_append, u8s_len]; omega)) only [go_sem, ↓reduceIte, true_and, Nat.reduceLeDiff, Nat.reduceEqDiff, Nat.reduceAdd, Nat.reduceBEq, Int.reduceEq, H.cv_5_3, t5, hz, d1, d2, d3, d4, d5]
    refine (tick_n H hT .nil (by simp) (by omega) (by omega) _).mono ?_
    rintro _ h3 ⟨⟨cs', rfl, hT'⟩, rfl⟩
    obtain ⟨a1', a2', a3', a4', a5', a6', pv', qv', yv', nv', mv', rfl, d1', d2', d3', d4', d5'⟩ := id hT'.at
    rw [contK_some]; simp (disch := first | omega | (simp only [List.length_cons, List.length_nil, List.length_append, u8s_len]; omega)) only [go_sem, ↓reduceIte, true_and, Nat.reduceLeDiff, Nat.reduceEqDiff, Nat.reduceAdd, Nat.reduceBEq, Int.reduceEq, H.cv_5_3, t5, hz, d1', d2', d3', d4', d5']
    refine hR _ ?_; clear hR R
    simp (disch := first | omega | (simp only [List.length_cons, List.length_nil, List.length_append, u8s_len]; omega)) only [go_sem, ↓reduceIte, true_and, Nat.reduceLeDiff, Nat.reduceEqDiff, Nat.reduceAdd, Nat.reduceBEq, Int.reduceEq, H.cv_5_3, t7, nat_add]
    exact ⟨r - (i + 1), by omega, i + 1, _, rfl, by omega, by simp [upd_at, t0], by simp [upd_at, t1], by simp [upd_at, t5], by simp [upd_at], hT', by simp⟩
  · obtain rfl : i = r := by omega
    have d8 : decide (i < i) = false := by simp
    (refine W_seq_gen fun N hN => ?_); simp (disch := first | omega | (simp only [List.length_cons, List.length_nil, List.length_append, u8s_len]; omega)) only [go_sem, ↓reduceIte, true_and, Nat.reduceLeDiff, Nat.reduceEqDiff, Nat.reduceAdd, Nat.reduceBEq, Int.reduceEq, H.cv_5_3, t0, t7, hr, d8]
    clear hN N
    exact fin1 _ _ _ (by simp [upd_at, t0]) (by simp [upd_at, t1]) (by simp [upd_at, t5]) hT hz
end Go.Proofs.Ytkmakibigmlfeaa
