/- A record more; it leads; it stands. -/
import Derived.Test.YtkmakibigmlfeaaBallotM1
section
set_option linter.unusedVariables false
set_option linter.unusedSimpArgs false
namespace Go.Proofs.Ytkmakibigmlfeaa
open Go.Am
theorem upd_self2 {h : Heap} {o : Nat} {X : AObj} (e : h o = some X) : upd h o (some X) = h := upd_self e
theorem ST.rw {h0 h : Heap} {o : Nat} {lg : AV} {L : List (List AV)} {cs : List AV} (H : ST h0 h o lg L cs) : RW (upd h0 o (some (.arr cs))) h 2 lg L := by
  obtain ⟨h1, h2, h3, h4⟩ := H
  refine ⟨fun x hx => ?_, ?_⟩
  · by_cases e : x = o
    · subst e; rw [upd_same, h2]
    · rw [upd_ne _ _ e] at hx ⊢
      exact h3 x hx
  · rcases h4 with h | ⟨q, cap, z, a1, a2, a3, a4, a5, a6⟩
    · exact .inl h
    · exact .inr ⟨q, cap, z, by rw [upd_ne _ _ a2]; exact a1, a3, a4, a5, a6⟩
theorem ST.of {h0 h : Heap} {o : Nat} {lg : AV} {L : List (List AV)} {cs : List AV} (h1 : h0 o = none) (H : RW (upd h0 o (some (.arr cs))) h 2 lg L) : ST h0 h o lg L cs := by
  obtain ⟨h2, h4⟩ := H
  refine ⟨h1, by rw [h2 o (by rw [upd_same]; simp), upd_same], fun x hx => ?_, ?_⟩
  · have e : x ≠ o := fun e => hx (by rw [e]; exact h1)
    rw [h2 x (by rw [upd_ne _ _ e]; exact hx), upd_ne _ _ e]
  · rcases h4 with h | ⟨q, cap, z, a1, a3, a4, a5, a6⟩
    · exact .inl h
    · have e : q ≠ o := fun e => by rw [e, upd_same] at a1; cases a1
      exact .inr ⟨q, cap, z, by rwa [upd_ne _ _ e] at a1, e, a3, a4, a5, a6⟩
/-- The step's own cells turn. -/
theorem ST.st {h0 h : Heap} {o : Nat} {lg : AV} {L : List (List AV)} {cs cs' : List AV} (H : ST h0 h o lg L cs) : ST h0 (upd h o (some (.arr cs'))) o lg L cs' := by
  obtain ⟨h1, h2, h3, h4⟩ := H
  refine ⟨h1, by rw [upd_same], fun x hx => ?_, ?_⟩
  · have e : x ≠ o := fun e => hx (by rw [e]; exact h1)
    rw [upd_ne _ _ e, h3 x hx]
  · rcases h4 with h | ⟨q, cap, z, a1, a2, a3, a4, a5, a6⟩
    · exact .inl h
    · exact .inr ⟨q, cap, z, a1, a2, a3, a4, a5, by rw [upd_ne _ _ a2]; exact a6⟩
theorem ST.rd {h0 h : Heap} {o : Nat} {lg : AV} {L : List (List AV)} {cs : List AV} (H : ST h0 h o lg L cs) (hg : GE 2 L) : RD h 2 lg L := H.rw.rd hg
theorem set21 {a b x : AV} : setRange [a, b] 1 [x] = [a, x] := rfl
variable {P : Program} (H : Has P)
include H
theorem add_ok {h0 h : Heap} {o com : Nat} {id vote role lead clock T : Int} {pv lg yv nv mv out cv : AV} {L : List (List AV)} {ce : List (List AV)} (hpv : SF 1 pv (ints [id])) (hcv : SF 1 cv ce) (hcl0 : ce.length ≤ 2 ^ 30) (hlen : L.length < 512) (hc : com ≤ L.length) (hg : GE 2 L)
    (hst : ST h0 h o lg L [.sc (.int .i64 id), pv, .sc (.int .i64 T), .sc (.int .i64 vote), lg, .sc (.int .i64 (com : Nat)), .sc (.int .i64 role), .sc (.int .i64 lead), yv, .sc (.int .i64 clock), nv, mv, out]) :
    AWF P ann 0 22 [.op o 0, cv] h fun r h' => ∃ lg', ST h0 h' o lg' (L ++ [[.sc (.int .i64 T), frz cv]]) [.sc (.int .i64 id), pv, .sc (.int .i64 T), .sc (.int .i64 vote), lg', .sc (.int .i64 ((L.length + 1 : Nat) : Int)), .sc (.int .i64 role), .sc (.int .i64 lead), yv, .sc (.int .i64 clock), nv, mv, out] := by
  refine AWF.fnc H.f0_22 rfl ?_
  have hfc := frz_sf hcv
  have ho := hst.2.1
  obtain ⟨s1, s2, s3, s4, s5⟩ := hst.2.2.2.same
  have cfc : (frz cv).cells = [frz cv] := by rcases hfc with ⟨e, _⟩ | ⟨_, e⟩ <;> rw [e] <;> rfl
  have tfc : (frz cv).isTu = false := by rcases hfc with ⟨e, _⟩ | ⟨_, e⟩ <;> rw [e] <;> rfl
  have ge1 : GE 2 [[.sc (.int .i64 T), frz cv]] := fun e he => by
    rw [List.mem_singleton] at he
    subst he
    exact ⟨rfl, by simp only [List.map_cons, List.map_nil, disc_sc, hfc.disc]⟩
  have dl : decide (L.length < 512) = true := by simpa using hlen
  have hrl := fun t => (hst.rd hg).len (t := t)
  (refine W_seq_gen fun N hN => ?_); simp (disch := first | omega | (simp only [List.length_cons, List.length_nil, List.length_append, u8s_len]; omega)) only [go_sem, ↓reduceIte, true_and, Nat.reduceLeDiff, Nat.reduceEqDiff, Nat.reduceAdd, Nat.reduceBEq, Int.reduceEq, H.cv_5_3, ho, s1, s2, hrl, dl]
  refine W_forget (fun t => t 0 = .op o 0 ∧ t 1 = cv ∧ True) (by simp [upd_at, *] <;> (first | rfl | exact ⟨rfl, rfl⟩ | exact ⟨rfl, rfl, rfl⟩ | exact ⟨rfl, rfl, rfl, rfl⟩ | exact ⟨rfl, rfl, rfl, rfl, rfl⟩)) ?_; rintro t ⟨t0, t1, -⟩
  refine W_tabC (α := AV × Heap) rfl rfl (fun c l => l 15 = true → ST h0 c.2 o c.1 (L ++ [[.sc (.int .i64 T), frz cv]]) [.sc (.int .i64 id), pv, .sc (.int .i64 T), .sc (.int .i64 vote), lg, .sc (.int .i64 (com : Nat)), .sc (.int .i64 role), .sc (.int .i64 lead), yv, .sc (.int .i64 clock), nv, mv, out]) (fun c i => match i with | 0 => .op o 0 | 1 => .op o 0 | 2 => .op o 0 | 3 => .op o 0 | 4 => .op o 4 | 5 => lg | 6 => .op o 0 | 7 => .op o 0 | 8 => .op o 0 | 9 => .op o 2 | 10 => .sc (.int .i64 T) | 11 => cv | 12 => frz cv | 13 => .ag [.sc (.int .i64 T), frz cv] | 14 => .bs true 2 [[.sc (.int .i64 T), frz cv]] (some 1) | 15 => c.1 | 16 => .op o 0 | 17 => .op o 0 | 18 => .op o 4 | 19 => .undef | _ => .undef) (fun c l => if l 19 then upd c.2 o (some (.arr [.sc (.int .i64 id), pv, .sc (.int .i64 T), .sc (.int .i64 vote), c.1, .sc (.int .i64 (com : Nat)), .sc (.int .i64 role), .sc (.int .i64 lead), yv, .sc (.int .i64 clock), nv, mv, out])) else if l 15 then c.2 else h) (.undef, h) (fun q => by cases q) (by simp) ⟨fun c l t' hC hcl hi hp hk hs => ?_, fun c l t' hC hcl hi hp hk hs => ?_, fun c l t' hC hcl hi hp hk hs => ?_, fun c l t' hC hcl hi hp hk hs => ?_, fun c l t' hC hcl hi hp hk hs => ?_, fun c l t' hC hcl hi hp hk hs => ?_, fun c l t' hC hcl hi hp hk hs => ?_, fun c l t' hC hcl hi hp hk hs => ?_, fun c l t' hC hcl hi hp hk hs => ?_, fun c l t' hC hcl hi hp hk hs => ?_, fun c l t' hC hcl hi hp hk hs => ?_, fun c l t' hC hcl hi hp hk hs => ?_, fun c l t' hC hcl hi hp hk hs => ?_, fun c l t' hC hcl hi hp hk hs => ?_, fun c l t' hC hcl hi hp hk hs => ?_, fun c l t' hC hcl hi hp hk hs => ?_, fun c l t' hC hcl hi hp hk hs => ?_, fun c l t' hC hcl hi hp hk hs => ?_, fun c l t' hC hcl hi hp hk hs => ?_, fun c l t' hC hcl hi hp hk hs => ?_, trivial⟩ ?_
  · have u0 : t' 0 = .op o 0 := (hk 0 rfl).trans t0
    refine stepC_val rfl ?_ (hC)
    simp (disch := first | omega | (simp only [List.length_cons, List.length_nil, List.length_append, u8s_len]; omega)) only [go_sem, ↓reduceIte, true_and, Nat.reduceLeDiff, Nat.reduceEqDiff, Nat.reduceAdd, Nat.reduceBEq, Int.reduceEq, H.cv_5_3, u0, Nat.zero_add, Nat.add_zero]
  · have u0 : t' 0 = .op o 0 := (hk 0 rfl).trans t0
    refine stepC_val rfl ?_ (hC)
    simp (disch := first | omega | (simp only [List.length_cons, List.length_nil, List.length_append, u8s_len]; omega)) only [go_sem, ↓reduceIte, true_and, Nat.reduceLeDiff, Nat.reduceEqDiff, Nat.reduceAdd, Nat.reduceBEq, Int.reduceEq, H.cv_5_3, u0, Nat.zero_add, Nat.add_zero]
  · have u12 : t' 12 = .op o 0 := hs 1 (by decide) _ rfl _ rfl
    refine stepC_val rfl ?_ (hC)
    simp (disch := first | omega | (simp only [List.length_cons, List.length_nil, List.length_append, u8s_len]; omega)) only [go_sem, ↓reduceIte, true_and, Nat.reduceLeDiff, Nat.reduceEqDiff, Nat.reduceAdd, Nat.reduceBEq, Int.reduceEq, H.cv_5_3, u12, Nat.zero_add, Nat.add_zero]
  · have u13 : t' 13 = .op o 0 := hs 2 (by decide) _ rfl _ rfl
    refine stepC_val rfl ?_ (hC)
    simp (disch := first | omega | (simp only [List.length_cons, List.length_nil, List.length_append, u8s_len]; omega)) only [go_sem, ↓reduceIte, true_and, Nat.reduceLeDiff, Nat.reduceEqDiff, Nat.reduceAdd, Nat.reduceBEq, Int.reduceEq, H.cv_5_3, u13, Nat.zero_add, Nat.add_zero]
  · have u14 : t' 14 = .op o 0 := hs 3 (by decide) _ rfl _ rfl
    refine stepC_val rfl ?_ (hC)
    simp (disch := first | omega | (simp only [List.length_cons, List.length_nil, List.length_append, u8s_len]; omega)) only [go_sem, ↓reduceIte, true_and, Nat.reduceLeDiff, Nat.reduceEqDiff, Nat.reduceAdd, Nat.reduceBEq, Int.reduceEq, H.cv_5_3, u14, Nat.zero_add, Nat.add_zero]
  · have u15 : t' 15 = .op o 4 := hs 4 (by decide) _ rfl _ rfl
    have n15 : l 15 = false := clo_not hcl hi (by decide)
    have n19 : l 19 = false := clo_not hcl hi (by decide)
    refine stepC_val rfl ?_ hC
    simp (disch := first | omega | (simp only [List.length_cons, List.length_nil, List.length_append, u8s_len]; omega)) only [go_sem, ↓reduceIte, true_and, Nat.reduceLeDiff, Nat.reduceEqDiff, Nat.reduceAdd, Nat.reduceBEq, Int.reduceEq, H.cv_5_3, u15, n15, n19, Bool.false_eq_true, ho, s1, s2, upd_self2 ho]
  · have u0 : t' 0 = .op o 0 := (hk 0 rfl).trans t0
    refine stepC_val rfl ?_ (hC)
    simp (disch := first | omega | (simp only [List.length_cons, List.length_nil, List.length_append, u8s_len]; omega)) only [go_sem, ↓reduceIte, true_and, Nat.reduceLeDiff, Nat.reduceEqDiff, Nat.reduceAdd, Nat.reduceBEq, Int.reduceEq, H.cv_5_3, u0, Nat.zero_add, Nat.add_zero]
  · have u17 : t' 17 = .op o 0 := hs 6 (by decide) _ rfl _ rfl
    refine stepC_val rfl ?_ (hC)
    simp (disch := first | omega | (simp only [List.length_cons, List.length_nil, List.length_append, u8s_len]; omega)) only [go_sem, ↓reduceIte, true_and, Nat.reduceLeDiff, Nat.reduceEqDiff, Nat.reduceAdd, Nat.reduceBEq, Int.reduceEq, H.cv_5_3, u17, Nat.zero_add, Nat.add_zero]
  · have u18 : t' 18 = .op o 0 := hs 7 (by decide) _ rfl _ rfl
    refine stepC_val rfl ?_ (hC)
    simp (disch := first | omega | (simp only [List.length_cons, List.length_nil, List.length_append, u8s_len]; omega)) only [go_sem, ↓reduceIte, true_and, Nat.reduceLeDiff, Nat.reduceEqDiff, Nat.reduceAdd, Nat.reduceBEq, Int.reduceEq, H.cv_5_3, u18, Nat.zero_add, Nat.add_zero]
  · have u19 : t' 19 = .op o 0 := hs 8 (by decide) _ rfl _ rfl
    refine stepC_val rfl ?_ (hC)
    simp (disch := first | omega | (simp only [List.length_cons, List.length_nil, List.length_append, u8s_len]; omega)) only [go_sem, ↓reduceIte, true_and, Nat.reduceLeDiff, Nat.reduceEqDiff, Nat.reduceAdd, Nat.reduceBEq, Int.reduceEq, H.cv_5_3, u19, Nat.zero_add, Nat.add_zero]
  · have u20 : t' 20 = .op o 2 := hs 9 (by decide) _ rfl _ rfl
    have n13 : l 13 = false := clo_not hcl hi (by decide)
    have n14 : l 14 = false := clo_not hcl n13 (by decide)
    have n15 : l 15 = false := clo_not hcl n14 (by decide)
    have n19 : l 19 = false := clo_not hcl n15 (by decide)
    refine stepC_val rfl ?_ hC
    simp (disch := first | omega | (simp only [List.length_cons, List.length_nil, List.length_append, u8s_len]; omega)) only [go_sem, ↓reduceIte, true_and, Nat.reduceLeDiff, Nat.reduceEqDiff, Nat.reduceAdd, Nat.reduceBEq, Int.reduceEq, H.cv_5_3, u20, n15, n19, Bool.false_eq_true, ho]
  · have u1 : t' 1 = cv := (hk 1 rfl).trans t1
    refine stepC_val rfl ?_ hC
    simp (disch := first | omega | (simp only [List.length_cons, List.length_nil, List.length_append, u8s_len]; omega)) only [go_sem, ↓reduceIte, true_and, Nat.reduceLeDiff, Nat.reduceEqDiff, Nat.reduceAdd, Nat.reduceBEq, Int.reduceEq, H.cv_5_3, u1, hcv.same]
  · have u22 : t' 22 = cv := hs 11 (by decide) _ rfl _ rfl
    refine stepC_pure (args := [cv]) (by simp [Opd.ev, u22]) (by rcases hcv with ⟨rfl, _⟩ | ⟨_, rfl⟩ <;> rfl) (by simpa using hcv.same) ?_ hC
    exact clone43_ok H hcv (by omega) _
  · have u21 : t' 21 = .sc (.int .i64 T) := hs 10 (by decide) _ rfl _ rfl
    have u23 : t' 23 = frz cv := hs 12 (by decide) _ rfl _ rfl
    have e23 : upd t' 23 (frz cv).dis = t' := upd_self (by rw [u23]; exact hfc.same.symm)
    refine stepC_val rfl ?_ hC
    simp (disch := first | omega | (simp only [List.length_cons, List.length_nil, List.length_append, u8s_len]; omega)) only [go_sem, ↓reduceIte, true_and, Nat.reduceLeDiff, Nat.reduceEqDiff, Nat.reduceAdd, Nat.reduceBEq, Int.reduceEq, H.cv_5_3, u21, u23, hfc.same, hfc.disc, e23, cfc, tfc, set21]
  · have u24 : t' 24 = .ag [.sc (.int .i64 T), frz cv] := hs 13 (by decide) _ rfl _ rfl
    refine stepC_val rfl ?_ hC
    simp (disch := first | omega | (simp only [List.length_cons, List.length_nil, List.length_append, u8s_len]; omega)) only [go_sem, ↓reduceIte, true_and, Nat.reduceLeDiff, Nat.reduceEqDiff, Nat.reduceAdd, Nat.reduceBEq, Int.reduceEq, H.cv_5_3, u24, hfc.same, hfc.disc]
  · have u16 : t' 16 = lg := hs 5 (by decide) _ rfl _ rfl
    have u25 : t' 25 = .bs true 2 [[.sc (.int .i64 T), frz cv]] (some 1) := hs 14 (by decide) _ rfl _ rfl
    have n19 : l 19 = false := clo_not hcl hi (by decide)
    have u25' : elemsOf (if l 19 = true then upd c.2 o (some (.arr [.sc (.int .i64 id), pv, .sc (.int .i64 T), .sc (.int .i64 vote), c.1, .sc (.int .i64 (com : Nat)), .sc (.int .i64 role), .sc (.int .i64 lead), yv, .sc (.int .i64 clock), nv, mv, out])) else if l 15 = true then c.2 else h) 2 (t' 25) = some [[.sc (.int .i64 T), frz cv]] := by rw [u25]; rfl
    refine stepC_app u16 s1 u25' ?_
    simp only [hi, n19, Bool.false_eq_true, if_false]
    refine after_row hst.rw hg (ys := [[.sc (.int .i64 T), frz cv]]) ge1 rfl (by simp; omega) fun x h2 hR => ?_
    exact ⟨(x, h2), fun _ => .of hst.1 hR, by simp [upd, n19], rfl, fun j hj => match j, hj with | 15, q => (by rw [hi] at q; cases q) | 0, _ => rfl | 1, _ => rfl | 2, _ => rfl | 3, _ => rfl | 4, _ => rfl | 5, _ => rfl | 6, _ => rfl | 7, _ => rfl | 8, _ => rfl | 9, _ => rfl | 10, _ => rfl | 11, _ => rfl | 12, _ => rfl | 13, _ => rfl | 14, _ => rfl | 16, _ => rfl | 17, _ => rfl | 18, _ => rfl | 19, _ => rfl | n + 20, _ => rfl⟩
  · have u11 : t' 11 = .op o 0 := hs 0 (by decide) _ rfl _ rfl
    refine stepC_val rfl ?_ (hC)
    simp (disch := first | omega | (simp only [List.length_cons, List.length_nil, List.length_append, u8s_len]; omega)) only [go_sem, ↓reduceIte, true_and, Nat.reduceLeDiff, Nat.reduceEqDiff, Nat.reduceAdd, Nat.reduceBEq, Int.reduceEq, H.cv_5_3, u11, Nat.zero_add, Nat.add_zero]
  · have u27 : t' 27 = .op o 0 := hs 16 (by decide) _ rfl _ rfl
    refine stepC_val rfl ?_ (hC)
    simp (disch := first | omega | (simp only [List.length_cons, List.length_nil, List.length_append, u8s_len]; omega)) only [go_sem, ↓reduceIte, true_and, Nat.reduceLeDiff, Nat.reduceEqDiff, Nat.reduceAdd, Nat.reduceBEq, Int.reduceEq, H.cv_5_3, u27, Nat.zero_add, Nat.add_zero]
  · have u28 : t' 28 = .op o 0 := hs 17 (by decide) _ rfl _ rfl
    refine stepC_val rfl ?_ (hC)
    simp (disch := first | omega | (simp only [List.length_cons, List.length_nil, List.length_append, u8s_len]; omega)) only [go_sem, ↓reduceIte, true_and, Nat.reduceLeDiff, Nat.reduceEqDiff, Nat.reduceAdd, Nat.reduceBEq, Int.reduceEq, H.cv_5_3, u28, Nat.zero_add, Nat.add_zero]
  · have u26 : t' 26 = c.1 := hs 15 (by decide) _ rfl _ rfl
    have u29 : t' 29 = .op o 4 := hs 18 (by decide) _ rfl _ rfl
    have hb := hC (hp 15 (by decide))
    obtain ⟨c1, c2, c3, c4, _⟩ := hb.2.2.2.same
    have h15 : l 15 = true := hp 15 (by decide)
    have hbo := hb.2.1
    have e26 : upd t' 26 c.1.dis = t' := upd_self (by rw [u26]; exact c1.symm)
    refine stepC_val rfl ?_ hC
    simp (disch := first | omega | (simp only [List.length_cons, List.length_nil, List.length_append, u8s_len]; omega)) only [go_sem, ↓reduceIte, true_and, Nat.reduceLeDiff, Nat.reduceEqDiff, Nat.reduceAdd, Nat.reduceBEq, Int.reduceEq, H.cv_5_3, u26, u29, h15, hi, Bool.false_eq_true, hbo, c3, c4, e26]
  intro c l t' hC hl hk hd
  have t0' : t' 0 = .op o 0 := (hk 0 rfl).trans t0
  have hb := hC (hl 15 (by decide))
  simp only [hl 19 (by decide), if_true]
  obtain ⟨lg', hq⟩ := c
  simp only at hb ⊢
  clear hC hk hd hl
  refine hN _ ?_; clear hN N
  refine W_forget (fun t => t 0 = .op o 0 ∧ True) (by simp [upd_at, *] <;> (first | rfl | exact ⟨rfl, rfl⟩ | exact ⟨rfl, rfl, rfl⟩ | exact ⟨rfl, rfl, rfl, rfl⟩ | exact ⟨rfl, rfl, rfl, rfl, rfl⟩)) ?_; rintro t ⟨t0, -⟩
  have hst2 := hb.st (cs' := [.sc (.int .i64 id), pv, .sc (.int .i64 T), .sc (.int .i64 vote), lg', .sc (.int .i64 (com : Nat)), .sc (.int .i64 role), .sc (.int .i64 lead), yv, .sc (.int .i64 clock), nv, mv, out])
  have ho2 := hst2.2.1
  (refine W_seq_gen fun N hN => ?_); simp (disch := first | omega | (simp only [List.length_cons, List.length_nil, List.length_append, u8s_len]; omega)) only [go_sem, ↓reduceIte, true_and, Nat.reduceLeDiff, Nat.reduceEqDiff, Nat.reduceAdd, Nat.reduceBEq, Int.reduceEq, H.cv_5_3, t0]
  refine (push_ok H hpv ho2).mono ?_
  rintro r _ rfl
  rw [contK_some]; simp (disch := first | omega | (simp only [List.length_cons, List.length_nil, List.length_append, u8s_len]; omega)) only [go_sem, ↓reduceIte, true_and, Nat.reduceLeDiff, Nat.reduceEqDiff, Nat.reduceAdd, Nat.reduceBEq, Int.reduceEq, H.cv_5_3]
  refine hN _ ?_; clear hN N
  simp (disch := first | omega | (simp only [List.length_cons, List.length_nil, List.length_append, u8s_len]; omega)) only [go_sem, ↓reduceIte, true_and, Nat.reduceLeDiff, Nat.reduceEqDiff, Nat.reduceAdd, Nat.reduceBEq, Int.reduceEq, H.cv_5_3, t0]
  rcases hst2.2.2.2 with ⟨_, e⟩ | ⟨q, cap, z, a1, a2, rfl, a4, a5, a6⟩
  · simp at e
  · have e : (L ++ [[.sc (.int .i64 T), frz cv]]).length = L.length + 1 := by simp
    generalize hm : (L ++ [[.sc (.int .i64 T), frz cv]]).length = m at ho2 hst2 a4 a5 a6 e ⊢
    refine (count_ok H hpv (n := m) (c := com) e (by omega) (by omega) ⟨a6, hg.app ge1⟩ ho2).mono ?_
    rintro r _ rfl
    rw [← e]
    rw [contK_some]; simp (disch := first | omega | (simp only [List.length_cons, List.length_nil, List.length_append, u8s_len]; omega)) only [go_sem, ↓reduceIte, true_and, Nat.reduceLeDiff, Nat.reduceEqDiff, Nat.reduceAdd, Nat.reduceBEq, Int.reduceEq, H.cv_5_3]
    have h9 := fun cs' => hst2.st (cs' := cs')
    simp only [upd2] at h9
    exact ⟨_, rfl, _, h9 _⟩
end Go.Proofs.Ytkmakibigmlfeaa
end

section
set_option linter.unusedVariables false
set_option linter.unusedSimpArgs false
namespace Go.Proofs.Ytkmakibigmlfeaa
open Go.Am
/-- One or two rows of one number more. -/
def lay2 (h : Heap) (a b : Nat) (x y : Bool) : Heap := fun k => if x = true ∧ k = a then some (.arr [.sc (.int .i64 ((0 : Nat) : Int))]) else if y = true ∧ k = b then some (.arr [.sc (.int .i64 ((0 : Nat) : Int))]) else h k
theorem lay2_ff {h : Heap} {a b : Nat} : lay2 h a b false false = h := by
  funext k
  simp [lay2]
theorem upd_congr {h h' : Heap} {o : Nat} {X Y : Option AObj} (e1 : h = h') (e2 : X = Y) : upd h o X = upd h' o Y := by rw [e1, e2]
theorem cells_rs {o c sz n : Nat} {lim : Option Nat} : (AV.rs o c sz n lim).cellsD = [.rs o c sz n lim] := rfl
theorem tu_rs {o c sz n : Nat} {lim : Option Nat} : (AV.rs o c sz n lim).isTu = false := rfl
theorem dis_rs {o c sz n : Nat} {lim : Option Nat} : (AV.rs o c sz n lim).dis = .rs o c sz n lim := rfl
theorem set11 {a x : AV} : setRange [a] 0 [x] = [x] := rfl
theorem lay2_none1 {h : Heap} {a b k : Nat} {y : Bool} (e : lay2 h a b false y k = none) : h k = none := by
  simp only [lay2, Bool.false_eq_true, false_and, if_false] at e
  split at e
  · cases e
  · exact e
theorem lay2_none2 {h : Heap} {a b k : Nat} {x : Bool} (e : lay2 h a b x false k = none) : h k = none := by
  simp only [lay2, Bool.false_eq_true, false_and, if_false] at e
  split at e
  · cases e
  · exact e
theorem lay2_ne1 {h : Heap} {a b k : Nat} (e : lay2 h a b false true k = none) : k ≠ b := by
  intro q
  subst q
  simp [lay2] at e
theorem lay2_ne2 {h : Heap} {a b k : Nat} (e : lay2 h a b true false k = none) : k ≠ a := by
  intro q
  subst q
  simp [lay2] at e
theorem lay2_a {h : Heap} {a b k : Nat} {y : Bool} (e : y = true → k ≠ b) : upd (lay2 h a b false y) k (some (.arr (List.replicate 1 [AV.sc (.int .i64 ((0 : Nat) : Int))]).flatten)) = lay2 h k b true y := by
  funext j
  simp only [upd, lay2, Bool.false_eq_true, false_and, if_false, true_and]
  split <;> rfl
theorem lay2_b {h : Heap} {a b k : Nat} {x : Bool} (e : x = true → k ≠ a) : upd (lay2 h a b x false) k (some (.arr (List.replicate 1 [AV.sc (.int .i64 ((0 : Nat) : Int))]).flatten)) = lay2 h a k x true := by
  funext j
  simp only [upd, lay2, Bool.false_eq_true, false_and, if_false, true_and]
  by_cases c1 : j = k
  · subst c1
    simp only [if_true]
    by_cases c2 : x = true ∧ j = a
    · simp [c2]
    · simp [c2]
  · simp [c1]
theorem ST.grow {h0 h h' : Heap} {o : Nat} {lg : AV} {L : List (List AV)} {cs : List AV} (H : ST h0 h o lg L cs) (hk : ∀ x, h x ≠ none → h' x = h x) : ST h0 h' o lg L cs := by
  obtain ⟨h1, h2, h3, h4⟩ := H
  refine ⟨h1, by rw [hk o (by rw [h2]; simp), h2], fun x hx => by rw [hk x (by rw [h3 x hx]; exact hx), h3 x hx], ?_⟩
  rcases h4 with h | ⟨q, cap, z, a1, a2, a3, a4, a5, a6⟩
  · exact .inl h
  · exact .inr ⟨q, cap, z, a1, a2, a3, a4, a5, by rw [hk q (by rw [a6]; simp), a6]⟩
theorem ST.side {h0 h : Heap} {o b : Nat} {lg : AV} {L : List (List AV)} {cs : List AV} {X : Option AObj} (H : ST h0 h o lg L cs) (hb : h0 b = none) (ho : b ≠ o) (hq : ∀ q c sz n lim, lg = .rs q c sz n lim → q ≠ b) : ST h0 (upd h b X) o lg L cs := by
  obtain ⟨h1, h2, h3, h4⟩ := H
  refine ⟨h1, by rw [upd_ne _ _ (Ne.symm ho), h2], fun x hx => ?_, ?_⟩
  · have e : x ≠ b := fun e => hx (by rw [e]; exact hb)
    rw [upd_ne _ _ e, h3 x hx]
  · rcases h4 with h | ⟨q, cap, z, a1, a2, a3, a4, a5, a6⟩
    · exact .inl h
    · exact .inr ⟨q, cap, z, a1, a2, a3, a4, a5, by rw [upd_ne _ _ (hq _ _ _ _ _ a3)]; exact a6⟩
theorem lay2_keep {h : Heap} {a b : Nat} (e1 : h a = none) (e2 : h b = none) : ∀ x, h x ≠ none → lay2 h a b true true x = h x := by
  intro x hx
  have n1 : x ≠ a := fun e => hx (by rw [e]; exact e1)
  have n2 : x ≠ b := fun e => hx (by rw [e]; exact e2)
  simp [lay2, n1, n2]
theorem LGo.ne {h0 h : Heap} {o b : Nat} {lg : AV} {L : List (List AV)} (H : LGo h0 h o lg L) (e : h b = none) : ∀ q c sz n lim, lg = .rs q c sz n lim → q ≠ b := by
  rintro q c sz n lim rfl rfl
  rcases H with ⟨h, _⟩ | ⟨q, cap, z, _, _, h, _, _, h5⟩
  · cases h
  · cases h
    rw [e] at h5
    cases h5
theorem ST.base {h0 h : Heap} {o b : Nat} {lg : AV} {L : List (List AV)} {cs : List AV} (H : ST h0 h o lg L cs) (e : h b = none) : h0 b = none := by
  cases q : h0 b with
  | none => rfl
  | some X => have := H.2.2.1 b (by rw [q]; simp); rw [e, q] at this; cases this
theorem ST.len {h0 h : Heap} {o : Nat} {lg : AV} {L : List (List AV)} {cs : List AV} (H : ST h0 h o lg L cs) : ∀ t h', aexLen 0 t h' lg = some (.val (.sc (.int .i64 (L.length : Nat))) t h') := by
  intro t h'
  rcases H.2.2.2 with ⟨rfl, rfl⟩ | ⟨q, cap, z, _, _, rfl, _⟩ <;> rfl
/-- A row of one number in the step becomes a value. -/
theorem ST.gcell {P : Program} {ann : Ann} {c : AC} {Q : Ex → St → Prop} {h0 h : Heap} {o b m : Nat} {lg x : AV} {L : List (List AV)} {cs : List AV} {t : Nat → AV} (H : ST h0 h o lg L cs) (hm : cs[m]? = some (.rs b 0 1 1 (some 1))) (hb : h b = some (.arr [x])) (hx : x.disc = x) (hbo : b ≠ o)
    (z : h0 b = Option.none) (hq : ∀ q c sz n lim, lg = .rs q c sz n lim → q ≠ b) (K : ∀ h', ST h0 h' o lg L (cs.set m (.bs false 1 [[x]] (some 1))) → (∀ y, y ≠ o → y ≠ b → h' y = h y) → AW P ann c ⟨t, h'⟩ Q) : AW P ann c ⟨t, h⟩ Q := by
  refine .ghost (.cell (o' := o) (m := m) (o := b) (c := 0) (sz := 1) (n := 1) (lim := some 1) H.2.1 hm hb hbo (by simp)) ?_
  have e : chunks 1 1 (([x].drop 0).map AV.disc) = [[x]] := by simp [chunks, hx]
  rw [e]
  refine K _ (H.st.side z hbo hq) fun y h1 h2 => ?_
  rw [upd_ne _ _ h2, upd_ne _ _ h1]
variable {P : Program} (H : Has P)
include H
theorem lead_ok {h0 h : Heap} {o com : Nat} {id vote role lead clock T : Int} {pv lg yv nv mv out : AV} {L : List (List AV)} (hpv : SF 1 pv (ints [id])) (hlen : L.length < 512) (hc : com ≤ L.length) (hg : GE 2 L)
    (hst : ST h0 h o lg L [.sc (.int .i64 id), pv, .sc (.int .i64 T), .sc (.int .i64 vote), lg, .sc (.int .i64 (com : Nat)), .sc (.int .i64 role), .sc (.int .i64 lead), yv, .sc (.int .i64 clock), nv, mv, out]) :
    AWF P ann 0 42 [.op o 0] h fun r h' => ∃ lg', ST h0 h' o lg' (L ++ [[.sc (.int .i64 T), .sc (.slice none 0 0)]]) [.sc (.int .i64 id), pv, .sc (.int .i64 T), .sc (.int .i64 vote), lg', .sc (.int .i64 ((L.length + 1 : Nat) : Int)), .sc (.int .i64 ((3 : Nat) : Int)), .sc (.int .i64 id), .sc (.slice none 0 0), .sc (.int .i64 ((0 : Nat) : Int)), .bs false 1 [[.sc (.int .i64 ((L.length + 1 : Nat) : Int))]] (some 1), .bs false 1 [[.sc (.int .i64 ((0 : Nat) : Int))]] (some 1), out] := by
  refine AWF.fncA H.f0_42 rfl ?_
  have ho := hst.2.1
  have e1 : (ints [id]).length = 1 := rfl
  obtain ⟨s1, s2, s3, s4, s5⟩ := hst.2.2.2.same
  refine A_seq_gen fun N hN => W_sound ?_
  simp (disch := first | omega | (simp only [List.length_cons, List.length_nil, List.length_append, u8s_len]; omega)) only [go_sem, ↓reduceIte, true_and, Nat.reduceLeDiff, Nat.reduceEqDiff, Nat.reduceAdd, Nat.reduceBEq, Int.reduceEq, H.cv_5_3, ho, upd_same, upd2]
  refine hN _ ?_; clear hN N
  have hst2 := hst.st (cs' := [.sc (.int .i64 id), pv, .sc (.int .i64 T), .sc (.int .i64 vote), lg, .sc (.int .i64 (com : Nat)), .sc (.int .i64 ((3 : Nat) : Int)), .sc (.int .i64 id), .sc (.slice none 0 0), .sc (.int .i64 ((0 : Nat) : Int)), nv, mv, out])
  generalize upd h o _ = h at hst2 ⊢
  clear hst ho
  have ho := hst2.2.1
  refine A_seq_gen fun N hN => W_sound ?_
  refine W_forget (fun t => t 0 = .op o 0 ∧ True) (by simp [upd_at, *] <;> (first | rfl | exact ⟨rfl, rfl⟩ | exact ⟨rfl, rfl, rfl⟩ | exact ⟨rfl, rfl, rfl, rfl⟩ | exact ⟨rfl, rfl, rfl, rfl, rfl⟩)) ?_; rintro t ⟨t0, -⟩
  refine W_tabC (α := Nat × Nat) rfl rfl (fun c l => (l 8 = true → h c.1 = none) ∧ (l 15 = true → h c.2 = none) ∧ (l 8 = true → l 15 = true → c.1 ≠ c.2)) (fun c i => match i with | 0 => .op o 0 | 1 => .op o 0 | 2 => .op o 0 | 3 => .op o 0 | 4 => .op o 0 | 5 => .op o 1 | 6 => pv | 7 => .sc (.int .i64 ((1 : Nat) : Int)) | 8 => .rs c.1 0 1 1 (some 1) | 9 => .op o 0 | 10 => .op o 0 | 11 => .op o 0 | 12 => .op o 1 | 13 => pv | 14 => .sc (.int .i64 ((1 : Nat) : Int)) | 15 => .rs c.2 0 1 1 (some 1) | 16 => .op o 0 | 17 => .op o 0 | 18 => .op o 10 | 19 => .undef | 20 => .op o 0 | 21 => .op o 0 | 22 => .op o 11 | 23 => .undef | _ => .undef) (fun c l => upd (lay2 h c.1 c.2 (l 8) (l 15)) o (some (.arr [.sc (.int .i64 id), pv, .sc (.int .i64 T), .sc (.int .i64 vote), lg, .sc (.int .i64 (com : Nat)), .sc (.int .i64 ((3 : Nat) : Int)), .sc (.int .i64 id), .sc (.slice none 0 0), .sc (.int .i64 ((0 : Nat) : Int)), if l 19 then .rs c.1 0 1 1 (some 1) else nv, if l 23 then .rs c.2 0 1 1 (some 1) else mv, out]))) (0, 0) (by simp) (by rw [show lay2 h (0, 0).1 (0, 0).2 false false = h from lay2_ff]; exact upd_self ho) ⟨fun c l t' hC hcl hi hp hk hs => ?_, fun c l t' hC hcl hi hp hk hs => ?_, fun c l t' hC hcl hi hp hk hs => ?_, fun c l t' hC hcl hi hp hk hs => ?_, fun c l t' hC hcl hi hp hk hs => ?_, fun c l t' hC hcl hi hp hk hs => ?_, fun c l t' hC hcl hi hp hk hs => ?_, fun c l t' hC hcl hi hp hk hs => ?_, fun c l t' hC hcl hi hp hk hs => ?_, fun c l t' hC hcl hi hp hk hs => ?_, fun c l t' hC hcl hi hp hk hs => ?_, fun c l t' hC hcl hi hp hk hs => ?_, fun c l t' hC hcl hi hp hk hs => ?_, fun c l t' hC hcl hi hp hk hs => ?_, fun c l t' hC hcl hi hp hk hs => ?_, fun c l t' hC hcl hi hp hk hs => ?_, fun c l t' hC hcl hi hp hk hs => ?_, fun c l t' hC hcl hi hp hk hs => ?_, fun c l t' hC hcl hi hp hk hs => ?_, fun c l t' hC hcl hi hp hk hs => ?_, fun c l t' hC hcl hi hp hk hs => ?_, fun c l t' hC hcl hi hp hk hs => ?_, fun c l t' hC hcl hi hp hk hs => ?_, fun c l t' hC hcl hi hp hk hs => ?_, trivial⟩ ?_
  · have u0 : t' 0 = .op o 0 := (hk 0 rfl).trans t0
    refine stepC_val rfl ?_ (hC)
    simp (disch := first | omega | (simp only [List.length_cons, List.length_nil, List.length_append, u8s_len]; omega)) only [go_sem, ↓reduceIte, true_and, Nat.reduceLeDiff, Nat.reduceEqDiff, Nat.reduceAdd, Nat.reduceBEq, Int.reduceEq, H.cv_5_3, u0, Nat.zero_add, Nat.add_zero, upd_same, upd2]
  · have u0 : t' 0 = .op o 0 := (hk 0 rfl).trans t0
    refine stepC_val rfl ?_ (hC)
    simp (disch := first | omega | (simp only [List.length_cons, List.length_nil, List.length_append, u8s_len]; omega)) only [go_sem, ↓reduceIte, true_and, Nat.reduceLeDiff, Nat.reduceEqDiff, Nat.reduceAdd, Nat.reduceBEq, Int.reduceEq, H.cv_5_3, u0, Nat.zero_add, Nat.add_zero, upd_same, upd2]
  · have u0 : t' 0 = .op o 0 := (hk 0 rfl).trans t0
    refine stepC_val rfl ?_ (hC)
    simp (disch := first | omega | (simp only [List.length_cons, List.length_nil, List.length_append, u8s_len]; omega)) only [go_sem, ↓reduceIte, true_and, Nat.reduceLeDiff, Nat.reduceEqDiff, Nat.reduceAdd, Nat.reduceBEq, Int.reduceEq, H.cv_5_3, u0, Nat.zero_add, Nat.add_zero, upd_same, upd2]
  · have u26 : t' 26 = .op o 0 := hs 2 (by decide) _ rfl _ rfl
    refine stepC_val rfl ?_ (hC)
    simp (disch := first | omega | (simp only [List.length_cons, List.length_nil, List.length_append, u8s_len]; omega)) only [go_sem, ↓reduceIte, true_and, Nat.reduceLeDiff, Nat.reduceEqDiff, Nat.reduceAdd, Nat.reduceBEq, Int.reduceEq, H.cv_5_3, u26, Nat.zero_add, Nat.add_zero, upd_same, upd2]
  · have u27 : t' 27 = .op o 0 := hs 3 (by decide) _ rfl _ rfl
    refine stepC_val rfl ?_ (hC)
    simp (disch := first | omega | (simp only [List.length_cons, List.length_nil, List.length_append, u8s_len]; omega)) only [go_sem, ↓reduceIte, true_and, Nat.reduceLeDiff, Nat.reduceEqDiff, Nat.reduceAdd, Nat.reduceBEq, Int.reduceEq, H.cv_5_3, u27, Nat.zero_add, Nat.add_zero, upd_same, upd2]
  · have u28 : t' 28 = .op o 0 := hs 4 (by decide) _ rfl _ rfl
    refine stepC_val rfl ?_ (hC)
    simp (disch := first | omega | (simp only [List.length_cons, List.length_nil, List.length_append, u8s_len]; omega)) only [go_sem, ↓reduceIte, true_and, Nat.reduceLeDiff, Nat.reduceEqDiff, Nat.reduceAdd, Nat.reduceBEq, Int.reduceEq, H.cv_5_3, u28, Nat.zero_add, Nat.add_zero, upd_same, upd2]
  · have u29 : t' 29 = .op o 1 := hs 5 (by decide) _ rfl _ rfl
    refine stepC_val rfl ?_ hC
    simp (disch := first | omega | (simp only [List.length_cons, List.length_nil, List.length_append, u8s_len]; omega)) only [go_sem, ↓reduceIte, true_and, Nat.reduceLeDiff, Nat.reduceEqDiff, Nat.reduceAdd, Nat.reduceBEq, Int.reduceEq, H.cv_5_3, u29, upd_same, hpv.same]
  · have u30 : t' 30 = pv := hs 6 (by decide) _ rfl _ rfl
    refine stepC_val rfl ?_ hC
    simp (disch := first | omega | (simp only [List.length_cons, List.length_nil, List.length_append, u8s_len]; omega)) only [go_sem, ↓reduceIte, true_and, Nat.reduceLeDiff, Nat.reduceEqDiff, Nat.reduceAdd, Nat.reduceBEq, Int.reduceEq, H.cv_5_3, u30, hpv.same, hpv.disc, hpv.sl.len, e1]
  · have u31 : t' 31 = .sc (.int .i64 ((1 : Nat) : Int)) := hs 7 (by decide) _ rfl _ rfl
    have n19 : l 19 = false := clo_not hcl hi (by decide)
    refine stepC_mks (n := 1) (by simp [aex, Opd.ev, u31, asI, AV.int]) fun b hb => ?_
    have hbo : b ≠ o := fun e => by rw [e, upd_same] at hb; cases hb
    rw [upd_ne _ _ hbo] at hb
    simp only [hi] at hb
    have hb1 : h b = none := lay2_none1 hb
    have hb2 : l 15 = true → b ≠ c.2 := fun q => by rw [q] at hb; exact lay2_ne1 hb
    refine ⟨(b, c.2), ⟨fun _ => hb1, hC.2.1, fun _ h15 => fun e => hb2 h15 e⟩, ?_, rfl, fun j hj => match j, hj with | 8, q => (by rw [hi] at q; cases q) | 0, _ => rfl | 1, _ => rfl | 2, _ => rfl | 3, _ => rfl | 4, _ => rfl | 5, _ => rfl | 6, _ => rfl | 7, _ => rfl | 9, _ => rfl | 10, _ => rfl | 11, _ => rfl | 12, _ => rfl | 13, _ => rfl | 14, _ => rfl | 15, _ => rfl | 16, _ => rfl | 17, _ => rfl | 18, _ => rfl | 19, _ => rfl | 20, _ => rfl | 21, _ => rfl | 22, _ => rfl | 23, _ => rfl | n + 24, _ => rfl⟩
    rw [upd_comm (Ne.symm hbo)]
    refine upd_congr ?_ (by simp [upd, n19])
    rw [hi]
    exact lay2_a hb2
  · have u0 : t' 0 = .op o 0 := (hk 0 rfl).trans t0
    refine stepC_val rfl ?_ (hC)
    simp (disch := first | omega | (simp only [List.length_cons, List.length_nil, List.length_append, u8s_len]; omega)) only [go_sem, ↓reduceIte, true_and, Nat.reduceLeDiff, Nat.reduceEqDiff, Nat.reduceAdd, Nat.reduceBEq, Int.reduceEq, H.cv_5_3, u0, Nat.zero_add, Nat.add_zero, upd_same, upd2]
  · have u33 : t' 33 = .op o 0 := hs 9 (by decide) _ rfl _ rfl
    refine stepC_val rfl ?_ (hC)
    simp (disch := first | omega | (simp only [List.length_cons, List.length_nil, List.length_append, u8s_len]; omega)) only [go_sem, ↓reduceIte, true_and, Nat.reduceLeDiff, Nat.reduceEqDiff, Nat.reduceAdd, Nat.reduceBEq, Int.reduceEq, H.cv_5_3, u33, Nat.zero_add, Nat.add_zero, upd_same, upd2]
  · have u34 : t' 34 = .op o 0 := hs 10 (by decide) _ rfl _ rfl
    refine stepC_val rfl ?_ (hC)
    simp (disch := first | omega | (simp only [List.length_cons, List.length_nil, List.length_append, u8s_len]; omega)) only [go_sem, ↓reduceIte, true_and, Nat.reduceLeDiff, Nat.reduceEqDiff, Nat.reduceAdd, Nat.reduceBEq, Int.reduceEq, H.cv_5_3, u34, Nat.zero_add, Nat.add_zero, upd_same, upd2]
  · have u35 : t' 35 = .op o 0 := hs 11 (by decide) _ rfl _ rfl
    refine stepC_val rfl ?_ (hC)
    simp (disch := first | omega | (simp only [List.length_cons, List.length_nil, List.length_append, u8s_len]; omega)) only [go_sem, ↓reduceIte, true_and, Nat.reduceLeDiff, Nat.reduceEqDiff, Nat.reduceAdd, Nat.reduceBEq, Int.reduceEq, H.cv_5_3, u35, Nat.zero_add, Nat.add_zero, upd_same, upd2]
  · have u36 : t' 36 = .op o 1 := hs 12 (by decide) _ rfl _ rfl
    refine stepC_val rfl ?_ hC
    simp (disch := first | omega | (simp only [List.length_cons, List.length_nil, List.length_append, u8s_len]; omega)) only [go_sem, ↓reduceIte, true_and, Nat.reduceLeDiff, Nat.reduceEqDiff, Nat.reduceAdd, Nat.reduceBEq, Int.reduceEq, H.cv_5_3, u36, upd_same, hpv.same]
  · have u37 : t' 37 = pv := hs 13 (by decide) _ rfl _ rfl
    refine stepC_val rfl ?_ hC
    simp (disch := first | omega | (simp only [List.length_cons, List.length_nil, List.length_append, u8s_len]; omega)) only [go_sem, ↓reduceIte, true_and, Nat.reduceLeDiff, Nat.reduceEqDiff, Nat.reduceAdd, Nat.reduceBEq, Int.reduceEq, H.cv_5_3, u37, hpv.same, hpv.disc, hpv.sl.len, e1]
  · have u38 : t' 38 = .sc (.int .i64 ((1 : Nat) : Int)) := hs 14 (by decide) _ rfl _ rfl
    have n23 : l 23 = false := clo_not hcl hi (by decide)
    refine stepC_mks (n := 1) (by simp [aex, Opd.ev, u38, asI, AV.int]) fun b hb => ?_
    have hbo : b ≠ o := fun e => by rw [e, upd_same] at hb; cases hb
    rw [upd_ne _ _ hbo] at hb
    simp only [hi] at hb
    have hb1 : h b = none := lay2_none2 hb
    have hb2 : l 8 = true → b ≠ c.1 := fun q => by rw [q] at hb; exact lay2_ne2 hb
    refine ⟨(c.1, b), ⟨hC.1, fun _ => hb1, fun h8 _ => fun e => hb2 h8 e.symm⟩, ?_, rfl, fun j hj => match j, hj with | 15, q => (by rw [hi] at q; cases q) | 0, _ => rfl | 1, _ => rfl | 2, _ => rfl | 3, _ => rfl | 4, _ => rfl | 5, _ => rfl | 6, _ => rfl | 7, _ => rfl | 8, _ => rfl | 9, _ => rfl | 10, _ => rfl | 11, _ => rfl | 12, _ => rfl | 13, _ => rfl | 14, _ => rfl | 16, _ => rfl | 17, _ => rfl | 18, _ => rfl | 19, _ => rfl | 20, _ => rfl | 21, _ => rfl | 22, _ => rfl | 23, _ => rfl | n + 24, _ => rfl⟩
    rw [upd_comm (Ne.symm hbo)]
    refine upd_congr ?_ (by simp [upd, n23])
    rw [hi]
    exact lay2_b hb2
  · have u24 : t' 24 = .op o 0 := hs 0 (by decide) _ rfl _ rfl
    refine stepC_val rfl ?_ (hC)
    simp (disch := first | omega | (simp only [List.length_cons, List.length_nil, List.length_append, u8s_len]; omega)) only [go_sem, ↓reduceIte, true_and, Nat.reduceLeDiff, Nat.reduceEqDiff, Nat.reduceAdd, Nat.reduceBEq, Int.reduceEq, H.cv_5_3, u24, Nat.zero_add, Nat.add_zero, upd_same, upd2]
  · have u40 : t' 40 = .op o 0 := hs 16 (by decide) _ rfl _ rfl
    refine stepC_val rfl ?_ (hC)
    simp (disch := first | omega | (simp only [List.length_cons, List.length_nil, List.length_append, u8s_len]; omega)) only [go_sem, ↓reduceIte, true_and, Nat.reduceLeDiff, Nat.reduceEqDiff, Nat.reduceAdd, Nat.reduceBEq, Int.reduceEq, H.cv_5_3, u40, Nat.zero_add, Nat.add_zero, upd_same, upd2]
  · have u41 : t' 41 = .op o 0 := hs 17 (by decide) _ rfl _ rfl
    refine stepC_val rfl ?_ (hC)
    simp (disch := first | omega | (simp only [List.length_cons, List.length_nil, List.length_append, u8s_len]; omega)) only [go_sem, ↓reduceIte, true_and, Nat.reduceLeDiff, Nat.reduceEqDiff, Nat.reduceAdd, Nat.reduceBEq, Int.reduceEq, H.cv_5_3, u41, Nat.zero_add, Nat.add_zero, upd_same, upd2]
  · have u32 : t' 32 = .rs c.1 0 1 1 (some 1) := hs 8 (by decide) _ rfl _ rfl
    have u42 : t' 42 = .op o 10 := hs 18 (by decide) _ rfl _ rfl
    have h8 : l 8 = true := hp 8 (by decide)
    have e32 : upd t' 32 (.rs c.1 0 1 1 (some 1)) = t' := upd_self u32
    refine stepC_val rfl ?_ hC
    simp (disch := first | omega | (simp only [List.length_cons, List.length_nil, List.length_append, u8s_len]; omega)) only [go_sem, ↓reduceIte, true_and, Nat.reduceLeDiff, Nat.reduceEqDiff, Nat.reduceAdd, Nat.reduceBEq, Int.reduceEq, H.cv_5_3, u32, u42, upd_same, upd2, hi, Bool.false_eq_true, e32, cells_rs, tu_rs, dis_rs]
  · have u25 : t' 25 = .op o 0 := hs 1 (by decide) _ rfl _ rfl
    refine stepC_val rfl ?_ (hC)
    simp (disch := first | omega | (simp only [List.length_cons, List.length_nil, List.length_append, u8s_len]; omega)) only [go_sem, ↓reduceIte, true_and, Nat.reduceLeDiff, Nat.reduceEqDiff, Nat.reduceAdd, Nat.reduceBEq, Int.reduceEq, H.cv_5_3, u25, Nat.zero_add, Nat.add_zero, upd_same, upd2]
  · have u43 : t' 43 = .op o 0 := hs 20 (by decide) _ rfl _ rfl
    refine stepC_val rfl ?_ (hC)
    simp (disch := first | omega | (simp only [List.length_cons, List.length_nil, List.length_append, u8s_len]; omega)) only [go_sem, ↓reduceIte, true_and, Nat.reduceLeDiff, Nat.reduceEqDiff, Nat.reduceAdd, Nat.reduceBEq, Int.reduceEq, H.cv_5_3, u43, Nat.zero_add, Nat.add_zero, upd_same, upd2]
  · have u44 : t' 44 = .op o 0 := hs 21 (by decide) _ rfl _ rfl
    refine stepC_val rfl ?_ (hC)
    simp (disch := first | omega | (simp only [List.length_cons, List.length_nil, List.length_append, u8s_len]; omega)) only [go_sem, ↓reduceIte, true_and, Nat.reduceLeDiff, Nat.reduceEqDiff, Nat.reduceAdd, Nat.reduceBEq, Int.reduceEq, H.cv_5_3, u44, Nat.zero_add, Nat.add_zero, upd_same, upd2]
  · have u39 : t' 39 = .rs c.2 0 1 1 (some 1) := hs 15 (by decide) _ rfl _ rfl
    have u45 : t' 45 = .op o 11 := hs 22 (by decide) _ rfl _ rfl
    have h15 : l 15 = true := hp 15 (by decide)
    have e39 : upd t' 39 (.rs c.2 0 1 1 (some 1)) = t' := upd_self u39
    refine stepC_val rfl ?_ hC
    simp (disch := first | omega | (simp only [List.length_cons, List.length_nil, List.length_append, u8s_len]; omega)) only [go_sem, ↓reduceIte, true_and, Nat.reduceLeDiff, Nat.reduceEqDiff, Nat.reduceAdd, Nat.reduceBEq, Int.reduceEq, H.cv_5_3, u39, u45, upd_same, upd2, hi, Bool.false_eq_true, e39, cells_rs, tu_rs, dis_rs]
  intro c l t' hC hl hk hd
  have t0' : t' 0 = .op o 0 := (hk 0 rfl).trans t0
  obtain ⟨b1, b2⟩ := c
  obtain ⟨f1, f2, f3⟩ := hC
  replace f1 : h b1 = none := f1 (hl 8 (by decide))
  replace f2 : h b2 = none := f2 (hl 15 (by decide))
  replace f3 : b1 ≠ b2 := f3 (hl 8 (by decide)) (hl 15 (by decide))
  simp only [hl 8 (by decide), hl 15 (by decide), hl 19 (by decide), hl 23 (by decide), if_true]
  clear hk hd hl
  have n1 : b1 ≠ o := fun e => by rw [e, ho] at f1; cases f1
  have n2 : b2 ≠ o := fun e => by rw [e, ho] at f2; cases f2
  have st3 := (hst2.grow (lay2_keep f1 f2)).st (cs' := [.sc (.int .i64 id), pv, .sc (.int .i64 T), .sc (.int .i64 vote), lg, .sc (.int .i64 (com : Nat)), .sc (.int .i64 ((3 : Nat) : Int)), .sc (.int .i64 id), .sc (.slice none 0 0), .sc (.int .i64 ((0 : Nat) : Int)), .rs b1 0 1 1 (some 1), .rs b2 0 1 1 (some 1), out])
  have q1 := hst2.2.2.2.ne f1
  have q2 := hst2.2.2.2.ne f2
  have z1 := hst2.base f1
  have z2 := hst2.base f2
  have g1 : upd (lay2 h b1 b2 true true) o (some (.arr [.sc (.int .i64 id), pv, .sc (.int .i64 T), .sc (.int .i64 vote), lg, .sc (.int .i64 (com : Nat)), .sc (.int .i64 ((3 : Nat) : Int)), .sc (.int .i64 id), .sc (.slice none 0 0), .sc (.int .i64 ((0 : Nat) : Int)), .rs b1 0 1 1 (some 1), .rs b2 0 1 1 (some 1), out])) b1 = some (.arr [.sc (.int .i64 ((0 : Nat) : Int))]) := by rw [upd_ne _ _ n1]; simp [lay2]
  have g2 : upd (lay2 h b1 b2 true true) o (some (.arr [.sc (.int .i64 id), pv, .sc (.int .i64 T), .sc (.int .i64 vote), lg, .sc (.int .i64 (com : Nat)), .sc (.int .i64 ((3 : Nat) : Int)), .sc (.int .i64 id), .sc (.slice none 0 0), .sc (.int .i64 ((0 : Nat) : Int)), .rs b1 0 1 1 (some 1), .rs b2 0 1 1 (some 1), out])) b2 = some (.arr [.sc (.int .i64 ((0 : Nat) : Int))]) := by rw [upd_ne _ _ n2]; simp [lay2]
  generalize upd (lay2 h b1 b2 true true) o _ = h2 at st3 g1 g2 ⊢
  clear ho hst2 f1 f2 t0
  have ho := st3.2.1
  have hlen' := st3.len
  refine hN _ ?_; clear hN N
  refine A_seq_gen fun M hM => W_sound ?_
  refine W_forget (fun t => t 0 = .op o 0 ∧ True) (by simp [upd_at, *] <;> (first | rfl | exact ⟨rfl, rfl⟩ | exact ⟨rfl, rfl, rfl⟩ | exact ⟨rfl, rfl, rfl, rfl⟩ | exact ⟨rfl, rfl, rfl, rfl, rfl⟩)) ?_; rintro t ⟨t0, -⟩
  have nl : ∀ (t : Nat → AV) (h : Heap), aexLen 0 t h (.rs b1 0 1 1 (some 1)) = some (.val (.sc (.int .i64 ((1 : Nat) : Int))) t h) := fun t h => rfl
  have ia : ∀ (t : Nat → AV) (h : Heap), aexIad 1 ((0 : Nat) : Int) t h (.rs b1 0 1 1 (some 1)) = some (.val (.op b1 0) t h) := fun t h => rfl
  simp (disch := first | omega | (simp only [List.length_cons, List.length_nil, List.length_append, u8s_len]; omega)) only [go_sem, ↓reduceIte, true_and, Nat.reduceLeDiff, Nat.reduceEqDiff, Nat.reduceAdd, Nat.reduceBEq, Int.reduceEq, H.cv_5_3, t0, ho, nl]
  refine AW_loopN (fun m t h' => ∃ i, m = 1 - i ∧ i ≤ 1 ∧ t 0 = .op o 0 ∧ t 51 = .sc (.int .i64 ((1 : Nat) : Int)) ∧ t 52 = .sc (.int .i64 (i : Nat)) ∧ (i = 0 → h' = h2) ∧ (i = 1 → h' = upd h2 b1 (some (.arr [.sc (.int .i64 ((L.length + 1 : Nat) : Int))])))) (n := 1)
    ⟨0, rfl, Nat.zero_le _, by simp [upd_at, t0], by simp [upd_at], by simp [upd_at], fun _ => rfl, fun q => absurd q (by decide)⟩ ?_
  clear t0 t
  have dL : decide ((0 : Nat) < 1) = true := rfl
  have dM : decide ((1 : Nat) < 1) = false := rfl
  rintro m t h' ⟨i, rfl, hi, t0, t51, t52, c1, c2⟩
  rcases Nat.lt_or_ge i 1 with hlt | hge
  · obtain rfl : i = 0 := by omega
    obtain rfl := c1 rfl
    (refine W_seq_gen fun N hN => ?_); simp (disch := first | omega | (simp only [List.length_cons, List.length_nil, List.length_append, u8s_len]; omega)) only [go_sem, ↓reduceIte, true_and, Nat.reduceLeDiff, Nat.reduceEqDiff, Nat.reduceAdd, Nat.reduceBEq, Int.reduceEq, H.cv_5_3, t51, t52]
    refine hN _ ?_; clear hN N
    (refine W_seq_gen fun N hN => ?_); simp (disch := first | omega | (simp only [List.length_cons, List.length_nil, List.length_append, u8s_len]; omega)) only [go_sem, ↓reduceIte, true_and, Nat.reduceLeDiff, Nat.reduceEqDiff, Nat.reduceAdd, Nat.reduceBEq, Int.reduceEq, H.cv_5_3, dL]
    refine hN _ ?_; clear hN N
    (refine W_seq_gen fun R hR => ?_)
    rw [W_block]
    (refine W_seq_gen fun N hN => ?_); simp (disch := first | omega | (simp only [List.length_cons, List.length_nil, List.length_append, u8s_len]; omega)) only [go_sem, ↓reduceIte, true_and, Nat.reduceLeDiff, Nat.reduceEqDiff, Nat.reduceAdd, Nat.reduceBEq, Int.reduceEq, H.cv_5_3, t52]
    refine hN _ ?_; clear hN N
    refine W_forget (fun t => t 0 = .op o 0 ∧ t 2 = .sc (.int .i64 ((0 : Nat) : Int)) ∧ t 51 = .sc (.int .i64 ((1 : Nat) : Int)) ∧ t 52 = .sc (.int .i64 ((0 : Nat) : Int)) ∧ True) (by simp [upd_at, *] <;> (first | rfl | exact ⟨rfl, rfl⟩ | exact ⟨rfl, rfl, rfl⟩ | exact ⟨rfl, rfl, rfl, rfl⟩ | exact ⟨rfl, rfl, rfl, rfl, rfl⟩)) ?_; rintro t ⟨t0, t2, t51, t52, -⟩
    simp (disch := first | omega | (simp only [List.length_cons, List.length_nil, List.length_append, u8s_len]; omega)) only [go_sem, ↓reduceIte, true_and, Nat.reduceLeDiff, Nat.reduceEqDiff, Nat.reduceAdd, Nat.reduceBEq, Int.reduceEq, H.cv_5_3, t0, t2, ho, hlen', s1, nat_add, ia, g1, set11]
    refine hR _ ?_; clear hR R
    simp (disch := first | omega | (simp only [List.length_cons, List.length_nil, List.length_append, u8s_len]; omega)) only [go_sem, ↓reduceIte, true_and, Nat.reduceLeDiff, Nat.reduceEqDiff, Nat.reduceAdd, Nat.reduceBEq, Int.reduceEq, H.cv_5_3, t52]
    exact ⟨0, by omega, 1, rfl, by omega, by simp [upd_at, t0], by simp [upd_at, t51], by simp, fun q => absurd q (by decide)⟩
  · obtain rfl : i = 1 := by omega
    obtain rfl := c2 rfl
    (refine W_seq_gen fun N hN => ?_); simp (disch := first | omega | (simp only [List.length_cons, List.length_nil, List.length_append, u8s_len]; omega)) only [go_sem, ↓reduceIte, true_and, Nat.reduceLeDiff, Nat.reduceEqDiff, Nat.reduceAdd, Nat.reduceBEq, Int.reduceEq, H.cv_5_3, t51, t52]
    refine hN _ ?_; clear hN N
    simp (disch := first | omega | (simp only [List.length_cons, List.length_nil, List.length_append, u8s_len]; omega)) only [go_sem, ↓reduceIte, true_and, Nat.reduceLeDiff, Nat.reduceEqDiff, Nat.reduceAdd, Nat.reduceBEq, Int.reduceEq, H.cv_5_3, dM]
    refine hM _ ?_; clear hM M
    have st4 := st3.side (X := some (.arr [.sc (.int .i64 ((L.length + 1 : Nat) : Int))])) z1 n1 q1
    have g2' : upd h2 b1 (some (.arr [.sc (.int .i64 ((L.length + 1 : Nat) : Int))])) b2 = some (.arr [.sc (.int .i64 ((0 : Nat) : Int))]) := by rw [upd_ne _ _ (Ne.symm f3)]; exact g2
    refine st4.gcell (m := 10) rfl (by rw [upd_same]) rfl n1 z1 q1 fun h5 st5 k5 => ?_
    refine st5.gcell (m := 11) (b := b2) rfl (by rw [k5 b2 n2 (Ne.symm f3)]; exact g2') rfl n2 z2 q2 fun h6 st6 k6 => ?_
    refine W_sound ?_
    refine W_forget (fun t => t 0 = .op o 0 ∧ True) (by simp [upd_at, *] <;> (first | rfl | exact ⟨rfl, rfl⟩ | exact ⟨rfl, rfl, rfl⟩ | exact ⟨rfl, rfl, rfl, rfl⟩ | exact ⟨rfl, rfl, rfl, rfl, rfl⟩)) ?_; rintro t ⟨t0, -⟩
    simp (disch := first | omega | (simp only [List.length_cons, List.length_nil, List.length_append, u8s_len]; omega)) only [go_sem, ↓reduceIte, true_and, Nat.reduceLeDiff, Nat.reduceEqDiff, Nat.reduceAdd, Nat.reduceBEq, Int.reduceEq, H.cv_5_3, t0]
    refine (add_ok H hpv (.inl ⟨rfl, rfl⟩) (by simp) hlen hc hg st6).mono ?_
    rintro r h7 ⟨lg', st7⟩
    rw [contK_some]; simp (disch := first | omega | (simp only [List.length_cons, List.length_nil, List.length_append, u8s_len]; omega)) only [go_sem, ↓reduceIte, true_and, Nat.reduceLeDiff, Nat.reduceEqDiff, Nat.reduceAdd, Nat.reduceBEq, Int.reduceEq, H.cv_5_3]
    exact ⟨_, rfl, lg', st7⟩
end Go.Proofs.Ytkmakibigmlfeaa
end

section
set_option linter.unusedVariables false
set_option linter.unusedSimpArgs false
namespace Go.Proofs.Ytkmakibigmlfeaa
open Go.Am
/-- A row of records as a value. -/
def lgv (L : List (List AV)) : AV := match L with
  | [] => .sc (.slice none 0 0)
  | _ => .bs false 2 L none
theorem lgv_ne {L : List (List AV)} (h : L ≠ []) : lgv L = .bs false 2 L none := by
  cases L with
  | nil => exact (h rfl).elim
  | cons a L => rfl
theorem lgv_sf {L : List (List AV)} : SF 2 (lgv L) L := by
  cases L with
  | nil => exact .inl ⟨rfl, rfl⟩
  | cons a L => exact .inr ⟨none, rfl⟩
/-- The row of records in the step becomes a value. -/
theorem ST.glog {P : Program} {ann : Ann} {c : AC} {Q : Ex → St → Prop} {h0 h : Heap} {o : Nat} {lg : AV} {L : List (List AV)} {cs : List AV} {t : Nat → AV} (H : ST h0 h o lg L cs) (hm : cs[4]? = some lg) (hg : GE 2 L) (hL : L = [] → lg = .sc (.slice none 0 0))
    (K : ∀ h', h' o = some (.arr (cs.set 4 (lgv L))) → (∀ x, h0 x ≠ none → h' x = h0 x) → AW P ann c ⟨t, h'⟩ Q) : AW P ann c ⟨t, h⟩ Q := by
  obtain ⟨h1, h2, h3, h4⟩ := H
  by_cases e : L = []
  · have e2 := hL e
    subst e e2
    refine K h ?_ h3
    rw [h2]
    congr 2
    have : cs.set 4 (lgv []) = cs := by
      apply List.ext_getElem?
      intro i
      rw [List.getElem?_set]
      split
      · rename_i e
        subst e
        split
        · rw [hm]; rfl
        · rename_i q
          rw [List.getElem?_eq_none (by omega)] at hm
          cases hm
      · rfl
    exact this.symm
  · rcases h4 with ⟨_, q⟩ | ⟨q, cap, z, a1, a2, rfl, a4, a5, a6⟩
    · exact (e q).elim
    · have hl : L.flatten.length = L.length * 2 := hg.len
      refine .ghost (.cell (o' := o) (m := 4) (o := q) (c := 0) (sz := 2) (n := L.length) (lim := some cap) h2 hm a6 a2 (by rw [List.length_append, hl]; omega)) ?_
      have e1 : chunks 2 L.length (((L.flatten ++ z).drop 0).map AV.disc) = L := by rw [List.drop_zero, List.map_append, hg.disc, hg.chunks]
      rw [e1]
      have hlt : 4 < cs.length := (List.getElem?_eq_some_iff.1 hm).1
      refine .ghost (.clim (o := o) (m := 4) (own := false) (sz := 2) (es := L) (lim := some cap) (by rw [upd_ne _ _ (Ne.symm a2), upd_same]) (by rw [List.getElem?_set, if_pos rfl, if_pos hlt])) ?_
      refine K _ ?_ fun x hx => ?_
      · rw [upd_same, List.set_set, lgv_ne e]
      · have n1 : x ≠ o := fun e => hx (by rw [e]; exact h1)
        have n2 : x ≠ q := fun e => hx (by rw [e]; exact a1)
        rw [upd_ne _ _ n1, upd_ne _ _ n2, upd_ne _ _ n1, h3 x hx]
theorem cells_bs {own sz es lim} : (AV.bs own sz es lim).cellsD = [.bs own sz es lim] := rfl
theorem tu_bs {own sz es lim} : (AV.bs own sz es lim).isTu = false := rfl
theorem i64_succ {T : Int} (h0 : 0 ≤ T) (h : T < 2147483647) : IntKind.wrap .i64 (T + ((1 : Nat) : Int)) = T + 1 := wrap_i64u (by omega) (by omega)
variable {P : Program} (H : Has P)
include H
theorem index_ok {v : AV} {id : Int} (hv : SF 1 v (ints [id])) (h : Heap) : AWF P ann 0 20 [v, .sc (.int .i64 id)] h fun r h' => r = .sc (.int .i64 ((0 : Nat) : Int)) ∧ h' = h := by
  refine AWF.fnc H.f0_20 rfl ?_
  have e1 : (ints [id]).length = 1 := rfl
  have g0 : (ints [id])[0]? = some [.sc (.int .i64 id)] := rfl
  have d3 : (id == id) = true := by simp
  have dL : decide ((0 : Nat) < 1) = true := rfl
  (refine W_seq_gen fun N hN => ?_); simp (disch := first | omega | (simp only [List.length_cons, List.length_nil, List.length_append, u8s_len]; omega)) only [go_sem, ↓reduceIte, true_and, Nat.reduceLeDiff, Nat.reduceEqDiff, Nat.reduceAdd, Nat.reduceBEq, Int.reduceEq, H.cv_5_3]
  refine hN _ ?_; clear hN N
  (refine W_seq_gen fun M hM => ?_)
  simp (disch := first | omega | (simp only [List.length_cons, List.length_nil, List.length_append, u8s_len]; omega)) only [go_sem, ↓reduceIte, true_and, Nat.reduceLeDiff, Nat.reduceEqDiff, Nat.reduceAdd, Nat.reduceBEq, Int.reduceEq, H.cv_5_3, hv.same, hv.disc, hv.sl.len, e1]
  refine AW_loopN (fun m t h' => h' = h ∧ t 0 = v ∧ t 1 = .sc (.int .i64 id) ∧ t 7 = .sc (.int .i64 ((1 : Nat) : Int)) ∧ t 8 = .sc (.int .i64 ((0 : Nat) : Int))) (n := 0) ⟨rfl, rfl, rfl, rfl, rfl⟩ ?_
  rintro m t h' ⟨rfl, t0, t1, t7, t8⟩
  (refine W_seq_gen fun N hN => ?_); simp (disch := first | omega | (simp only [List.length_cons, List.length_nil, List.length_append, u8s_len]; omega)) only [go_sem, ↓reduceIte, true_and, Nat.reduceLeDiff, Nat.reduceEqDiff, Nat.reduceAdd, Nat.reduceBEq, Int.reduceEq, H.cv_5_3, t7, t8]
  refine hN _ ?_; clear hN N
  (refine W_seq_gen fun N hN => ?_); simp (disch := first | omega | (simp only [List.length_cons, List.length_nil, List.length_append, u8s_len]; omega)) only [go_sem, ↓reduceIte, true_and, Nat.reduceLeDiff, Nat.reduceEqDiff, Nat.reduceAdd, Nat.reduceBEq, Int.reduceEq, H.cv_5_3, dL]
  refine hN _ ?_; clear hN N
  (refine W_seq_gen fun N hN => ?_)
  rw [W_block]
  (refine W_seq_gen fun N hN => ?_); simp (disch := first | omega | (simp only [List.length_cons, List.length_nil, List.length_append, u8s_len]; omega)) only [go_sem, ↓reduceIte, true_and, Nat.reduceLeDiff, Nat.reduceEqDiff, Nat.reduceAdd, Nat.reduceBEq, Int.reduceEq, H.cv_5_3, t8]
  refine hN _ ?_; clear hN N
  simp (disch := first | omega | (simp only [List.length_cons, List.length_nil, List.length_append, u8s_len]; omega)) only [go_sem, ↓reduceIte, true_and, Nat.reduceLeDiff, Nat.reduceEqDiff, Nat.reduceAdd, Nat.reduceBEq, Int.reduceEq, H.cv_5_3, t0, t1, hv.same, hv.disc, hv.sl.ia, g0, d3]
theorem stand_ok {h0 h : Heap} {o com : Nat} {id vote role lead clock T : Int} {pv lg yv nv mv out : AV} {L : List (List AV)} (hpv : SF 1 pv (ints [id])) (hlen : L.length < 512) (hc : com ≤ L.length) (hg : GE 2 L) (hT0 : 0 ≤ T) (hT : T < 2147483647)
    (hst : ST h0 h o lg L [.sc (.int .i64 id), pv, .sc (.int .i64 T), .sc (.int .i64 vote), lg, .sc (.int .i64 (com : Nat)), .sc (.int .i64 role), .sc (.int .i64 lead), yv, .sc (.int .i64 clock), nv, mv, out]) :
    AWF P ann 0 21 [.op o 0] h fun r h' => ∃ lg', ST h0 h' o lg' (L ++ [[.sc (.int .i64 (T + 1)), .sc (.slice none 0 0)]]) [.sc (.int .i64 id), pv, .sc (.int .i64 (T + 1)), .sc (.int .i64 id), lg', .sc (.int .i64 ((L.length + 1 : Nat) : Int)), .sc (.int .i64 ((3 : Nat) : Int)), .sc (.int .i64 id), .sc (.slice none 0 0), .sc (.int .i64 ((0 : Nat) : Int)), .bs false 1 [[.sc (.int .i64 ((L.length + 1 : Nat) : Int))]] (some 1), .bs false 1 [[.sc (.int .i64 ((0 : Nat) : Int))]] (some 1), out] := by
  refine AWF.fnc H.f0_21 rfl ?_
  have ho := hst.2.1
  (refine W_seq_gen fun N hN => ?_)
  simp (disch := first | omega | (simp only [List.length_cons, List.length_nil, List.length_append, u8s_len]; omega)) only [go_sem, ↓reduceIte, true_and, Nat.reduceLeDiff, Nat.reduceEqDiff, Nat.reduceAdd, Nat.reduceBEq, Int.reduceEq, H.cv_5_3, ho, i64_succ hT0 hT]
  refine (follow_ok H (by omega) ho).mono ?_
  rintro r _ rfl
  have st2 := fun cs' => hst.st (cs' := cs')
  rw [contK_some]; simp (disch := first | omega | (simp only [List.length_cons, List.length_nil, List.length_append, u8s_len]; omega)) only [go_sem, ↓reduceIte, true_and, Nat.reduceLeDiff, Nat.reduceEqDiff, Nat.reduceAdd, Nat.reduceBEq, Int.reduceEq, H.cv_5_3]
  refine hN _ ?_; clear hN N
  refine W_forget (fun t => t 0 = .op o 0 ∧ True) (by simp [upd_at, *] <;> (first | rfl | exact ⟨rfl, rfl⟩ | exact ⟨rfl, rfl, rfl⟩ | exact ⟨rfl, rfl, rfl, rfl⟩ | exact ⟨rfl, rfl, rfl, rfl, rfl⟩)) ?_; rintro t ⟨t0, -⟩
  (refine W_seq_gen fun N hN => ?_); simp (disch := first | omega | (simp only [List.length_cons, List.length_nil, List.length_append, u8s_len]; omega)) only [go_sem, ↓reduceIte, true_and, Nat.reduceLeDiff, Nat.reduceEqDiff, Nat.reduceAdd, Nat.reduceBEq, Int.reduceEq, H.cv_5_3, t0, upd_same, upd2, cells_bs, tu_bs]
  refine hN _ ?_; clear hN N
  have st3 := st2 [.sc (.int .i64 id), pv, .sc (.int .i64 (T + 1)), .sc (.int .i64 id), lg, .sc (.int .i64 (com : Nat)), .sc (.int .i64 ((2 : Nat) : Int)), .sc (.int .i64 ((0 : Nat) : Int)), .bs true 1 [[.sc (.int .i64 id)]] (some 1), .sc (.int .i64 ((0 : Nat) : Int)), .sc (.slice none 0 0), .sc (.slice none 0 0), out]
  have ho2 := st3.2.1
  refine W_forget (fun t => t 0 = .op o 0 ∧ True) (by simp [upd_at, *] <;> (first | rfl | exact ⟨rfl, rfl⟩ | exact ⟨rfl, rfl, rfl⟩ | exact ⟨rfl, rfl, rfl, rfl⟩ | exact ⟨rfl, rfl, rfl, rfl, rfl⟩)) ?_; rintro t ⟨t0, -⟩
  (refine W_seq_gen fun N hN => ?_)
  simp (disch := first | omega | (simp only [List.length_cons, List.length_nil, List.length_append, u8s_len]; omega)) only [go_sem, ↓reduceIte, true_and, Nat.reduceLeDiff, Nat.reduceEqDiff, Nat.reduceAdd, Nat.reduceBEq, Int.reduceEq, H.cv_5_3, t0]
  refine (half_ok H hpv rfl ho2).mono ?_
  rintro _ h3 ⟨rfl, rfl⟩
  rw [contK_some]; simp (disch := first | omega | (simp only [List.length_cons, List.length_nil, List.length_append, u8s_len]; omega)) only [go_sem, ↓reduceIte, true_and, Nat.reduceLeDiff, Nat.reduceEqDiff, Nat.reduceAdd, Nat.reduceBEq, Int.reduceEq, H.cv_5_3, t0]
  refine (lead_ok H hpv hlen hc hg st3).mono ?_
  rintro r h7 ⟨lg', s7⟩
  rw [contK_some]; simp (disch := first | omega | (simp only [List.length_cons, List.length_nil, List.length_append, u8s_len]; omega)) only [go_sem, ↓reduceIte, true_and, Nat.reduceLeDiff, Nat.reduceEqDiff, Nat.reduceAdd, Nat.reduceBEq, Int.reduceEq, H.cv_5_3]
  exact ⟨_, rfl, lg', s7⟩
end Go.Proofs.Ytkmakibigmlfeaa
end
