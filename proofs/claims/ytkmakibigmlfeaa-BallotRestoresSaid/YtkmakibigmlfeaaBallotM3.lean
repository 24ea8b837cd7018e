/- Time passes; a proposal. -/
import Derived.Test.YtkmakibigmlfeaaBallotM2
section
set_option linter.unusedVariables false
set_option linter.unusedSimpArgs false
namespace Go.Proofs.Ytkmakibigmlfeaa
open Go.Am
theorem u2 {h : Heap} {o : Nat} {X Y : Option AObj} : upd (upd h o X) o Y = upd h o Y := upd2
variable {P : Program} (H : Has P)
include H
set_option maxHeartbeats 2000000 in
theorem tickwait_ok {pv lv yv nv mv : AV} {id T vote lead clock : Int} {es ye ne me : List (List AV)} {l : List (Int × List UInt8)} {com : Int} (hpv : SF 1 pv (ints [id])) (hlv : SF 2 lv es) (hyv : SF 1 yv ye) (hnv : SF 1 nv ne) (hmv : SF 1 mv me)
    (hL : RR LgR es l) (hl : l.length ≤ 2 ^ 20) (hs0 : ∀ x ∈ l, x.2.length ≤ 2 ^ 30) (hyl : ye.length ≤ 2 ^ 30) (hnl : ne.length ≤ 2 ^ 30) (hml : me.length ≤ 2 ^ 30) (hne : lv = .sc (.slice none 0 0) ∨ es ≠ []) (hc0 : 0 ≤ clock) (hc : clock < 7) (h : Heap) : AWF P ann 0 7 [.ag [.sc (.int .i64 id), pv, .sc (.int .i64 T), .sc (.int .i64 vote), lv, .sc (.int .i64 com), .sc (.int .i64 ((1 : Nat) : Int)), .sc (.int .i64 lead), yv, .sc (.int .i64 clock), nv, mv]] h fun r h' => r = .tu [.ag [.sc (.int .i64 id), frz pv, .sc (.int .i64 T), .sc (.int .i64 vote), lgv (es.map logD), .sc (.int .i64 com), .sc (.int .i64 ((1 : Nat) : Int)), .sc (.int .i64 lead), frz yv, .sc (.int .i64 (clock + 1)), frz nv, frz mv], .sc (.slice none 0 0)] ∧ h' = h := by
  refine AWF.fnPureA H.f0_7 rfl ?_
  have hfp := frz_sf hpv
  have hfy := frz_sf hyv
  have hfn := frz_sf hnv
  have hfm := frz_sf hmv
  have hgl : GE 2 (es.map logD) := lgr_ge (lgr_D hL)
  have hll : (es.map logD).length = es.length := List.length_map ..
  refine A_seq_gen fun N hN => W_sound ?_
  simp (disch := first | omega | (simp only [List.length_cons, List.length_nil, List.length_append, u8s_len]; omega)) only [go_sem, ↓reduceIte, true_and, Nat.reduceLeDiff, Nat.reduceEqDiff, Nat.reduceAdd, Nat.reduceBEq, Int.reduceEq, H.cv_5_3, hpv.disc, hlv.disc, hyv.disc, hnv.disc, hmv.disc, hpv.same, hlv.same, hyv.same, hnv.same, hmv.same]
  intro o1 h1 o2 h2
  have f2 : h o2 = none := by
    split at h2
    · cases h2
    · exact h2
  have n21 : ¬ o2 = o1 := fun e => by rw [e] at h2; simp at h2
  have n12 : ¬ o1 = o2 := fun e => n21 e.symm
  refine hN _ ?_; clear hN N
  refine A_seq_gen fun N hN => W_sound ?_
  refine W_forget (fun t => t 1 = .op o1 0 ∧ t 2 = .op o2 0 ∧ True) (by simp [upd_at, *] <;> (first | rfl | exact ⟨rfl, rfl⟩ | exact ⟨rfl, rfl, rfl⟩ | exact ⟨rfl, rfl, rfl, rfl⟩ | exact ⟨rfl, rfl, rfl, rfl, rfl⟩)) ?_; rintro t ⟨t1, t2, -⟩
  simp (disch := first | omega | (simp only [List.length_cons, List.length_nil, List.length_append, u8s_len]; omega)) only [go_sem, ↓reduceIte, true_and, Nat.reduceLeDiff, Nat.reduceEqDiff, Nat.reduceAdd, Nat.reduceBEq, Int.reduceEq, H.cv_5_3, t1, upd_ne, n12, ne_eq, not_false_eq_true, upd_same, hpv.disc, hlv.disc, hyv.disc, hnv.disc, hmv.disc, hpv.same, hlv.same, hyv.same, hnv.same, hmv.same]
  refine (begin_ok H hpv hlv hyv hnv hmv hL hl hs0 (by simp [ints]) hyl hnl hml hne _).mono ?_
  rintro _ h3 ⟨o, lg, rfl, hnil, st⟩
  rw [contK_some]; simp (disch := first | omega | (simp only [List.length_cons, List.length_nil, List.length_append, u8s_len]; omega)) only [go_sem, ↓reduceIte, true_and, Nat.reduceLeDiff, Nat.reduceEqDiff, Nat.reduceAdd, Nat.reduceBEq, Int.reduceEq, H.cv_5_3]
  refine hN _ ?_; clear hN N
  refine st.glog rfl hgl (fun e => hnil (List.map_eq_nil_iff.1 e)) fun h4 ho hk => ?_
  refine W_sound ?_
  have ho : h4 o = some (.arr [.sc (.int .i64 id), frz pv, .sc (.int .i64 T), .sc (.int .i64 vote), lgv (es.map logD), .sc (.int .i64 com), .sc (.int .i64 ((1 : Nat) : Int)), .sc (.int .i64 lead), frz yv, .sc (.int .i64 clock), frz nv, frz mv, .sc (.slice none 0 0)]) := ho
  have n2 : o2 ≠ o := fun e => by have := st.1; rw [← e, upd_same] at this; cases this
  have n2' : ¬ o = o2 := fun e => n2 e.symm
  have fo : h o = none := by
    have := st.1
    rw [upd_ne _ _ n2', upd_ne] at this
    · exact this
    · intro e
      rw [e, upd_same] at this
      cases this
  have hz : h4 o2 = some (.arr [.sc (.int .i64 ((0 : Nat) : Int)), .sc (.slice none 0 0), .sc (.int .i64 ((0 : Nat) : Int)), .sc (.int .i64 ((0 : Nat) : Int)), .sc (.slice none 0 0), .sc (.int .i64 ((0 : Nat) : Int)), .sc (.int .i64 ((0 : Nat) : Int)), .sc (.int .i64 ((0 : Nat) : Int)), .sc (.slice none 0 0), .sc (.int .i64 ((0 : Nat) : Int)), .sc (.slice none 0 0), .sc (.slice none 0 0)]) := by rw [hk o2 (by rw [upd_same]; simp), upd_same]
  have hk' : ∀ x, h x ≠ none → h4 x = h x := fun x hx => by
    have a1 : x ≠ o1 := fun e => hx (by rw [e]; exact h1)
    have a2 : x ≠ o2 := fun e => hx (by rw [e]; exact f2)
    rw [hk x (by rw [upd_ne _ _ a2, upd_ne _ _ a1]; exact hx), upd_ne _ _ a2, upd_ne _ _ a1]
  clear hk h2
  have sl := (lgv_sf (L := es.map logD)).same
  have dl := (lgv_sf (L := es.map logD)).disc
  have e8 : IntKind.wrap .i64 (clock + ((1 : Nat) : Int)) = clock + 1 := wrap_i64u (by omega) (by omega)
  have d8 : decide (clock + 1 ≥ ((8 : Nat) : Int) + ((5 : Nat) : Int) * ((0 : Nat) : Int)) = false := by simp; omega
  refine W_forget (fun t => t 2 = .op o2 0 ∧ t 4 = .op o 0 ∧ True) (by simp [upd_at, *] <;> (first | rfl | exact ⟨rfl, rfl⟩ | exact ⟨rfl, rfl, rfl⟩ | exact ⟨rfl, rfl, rfl, rfl⟩ | exact ⟨rfl, rfl, rfl, rfl, rfl⟩)) ?_; rintro t ⟨t2, t4, -⟩
  (refine W_seq_gen fun N hN => ?_); simp (disch := first | omega | (simp only [List.length_cons, List.length_nil, List.length_append, u8s_len]; omega)) only [go_sem, ↓reduceIte, true_and, Nat.reduceLeDiff, Nat.reduceEqDiff, Nat.reduceAdd, Nat.reduceBEq, Int.reduceEq, H.cv_5_3, t4, ho]
  refine hN _ ?_; clear hN N
  (refine W_seq_gen fun N hN => ?_); simp (disch := first | omega | (simp only [List.length_cons, List.length_nil, List.length_append, u8s_len]; omega)) only [go_sem, ↓reduceIte, true_and, Nat.reduceLeDiff, Nat.reduceEqDiff, Nat.reduceAdd, Nat.reduceBEq, Int.reduceEq, H.cv_5_3, t4, ho, e8]
  refine hN _ ?_; clear hN N
  refine W_forget (fun t => t 2 = .op o2 0 ∧ t 4 = .op o 0 ∧ True) (by simp [upd_at, *] <;> (first | rfl | exact ⟨rfl, rfl⟩ | exact ⟨rfl, rfl, rfl⟩ | exact ⟨rfl, rfl, rfl, rfl⟩ | exact ⟨rfl, rfl, rfl, rfl, rfl⟩)) ?_; rintro t ⟨t2, t4, -⟩
  (refine W_seq_gen fun N hN => ?_); simp (disch := first | omega | (simp only [List.length_cons, List.length_nil, List.length_append, u8s_len]; omega)) only [go_sem, ↓reduceIte, true_and, Nat.reduceLeDiff, Nat.reduceEqDiff, Nat.reduceAdd, Nat.reduceBEq, Int.reduceEq, H.cv_5_3, t4, upd_same, hfp.same]
  refine ⟨_, index_ok H hfp _, ?_⟩
  rw [contK_some]; simp (disch := first | omega | (simp only [List.length_cons, List.length_nil, List.length_append, u8s_len]; omega)) only [go_sem, ↓reduceIte, true_and, Nat.reduceLeDiff, Nat.reduceEqDiff, Nat.reduceAdd, Nat.reduceBEq, Int.reduceEq, H.cv_5_3, t4, d8]
  refine hN _ ?_; clear hN N
  refine W_forget (fun t => t 2 = .op o2 0 ∧ t 4 = .op o 0 ∧ True) (by simp [upd_at, *] <;> (first | rfl | exact ⟨rfl, rfl⟩ | exact ⟨rfl, rfl, rfl⟩ | exact ⟨rfl, rfl, rfl, rfl⟩ | exact ⟨rfl, rfl, rfl, rfl, rfl⟩)) ?_; rintro t ⟨t2, t4, -⟩
  simp (disch := first | omega | (simp only [List.length_cons, List.length_nil, List.length_append, u8s_len]; omega)) only [go_sem, ↓reduceIte, true_and, Nat.reduceLeDiff, Nat.reduceEqDiff, Nat.reduceAdd, Nat.reduceBEq, Int.reduceEq, H.cv_5_3, t2, t4, upd_same, upd_ne, n2, n2', ne_eq, not_false_eq_true, hz, hfp.same, hfp.disc, hfy.same, hfy.disc, hfn.same, hfn.disc, hfm.same, hfm.disc, sl, dl]
  intro x hx
  have a1 : x ≠ o2 := fun e => hx (by rw [e]; exact f2)
  have a2 : x ≠ o := fun e => hx (by rw [e]; exact fo)
  simp only [if_neg a1, if_neg a2]
  exact hk' x hx
set_option maxHeartbeats 2000000 in
theorem ticklead_ok {pv lv yv nv mv : AV} {id T vote lead clock : Int} {es ye ne me : List (List AV)} {l : List (Int × List UInt8)} {com : Int} (hpv : SF 1 pv (ints [id])) (hlv : SF 2 lv es) (hyv : SF 1 yv ye) (hnv : SF 1 nv ne) (hmv : SF 1 mv me)
    (hL : RR LgR es l) (hl : l.length ≤ 2 ^ 20) (hs0 : ∀ x ∈ l, x.2.length ≤ 2 ^ 30) (hyl : ye.length ≤ 2 ^ 30) (hnl : ne.length ≤ 2 ^ 30) (hml : me.length ≤ 2 ^ 30) (hne : lv = .sc (.slice none 0 0) ∨ es ≠ [])  (h : Heap) : AWF P ann 0 7 [.ag [.sc (.int .i64 id), pv, .sc (.int .i64 T), .sc (.int .i64 vote), lv, .sc (.int .i64 com), .sc (.int .i64 ((3 : Nat) : Int)), .sc (.int .i64 lead), yv, .sc (.int .i64 clock), nv, mv]] h fun r h' => r = .tu [.ag [.sc (.int .i64 id), frz pv, .sc (.int .i64 T), .sc (.int .i64 vote), lgv (es.map logD), .sc (.int .i64 com), .sc (.int .i64 ((3 : Nat) : Int)), .sc (.int .i64 lead), frz yv, .sc (.int .i64 clock), frz nv, frz mv], .sc (.slice none 0 0)] ∧ h' = h := by
  refine AWF.fnPureA H.f0_7 rfl ?_
  have hfp := frz_sf hpv
  have hfy := frz_sf hyv
  have hfn := frz_sf hnv
  have hfm := frz_sf hmv
  have hgl : GE 2 (es.map logD) := lgr_ge (lgr_D hL)
  have hll : (es.map logD).length = es.length := List.length_map ..
  refine A_seq_gen fun N hN => W_sound ?_
  simp (disch := first | omega | (simp only [List.length_cons, List.length_nil, List.length_append, u8s_len]; omega)) only [go_sem, ↓reduceIte, true_and, Nat.reduceLeDiff, Nat.reduceEqDiff, Nat.reduceAdd, Nat.reduceBEq, Int.reduceEq, H.cv_5_3, hpv.disc, hlv.disc, hyv.disc, hnv.disc, hmv.disc, hpv.same, hlv.same, hyv.same, hnv.same, hmv.same]
  intro o1 h1 o2 h2
  have f2 : h o2 = none := by
    split at h2
    · cases h2
    · exact h2
  have n21 : ¬ o2 = o1 := fun e => by rw [e] at h2; simp at h2
  have n12 : ¬ o1 = o2 := fun e => n21 e.symm
  refine hN _ ?_; clear hN N
  refine A_seq_gen fun N hN => W_sound ?_
  refine W_forget (fun t => t 1 = .op o1 0 ∧ t 2 = .op o2 0 ∧ True) (by simp [upd_at, *] <;> (first | rfl | exact ⟨rfl, rfl⟩ | exact ⟨rfl, rfl, rfl⟩ | exact ⟨rfl, rfl, rfl, rfl⟩ | exact ⟨rfl, rfl, rfl, rfl, rfl⟩)) ?_; rintro t ⟨t1, t2, -⟩
  simp (disch := first | omega | (simp only [List.length_cons, List.length_nil, List.length_append, u8s_len]; omega)) only [go_sem, ↓reduceIte, true_and, Nat.reduceLeDiff, Nat.reduceEqDiff, Nat.reduceAdd, Nat.reduceBEq, Int.reduceEq, H.cv_5_3, t1, upd_ne, n12, ne_eq, not_false_eq_true, upd_same, hpv.disc, hlv.disc, hyv.disc, hnv.disc, hmv.disc, hpv.same, hlv.same, hyv.same, hnv.same, hmv.same]
  refine (begin_ok H hpv hlv hyv hnv hmv hL hl hs0 (by simp [ints]) hyl hnl hml hne _).mono ?_
  rintro _ h3 ⟨o, lg, rfl, hnil, st⟩
  rw [contK_some]; simp (disch := first | omega | (simp only [List.length_cons, List.length_nil, List.length_append, u8s_len]; omega)) only [go_sem, ↓reduceIte, true_and, Nat.reduceLeDiff, Nat.reduceEqDiff, Nat.reduceAdd, Nat.reduceBEq, Int.reduceEq, H.cv_5_3]
  refine hN _ ?_; clear hN N
  refine st.glog rfl hgl (fun e => hnil (List.map_eq_nil_iff.1 e)) fun h4 ho hk => ?_
  refine W_sound ?_
  have ho : h4 o = some (.arr [.sc (.int .i64 id), frz pv, .sc (.int .i64 T), .sc (.int .i64 vote), lgv (es.map logD), .sc (.int .i64 com), .sc (.int .i64 ((3 : Nat) : Int)), .sc (.int .i64 lead), frz yv, .sc (.int .i64 clock), frz nv, frz mv, .sc (.slice none 0 0)]) := ho
  have n2 : o2 ≠ o := fun e => by have := st.1; rw [← e, upd_same] at this; cases this
  have n2' : ¬ o = o2 := fun e => n2 e.symm
  have fo : h o = none := by
    have := st.1
    rw [upd_ne _ _ n2', upd_ne] at this
    · exact this
    · intro e
      rw [e, upd_same] at this
      cases this
  have hz : h4 o2 = some (.arr [.sc (.int .i64 ((0 : Nat) : Int)), .sc (.slice none 0 0), .sc (.int .i64 ((0 : Nat) : Int)), .sc (.int .i64 ((0 : Nat) : Int)), .sc (.slice none 0 0), .sc (.int .i64 ((0 : Nat) : Int)), .sc (.int .i64 ((0 : Nat) : Int)), .sc (.int .i64 ((0 : Nat) : Int)), .sc (.slice none 0 0), .sc (.int .i64 ((0 : Nat) : Int)), .sc (.slice none 0 0), .sc (.slice none 0 0)]) := by rw [hk o2 (by rw [upd_same]; simp), upd_same]
  have hk' : ∀ x, h x ≠ none → h4 x = h x := fun x hx => by
    have a1 : x ≠ o1 := fun e => hx (by rw [e]; exact h1)
    have a2 : x ≠ o2 := fun e => hx (by rw [e]; exact f2)
    rw [hk x (by rw [upd_ne _ _ a2, upd_ne _ _ a1]; exact hx), upd_ne _ _ a2, upd_ne _ _ a1]
  clear hk h2
  have sl := (lgv_sf (L := es.map logD)).same
  have dl := (lgv_sf (L := es.map logD)).disc
  refine W_forget (fun t => t 2 = .op o2 0 ∧ t 4 = .op o 0 ∧ True) (by simp [upd_at, *] <;> (first | rfl | exact ⟨rfl, rfl⟩ | exact ⟨rfl, rfl, rfl⟩ | exact ⟨rfl, rfl, rfl, rfl⟩ | exact ⟨rfl, rfl, rfl, rfl, rfl⟩)) ?_; rintro t ⟨t2, t4, -⟩
  (refine W_seq_gen fun N hN => ?_)
  simp (disch := first | omega | (simp only [List.length_cons, List.length_nil, List.length_append, u8s_len]; omega)) only [go_sem, ↓reduceIte, true_and, Nat.reduceLeDiff, Nat.reduceEqDiff, Nat.reduceAdd, Nat.reduceBEq, Int.reduceEq, H.cv_5_3, t4, ho]
  refine (push_ok H hfp ho).mono ?_
  rintro _ _ rfl
  clear hN
  rw [contK_some]; simp (disch := first | omega | (simp only [List.length_cons, List.length_nil, List.length_append, u8s_len]; omega)) only [go_sem, ↓reduceIte, true_and, Nat.reduceLeDiff, Nat.reduceEqDiff, Nat.reduceAdd, Nat.reduceBEq, Int.reduceEq, H.cv_5_3, t2, t4, ho, upd_same, upd_ne, n2, n2', ne_eq, not_false_eq_true, hz, hfp.same, hfp.disc, hfy.same, hfy.disc, hfn.same, hfn.disc, hfm.same, hfm.disc, sl, dl]
  intro x hx
  have a1 : x ≠ o2 := fun e => hx (by rw [e]; exact f2)
  have a2 : x ≠ o := fun e => hx (by rw [e]; exact fo)
  simp only [if_neg a1, if_neg a2]
  exact hk' x hx
set_option maxHeartbeats 2000000 in
theorem tickstand_ok {pv lv yv nv mv : AV} {id T vote lead clock : Int} {es ye ne me : List (List AV)} {l : List (Int × List UInt8)} {com : Nat} (hpv : SF 1 pv (ints [id])) (hlv : SF 2 lv es) (hyv : SF 1 yv ye) (hnv : SF 1 nv ne) (hmv : SF 1 mv me)
    (hL : RR LgR es l) (hl : l.length ≤ 2 ^ 20) (hs0 : ∀ x ∈ l, x.2.length ≤ 2 ^ 30) (hyl : ye.length ≤ 2 ^ 30) (hnl : ne.length ≤ 2 ^ 30) (hml : me.length ≤ 2 ^ 30) (hne : lv = .sc (.slice none 0 0) ∨ es ≠ []) (hc0 : 7 ≤ clock) (hc : clock < 2 ^ 40) (hT0 : 0 ≤ T) (hT : T < 2147483647) (hlen : es.length < 512) (hcm : com ≤ es.length) (h : Heap) : AWF P ann 0 7 [.ag [.sc (.int .i64 id), pv, .sc (.int .i64 T), .sc (.int .i64 vote), lv, .sc (.int .i64 ((com : Nat) : Int)), .sc (.int .i64 ((1 : Nat) : Int)), .sc (.int .i64 lead), yv, .sc (.int .i64 clock), nv, mv]] h fun r h' => r = .tu [.ag [.sc (.int .i64 id), frz pv, .sc (.int .i64 (T + 1)), .sc (.int .i64 id), lgv (es.map logD ++ [[.sc (.int .i64 (T + 1)), .sc (.slice none 0 0)]]), .sc (.int .i64 ((es.length + 1 : Nat) : Int)), .sc (.int .i64 ((3 : Nat) : Int)), .sc (.int .i64 id), .sc (.slice none 0 0), .sc (.int .i64 ((0 : Nat) : Int)), .bs false 1 [[.sc (.int .i64 ((es.length + 1 : Nat) : Int))]] (some 1), .bs false 1 [[.sc (.int .i64 ((0 : Nat) : Int))]] (some 1)], .sc (.slice none 0 0)] ∧ h' = h := by
  refine AWF.fnPureA H.f0_7 rfl ?_
  have hfp := frz_sf hpv
  have hfy := frz_sf hyv
  have hfn := frz_sf hnv
  have hfm := frz_sf hmv
  have hgl : GE 2 (es.map logD) := lgr_ge (lgr_D hL)
  have hll : (es.map logD).length = es.length := List.length_map ..
  refine A_seq_gen fun N hN => W_sound ?_
  simp (disch := first | omega | (simp only [List.length_cons, List.length_nil, List.length_append, u8s_len]; omega)) only [go_sem, ↓reduceIte, true_and, Nat.reduceLeDiff, Nat.reduceEqDiff, Nat.reduceAdd, Nat.reduceBEq, Int.reduceEq, H.cv_5_3, hpv.disc, hlv.disc, hyv.disc, hnv.disc, hmv.disc, hpv.same, hlv.same, hyv.same, hnv.same, hmv.same]
  intro o1 h1 o2 h2
  have f2 : h o2 = none := by
    split at h2
    · cases h2
    · exact h2
  have n21 : ¬ o2 = o1 := fun e => by rw [e] at h2; simp at h2
  have n12 : ¬ o1 = o2 := fun e => n21 e.symm
  refine hN _ ?_; clear hN N
  refine A_seq_gen fun N hN => W_sound ?_
  refine W_forget (fun t => t 1 = .op o1 0 ∧ t 2 = .op o2 0 ∧ True) (by simp [upd_at, *] <;> (first | rfl | exact ⟨rfl, rfl⟩ | exact ⟨rfl, rfl, rfl⟩ | exact ⟨rfl, rfl, rfl, rfl⟩ | exact ⟨rfl, rfl, rfl, rfl, rfl⟩)) ?_; rintro t ⟨t1, t2, -⟩
  simp (disch := first | omega | (simp only [List.length_cons, List.length_nil, List.length_append, u8s_len]; omega)) only [go_sem, ↓reduceIte, true_and, Nat.reduceLeDiff, Nat.reduceEqDiff, Nat.reduceAdd, Nat.reduceBEq, Int.reduceEq, H.cv_5_3, t1, upd_ne, n12, ne_eq, not_false_eq_true, upd_same, hpv.disc, hlv.disc, hyv.disc, hnv.disc, hmv.disc, hpv.same, hlv.same, hyv.same, hnv.same, hmv.same]
  refine (begin_ok H hpv hlv hyv hnv hmv hL hl hs0 (by simp [ints]) hyl hnl hml hne _).mono ?_
  rintro _ h3 ⟨o, lg, rfl, hnil, st⟩
  rw [contK_some]; simp (disch := first | omega | (simp only [List.length_cons, List.length_nil, List.length_append, u8s_len]; omega)) only [go_sem, ↓reduceIte, true_and, Nat.reduceLeDiff, Nat.reduceEqDiff, Nat.reduceAdd, Nat.reduceBEq, Int.reduceEq, H.cv_5_3]
  refine hN _ ?_; clear hN N
  have ho := st.2.1
  have hlg := st.2.2.2.same
  have n2 : o2 ≠ o := fun e => by have := st.1; rw [← e, upd_same] at this; cases this
  have n2' : ¬ o = o2 := fun e => n2 e.symm
  have fo : h o = none := by
    have := st.1
    rw [upd_ne _ _ n2', upd_ne] at this
    · exact this
    · intro e
      rw [e, upd_same] at this
      cases this
  have e8 : IntKind.wrap .i64 (clock + ((1 : Nat) : Int)) = clock + 1 := wrap_i64u (by omega) (by omega)
  have d8 : decide (clock + 1 ≥ ((8 : Nat) : Int) + ((5 : Nat) : Int) * ((0 : Nat) : Int)) = true := by simp; omega
  have dT : decide (T < ((2147483647 : Nat) : Int)) = true := by simpa using hT
  refine A_seq_gen fun N hN => W_sound ?_
  refine W_forget (fun t => t 2 = .op o2 0 ∧ t 4 = .op o 0 ∧ True) (by simp [upd_at, *] <;> (first | rfl | exact ⟨rfl, rfl⟩ | exact ⟨rfl, rfl, rfl⟩ | exact ⟨rfl, rfl, rfl, rfl⟩ | exact ⟨rfl, rfl, rfl, rfl, rfl⟩)) ?_; rintro t ⟨t2, t4, -⟩
  simp (disch := first | omega | (simp only [List.length_cons, List.length_nil, List.length_append, u8s_len]; omega)) only [go_sem, ↓reduceIte, true_and, Nat.reduceLeDiff, Nat.reduceEqDiff, Nat.reduceAdd, Nat.reduceBEq, Int.reduceEq, H.cv_5_3, t4, ho]
  refine hN _ ?_; clear hN N
  refine A_seq_gen fun N hN => W_sound ?_
  simp (disch := first | omega | (simp only [List.length_cons, List.length_nil, List.length_append, u8s_len]; omega)) only [go_sem, ↓reduceIte, true_and, Nat.reduceLeDiff, Nat.reduceEqDiff, Nat.reduceAdd, Nat.reduceBEq, Int.reduceEq, H.cv_5_3, t4, ho, e8]
  refine hN _ ?_; clear hN N
  refine A_seq_gen fun N hN => W_sound ?_
  refine W_forget (fun t => t 2 = .op o2 0 ∧ t 4 = .op o 0 ∧ True) (by simp [upd_at, *] <;> (first | rfl | exact ⟨rfl, rfl⟩ | exact ⟨rfl, rfl, rfl⟩ | exact ⟨rfl, rfl, rfl, rfl⟩ | exact ⟨rfl, rfl, rfl, rfl, rfl⟩)) ?_; rintro t ⟨t2, t4, -⟩
  simp (disch := first | omega | (simp only [List.length_cons, List.length_nil, List.length_append, u8s_len]; omega)) only [go_sem, ↓reduceIte, true_and, Nat.reduceLeDiff, Nat.reduceEqDiff, Nat.reduceAdd, Nat.reduceBEq, Int.reduceEq, H.cv_5_3, t4, upd_same, hfp.same]
  refine ⟨_, index_ok H hfp _, ?_⟩
  rw [contK_some]; simp (disch := first | omega | (simp only [List.length_cons, List.length_nil, List.length_append, u8s_len]; omega)) only [go_sem, ↓reduceIte, true_and, Nat.reduceLeDiff, Nat.reduceEqDiff, Nat.reduceAdd, Nat.reduceBEq, Int.reduceEq, H.cv_5_3, t4, d8, dT, upd_same, upd2]
  refine (stand_ok H hfp (by rw [hll]; exact hlen) (by rw [hll]; exact hcm) hgl hT0 hT (st.st (cs' := [.sc (.int .i64 id), frz pv, .sc (.int .i64 T), .sc (.int .i64 vote), lg, .sc (.int .i64 ((com : Nat) : Int)), .sc (.int .i64 ((1 : Nat) : Int)), .sc (.int .i64 lead), frz yv, .sc (.int .i64 ((0 : Nat) : Int)), frz nv, frz mv, .sc (.slice none 0 0)]))).mono ?_
  rintro r h5 ⟨lg', st5⟩
  rw [contK_some]; simp (disch := first | omega | (simp only [List.length_cons, List.length_nil, List.length_append, u8s_len]; omega)) only [go_sem, ↓reduceIte, true_and, Nat.reduceLeDiff, Nat.reduceEqDiff, Nat.reduceAdd, Nat.reduceBEq, Int.reduceEq, H.cv_5_3]
  refine hN _ ?_; clear hN N
  have hg2 : GE 2 (es.map logD ++ [[.sc (.int .i64 (T + 1)), .sc (.slice none 0 0)]]) := hgl.app fun e he => by
    rw [List.mem_singleton] at he
    subst he
    exact ⟨rfl, rfl⟩
  refine st5.glog rfl hg2 (fun e => by simp at e) fun h4 ho4 hk => ?_
  refine W_sound ?_
  rw [hll] at ho4
  replace ho4 : h4 o = some (.arr [.sc (.int .i64 id), frz pv, .sc (.int .i64 (T + 1)), .sc (.int .i64 id), lgv (es.map logD ++ [[.sc (.int .i64 (T + 1)), .sc (.slice none 0 0)]]), .sc (.int .i64 ((es.length + 1 : Nat) : Int)), .sc (.int .i64 ((3 : Nat) : Int)), .sc (.int .i64 id), .sc (.slice none 0 0), .sc (.int .i64 ((0 : Nat) : Int)), .bs false 1 [[.sc (.int .i64 ((es.length + 1 : Nat) : Int))]] (some 1), .bs false 1 [[.sc (.int .i64 ((0 : Nat) : Int))]] (some 1), .sc (.slice none 0 0)]) := ho4
  have hz : h4 o2 = some (.arr [.sc (.int .i64 ((0 : Nat) : Int)), .sc (.slice none 0 0), .sc (.int .i64 ((0 : Nat) : Int)), .sc (.int .i64 ((0 : Nat) : Int)), .sc (.slice none 0 0), .sc (.int .i64 ((0 : Nat) : Int)), .sc (.int .i64 ((0 : Nat) : Int)), .sc (.int .i64 ((0 : Nat) : Int)), .sc (.slice none 0 0), .sc (.int .i64 ((0 : Nat) : Int)), .sc (.slice none 0 0), .sc (.slice none 0 0)]) := by rw [hk o2 (by rw [upd_same]; simp), upd_same]
  have hk' : ∀ x, h x ≠ none → h4 x = h x := fun x hx => by
    have a1 : x ≠ o1 := fun e => hx (by rw [e]; exact h1)
    have a2 : x ≠ o2 := fun e => hx (by rw [e]; exact f2)
    rw [hk x (by rw [upd_ne _ _ a2, upd_ne _ _ a1]; exact hx), upd_ne _ _ a2, upd_ne _ _ a1]
  clear hk h2
  have sl := (lgv_sf (L := es.map logD ++ [[.sc (.int .i64 (T + 1)), .sc (.slice none 0 0)]])).same
  have dl := (lgv_sf (L := es.map logD ++ [[.sc (.int .i64 (T + 1)), .sc (.slice none 0 0)]])).disc
  generalize lgv (es.map logD ++ [[.sc (.int .i64 (T + 1)), .sc (.slice none 0 0)]]) = w at ho4 sl dl ⊢
  refine W_forget (fun t => t 2 = .op o2 0 ∧ t 4 = .op o 0 ∧ True) (by simp [upd_at, *] <;> (first | rfl | exact ⟨rfl, rfl⟩ | exact ⟨rfl, rfl, rfl⟩ | exact ⟨rfl, rfl, rfl, rfl⟩ | exact ⟨rfl, rfl, rfl, rfl, rfl⟩)) ?_; rintro t ⟨t2, t4, -⟩
  have dbs : ∀ (sz : Nat) (es : List (List AV)) (lim : Option Nat), (AV.bs false sz es lim).disc = .bs false sz es lim := fun _ _ _ => rfl
  have sbs : ∀ (sz : Nat) (es : List (List AV)) (lim : Option Nat), (AV.bs false sz es lim).dis = .bs false sz es lim := fun _ _ _ => rfl
  simp (disch := first | omega | (simp only [List.length_cons, List.length_nil, List.length_append, u8s_len]; omega)) only [go_sem, ↓reduceIte, true_and, Nat.reduceLeDiff, Nat.reduceEqDiff, Nat.reduceAdd, Nat.reduceBEq, Int.reduceEq, H.cv_5_3, t2, t4, ho4, upd_same, upd_ne, n2, n2', ne_eq, not_false_eq_true, hz, dbs, sbs, hfp.same, hfp.disc, hfy.same, hfy.disc, hfn.same, hfn.disc, hfm.same, hfm.disc, sl, dl]
  intro x hx
  have a1 : x ≠ o2 := fun e => hx (by rw [e]; exact f2)
  simp only [if_neg a1]
  exact hk' x hx
end Go.Proofs.Ytkmakibigmlfeaa
end

section
set_option linter.unusedVariables false
set_option linter.unusedSimpArgs false
namespace Go.Proofs.Ytkmakibigmlfeaa
open Go.Am
variable {P : Program} (H : Has P)
include H
set_option maxHeartbeats 2000000 in
theorem propno_ok {pv lv yv nv mv : AV} {id T vote lead clock : Int} {es ye ne me : List (List AV)} {l : List (Int × List UInt8)} {com : Int} (hpv : SF 1 pv (ints [id])) (hlv : SF 2 lv es) (hyv : SF 1 yv ye) (hnv : SF 1 nv ne) (hmv : SF 1 mv me)
    (hL : RR LgR es l) (hl : l.length ≤ 2 ^ 20) (hs0 : ∀ x ∈ l, x.2.length ≤ 2 ^ 30) (hyl : ye.length ≤ 2 ^ 30) (hnl : ne.length ≤ 2 ^ 30) (hml : me.length ≤ 2 ^ 30) (hne : lv = .sc (.slice none 0 0) ∨ es ≠ [])  {cv : AV} {ce : List (List AV)} (hcv : SF 1 cv ce) (hcl : ce.length ≤ 1024) (h : Heap) : AWF P ann 0 9 [.ag [.sc (.int .i64 id), pv, .sc (.int .i64 T), .sc (.int .i64 vote), lv, .sc (.int .i64 com), .sc (.int .i64 ((1 : Nat) : Int)), .sc (.int .i64 lead), yv, .sc (.int .i64 clock), nv, mv], cv] h fun r h' => r = .tu [.ag [.sc (.int .i64 id), frz pv, .sc (.int .i64 T), .sc (.int .i64 vote), lgv (es.map logD), .sc (.int .i64 com), .sc (.int .i64 ((1 : Nat) : Int)), .sc (.int .i64 lead), frz yv, .sc (.int .i64 clock), frz nv, frz mv], .sc (.slice none 0 0), .sc (.bool false)] ∧ h' = h := by
  refine AWF.fnPureA H.f0_9 rfl ?_
  have hfp := frz_sf hpv
  have hfy := frz_sf hyv
  have hfn := frz_sf hnv
  have hfm := frz_sf hmv
  have hgl : GE 2 (es.map logD) := lgr_ge (lgr_D hL)
  have hll : (es.map logD).length = es.length := List.length_map ..
  refine A_seq_gen fun N hN => W_sound ?_
  simp (disch := first | omega | (simp only [List.length_cons, List.length_nil, List.length_append, u8s_len]; omega)) only [go_sem, ↓reduceIte, true_and, Nat.reduceLeDiff, Nat.reduceEqDiff, Nat.reduceAdd, Nat.reduceBEq, Int.reduceEq, H.cv_5_3, hcv.disc, hcv.same, hpv.disc, hlv.disc, hyv.disc, hnv.disc, hmv.disc, hpv.same, hlv.same, hyv.same, hnv.same, hmv.same]
  intro o1 h1 o2 h2
  have f2 : h o2 = none := by
    split at h2
    · cases h2
    · exact h2
  have n21 : ¬ o2 = o1 := fun e => by rw [e] at h2; simp at h2
  have n12 : ¬ o1 = o2 := fun e => n21 e.symm
  refine hN _ ?_; clear hN N
  refine A_seq_gen fun N hN => W_sound ?_
  refine W_forget (fun t => t 1 = cv ∧ t 2 = .op o1 0 ∧ t 4 = .op o2 0 ∧ True) (by simp [upd_at, *] <;> (first | rfl | exact ⟨rfl, rfl⟩ | exact ⟨rfl, rfl, rfl⟩ | exact ⟨rfl, rfl, rfl, rfl⟩ | exact ⟨rfl, rfl, rfl, rfl, rfl⟩)) ?_; rintro t ⟨t1, t2, t4, -⟩
  simp (disch := first | omega | (simp only [List.length_cons, List.length_nil, List.length_append, u8s_len]; omega)) only [go_sem, ↓reduceIte, true_and, Nat.reduceLeDiff, Nat.reduceEqDiff, Nat.reduceAdd, Nat.reduceBEq, Int.reduceEq, H.cv_5_3, t2, upd_ne, n12, ne_eq, not_false_eq_true, upd_same, hpv.disc, hlv.disc, hyv.disc, hnv.disc, hmv.disc, hpv.same, hlv.same, hyv.same, hnv.same, hmv.same]
  refine (begin_ok H hpv hlv hyv hnv hmv hL hl hs0 (by simp [ints]) hyl hnl hml hne _).mono ?_
  rintro _ h3 ⟨o, lg, rfl, hnil, st⟩
  rw [contK_some]; simp (disch := first | omega | (simp only [List.length_cons, List.length_nil, List.length_append, u8s_len]; omega)) only [go_sem, ↓reduceIte, true_and, Nat.reduceLeDiff, Nat.reduceEqDiff, Nat.reduceAdd, Nat.reduceBEq, Int.reduceEq, H.cv_5_3]
  refine hN _ ?_; clear hN N
  refine st.glog rfl hgl (fun e => hnil (List.map_eq_nil_iff.1 e)) fun h4 ho hk => ?_
  refine W_sound ?_
  have ho : h4 o = some (.arr [.sc (.int .i64 id), frz pv, .sc (.int .i64 T), .sc (.int .i64 vote), lgv (es.map logD), .sc (.int .i64 com), .sc (.int .i64 ((1 : Nat) : Int)), .sc (.int .i64 lead), frz yv, .sc (.int .i64 clock), frz nv, frz mv, .sc (.slice none 0 0)]) := ho
  have n2 : o2 ≠ o := fun e => by have := st.1; rw [← e, upd_same] at this; cases this
  have n2' : ¬ o = o2 := fun e => n2 e.symm
  have fo : h o = none := by
    have := st.1
    rw [upd_ne _ _ n2', upd_ne] at this
    · exact this
    · intro e
      rw [e, upd_same] at this
      cases this
  have hz : h4 o2 = some (.arr [.sc (.int .i64 ((0 : Nat) : Int)), .sc (.slice none 0 0), .sc (.int .i64 ((0 : Nat) : Int)), .sc (.int .i64 ((0 : Nat) : Int)), .sc (.slice none 0 0), .sc (.int .i64 ((0 : Nat) : Int)), .sc (.int .i64 ((0 : Nat) : Int)), .sc (.int .i64 ((0 : Nat) : Int)), .sc (.slice none 0 0), .sc (.int .i64 ((0 : Nat) : Int)), .sc (.slice none 0 0), .sc (.slice none 0 0)]) := by rw [hk o2 (by rw [upd_same]; simp), upd_same]
  have hk' : ∀ x, h x ≠ none → h4 x = h x := fun x hx => by
    have a1 : x ≠ o1 := fun e => hx (by rw [e]; exact h1)
    have a2 : x ≠ o2 := fun e => hx (by rw [e]; exact f2)
    rw [hk x (by rw [upd_ne _ _ a2, upd_ne _ _ a1]; exact hx), upd_ne _ _ a2, upd_ne _ _ a1]
  clear hk h2
  have sl := (lgv_sf (L := es.map logD)).same
  have dl := (lgv_sf (L := es.map logD)).disc
  refine W_forget (fun t => t 4 = .op o2 0 ∧ t 7 = .op o 0 ∧ True) (by simp [upd_at, *] <;> (first | rfl | exact ⟨rfl, rfl⟩ | exact ⟨rfl, rfl, rfl⟩ | exact ⟨rfl, rfl, rfl, rfl⟩ | exact ⟨rfl, rfl, rfl, rfl, rfl⟩)) ?_; rintro t ⟨t4, t7, -⟩
  (refine W_seq_gen fun N hN => ?_)
  simp (disch := first | omega | (simp only [List.length_cons, List.length_nil, List.length_append, u8s_len]; omega)) only [go_sem, ↓reduceIte, true_and, Nat.reduceLeDiff, Nat.reduceEqDiff, Nat.reduceAdd, Nat.reduceBEq, Int.reduceEq, H.cv_5_3, t7, ho, t4, upd_same, upd_ne, n2, n2', ne_eq, not_false_eq_true, hz, hfp.same, hfp.disc, hfy.same, hfy.disc, hfn.same, hfn.disc, hfm.same, hfm.disc, sl, dl]
  clear hN
  intro x hx
  have a1 : x ≠ o2 := fun e => hx (by rw [e]; exact f2)
  simp only [if_neg a1]
  exact hk' x hx
set_option maxHeartbeats 2000000 in
theorem propyes_ok {pv lv yv nv mv : AV} {id T vote lead clock : Int} {es ye ne me : List (List AV)} {l : List (Int × List UInt8)} {com : Nat} (hpv : SF 1 pv (ints [id])) (hlv : SF 2 lv es) (hyv : SF 1 yv ye) (hnv : SF 1 nv ne) (hmv : SF 1 mv me)
    (hL : RR LgR es l) (hl : l.length ≤ 2 ^ 20) (hs0 : ∀ x ∈ l, x.2.length ≤ 2 ^ 30) (hyl : ye.length ≤ 2 ^ 30) (hnl : ne.length ≤ 2 ^ 30) (hml : me.length ≤ 2 ^ 30) (hne : lv = .sc (.slice none 0 0) ∨ es ≠ []) (hlen : es.length < 512) (hcm : com ≤ es.length) {cv : AV} {ce : List (List AV)} (hcv : SF 1 cv ce) (hcl : ce.length ≤ 1024) (h : Heap) : AWF P ann 0 9 [.ag [.sc (.int .i64 id), pv, .sc (.int .i64 T), .sc (.int .i64 vote), lv, .sc (.int .i64 ((com : Nat) : Int)), .sc (.int .i64 ((3 : Nat) : Int)), .sc (.int .i64 lead), yv, .sc (.int .i64 clock), nv, mv], cv] h fun r h' => r = .tu [.ag [.sc (.int .i64 id), frz pv, .sc (.int .i64 T), .sc (.int .i64 vote), lgv (es.map logD ++ [[.sc (.int .i64 T), frz cv]]), .sc (.int .i64 ((es.length + 1 : Nat) : Int)), .sc (.int .i64 ((3 : Nat) : Int)), .sc (.int .i64 lead), frz yv, .sc (.int .i64 clock), frz nv, frz mv], .sc (.slice none 0 0), .sc (.bool true)] ∧ h' = h := by
  refine AWF.fnPureA H.f0_9 rfl ?_
  have hfp := frz_sf hpv
  have hfy := frz_sf hyv
  have hfn := frz_sf hnv
  have hfm := frz_sf hmv
  have hgl : GE 2 (es.map logD) := lgr_ge (lgr_D hL)
  have hll : (es.map logD).length = es.length := List.length_map ..
  refine A_seq_gen fun N hN => W_sound ?_
  simp (disch := first | omega | (simp only [List.length_cons, List.length_nil, List.length_append, u8s_len]; omega)) only [go_sem, ↓reduceIte, true_and, Nat.reduceLeDiff, Nat.reduceEqDiff, Nat.reduceAdd, Nat.reduceBEq, Int.reduceEq, H.cv_5_3, hcv.disc, hcv.same, hpv.disc, hlv.disc, hyv.disc, hnv.disc, hmv.disc, hpv.same, hlv.same, hyv.same, hnv.same, hmv.same]
  intro o1 h1 o2 h2
  have f2 : h o2 = none := by
    split at h2
    · cases h2
    · exact h2
  have n21 : ¬ o2 = o1 := fun e => by rw [e] at h2; simp at h2
  have n12 : ¬ o1 = o2 := fun e => n21 e.symm
  refine hN _ ?_; clear hN N
  refine A_seq_gen fun N hN => W_sound ?_
  refine W_forget (fun t => t 1 = cv ∧ t 2 = .op o1 0 ∧ t 4 = .op o2 0 ∧ True) (by simp [upd_at, *] <;> (first | rfl | exact ⟨rfl, rfl⟩ | exact ⟨rfl, rfl, rfl⟩ | exact ⟨rfl, rfl, rfl, rfl⟩ | exact ⟨rfl, rfl, rfl, rfl, rfl⟩)) ?_; rintro t ⟨t1, t2, t4, -⟩
  simp (disch := first | omega | (simp only [List.length_cons, List.length_nil, List.length_append, u8s_len]; omega)) only [go_sem, ↓reduceIte, true_and, Nat.reduceLeDiff, Nat.reduceEqDiff, Nat.reduceAdd, Nat.reduceBEq, Int.reduceEq, H.cv_5_3, t2, upd_ne, n12, ne_eq, not_false_eq_true, upd_same, hpv.disc, hlv.disc, hyv.disc, hnv.disc, hmv.disc, hpv.same, hlv.same, hyv.same, hnv.same, hmv.same]
  refine (begin_ok H hpv hlv hyv hnv hmv hL hl hs0 (by simp [ints]) hyl hnl hml hne _).mono ?_
  rintro _ h3 ⟨o, lg, rfl, hnil, st⟩
  rw [contK_some]; simp (disch := first | omega | (simp only [List.length_cons, List.length_nil, List.length_append, u8s_len]; omega)) only [go_sem, ↓reduceIte, true_and, Nat.reduceLeDiff, Nat.reduceEqDiff, Nat.reduceAdd, Nat.reduceBEq, Int.reduceEq, H.cv_5_3]
  refine hN _ ?_; clear hN N
  have ho := st.2.1
  have hlg := st.2.2.2.same
  have n2 : o2 ≠ o := fun e => by have := st.1; rw [← e, upd_same] at this; cases this
  have n2' : ¬ o = o2 := fun e => n2 e.symm
  have fo : h o = none := by
    have := st.1
    rw [upd_ne _ _ n2', upd_ne] at this
    · exact this
    · intro e
      rw [e, upd_same] at this
      cases this
  have hlen' := st.len
  rw [hll] at hlen'
  have d5 : decide (es.length ≥ 512) = false := by simp; omega
  have dc : decide (1024 < ce.length) = false := by simp; omega
  refine A_seq_gen fun N hN => W_sound ?_
  refine W_forget (fun t => t 1 = cv ∧ t 4 = .op o2 0 ∧ t 7 = .op o 0 ∧ True) (by simp [upd_at, *] <;> (first | rfl | exact ⟨rfl, rfl⟩ | exact ⟨rfl, rfl, rfl⟩ | exact ⟨rfl, rfl, rfl, rfl⟩ | exact ⟨rfl, rfl, rfl, rfl, rfl⟩)) ?_; rintro t ⟨t1, t4, t7, -⟩
  simp (disch := first | omega | (simp only [List.length_cons, List.length_nil, List.length_append, u8s_len]; omega)) only [go_sem, ↓reduceIte, true_and, Nat.reduceLeDiff, Nat.reduceEqDiff, Nat.reduceAdd, Nat.reduceBEq, Int.reduceEq, H.cv_5_3, t1, t7, ho, hlg.1, hlen', d5, hcv.same, hcv.disc, hcv.sl.len, dc]
  refine hN _ ?_; clear hN N
  refine A_seq_gen fun N hN => W_sound ?_
  refine W_forget (fun t => t 1 = cv ∧ t 4 = .op o2 0 ∧ t 7 = .op o 0 ∧ True) (by simp [upd_at, *] <;> (first | rfl | exact ⟨rfl, rfl⟩ | exact ⟨rfl, rfl, rfl⟩ | exact ⟨rfl, rfl, rfl, rfl⟩ | exact ⟨rfl, rfl, rfl, rfl, rfl⟩)) ?_; rintro t ⟨t1, t4, t7, -⟩
  simp (disch := first | omega | (simp only [List.length_cons, List.length_nil, List.length_append, u8s_len]; omega)) only [go_sem, ↓reduceIte, true_and, Nat.reduceLeDiff, Nat.reduceEqDiff, Nat.reduceAdd, Nat.reduceBEq, Int.reduceEq, H.cv_5_3, t1, t7, hcv.same]
  refine (add_ok H hfp hcv (by omega) (by rw [hll]; exact hlen) (by rw [hll]; exact hcm) hgl st).mono ?_
  rintro r h5 ⟨lg', st5⟩
  rw [contK_some]; simp (disch := first | omega | (simp only [List.length_cons, List.length_nil, List.length_append, u8s_len]; omega)) only [go_sem, ↓reduceIte, true_and, Nat.reduceLeDiff, Nat.reduceEqDiff, Nat.reduceAdd, Nat.reduceBEq, Int.reduceEq, H.cv_5_3]
  refine hN _ ?_; clear hN N
  have hg2 : GE 2 (es.map logD ++ [[.sc (.int .i64 T), frz cv]]) := hgl.app fun e he => by
    rw [List.mem_singleton] at he
    subst he
    exact ⟨rfl, by simp only [List.map_cons, List.map_nil, disc_sc, (frz_sf hcv).disc]⟩
  refine st5.glog rfl hg2 (fun e => by simp at e) fun h4 ho4 hk => ?_
  refine W_sound ?_
  rw [hll] at ho4
  replace ho4 : h4 o = some (.arr [.sc (.int .i64 id), frz pv, .sc (.int .i64 T), .sc (.int .i64 vote), lgv (es.map logD ++ [[.sc (.int .i64 T), frz cv]]), .sc (.int .i64 ((es.length + 1 : Nat) : Int)), .sc (.int .i64 ((3 : Nat) : Int)), .sc (.int .i64 lead), frz yv, .sc (.int .i64 clock), frz nv, frz mv, .sc (.slice none 0 0)]) := ho4
  have hz : h4 o2 = some (.arr [.sc (.int .i64 ((0 : Nat) : Int)), .sc (.slice none 0 0), .sc (.int .i64 ((0 : Nat) : Int)), .sc (.int .i64 ((0 : Nat) : Int)), .sc (.slice none 0 0), .sc (.int .i64 ((0 : Nat) : Int)), .sc (.int .i64 ((0 : Nat) : Int)), .sc (.int .i64 ((0 : Nat) : Int)), .sc (.slice none 0 0), .sc (.int .i64 ((0 : Nat) : Int)), .sc (.slice none 0 0), .sc (.slice none 0 0)]) := by rw [hk o2 (by rw [upd_same]; simp), upd_same]
  have hk' : ∀ x, h x ≠ none → h4 x = h x := fun x hx => by
    have a1 : x ≠ o1 := fun e => hx (by rw [e]; exact h1)
    have a2 : x ≠ o2 := fun e => hx (by rw [e]; exact f2)
    rw [hk x (by rw [upd_ne _ _ a2, upd_ne _ _ a1]; exact hx), upd_ne _ _ a2, upd_ne _ _ a1]
  clear hk h2
  have sl := (lgv_sf (L := es.map logD ++ [[.sc (.int .i64 T), frz cv]])).same
  have dl := (lgv_sf (L := es.map logD ++ [[.sc (.int .i64 T), frz cv]])).disc
  generalize lgv (es.map logD ++ [[.sc (.int .i64 T), frz cv]]) = w at ho4 sl dl ⊢
  refine W_forget (fun t => t 4 = .op o2 0 ∧ t 7 = .op o 0 ∧ True) (by simp [upd_at, *] <;> (first | rfl | exact ⟨rfl, rfl⟩ | exact ⟨rfl, rfl, rfl⟩ | exact ⟨rfl, rfl, rfl, rfl⟩ | exact ⟨rfl, rfl, rfl, rfl, rfl⟩)) ?_; rintro t ⟨t4, t7, -⟩
  have dbs : ∀ (sz : Nat) (es : List (List AV)) (lim : Option Nat), (AV.bs false sz es lim).disc = .bs false sz es lim := fun _ _ _ => rfl
  have sbs : ∀ (sz : Nat) (es : List (List AV)) (lim : Option Nat), (AV.bs false sz es lim).dis = .bs false sz es lim := fun _ _ _ => rfl
  simp (disch := first | omega | (simp only [List.length_cons, List.length_nil, List.length_append, u8s_len]; omega)) only [go_sem, ↓reduceIte, true_and, Nat.reduceLeDiff, Nat.reduceEqDiff, Nat.reduceAdd, Nat.reduceBEq, Int.reduceEq, H.cv_5_3, t4, t7, ho4, upd_same, upd_ne, n2, n2', ne_eq, not_false_eq_true, hz, dbs, sbs, hfp.same, hfp.disc, hfy.same, hfy.disc, hfn.same, hfn.disc, hfm.same, hfm.disc, sl, dl]
  intro x hx
  have a1 : x ≠ o2 := fun e => hx (by rw [e]; exact f2)
  simp only [if_neg a1]
  exact hk' x hx
end Go.Proofs.Ytkmakibigmlfeaa
end
