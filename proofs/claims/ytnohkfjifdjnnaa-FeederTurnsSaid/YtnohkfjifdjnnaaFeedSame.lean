/- Asks that are alike; guards; the package is awake. -/
import Derived.Test.YtnohkfjifdjnnaaFeedTurn
set_option linter.unusedVariables false
set_option linter.unusedSimpArgs false
namespace Go.Proofs.Ytnohkfjifdjnnaa
open Go.Am
variable {P : Program} (H : Has P) (HC : HasC P)
include H HC
theorem sameop_ok {k n mm : Int} {d w d' w' : AV} {es fs es' fs' : List (List AV)} {l : List (ByteArray × List Fl)} {m : List (Int × ByteArray × Bool × List Fl)}
    (hd : SF 2 d es) (hL : RR nmR es l) (hw : SF 4 w fs) (hM1 : RR chR fs m) (hd' : SF 2 d' es') (hL' : RR nmR es' l) (hw' : SF 4 w' fs') (hM2 : RR chR fs' m)
    (hl : l.length ≤ 2 ^ 20) (hs : ∀ x ∈ l, x.2.length ≤ 2 ^ 30) (hl' : m.length ≤ 2 ^ 20) (hs' : ∀ x ∈ m, x.2.2.2.length ≤ 2 ^ 30) (h : Heap) :
    AWF P ann 0 22 [.ag (opV k n mm d w), .ag (opV k n mm d' w')] h fun r h' => r = .sc (.bool true) ∧ h' = h := by
  refine AWF.fnPurec H.f0_22 rfl ?_
  have hO := OB.nil (h := h)
  have sl : dsmall l := fun x hx => by have := hs x hx; omega
  have sm : csmall m := fun x hx => by have := hs' x hx; omega
  (refine W_seq_gen fun N hN => ?_); simp (disch := first | omega | (simp only [List.length_cons, List.length_nil, List.length_append, u8s_len]; omega)) only [go_sem, ↓reduceIte, true_and, Nat.reduceLeDiff, Nat.reduceEqDiff, Nat.reduceAdd, Nat.reduceBEq, Int.reduceEq, opV, hd.disc, hw.disc, hd'.disc, hw'.disc]
  intro o2 h2 o3 h3
  refine hN _ ?_; clear hN N; refine W_ob ((hO.new h2).new h3) fun hc hO => ?_
  refine W_forget (fun t => t 2 = .op o2 0 ∧ t 3 = .op o3 0 ∧ True) (by simp [upd_at, *] <;> (first | rfl | exact ⟨rfl, rfl⟩ | exact ⟨rfl, rfl, rfl⟩ | exact ⟨rfl, rfl, rfl, rfl⟩ | exact ⟨rfl, rfl, rfl, rfl, rfl⟩)) ?_; rintro t ⟨t2, t3, -⟩
  have ik : ∀ x : Int, (x != x) = false := fun x => by simp
  have st : ∀ x : ByteArray, (!decide (x = x)) = false := fun x => by simp
  have bb : scalarBin P .neq 4 (.bool false) (.bool false) = some (.bool false) := HC.bne false false
  have nl : ∀ (t : Nat → AV) (h : Heap), aexLen 0 t h (.sc (.slice none 0 0)) = some (.val (.sc (.int .i64 ((0 : Nat) : Int))) t h) := fun t h => rfl
  -- DEF T: t2, t3, hO.get0, hO.get1, hd.disc, hd.same, hw.disc, hw.same, hd'.disc, hd'.same, hw'.disc, hw'.same
  (refine W_seq_gen fun N hN => ?_); simp (disch := first | omega | (simp only [List.length_cons, List.length_nil, List.length_append, u8s_len]; omega)) only [go_sem, ↓reduceIte, true_and, Nat.reduceLeDiff, Nat.reduceEqDiff, Nat.reduceAdd, Nat.reduceBEq, Int.reduceEq, t2, t3, hO.get0, hO.get1, hd.disc, hd.same, hw.disc, hw.same, hd'.disc, hd'.same, hw'.disc, hw'.same, ik, st, bb, nl]
  refine hN _ ?_; clear hN N
  refine W_forget (fun t => t 2 = .op o2 0 ∧ t 3 = .op o3 0 ∧ True) (by simp [upd_at, *] <;> (first | rfl | exact ⟨rfl, rfl⟩ | exact ⟨rfl, rfl, rfl⟩ | exact ⟨rfl, rfl, rfl, rfl⟩ | exact ⟨rfl, rfl, rfl, rfl, rfl⟩)) ?_; rintro t ⟨t2, t3, -⟩
  have d0 : decide ((0 : Nat) < 0) = false := rfl
  (refine W_seq_gen fun M hM => ?_)
  (refine W_seq_gen fun N hN => ?_); simp (disch := first | omega | (simp only [List.length_cons, List.length_nil, List.length_append, u8s_len]; omega)) only [go_sem, ↓reduceIte, true_and, Nat.reduceLeDiff, Nat.reduceEqDiff, Nat.reduceAdd, Nat.reduceBEq, Int.reduceEq]
  refine hN _ ?_; clear hN N
  simp (disch := first | omega | (simp only [List.length_cons, List.length_nil, List.length_append, u8s_len]; omega)) only [go_sem, ↓reduceIte, true_and, Nat.reduceLeDiff, Nat.reduceEqDiff, Nat.reduceAdd, Nat.reduceBEq, Int.reduceEq]
  refine AW_loopN (fun n t h' => h' = hc ∧ t 2 = .op o2 0 ∧ t 3 = .op o3 0 ∧ t 5 = .sc (.int .i64 ((0 : Nat) : Int))) (n := 0) ⟨rfl, by simp [upd_at, t2], by simp [upd_at, t3], by simp [upd_at]⟩ ?_
  clear t2 t3
  rintro n t h' ⟨rfl, t2, t3, t5⟩
  (refine W_seq_gen fun N hN => ?_); simp (disch := first | omega | (simp only [List.length_cons, List.length_nil, List.length_append, u8s_len]; omega)) only [go_sem, ↓reduceIte, true_and, Nat.reduceLeDiff, Nat.reduceEqDiff, Nat.reduceAdd, Nat.reduceBEq, Int.reduceEq, t2, t3, hO.get0, hO.get1, hd.disc, hd.same, hw.disc, hw.same, hd'.disc, hd'.same, hw'.disc, hw'.same, t5, nl, d0]
  refine hM _ ?_; clear hN N hM M
  simp (disch := first | omega | (simp only [List.length_cons, List.length_nil, List.length_append, u8s_len]; omega)) only [go_sem, ↓reduceIte, true_and, Nat.reduceLeDiff, Nat.reduceEqDiff, Nat.reduceAdd, Nat.reduceBEq, Int.reduceEq, t2, t3, hO.get0, hO.get1, hd.disc, hd.same, hw.disc, hw.same, hd'.disc, hd'.same, hw'.disc, hw'.same]
  refine (dsame_ok H HC (l := []) (m := []) SF.nil SF.nil (by simp) (by simp) _).mono ?_
  rintro _ hc ⟨rfl, rfl⟩
  rw [contK_some]; simp (disch := first | omega | (simp only [List.length_cons, List.length_nil, List.length_append, u8s_len]; omega)) only [go_sem, ↓reduceIte, true_and, Nat.reduceLeDiff, Nat.reduceEqDiff, Nat.reduceAdd, Nat.reduceBEq, Int.reduceEq, decide_true, t2, t3, hO.get0, hO.get1, hd.disc, hd.same, hw.disc, hw.same, hd'.disc, hd'.same, hw'.disc, hw'.same]
  refine (dsame_ok H HC (l := []) (m := []) SF.nil SF.nil (by simp) (by simp) _).mono ?_
  rintro _ hc ⟨rfl, rfl⟩
  rw [contK_some]; simp (disch := first | omega | (simp only [List.length_cons, List.length_nil, List.length_append, u8s_len]; omega)) only [go_sem, ↓reduceIte, true_and, Nat.reduceLeDiff, Nat.reduceEqDiff, Nat.reduceAdd, Nat.reduceBEq, Int.reduceEq, decide_true, t2, t3, hO.get0, hO.get1, hd.disc, hd.same, hw.disc, hw.same, hd'.disc, hd'.same, hw'.disc, hw'.same, hd.own, hd'.own, Bool.not_false, Bool.true_or]
  refine (nsame_ok H HC hd hd' hL hL' (by omega) (by omega) sl sl _).mono ?_
  rintro _ hc ⟨rfl, rfl⟩
  rw [contK_some]; simp (disch := first | omega | (simp only [List.length_cons, List.length_nil, List.length_append, u8s_len]; omega)) only [go_sem, ↓reduceIte, true_and, Nat.reduceLeDiff, Nat.reduceEqDiff, Nat.reduceAdd, Nat.reduceBEq, Int.reduceEq, decide_true, t2, t3, hO.get0, hO.get1, hd.disc, hd.same, hw.disc, hw.same, hd'.disc, hd'.same, hw'.disc, hw'.same, hw.own, hw'.own, Bool.not_false, Bool.true_or]
  refine (csame_ok H HC hw hw' hM1 hM2 (by omega) (by omega) sm sm _).mono ?_
  rintro _ hc ⟨rfl, rfl⟩
  rw [contK_some]; simp (disch := first | omega | (simp only [List.length_cons, List.length_nil, List.length_append, u8s_len]; omega)) only [go_sem, ↓reduceIte, true_and, Nat.reduceLeDiff, Nat.reduceEqDiff, Nat.reduceAdd, Nat.reduceBEq, Int.reduceEq, decide_true]
  exact hO.keep
def reqV (k n m : Int) (d w : AV) : List AV := .sc (.int .i64 ((0 : Nat) : Int)) :: .sc (.int .i64 ((0 : Nat) : Int)) :: opV k n m d w
theorem samereq_ok {k n mm : Int} {d w d' w' : AV} {es fs es' fs' : List (List AV)} {l : List (ByteArray × List Fl)} {m : List (Int × ByteArray × Bool × List Fl)}
    (hd : SF 2 d es) (hL : RR nmR es l) (hw : SF 4 w fs) (hM1 : RR chR fs m) (hd' : SF 2 d' es') (hL' : RR nmR es' l) (hw' : SF 4 w' fs') (hM2 : RR chR fs' m)
    (hl : l.length ≤ 2 ^ 20) (hs : ∀ x ∈ l, x.2.length ≤ 2 ^ 30) (hl' : m.length ≤ 2 ^ 20) (hs' : ∀ x ∈ m, x.2.2.2.length ≤ 2 ^ 30) (h : Heap) :
    AWF P ann 0 10 [.ag (reqV k n mm d w), .ag (reqV k n mm d' w')] h fun r h' => r = .sc (.bool true) ∧ h' = h := by
  refine AWF.fnPurec H.f0_10 rfl ?_
  have hO := OB.nil (h := h)
  (refine W_seq_gen fun N hN => ?_); simp (disch := first | omega | (simp only [List.length_cons, List.length_nil, List.length_append, u8s_len]; omega)) only [go_sem, ↓reduceIte, true_and, Nat.reduceLeDiff, Nat.reduceEqDiff, Nat.reduceAdd, Nat.reduceBEq, Int.reduceEq, reqV, opV, hd.disc, hw.disc, hd'.disc, hw'.disc]
  intro o2 h2 o3 h3
  refine hN _ ?_; clear hN N; refine W_ob ((hO.new h2).new h3) fun hc hO => ?_
  refine W_forget (fun t => t 2 = .op o2 0 ∧ t 3 = .op o3 0 ∧ True) (by simp [upd_at, *] <;> (first | rfl | exact ⟨rfl, rfl⟩ | exact ⟨rfl, rfl, rfl⟩ | exact ⟨rfl, rfl, rfl, rfl⟩ | exact ⟨rfl, rfl, rfl, rfl, rfl⟩)) ?_; rintro t ⟨t2, t3, -⟩
  have d0 : (((0 : Nat) : Int) == ((0 : Nat) : Int)) = true := rfl
  simp (disch := first | omega | (simp only [List.length_cons, List.length_nil, List.length_append, u8s_len]; omega)) only [go_sem, ↓reduceIte, true_and, Nat.reduceLeDiff, Nat.reduceEqDiff, Nat.reduceAdd, Nat.reduceBEq, Int.reduceEq, t2, t3, hO.get0, hO.get1, hd.disc, hd.same, hw.disc, hw.same, hd'.disc, hd'.same, hw'.disc, hw'.same, d0]
  refine (sameop_ok H HC hd hL hw hM1 hd' hL' hw' hM2 hl hs hl' hs' _).mono ?_
  rintro _ hc ⟨rfl, rfl⟩
  rw [contK_some]; simp (disch := first | omega | (simp only [List.length_cons, List.length_nil, List.length_append, u8s_len]; omega)) only [go_sem, ↓reduceIte, true_and, Nat.reduceLeDiff, Nat.reduceEqDiff, Nat.reduceAdd, Nat.reduceBEq, Int.reduceEq]
  exact hO.keep
omit HC
def GuR (b : Prop) (r : AV) : Prop := ∃ x : Bool, r = .sc (.bool x) ∧ (x = true → b)
theorem gdocs_ok {v : AV} {es : List (List AV)} {l : List (ByteArray × List Fl)} (hv : SF 2 v es) (hL : RR nmR es l) (hl : l.length < 2 ^ 60) (h : Heap) :
    AWF P ann 0 5 [v] h fun r h' => GuR (l.length ≤ 40 ∧ ∀ x ∈ l, x.2.length ≤ 20) r ∧ h' = h := by
  refine AWF.fnc H.f0_5 rfl ?_
  have e1 := hL.len
  (refine W_seq_gen fun N hN => ?_); simp (disch := first | omega | (simp only [List.length_cons, List.length_nil, List.length_append, u8s_len]; omega)) only [go_sem, ↓reduceIte, true_and, Nat.reduceLeDiff, Nat.reduceEqDiff, Nat.reduceAdd, Nat.reduceBEq, Int.reduceEq]
  refine hN _ ?_; clear hN N
  (refine W_seq_gen fun M hM => ?_)
  (refine W_seq_gen fun N hN => ?_); simp (disch := first | omega | (simp only [List.length_cons, List.length_nil, List.length_append, u8s_len]; omega)) only [go_sem, ↓reduceIte, true_and, Nat.reduceLeDiff, Nat.reduceEqDiff, Nat.reduceAdd, Nat.reduceBEq, Int.reduceEq]
  refine hN _ ?_; clear hN N
  simp (disch := first | omega | (simp only [List.length_cons, List.length_nil, List.length_append, u8s_len]; omega)) only [go_sem, ↓reduceIte, true_and, Nat.reduceLeDiff, Nat.reduceEqDiff, Nat.reduceAdd, Nat.reduceBEq, Int.reduceEq]
  refine AW_loopN (fun n t h' => h' = h ∧ ∃ i, n = l.length - i ∧ i ≤ l.length ∧ t 0 = v ∧ t 3 = .sc (.int .i64 (i : Nat)) ∧ ∀ (j : Nat) (hj : j < l.length), j < i → l[j].2.length ≤ 20)
    (n := l.length) ⟨rfl, 0, rfl, Nat.zero_le _, rfl, rfl, fun j hj h => by omega⟩ ?_
  rintro n t h' ⟨rfl, i, rfl, hi, t0, t3, hno⟩
  have fin : (i < l.length → ¬ i < 40) → ∀ t : Nat → AV, t 0 = v → M ⟨t, h'⟩ := by
    clear t0 t3
    intro hend t t0
    refine hM _ ?_; clear hM M
    simp (disch := first | omega | (simp only [List.length_cons, List.length_nil, List.length_append, u8s_len]; omega)) only [go_sem, ↓reduceIte, true_and, Nat.reduceLeDiff, Nat.reduceEqDiff, Nat.reduceAdd, Nat.reduceBEq, Int.reduceEq, t0, hv.same, hv.disc, hv.sl.len, e1]
    refine ⟨_, rfl, fun hx => ?_⟩
    have hle : l.length ≤ 40 := of_decide_eq_true hx
    refine ⟨hle, fun x hx => ?_⟩
    obtain ⟨j, hj, rfl⟩ := List.getElem_of_mem hx
    exact hno j hj (by omega)
  rcases Nat.lt_or_ge i l.length with hlt | hge
  · by_cases c : i < 40
    · obtain ⟨_, g0, w, rfl, hw⟩ := hL.lt (i := i) (by omega)
      have lw := fun (t : Nat → AV) (h : Heap) => hw.sl.len (t := t) (h := h)
      rw [fls_len] at lw
      clear fin
      (refine W_seq_gen fun N hN => ?_); simp (disch := first | omega | (simp only [List.length_cons, List.length_nil, List.length_append, u8s_len]; omega)) only [go_sem, ↓reduceIte, true_and, Nat.reduceLeDiff, Nat.reduceEqDiff, Nat.reduceAdd, Nat.reduceBEq, Int.reduceEq, t0, t3, hv.same, hv.disc, hv.sl.len, e1, hlt, c]
      refine hN _ ?_; clear hN N
      (refine W_seq_gen fun N hN => ?_)
      rw [W_block]
      by_cases q : 20 < l[i].2.length
      · simp (disch := first | omega | (simp only [List.length_cons, List.length_nil, List.length_append, u8s_len]; omega)) only [go_sem, ↓reduceIte, true_and, Nat.reduceLeDiff, Nat.reduceEqDiff, Nat.reduceAdd, Nat.reduceBEq, Int.reduceEq, t0, t3, hv.same, hv.disc, hv.sl.ia, g0, hw.same, hw.disc, lw, q]
        exact ⟨_, rfl, fun h => by cases h⟩
      · simp (disch := first | omega | (simp only [List.length_cons, List.length_nil, List.length_append, u8s_len]; omega)) only [go_sem, ↓reduceIte, true_and, Nat.reduceLeDiff, Nat.reduceEqDiff, Nat.reduceAdd, Nat.reduceBEq, Int.reduceEq, t0, t3, hv.same, hv.disc, hv.sl.ia, g0, hw.same, hw.disc, lw, q]
        refine hN _ ?_; clear hN N
        simp (disch := first | omega | (simp only [List.length_cons, List.length_nil, List.length_append, u8s_len]; omega)) only [go_sem, ↓reduceIte, true_and, Nat.reduceLeDiff, Nat.reduceEqDiff, Nat.reduceAdd, Nat.reduceBEq, Int.reduceEq, t3, nat_add]
        exact ⟨l.length - (i + 1), by omega, i + 1, rfl, by omega, by simp [upd_at, t0], by simp [upd_at], fun j hj hlt' => by
          rcases Nat.lt_or_ge j i with p | p
          · exact hno j hj p
          · obtain rfl : j = i := by omega
            omega⟩
    · (refine W_seq_gen fun N hN => ?_); simp (disch := first | omega | (simp only [List.length_cons, List.length_nil, List.length_append, u8s_len]; omega)) only [go_sem, ↓reduceIte, true_and, Nat.reduceLeDiff, Nat.reduceEqDiff, Nat.reduceAdd, Nat.reduceBEq, Int.reduceEq, t0, t3, hv.same, hv.disc, hv.sl.len, e1, hlt, c]
      exact fin (fun _ => c) _ (by simp [upd_at, t0])
  · have hlt : ¬ i < l.length := by omega
    (refine W_seq_gen fun N hN => ?_); simp (disch := first | omega | (simp only [List.length_cons, List.length_nil, List.length_append, u8s_len]; omega)) only [go_sem, ↓reduceIte, true_and, Nat.reduceLeDiff, Nat.reduceEqDiff, Nat.reduceAdd, Nat.reduceBEq, Int.reduceEq, t0, t3, hv.same, hv.disc, hv.sl.len, e1, hlt]
    exact fin (fun h => absurd h hlt) _ (by simp [upd_at, t0])
theorem gnews_ok {v : AV} {es : List (List AV)} {l : List (Int × ByteArray × Bool × List Fl)} (hv : SF 4 v es) (hL : RR chR es l) (hl : l.length < 2 ^ 60) (h : Heap) :
    AWF P ann 0 6 [v] h fun r h' => GuR (l.length ≤ 60 ∧ ∀ x ∈ l, x.2.2.2.length ≤ 20) r ∧ h' = h := by
  refine AWF.fnc H.f0_6 rfl ?_
  have e1 := hL.len
  (refine W_seq_gen fun N hN => ?_); simp (disch := first | omega | (simp only [List.length_cons, List.length_nil, List.length_append, u8s_len]; omega)) only [go_sem, ↓reduceIte, true_and, Nat.reduceLeDiff, Nat.reduceEqDiff, Nat.reduceAdd, Nat.reduceBEq, Int.reduceEq]
  refine hN _ ?_; clear hN N
  (refine W_seq_gen fun M hM => ?_)
  (refine W_seq_gen fun N hN => ?_); simp (disch := first | omega | (simp only [List.length_cons, List.length_nil, List.length_append, u8s_len]; omega)) only [go_sem, ↓reduceIte, true_and, Nat.reduceLeDiff, Nat.reduceEqDiff, Nat.reduceAdd, Nat.reduceBEq, Int.reduceEq]
  refine hN _ ?_; clear hN N
  simp (disch := first | omega | (simp only [List.length_cons, List.length_nil, List.length_append, u8s_len]; omega)) only [go_sem, ↓reduceIte, true_and, Nat.reduceLeDiff, Nat.reduceEqDiff, Nat.reduceAdd, Nat.reduceBEq, Int.reduceEq]
  refine AW_loopN (fun n t h' => h' = h ∧ ∃ i, n = l.length - i ∧ i ≤ l.length ∧ t 0 = v ∧ t 3 = .sc (.int .i64 (i : Nat)) ∧ ∀ (j : Nat) (hj : j < l.length), j < i → l[j].2.2.2.length ≤ 20)
    (n := l.length) ⟨rfl, 0, rfl, Nat.zero_le _, rfl, rfl, fun j hj h => by omega⟩ ?_
  rintro n t h' ⟨rfl, i, rfl, hi, t0, t3, hno⟩
  have fin : (i < l.length → ¬ i < 60) → ∀ t : Nat → AV, t 0 = v → M ⟨t, h'⟩ := by
    clear t0 t3
    intro hend t t0
    refine hM _ ?_; clear hM M
    simp (disch := first | omega | (simp only [List.length_cons, List.length_nil, List.length_append, u8s_len]; omega)) only [go_sem, ↓reduceIte, true_and, Nat.reduceLeDiff, Nat.reduceEqDiff, Nat.reduceAdd, Nat.reduceBEq, Int.reduceEq, t0, hv.same, hv.disc, hv.sl.len, e1]
    refine ⟨_, rfl, fun hx => ?_⟩
    have hle : l.length ≤ 60 := of_decide_eq_true hx
    refine ⟨hle, fun x hx => ?_⟩
    obtain ⟨j, hj, rfl⟩ := List.getElem_of_mem hx
    exact hno j hj (by omega)
  rcases Nat.lt_or_ge i l.length with hlt | hge
  · by_cases c : i < 60
    · obtain ⟨_, g0, w, rfl, hw⟩ := hL.lt (i := i) (by omega)
      have lw := fun (t : Nat → AV) (h : Heap) => hw.sl.len (t := t) (h := h)
      rw [fls_len] at lw
      clear fin
      (refine W_seq_gen fun N hN => ?_); simp (disch := first | omega | (simp only [List.length_cons, List.length_nil, List.length_append, u8s_len]; omega)) only [go_sem, ↓reduceIte, true_and, Nat.reduceLeDiff, Nat.reduceEqDiff, Nat.reduceAdd, Nat.reduceBEq, Int.reduceEq, t0, t3, hv.same, hv.disc, hv.sl.len, e1, hlt, c]
      refine hN _ ?_; clear hN N
      (refine W_seq_gen fun N hN => ?_)
      rw [W_block]
      by_cases q : 20 < l[i].2.2.2.length
      · simp (disch := first | omega | (simp only [List.length_cons, List.length_nil, List.length_append, u8s_len]; omega)) only [go_sem, ↓reduceIte, true_and, Nat.reduceLeDiff, Nat.reduceEqDiff, Nat.reduceAdd, Nat.reduceBEq, Int.reduceEq, t0, t3, hv.same, hv.disc, hv.sl.ia, g0, hw.same, hw.disc, lw, q]
        exact ⟨_, rfl, fun h => by cases h⟩
      · simp (disch := first | omega | (simp only [List.length_cons, List.length_nil, List.length_append, u8s_len]; omega)) only [go_sem, ↓reduceIte, true_and, Nat.reduceLeDiff, Nat.reduceEqDiff, Nat.reduceAdd, Nat.reduceBEq, Int.reduceEq, t0, t3, hv.same, hv.disc, hv.sl.ia, g0, hw.same, hw.disc, lw, q]
        refine hN _ ?_; clear hN N
        simp (disch := first | omega | (simp only [List.length_cons, List.length_nil, List.length_append, u8s_len]; omega)) only [go_sem, ↓reduceIte, true_and, Nat.reduceLeDiff, Nat.reduceEqDiff, Nat.reduceAdd, Nat.reduceBEq, Int.reduceEq, t3, nat_add]
        exact ⟨l.length - (i + 1), by omega, i + 1, rfl, by omega, by simp [upd_at, t0], by simp [upd_at], fun j hj hlt' => by
          rcases Nat.lt_or_ge j i with p | p
          · exact hno j hj p
          · obtain rfl : j = i := by omega
            omega⟩
    · (refine W_seq_gen fun N hN => ?_); simp (disch := first | omega | (simp only [List.length_cons, List.length_nil, List.length_append, u8s_len]; omega)) only [go_sem, ↓reduceIte, true_and, Nat.reduceLeDiff, Nat.reduceEqDiff, Nat.reduceAdd, Nat.reduceBEq, Int.reduceEq, t0, t3, hv.same, hv.disc, hv.sl.len, e1, hlt, c]
      exact fin (fun _ => c) _ (by simp [upd_at, t0])
  · have hlt : ¬ i < l.length := by omega
    (refine W_seq_gen fun N hN => ?_); simp (disch := first | omega | (simp only [List.length_cons, List.length_nil, List.length_append, u8s_len]; omega)) only [go_sem, ↓reduceIte, true_and, Nat.reduceLeDiff, Nat.reduceEqDiff, Nat.reduceAdd, Nat.reduceBEq, Int.reduceEq, t0, t3, hv.same, hv.disc, hv.sl.len, e1, hlt]
    exact fin (fun h => absurd h hlt) _ (by simp [upd_at, t0])
omit H in
theorem rr_map {α : Type} {R : List AV → α → Prop} {g : List AV → List AV} (hg : ∀ e x, R e x → R (g e) x) : ∀ {es : List (List AV)} {l : List α}, RR R es l → RR R (es.map g) l
  | [], [], _ => trivial
  | e :: es, x :: l, h => ⟨hg _ _ h.1, rr_map hg h.2⟩
  | [], _ :: _, h => by cases h
  | _ :: _, [], h => by cases h
omit H in
theorem nm_doc (e : List AV) (x : ByteArray × List Fl) (h : nmR e x) : nmR (docD e) x := by
  obtain ⟨v, rfl, hv⟩ := h
  exact ⟨(clo v).disc, rfl, by rw [(clo_ok hv).disc]; exact (clo_ok hv).df⟩
omit H in
theorem ch_new (e : List AV) (x : Int × ByteArray × Bool × List Fl) (h : chR e x) : chR (newD e) x := by
  obtain ⟨v, rfl, hv⟩ := h
  exact ⟨(clo v).disc, rfl, by rw [(clo_ok hv).disc]; exact (clo_ok hv).df⟩
/-- Two asks that are alike. -/
def Two (p q : List AV) : Prop := ∃ k n mm d w d' w' es fs es' fs' l m, p = opV k n mm d w ∧ q = opV k n mm d' w' ∧ SF 2 d es ∧ RR nmR es l ∧ SF 4 w fs ∧ RR chR fs m ∧ SF 2 d' es' ∧ RR nmR es' l ∧ SF 4 w' fs' ∧ RR chR fs' m ∧
  l.length ≤ 2 ^ 20 ∧ (∀ x ∈ l, x.2.length ≤ 2 ^ 30) ∧ m.length ≤ 2 ^ 20 ∧ (∀ x ∈ m, x.2.2.2.length ≤ 2 ^ 30)
omit H in
theorem two_nil (k n mm : Int) : Two (opV k n mm nilA nilA) (opV k n mm nilA nilA) :=
  ⟨k, n, mm, nilA, nilA, nilA, nilA, [], [], [], [], [], [], rfl, rfl, SF.nil, RR.nil, SF.nil, RR.nil, SF.nil, RR.nil, SF.nil, RR.nil, by simp, by simp, by simp, by simp⟩
omit H in
theorem turn_two {code kind an on : Int} {rd : Bool} {d w : AV} {es fs : List (List AV)} {l : List (ByteArray × List Fl)} {m : List (Int × ByteArray × Bool × List Fl)}
    (hd : SF 2 d es) (hL : RR nmR es l) (hw : SF 4 w fs) (hM' : RR chR fs m) (hl : l.length ≤ 2 ^ 20) (hs : ∀ x ∈ l, x.2.length ≤ 2 ^ 30) (hl' : m.length ≤ 2 ^ 20) (hs' : ∀ x ∈ m, x.2.2.2.length ≤ 2 ^ 30) :
    (∃ p q, turnV code kind an on rd (ownV docD d) (ownV newD w) m.length = .tu [.ag p, .sc (.bool true)] ∧ rturnV code kind an on rd d w m.length = .tu [.ag q, .sc (.bool true)] ∧ Two p q) ∨
    (∃ k n mm, turnV code kind an on rd (ownV docD d) (ownV newD w) m.length = .tu [.ag op0, .sc (.bool false)] ∧ rturnV code kind an on rd d w m.length = .tu [.ag (opV k n mm nilA nilA), .sc (.bool false)]) := by
  unfold turnV rturnV
  by_cases c0 : code = 0
  case neg =>
    rw [if_neg c0, if_neg c0]
    exact .inr ⟨_, _, _, rfl, rfl⟩
  rw [if_pos c0, if_pos c0]
  by_cases c1 : kind = 13 ∧ an = 0 ∧ rd = false
  · rw [if_pos c1, if_pos c1]
    exact .inl ⟨_, _, rfl, rfl, two_nil _ _ _⟩
  rw [if_neg c1, if_neg c1]
  by_cases c2 : kind = 13
  · rw [if_pos c2, if_pos c2]
    exact .inl ⟨_, _, rfl, rfl, _, _, _, _, _, _, _, _, _, _, _, l, [], rfl, rfl, ownV_ok hd, rr_map nm_doc hL, SF.nil, RR.nil, hd, hL, SF.nil, RR.nil, hl, hs, by simp, by simp⟩
  rw [if_neg c2, if_neg c2]
  by_cases c3 : kind = 12
  case neg =>
    rw [if_neg (fun h => c3 h.1), if_neg (fun h => c3 h.1), if_neg c3]
    exact .inr ⟨_, _, _, rfl, rfl⟩
  rw [if_pos c3]
  by_cases c4 : 0 < m.length
  · rw [if_pos ⟨c3, c4⟩, if_pos c4]
    exact .inl ⟨_, _, rfl, rfl, _, _, _, _, _, _, _, _, _, _, _, [], m, rfl, rfl, SF.nil, RR.nil, ownV_ok hw, rr_map ch_new hM', SF.nil, RR.nil, hw, hM', by simp, by simp, hl', hs'⟩
  rw [if_neg (fun h => c4 h.2), if_neg c4]
  cases rd with
  | false =>
    rw [if_pos ⟨c3, rfl⟩]
    exact .inl ⟨_, _, rfl, rfl, two_nil _ _ _⟩
  | true =>
    rw [if_neg (fun h => by cases h.2)]
    exact .inr ⟨_, _, _, rfl, rfl⟩
theorem awake_ok (h : Heap) : AWF P ann 0 7 [] h fun r h' => r = .sc (.bool true) ∧ h' = h := by
  refine AWF.fnPurec H.f0_7 rfl ?_
  have hO := OB.nil (h := h)
  (refine W_seq_gen fun N hN => ?_); simp (disch := first | omega | (simp only [List.length_cons, List.length_nil, List.length_append, u8s_len]; omega)) only [go_sem, ↓reduceIte, true_and, Nat.reduceLeDiff, Nat.reduceEqDiff, Nat.reduceAdd, Nat.reduceBEq, Int.reduceEq]
  refine hN _ ?_; clear hN N
  (refine W_seq_gen fun N hN => ?_); simp (disch := first | omega | (simp only [List.length_cons, List.length_nil, List.length_append, u8s_len]; omega)) only [go_sem, ↓reduceIte, true_and, Nat.reduceLeDiff, Nat.reduceEqDiff, Nat.reduceAdd, Nat.reduceBEq, Int.reduceEq]
  refine (wants_ok H (en := nilA) rfl _).mono ?_
  rintro _ h1 ⟨rfl, rfl⟩
  rw [show wantsV false ((0 : Nat) : Int) = opV ((13 : Nat) : Int) ((0 : Nat) : Int) ((0 : Nat) : Int) nilA nilA from rfl]
  rw [contK_some]; simp (disch := first | omega | (simp only [List.length_cons, List.length_nil, List.length_append, u8s_len]; omega)) only [go_sem, ↓reduceIte, true_and, Nat.reduceLeDiff, Nat.reduceEqDiff, Nat.reduceAdd, Nat.reduceBEq, Int.reduceEq, opV]
  intro o1 ho1
  refine hN _ ?_; clear hN N; refine W_ob (hO.new ho1) fun hc hO => ?_
  refine W_forget (fun t => t 1 = .op o1 0 ∧ True) (by simp [upd_at, *] <;> (first | rfl | exact ⟨rfl, rfl⟩ | exact ⟨rfl, rfl, rfl⟩ | exact ⟨rfl, rfl, rfl, rfl⟩ | exact ⟨rfl, rfl, rfl, rfl, rfl⟩)) ?_; rintro t ⟨t1, -⟩
  (refine W_seq_gen fun N hN => ?_); simp (disch := first | omega | (simp only [List.length_cons, List.length_nil, List.length_append, u8s_len]; omega)) only [go_sem, ↓reduceIte, true_and, Nat.reduceLeDiff, Nat.reduceEqDiff, Nat.reduceAdd, Nat.reduceBEq, Int.reduceEq, t1, hO.get0]
  refine (turns_ok H (d := nilA) (w := nilA) (es := []) (fs := []) (l := []) (m := []) rfl rfl rfl rfl rfl rfl rfl rfl SF.nil RR.nil SF.nil RR.nil (by simp) (by simp) (by simp) (by simp) _).mono ?_
  rintro _ hc ⟨rfl, rfl⟩
  rw [show turnV ((0 : Nat) : Int) ((13 : Nat) : Int) ((3 : Nat) : Int) ((0 : Nat) : Int) false (ownV docD nilA) (ownV newD nilA) ([] : List (Int × ByteArray × Bool × List Fl)).length = .tu [.ag (opV ((101 : Nat) : Int) ((3 : Nat) : Int) ((0 : Nat) : Int) nilA nilA), .sc (.bool true)] from rfl]
  rw [contK_some]; simp (disch := first | omega | (simp only [List.length_cons, List.length_nil, List.length_append, u8s_len]; omega)) only [go_sem, ↓reduceIte, true_and, Nat.reduceLeDiff, Nat.reduceEqDiff, Nat.reduceAdd, Nat.reduceBEq, Int.reduceEq, opV]
  intro o2 ho2
  refine hN _ ?_; clear hN N; refine W_ob (hO.new ho2) fun hc hO => ?_
  refine W_forget (fun t => t 1 = .op o1 0 ∧ t 2 = .op o2 0 ∧ t 3 = .sc (.bool true) ∧ True) (by simp [upd_at, *] <;> (first | rfl | exact ⟨rfl, rfl⟩ | exact ⟨rfl, rfl, rfl⟩ | exact ⟨rfl, rfl, rfl, rfl⟩ | exact ⟨rfl, rfl, rfl, rfl, rfl⟩)) ?_; rintro t ⟨t1, t2, t3, -⟩
  have hv : SL 1 (.bs true 1 [[.sc (.int .i64 ((101 : Nat) : Int))]] (some 1)) (ints [101]) := SL.bs
  (refine W_seq_gen fun N hN => ?_); simp (disch := first | omega | (simp only [List.length_cons, List.length_nil, List.length_append, u8s_len]; omega)) only [go_sem, ↓reduceIte, true_and, Nat.reduceLeDiff, Nat.reduceEqDiff, Nat.reduceAdd, Nat.reduceBEq, Int.reduceEq]
  refine (fnew_ok H hv _).mono ?_
  rintro _ h2 ⟨o4, rfl, hO2⟩
  have hO3 := hO.trans hO2
  rw [contK_some]; simp (disch := first | omega | (simp only [List.length_cons, List.length_nil, List.length_append, u8s_len]; omega)) only [go_sem, ↓reduceIte, true_and, Nat.reduceLeDiff, Nat.reduceEqDiff, Nat.reduceAdd, Nat.reduceBEq, Int.reduceEq]
  refine hN _ ?_; clear hN N
  refine W_forget (fun t => t 1 = .op o1 0 ∧ t 2 = .op o2 0 ∧ t 3 = .sc (.bool true) ∧ t 4 = .op o4 0 ∧ t 5 = .sc (.int .i64 ((0 : Nat) : Int)) ∧ True) (by simp [upd_at, *] <;> (first | rfl | exact ⟨rfl, rfl⟩ | exact ⟨rfl, rfl, rfl⟩ | exact ⟨rfl, rfl, rfl, rfl⟩ | exact ⟨rfl, rfl, rfl, rfl, rfl⟩)) ?_; rintro t ⟨t1, t2, t3, t4, t5, -⟩
  have d1 : (((13 : Nat) : Int) == ((13 : Nat) : Int)) = true := rfl
  have d2 : (((101 : Nat) : Int) == ((101 : Nat) : Int)) = true := rfl
  have d3 : (((3 : Nat) : Int) == ((3 : Nat) : Int)) = true := rfl
  have d4 : (((0 : Nat) : Int) == ((0 : Nat) : Int)) = true := rfl
  simp (disch := first | omega | (simp only [List.length_cons, List.length_nil, List.length_append, u8s_len]; omega)) only [go_sem, ↓reduceIte, true_and, Nat.reduceLeDiff, Nat.reduceEqDiff, Nat.reduceAdd, Nat.reduceBEq, Int.reduceEq, t1, t2, t3, t4, t5, hO3.get0, hO3.get1, d1, d2, d3, d4, isnil_op]
  exact hO3.keep
end Go.Proofs.Ytnohkfjifdjnnaa
