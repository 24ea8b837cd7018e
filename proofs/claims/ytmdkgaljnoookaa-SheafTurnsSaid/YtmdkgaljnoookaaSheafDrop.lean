/- A sheaf without a key: a row of an object, written in place. -/
import Derived.Test.YtmdkgaljnoookaaSheafScan
set_option linter.unusedVariables false
set_option linter.unusedSimpArgs false
namespace Go.Proofs.Ytmdkgaljnoookaa
open Go.Am
def dropS (l : List Pr) (k : ByteArray) : List Pr := l.filter fun p => !decide (p.1 = k)
/-- Where a key stands, at first. -/
def firstI : List Pr → ByteArray → Int
  | [], _ => -1
  | p :: l, k => if p.1 = k then 0 else if firstI l k = -1 then -1 else firstI l k + 1
theorem firstI_cases : ∀ (l : List Pr) (k : ByteArray), (firstI l k = -1 ∧ ∀ p ∈ l, p.1 ≠ k) ∨ ∃ (i : Nat) (hi : i < l.length), firstI l k = (i : Nat) ∧ l[i].1 = k ∧ ∀ (j : Nat) (hj : j < l.length), j < i → l[j].1 ≠ k
  | [], k => .inl ⟨rfl, fun p hp => by cases hp⟩
  | p :: l, k => by
    unfold firstI
    by_cases h : p.1 = k
    · rw [if_pos h]
      exact .inr ⟨0, by simp, rfl, h, fun j hj hlt => by omega⟩
    · rw [if_neg h]
      rcases firstI_cases l k with ⟨h1, h2⟩ | ⟨i, hi, h1, h2, h3⟩
      · rw [if_pos h1]
        refine .inl ⟨rfl, fun q hq => ?_⟩
        rcases List.mem_cons.1 hq with rfl | hq
        · exact h
        · exact h2 q hq
      · rw [h1, if_neg (by omega)]
        refine .inr ⟨i + 1, by simpa using hi, by omega, by simpa using h2, fun j hj hlt => ?_⟩
        cases j with
        | zero => exact h
        | succ j => exact h3 j (by simpa using hj) (by omega)
theorem flat_set (q : List Pr) (z : List AV) (i : Nat) (hi : i < q.length) (p : Pr) : setRange ((prs q).flatten ++ z) (i * 2) [.sc (.string p.1), .sc (.string p.2)] = (prs (q.set i p)).flatten ++ z := by
  have h := flatP_set q i hi p
  have hl := flatP_len q
  unfold flatP at h hl
  rw [← h]
  unfold setRange
  have e : ([.sc (.string p.1), .sc (.string p.2)] : List AV).length = 2 := rfl
  rw [e, List.take_append_of_le_length (by omega), List.drop_append_of_le_length (by omega), List.append_assoc, List.append_assoc, List.append_assoc]
theorem rs_rd {h : Heap} {o n : Nat} {lim : Option Nat} {q : List Pr} {z : List AV} (ho : h o = some (.arr ((prs q).flatten ++ z))) (hn : n = q.length) : RD h 2 (.rs o 0 2 n lim) (prs q) := by
  subst hn
  refine ⟨?_, .inr ⟨_, _, _, _, rfl⟩⟩
  have h1 : 0 + q.length * 2 ≤ ((prs q).flatten ++ z).length := by rw [List.length_append, flat_len]; omega
  simp only [elemsOf, if_true, ho, if_pos h1, List.drop_zero, List.map_append, flatP_eq, chunks_flat]
/-- What is left of a row of an object. -/
def DelR (o : Nat) (h h' : Heap) (m : List Pr) (r : AV) : Prop := ∃ lim z', r = .rs o 0 2 m.length lim ∧ (∀ x, x ≠ o → h x ≠ none → h' x = h x) ∧ h' o = some (.arr ((prs m).flatten ++ z'))
variable {P : Program} (H : Has P)
include H
theorem clo_ok (p : Pr) {k : ByteArray} {ob : Nat} {h : Heap} (hob : h ob = some (.arr [.sc (.string k)])) : AWF P ann 0 26 [.ag [.sc (.string p.1), .sc (.string p.2)], .op ob 0] h fun v h' => v = .sc (.bool (decide (p.1 = k))) ∧ h' = h := by
  refine AWF.fnPurec H.f0_26 rfl ?_
  have hO := OB.nil (h := h)
  (refine W_seq_gen fun N hN => ?_); simp (disch := first | omega | (simp only [List.length_cons, List.length_nil, List.length_append, u8s_len]; omega)) only [go_sem, ↓reduceIte, true_and, Nat.reduceLeDiff, Nat.reduceEqDiff, Nat.reduceAdd, Nat.reduceBEq, Int.reduceEq, H.cv_3_57, H.cv_5_3, H.cv_57_3]
  intro o2 h2
  refine hN _ ?_; clear hN N; refine W_ob (hO.new h2) fun hc hO => ?_
  have hk := hO.live hob
  simp (disch := first | omega | (simp only [List.length_cons, List.length_nil, List.length_append, u8s_len]; omega)) only [go_sem, ↓reduceIte, true_and, Nat.reduceLeDiff, Nat.reduceEqDiff, Nat.reduceAdd, Nat.reduceBEq, Int.reduceEq, H.cv_3_57, H.cv_5_3, H.cv_57_3, hk, hO.get0]
  exact hO.keep
theorem idx_ok {v : AV} {l : List Pr} {k : ByteArray} {ob : Nat} {h : Heap} (hob : h ob = some (.arr [.sc (.string k)])) (hv : RD h 2 v (prs l)) (hl : l.length < 2 ^ 60) :
    AWF P ann 0 31 [v, .fn 26 [] [.op ob 0]] h fun r h' => r = .sc (.int .i64 (firstI l k)) ∧ h' = h := by
  refine AWF.fnc H.f0_31 rfl ?_
  have e1 := @prs_len l
  have vl := fun t => hv.dis.len (t := t)
  (refine W_seq_gen fun N hN => ?_); simp (disch := first | omega | (simp only [List.length_cons, List.length_nil, List.length_append, u8s_len]; omega)) only [go_sem, ↓reduceIte, true_and, Nat.reduceLeDiff, Nat.reduceEqDiff, Nat.reduceAdd, Nat.reduceBEq, Int.reduceEq, H.cv_3_57, H.cv_5_3, H.cv_57_3]
  refine hN _ ?_; clear hN N
  (refine W_seq_gen fun M hM => ?_)
  simp (disch := first | omega | (simp only [List.length_cons, List.length_nil, List.length_append, u8s_len]; omega)) only [go_sem, ↓reduceIte, true_and, Nat.reduceLeDiff, Nat.reduceEqDiff, Nat.reduceAdd, Nat.reduceBEq, Int.reduceEq, H.cv_3_57, H.cv_5_3, H.cv_57_3, vl, e1]
  refine AW_loopN (fun n t h' => h' = h ∧ ∃ i, n = l.length - i ∧ i ≤ l.length ∧ t 0 = v ∧ t 1 = .fn 26 [] [.op ob 0] ∧ t 7 = .sc (.int .i64 (l.length : Nat)) ∧ t 8 = .sc (.int .i64 (i : Nat)) ∧ ∀ (j : Nat) (hj : j < l.length), j < i → l[j].1 ≠ k)
    (n := l.length) ⟨rfl, 0, rfl, Nat.zero_le _, rfl, rfl, rfl, rfl, fun j hj h => by omega⟩ ?_
  rintro n t h' ⟨rfl, i, rfl, hi, t0, t1, t7, t8, hno⟩
  rcases Nat.lt_or_ge i l.length with hlt | hge
  · obtain ⟨p, p1, p2, p3⟩ := hv.dis.at (prs_get hlt) prs_disc rfl
    (refine W_seq_gen fun N hN => ?_); simp (disch := first | omega | (simp only [List.length_cons, List.length_nil, List.length_append, u8s_len]; omega)) only [go_sem, ↓reduceIte, true_and, Nat.reduceLeDiff, Nat.reduceEqDiff, Nat.reduceAdd, Nat.reduceBEq, Int.reduceEq, H.cv_3_57, H.cv_5_3, H.cv_57_3, t7, t8, hlt]
    refine hN _ ?_; clear hN N
    (refine W_seq_gen fun N hN => ?_); simp (disch := first | omega | (simp only [List.length_cons, List.length_nil, List.length_append, u8s_len]; omega)) only [go_sem, ↓reduceIte, true_and, Nat.reduceLeDiff, Nat.reduceEqDiff, Nat.reduceAdd, Nat.reduceBEq, Int.reduceEq, H.cv_3_57, H.cv_5_3, H.cv_57_3]
    refine hN _ ?_; clear hN N
    (refine W_seq_gen fun N hN => ?_)
    rw [W_block]
    (refine W_seq_gen fun N hN => ?_); simp (disch := first | omega | (simp only [List.length_cons, List.length_nil, List.length_append, u8s_len]; omega)) only [go_sem, ↓reduceIte, true_and, Nat.reduceLeDiff, Nat.reduceEqDiff, Nat.reduceAdd, Nat.reduceBEq, Int.reduceEq, H.cv_3_57, H.cv_5_3, H.cv_57_3, t8]
    refine hN _ ?_; clear hN N
    simp (disch := first | omega | (simp only [List.length_cons, List.length_nil, List.length_append, u8s_len]; omega)) only [go_sem, ↓reduceIte, true_and, Nat.reduceLeDiff, Nat.reduceEqDiff, Nat.reduceAdd, Nat.reduceBEq, Int.reduceEq, H.cv_3_57, H.cv_5_3, H.cv_57_3, t0, t1, p1, p2, p3]
    refine (clo_ok H l[i] hob).mono ?_
    rintro _ h' ⟨rfl, rfl⟩
    by_cases c : l[i].1 = k
    · have d : decide (l[i].1 = k) = true := decide_eq_true c
      rw [contK_some]; simp (disch := first | omega | (simp only [List.length_cons, List.length_nil, List.length_append, u8s_len]; omega)) only [go_sem, ↓reduceIte, true_and, Nat.reduceLeDiff, Nat.reduceEqDiff, Nat.reduceAdd, Nat.reduceBEq, Int.reduceEq, H.cv_3_57, H.cv_5_3, H.cv_57_3, d]
      have hf : firstI l k = (i : Nat) := by
        rcases firstI_cases l k with ⟨h1, h2⟩ | ⟨i', hi', h1, h2, h3⟩
        · exact absurd c (h2 _ (List.getElem_mem _))
        · rw [h1]
          rcases Nat.lt_trichotomy i i' with q | q | q
          · exact absurd c (h3 i hlt q)
          · rw [q]
          · exact absurd h2 (hno i' hi' q)
      rw [hf]
    · have d : decide (l[i].1 = k) = false := decide_eq_false c
      rw [contK_some]; simp (disch := first | omega | (simp only [List.length_cons, List.length_nil, List.length_append, u8s_len]; omega)) only [go_sem, ↓reduceIte, true_and, Nat.reduceLeDiff, Nat.reduceEqDiff, Nat.reduceAdd, Nat.reduceBEq, Int.reduceEq, H.cv_3_57, H.cv_5_3, H.cv_57_3, d]
      refine hN _ ?_; clear hN N
      simp (disch := first | omega | (simp only [List.length_cons, List.length_nil, List.length_append, u8s_len]; omega)) only [go_sem, ↓reduceIte, true_and, Nat.reduceLeDiff, Nat.reduceEqDiff, Nat.reduceAdd, Nat.reduceBEq, Int.reduceEq, H.cv_3_57, H.cv_5_3, H.cv_57_3, t8, nat_add]
      exact ⟨l.length - (i + 1), by omega, i + 1, rfl, by omega, by simp [upd_at, t0], by simp [upd_at, t1], by simp [upd_at, t7], by simp [upd_at], fun j hj hlt' => by
        rcases Nat.lt_or_ge j i with q | q
        · exact hno j hj q
        · obtain rfl : j = i := by omega
          exact c⟩
  · obtain rfl : i = l.length := by omega
    (refine W_seq_gen fun N hN => ?_); simp (disch := first | omega | (simp only [List.length_cons, List.length_nil, List.length_append, u8s_len]; omega)) only [go_sem, ↓reduceIte, true_and, Nat.reduceLeDiff, Nat.reduceEqDiff, Nat.reduceAdd, Nat.reduceBEq, Int.reduceEq, H.cv_3_57, H.cv_5_3, H.cv_57_3, t7, t8, Nat.lt_irrefl]
    refine hN _ ?_; clear hN N
    (refine W_seq_gen fun N hN => ?_); simp (disch := first | omega | (simp only [List.length_cons, List.length_nil, List.length_append, u8s_len]; omega)) only [go_sem, ↓reduceIte, true_and, Nat.reduceLeDiff, Nat.reduceEqDiff, Nat.reduceAdd, Nat.reduceBEq, Int.reduceEq, H.cv_3_57, H.cv_5_3, H.cv_57_3]
    refine hM _ ?_; clear hN N hM M
    have hf : firstI l k = -1 := by
      rcases firstI_cases l k with ⟨h1, _⟩ | ⟨i', hi', _, h2, _⟩
      · exact h1
      · exact absurd h2 (hno i' hi' hi')
    simp (disch := first | omega | (simp only [List.length_cons, List.length_nil, List.length_append, u8s_len]; omega)) only [go_sem, ↓reduceIte, true_and, Nat.reduceLeDiff, Nat.reduceEqDiff, Nat.reduceAdd, Nat.reduceBEq, Int.reduceEq, H.cv_3_57, H.cv_5_3, H.cv_57_3]
    rw [hf]
theorem del_ok {l : List Pr} {k : ByteArray} {o ob cap : Nat} {z : List AV} {h : Heap} (hob : h ob = some (.arr [.sc (.string k)])) (hne : ob ≠ o) (ho : h o = some (.arr ((prs l).flatten ++ z))) (hl : l.length < 2 ^ 60) :
    AWF P ann 0 25 [.rs o 0 2 l.length (some cap), .fn 26 [] [.op ob 0]] h fun r h' => DelR o h h' (dropS l k) r := by
  refine AWF.fnc H.f0_25 rfl ?_
  have e1 := @prs_len l
  (refine W_seq_gen fun N hN => ?_); simp (disch := first | omega | (simp only [List.length_cons, List.length_nil, List.length_append, u8s_len]; omega)) only [go_sem, ↓reduceIte, true_and, Nat.reduceLeDiff, Nat.reduceEqDiff, Nat.reduceAdd, Nat.reduceBEq, Int.reduceEq, H.cv_3_57, H.cv_5_3, H.cv_57_3]
  refine hN _ ?_; clear hN N
  refine W_forget (fun t => t 0 = .rs o 0 2 l.length (some cap) ∧ t 1 = .fn 26 [] [.op ob 0] ∧ True) (by simp [upd_at, *] <;> (first | rfl | exact ⟨rfl, rfl⟩ | exact ⟨rfl, rfl, rfl⟩ | exact ⟨rfl, rfl, rfl, rfl⟩ | exact ⟨rfl, rfl, rfl, rfl, rfl⟩)) ?_; rintro t ⟨t0, t1, -⟩
  (refine W_seq_gen fun N hN => ?_); simp (disch := first | omega | (simp only [List.length_cons, List.length_nil, List.length_append, u8s_len]; omega)) only [go_sem, ↓reduceIte, true_and, Nat.reduceLeDiff, Nat.reduceEqDiff, Nat.reduceAdd, Nat.reduceBEq, Int.reduceEq, H.cv_3_57, H.cv_5_3, H.cv_57_3, t0, t1]
  refine (idx_ok H hob (rs_rd ho rfl) hl).mono ?_
  rintro _ h ⟨rfl, rfl⟩
  rcases firstI_cases l k with ⟨hf, hno⟩ | ⟨i0, hi0, hf, hk0, hno⟩
  · rw [hf]
    rw [contK_some]; simp (disch := first | omega | (simp only [List.length_cons, List.length_nil, List.length_append, u8s_len]; omega)) only [go_sem, ↓reduceIte, true_and, Nat.reduceLeDiff, Nat.reduceEqDiff, Nat.reduceAdd, Nat.reduceBEq, Int.reduceEq, H.cv_3_57, H.cv_5_3, H.cv_57_3]
    refine hN _ ?_; clear hN N
    refine W_forget (fun t => t 0 = .rs o 0 2 l.length (some cap) ∧ t 1 = .fn 26 [] [.op ob 0] ∧ t 5 = .sc (.int .i64 (-1)) ∧ True) (by simp [upd_at, *] <;> (first | rfl | exact ⟨rfl, rfl⟩ | exact ⟨rfl, rfl, rfl⟩ | exact ⟨rfl, rfl, rfl, rfl⟩ | exact ⟨rfl, rfl, rfl, rfl, rfl⟩)) ?_; rintro t ⟨t0, t1, t5, -⟩
    (refine W_seq_gen fun N hN => ?_); simp (disch := first | omega | (simp only [List.length_cons, List.length_nil, List.length_append, u8s_len]; omega)) only [go_sem, ↓reduceIte, true_and, Nat.reduceLeDiff, Nat.reduceEqDiff, Nat.reduceAdd, Nat.reduceBEq, Int.reduceEq, H.cv_3_57, H.cv_5_3, H.cv_57_3, t0, t5]
    have hd : dropS l k = l := List.filter_eq_self.2 fun p hp => by simp [hno p hp]
    rw [hd]
    exact ⟨_, _, rfl, fun x _ _ => rfl, ho⟩
  rw [hf]
  rw [contK_some]; simp (disch := first | omega | (simp only [List.length_cons, List.length_nil, List.length_append, u8s_len]; omega)) only [go_sem, ↓reduceIte, true_and, Nat.reduceLeDiff, Nat.reduceEqDiff, Nat.reduceAdd, Nat.reduceBEq, Int.reduceEq, H.cv_3_57, H.cv_5_3, H.cv_57_3]
  refine hN _ ?_; clear hN N
  refine W_forget (fun t => t 0 = .rs o 0 2 l.length (some cap) ∧ t 1 = .fn 26 [] [.op ob 0] ∧ t 5 = .sc (.int .i64 (i0 : Nat)) ∧ True) (by simp [upd_at, *] <;> (first | rfl | exact ⟨rfl, rfl⟩ | exact ⟨rfl, rfl, rfl⟩ | exact ⟨rfl, rfl, rfl, rfl⟩ | exact ⟨rfl, rfl, rfl, rfl, rfl⟩)) ?_; rintro t ⟨t0, t1, t5, -⟩
  have b1 : (((i0 : Nat) : Int) == -1) = false := by rw [beq_eq_false_iff_ne]; omega
  (refine W_seq_gen fun N hN => ?_); simp (disch := first | omega | (simp only [List.length_cons, List.length_nil, List.length_append, u8s_len]; omega)) only [go_sem, ↓reduceIte, true_and, Nat.reduceLeDiff, Nat.reduceEqDiff, Nat.reduceAdd, Nat.reduceBEq, Int.reduceEq, H.cv_3_57, H.cv_5_3, H.cv_57_3, t5, b1]
  refine hN _ ?_; clear hN N
  refine W_forget (fun t => t 0 = .rs o 0 2 l.length (some cap) ∧ t 1 = .fn 26 [] [.op ob 0] ∧ t 5 = .sc (.int .i64 (i0 : Nat)) ∧ True) (by simp [upd_at, *] <;> (first | rfl | exact ⟨rfl, rfl⟩ | exact ⟨rfl, rfl, rfl⟩ | exact ⟨rfl, rfl, rfl, rfl⟩ | exact ⟨rfl, rfl, rfl, rfl, rfl⟩)) ?_; rintro t ⟨t0, t1, t5, -⟩
  (refine W_seq_gen fun M hM => ?_)
  simp (disch := first | omega | (simp only [List.length_cons, List.length_nil, List.length_append, u8s_len]; omega)) only [go_sem, ↓reduceIte, true_and, Nat.reduceLeDiff, Nat.reduceEqDiff, Nat.reduceAdd, Nat.reduceBEq, Int.reduceEq, H.cv_3_57, H.cv_5_3, H.cv_57_3, t5, nat_add]
  refine AW_loopN (fun n t h' => ∃ i j q, n = l.length - j ∧ j ≤ l.length ∧ i < j ∧ t 0 = .rs o 0 2 l.length (some cap) ∧ t 1 = .fn 26 [] [.op ob 0] ∧ t 5 = .sc (.int .i64 (i : Nat)) ∧ t 6 = .sc (.int .i64 (j : Nat)) ∧
      q.length = l.length ∧ q.take i = dropS (l.take j) k ∧ q.drop j = l.drop j ∧ (∀ x, x ≠ o → h x ≠ none → h' x = h x) ∧ h' o = some (.arr ((prs q).flatten ++ z)))
    (n := l.length - (i0 + 1)) ⟨i0, i0 + 1, l, rfl, by omega, by omega, by simp [upd_at, t0], by simp [upd_at, t1], by simp [upd_at, t5], by simp [upd_at], rfl, ?_, rfl, fun x _ _ => rfl, ho⟩ ?_
  · rw [dropS, List.take_add_one, List.filter_append, List.filter_eq_self.2]
    · simp [hi0, hk0]
    · intro p hp
      obtain ⟨j, hj, rfl⟩ := List.getElem_of_mem hp
      rw [List.length_take] at hj
      rw [List.getElem_take]
      simp [hno j (by omega) (by omega)]
  clear t0 t1 t5
  rintro n t h' ⟨i, j, q, rfl, hj, hij, t0, t1, t5, t6, hq, hqi, hqj, hk, ho'⟩
  have hrd : RD h' 2 (.rs o 0 2 l.length (some cap)) (prs q) := rs_rd ho' (by omega)
  have len := fun t => hrd.len (t := t)
  rw [prs_len, hq] at len
  rcases Nat.lt_or_ge j l.length with hlt | hge
  · have hlq : j < q.length := by omega
    obtain ⟨p, p1, p2, p3⟩ := hrd.at (prs_get hlq) prs_disc rfl
    have hqe : q[j] = l[j] := by
      have h1 : (q.drop j)[0]? = (l.drop j)[0]? := by rw [hqj]
      simp only [List.getElem?_drop, Nat.add_zero, List.getElem?_eq_getElem hlq, List.getElem?_eq_getElem hlt, Option.some.injEq] at h1
      exact h1
    rw [hqe] at p3
    (refine W_seq_gen fun N hN => ?_); simp (disch := first | omega | (simp only [List.length_cons, List.length_nil, List.length_append, u8s_len]; omega)) only [go_sem, ↓reduceIte, true_and, Nat.reduceLeDiff, Nat.reduceEqDiff, Nat.reduceAdd, Nat.reduceBEq, Int.reduceEq, H.cv_3_57, H.cv_5_3, H.cv_57_3, t0, t6, len, hlt]
    refine hN _ ?_; clear hN N
    (refine W_seq_gen fun N hN => ?_)
    rw [W_block]
    (refine W_seq_gen fun N hN => ?_); simp (disch := first | omega | (simp only [List.length_cons, List.length_nil, List.length_append, u8s_len]; omega)) only [go_sem, ↓reduceIte, true_and, Nat.reduceLeDiff, Nat.reduceEqDiff, Nat.reduceAdd, Nat.reduceBEq, Int.reduceEq, H.cv_3_57, H.cv_5_3, H.cv_57_3, t0, t6, p1, p2, p3]
    intro o7 h7
    have hO := OB.nil (h := h')
    refine hN _ ?_; clear hN N; refine W_ob (hO.new h7) fun hc hO => ?_
    refine W_forget (fun t => t 0 = .rs o 0 2 l.length (some cap) ∧ t 1 = .fn 26 [] [.op ob 0] ∧ t 5 = .sc (.int .i64 (i : Nat)) ∧ t 6 = .sc (.int .i64 (j : Nat)) ∧ t 7 = .op o7 0 ∧ True) (by simp [upd_at, *] <;> (first | rfl | exact ⟨rfl, rfl⟩ | exact ⟨rfl, rfl, rfl⟩ | exact ⟨rfl, rfl, rfl, rfl⟩ | exact ⟨rfl, rfl, rfl, rfl, rfl⟩)) ?_; rintro t ⟨t0, t1, t5, t6, t7, -⟩
    have hob' : h' ob = some (.arr [.sc (.string k)]) := by rw [hk ob hne (by rw [hob]; simp), hob]
    have hobc := hO.live hob'
    have hoc := hO.live ho'
    have no' : h' o ≠ none := by rw [ho']; simp
    have tk : l.take (j + 1) = l.take j ++ [l[j]] := by rw [List.take_add_one]; simp [hlt]
    by_cases c : l[j].1 = k
    · have d : decide (l[j].1 = k) = true := decide_eq_true c
      simp (disch := first | omega | (simp only [List.length_cons, List.length_nil, List.length_append, u8s_len]; omega)) only [go_sem, ↓reduceIte, true_and, Nat.reduceLeDiff, Nat.reduceEqDiff, Nat.reduceAdd, Nat.reduceBEq, Int.reduceEq, H.cv_3_57, H.cv_5_3, H.cv_57_3, t1, t7, hO.get0]
      refine (clo_ok H l[j] hobc).mono ?_
      rintro _ hc ⟨rfl, rfl⟩
      rw [contK_some]; simp (disch := first | omega | (simp only [List.length_cons, List.length_nil, List.length_append, u8s_len]; omega)) only [go_sem, ↓reduceIte, true_and, Nat.reduceLeDiff, Nat.reduceEqDiff, Nat.reduceAdd, Nat.reduceBEq, Int.reduceEq, H.cv_3_57, H.cv_5_3, H.cv_57_3, d]
      refine hN _ ?_; clear hN N
      simp (disch := first | omega | (simp only [List.length_cons, List.length_nil, List.length_append, u8s_len]; omega)) only [go_sem, ↓reduceIte, true_and, Nat.reduceLeDiff, Nat.reduceEqDiff, Nat.reduceAdd, Nat.reduceBEq, Int.reduceEq, H.cv_3_57, H.cv_5_3, H.cv_57_3, t6, nat_add]
      refine ⟨l.length - (j + 1), by omega, i, j + 1, q, rfl, by omega, by omega, by simp [upd_at, t0], by simp [upd_at, t1], by simp [upd_at, t5], by simp [upd_at], hq, ?_, ?_, fun x hx hl' => ?_, hoc⟩
      · rw [hqi, dropS, dropS, tk, List.filter_append]; simp [c]
      · rw [← List.drop_drop, hqj, List.drop_drop]
      · rw [hO.keep x (by rw [hk x hx hl']; exact hl'), hk x hx hl']
    · have d : decide (l[j].1 = k) = false := decide_eq_false c
      simp (disch := first | omega | (simp only [List.length_cons, List.length_nil, List.length_append, u8s_len]; omega)) only [go_sem, ↓reduceIte, true_and, Nat.reduceLeDiff, Nat.reduceEqDiff, Nat.reduceAdd, Nat.reduceBEq, Int.reduceEq, H.cv_3_57, H.cv_5_3, H.cv_57_3, t1, t7, hO.get0]
      refine (clo_ok H l[j] hobc).mono ?_
      rintro _ hc ⟨rfl, rfl⟩
      have iad : ∀ t, aexIad 2 ((i : Nat) : Int) t hc (.rs o 0 2 l.length (some cap)) = some (.val (.op o (i * 2)) t hc) := fun t => by
        have : (2 = 2 ∧ (0 : Int) ≤ (i : Int) ∧ (i : Int) < l.length) := ⟨rfl, by omega, by omega⟩
        simp only [aexIad, this, and_self, if_true, Int.toNat_natCast, Nat.zero_add]
      have hlen : i * 2 + 2 ≤ ((prs q).flatten ++ z).length := by rw [List.length_append, flat_len]; omega
      have hset := flat_set q z i (by omega) l[j]
      rw [contK_some]; simp (disch := first | omega | (simp only [List.length_cons, List.length_nil, List.length_append, u8s_len]; omega)) only [go_sem, ↓reduceIte, true_and, Nat.reduceLeDiff, Nat.reduceEqDiff, Nat.reduceAdd, Nat.reduceBEq, Int.reduceEq, H.cv_3_57, H.cv_5_3, H.cv_57_3, d, t0, t5, t7, hO.get0, iad, hoc, hlen, hset]
      refine hN _ ?_; clear hN N
      simp (disch := first | omega | (simp only [List.length_cons, List.length_nil, List.length_append, u8s_len]; omega)) only [go_sem, ↓reduceIte, true_and, Nat.reduceLeDiff, Nat.reduceEqDiff, Nat.reduceAdd, Nat.reduceBEq, Int.reduceEq, H.cv_3_57, H.cv_5_3, H.cv_57_3, t6, nat_add]
      refine ⟨l.length - (j + 1), by omega, i + 1, j + 1, q.set i l[j], rfl, by omega, by omega, by simp [upd_at, t0], by simp [upd_at, t1], by simp [upd_at], by simp [upd_at], by simp [hq], ?_, ?_, fun x hx hl' => ?_, by simp [upd]⟩
      · rw [dropS, tk, List.filter_append, List.take_add_one, List.take_set_of_le (Nat.le_refl i), hqi, dropS]
        have : i < q.length := by omega
        simp [c, this]
      · rw [List.drop_set_of_lt (by omega), ← List.drop_drop, hqj, List.drop_drop]
      · simp only [if_neg hx]
        rw [hO.keep x (by rw [hk x hx hl']; exact hl'), hk x hx hl']
  · obtain rfl : j = l.length := by omega
    rw [List.take_length] at hqi
    have hdl : (dropS l k).length = i := by rw [← hqi, List.length_take]; omega
    (refine W_seq_gen fun N hN => ?_); simp (disch := first | omega | (simp only [List.length_cons, List.length_nil, List.length_append, u8s_len]; omega)) only [go_sem, ↓reduceIte, true_and, Nat.reduceLeDiff, Nat.reduceEqDiff, Nat.reduceAdd, Nat.reduceBEq, Int.reduceEq, H.cv_3_57, H.cv_5_3, H.cv_57_3, t0, t6, len, Nat.lt_irrefl]
    refine hM _ ?_; clear hN N hM M
    have s1 : ∀ t h, aexSlc 2 t h (some (.sc (.int .i64 ((i : Nat) : Int)))) none none (.rs o 0 2 l.length (some cap)) = some (.val (.rs o (i * 2) 2 (l.length - i) (some (cap - i))) t h) := fun t h => by
      have hb : bounds l.length (some (.sc (.int .i64 ((i : Nat) : Int)))) none = some (i, l.length) := bounds_ok (.inr ⟨_, rfl⟩) (.inl ⟨rfl, rfl⟩) (by omega) (Nat.le_refl _)
      simp only [aexSlc, hb, ne_eq, not_true_eq_false, if_false, Option.bind_some, Option.map_some, Nat.zero_add]
    have s2 : ∀ t h, aexSlc 2 t h none (some (.sc (.int .i64 ((i : Nat) : Int)))) none (.rs o 0 2 l.length (some cap)) = some (.val (.rs o 0 2 i (some cap)) t h) := fun t h => by
      have hb : bounds l.length none (some (.sc (.int .i64 ((i : Nat) : Int)))) = some (0, i) := bounds_ok (.inl ⟨rfl, rfl⟩) (.inr ⟨_, rfl⟩) (by omega) (by omega)
      simp only [aexSlc, hb, ne_eq, not_true_eq_false, if_false, Option.bind_some, Option.map_some, Nat.zero_add, Nat.zero_mul, Nat.sub_zero]
    have cl : ∀ t, aexClr 2 [.sc (.string ⟨#[]⟩), .sc (.string ⟨#[]⟩)] t h' (.rs o (i * 2) 2 (l.length - i) (some (cap - i))) = some (.val (.tu []) t (upd h' o (some (.arr ((prs (dropS l k)).flatten ++ ((List.replicate (l.length - i) [.sc (.string ⟨#[]⟩), .sc (.string ⟨#[]⟩)]).flatten ++ ((prs q).flatten ++ z).drop (i * 2 + (List.replicate (l.length - i) [AV.sc (.string ⟨#[]⟩), .sc (.string ⟨#[]⟩)]).flatten.length)))))) ) := fun t => by
      have h1 : i * 2 + (l.length - i) * 2 ≤ ((prs q).flatten ++ z).length := by rw [List.length_append, flat_len]; omega
      have h2 : ((prs q).flatten ++ z).take (i * 2) = (prs (dropS l k)).flatten := by
        have e : (prs q).flatten = (prs (q.take i)).flatten ++ (prs (q.drop i)).flatten := by rw [← List.flatten_append, prs_app, List.take_append_drop]
        rw [e, List.append_assoc, ← hqi, List.take_left']
        rw [flat_len, List.length_take]
        omega
      simp only [aexClr, ho', true_and, if_pos h1, setRange, h2, List.append_assoc]
    (refine W_seq_gen fun N hN => ?_); simp (disch := first | omega | (simp only [List.length_cons, List.length_nil, List.length_append, u8s_len]; omega)) only [go_sem, ↓reduceIte, true_and, Nat.reduceLeDiff, Nat.reduceEqDiff, Nat.reduceAdd, Nat.reduceBEq, Int.reduceEq, H.cv_3_57, H.cv_5_3, H.cv_57_3, t0, t5, s1, cl]
    refine hN _ ?_; clear hN N
    simp (disch := first | omega | (simp only [List.length_cons, List.length_nil, List.length_append, u8s_len]; omega)) only [go_sem, ↓reduceIte, true_and, Nat.reduceLeDiff, Nat.reduceEqDiff, Nat.reduceAdd, Nat.reduceBEq, Int.reduceEq, H.cv_3_57, H.cv_5_3, H.cv_57_3, t0, t5, s2]
    refine ⟨some cap, _, by rw [hdl], fun x hx hl' => ?_, if_pos rfl⟩
    rw [upd_ne _ _ hx, hk x hx hl']
theorem del_nil {v : AV} {k : ByteArray} {ob : Nat} {h : Heap} (hob : h ob = some (.arr [.sc (.string k)])) (hv : SL 2 v []) :
    AWF P ann 0 25 [v, .fn 26 [] [.op ob 0]] h fun r h' => SL 2 r [] ∧ h' = h := by
  refine AWF.fnc H.f0_25 rfl ?_
  (refine W_seq_gen fun N hN => ?_); simp (disch := first | omega | (simp only [List.length_cons, List.length_nil, List.length_append, u8s_len]; omega)) only [go_sem, ↓reduceIte, true_and, Nat.reduceLeDiff, Nat.reduceEqDiff, Nat.reduceAdd, Nat.reduceBEq, Int.reduceEq, H.cv_3_57, H.cv_5_3, H.cv_57_3]
  refine hN _ ?_; clear hN N
  refine W_forget (fun t => t 0 = v ∧ t 1 = .fn 26 [] [.op ob 0] ∧ True) (by simp [upd_at, *] <;> (first | rfl | exact ⟨rfl, rfl⟩ | exact ⟨rfl, rfl, rfl⟩ | exact ⟨rfl, rfl, rfl, rfl⟩ | exact ⟨rfl, rfl, rfl, rfl, rfl⟩)) ?_; rintro t ⟨t0, t1, -⟩
  (refine W_seq_gen fun N hN => ?_); simp (disch := first | omega | (simp only [List.length_cons, List.length_nil, List.length_append, u8s_len]; omega)) only [go_sem, ↓reduceIte, true_and, Nat.reduceLeDiff, Nat.reduceEqDiff, Nat.reduceAdd, Nat.reduceBEq, Int.reduceEq, H.cv_3_57, H.cv_5_3, H.cv_57_3, t0, t1, hv.dis.disc, hv.dd, hv.disc]
  refine (idx_ok H (l := []) hob hv.dis.rd (by simp)).mono ?_
  rintro _ h ⟨rfl, rfl⟩
  rw [contK_some]; simp (disch := first | omega | (simp only [List.length_cons, List.length_nil, List.length_append, u8s_len]; omega)) only [go_sem, ↓reduceIte, true_and, Nat.reduceLeDiff, Nat.reduceEqDiff, Nat.reduceAdd, Nat.reduceBEq, Int.reduceEq, H.cv_3_57, H.cv_5_3, H.cv_57_3, firstI]
  refine hN _ ?_; clear hN N
  refine W_forget (fun t => t 0 = v ∧ t 1 = .fn 26 [] [.op ob 0] ∧ t 5 = .sc (.int .i64 (-1)) ∧ True) (by simp [upd_at, *] <;> (first | rfl | exact ⟨rfl, rfl⟩ | exact ⟨rfl, rfl, rfl⟩ | exact ⟨rfl, rfl, rfl, rfl⟩ | exact ⟨rfl, rfl, rfl, rfl, rfl⟩)) ?_; rintro t ⟨t0, t1, t5, -⟩
  (refine W_seq_gen fun N hN => ?_); simp (disch := first | omega | (simp only [List.length_cons, List.length_nil, List.length_append, u8s_len]; omega)) only [go_sem, ↓reduceIte, true_and, Nat.reduceLeDiff, Nat.reduceEqDiff, Nat.reduceAdd, Nat.reduceBEq, Int.reduceEq, H.cv_3_57, H.cv_5_3, H.cv_57_3, t0, t5]
  exact hv
omit H in
theorem AWF.fnPureA {ann : Ann} {k f : Nat} {args : List AV} {h : Heap} {Q : AV → Prop} {np nt : Nat} {code : AC} {res : List ARes} (hc : cFn P ann k f = some ⟨np, nt, code, res⟩) (hl : args.length = np)
    (hw : AW P ann code ⟨initT args, h⟩ fun e s => (e = .ret ∨ e = .normal) ∧ (∃ v, resA res s = some v ∧ Q v) ∧ ∀ o, h o ≠ none → s.h o = h o) : AWF P ann k f args h fun v h' => Q v ∧ h' = h :=
  .mk _ hc hl hw fun e s ⟨he, ⟨v, hv, hq⟩, hh⟩ => ⟨he, v, hv, .inr ⟨hh, hq, rfl⟩⟩
include H
def DropP (ok : Bool) (m : List Pr) (r : AV) : Prop := if ok then ∃ x, r = .tu [x, errN true] ∧ SF 2 x (prs m) else r = .tu [.sc (.slice none 0 0), errN false]
theorem drop_ok {v : AV} {l : List Pr} {k : ByteArray} (hv : SF 2 v (prs l)) (hl : l.length < 2 ^ 40) (h : Heap) :
    AWF P ann 0 16 [v, .sc (.string k)] h fun r h' => DropP (Srt l) (dropS l k) r ∧ h' = h := by
  refine AWF.fnPureA H.f0_16 rfl ?_
  have hO := OB.nil (h := h)
  refine A_seq_gen fun N hN => W_sound ?_
  simp (disch := first | omega | (simp only [List.length_cons, List.length_nil, List.length_append, u8s_len]; omega)) only [go_sem, ↓reduceIte, true_and, Nat.reduceLeDiff, Nat.reduceEqDiff, Nat.reduceAdd, Nat.reduceBEq, Int.reduceEq, H.cv_3_57, H.cv_5_3, H.cv_57_3]
  intro o3 h3
  refine hN _ ?_; clear hN N
  refine A_seq_gen fun N hN => W_sound ?_
  refine W_ob (hO.new h3) fun hc hO => ?_
  refine W_forget (fun t => t 0 = v ∧ t 3 = .op o3 0 ∧ t 4 = .sc (.slice none 0 0) ∧ t 5 = .sc (.int .i64 ((0 : Nat) : Int)) ∧ True) (by simp [upd_at, *] <;> (first | rfl | exact ⟨rfl, rfl⟩ | exact ⟨rfl, rfl, rfl⟩ | exact ⟨rfl, rfl, rfl, rfl⟩ | exact ⟨rfl, rfl, rfl, rfl, rfl⟩)) ?_; rintro t ⟨t0, t3, t4, t5, -⟩
  (refine W_seq_gen fun M hM => ?_)
  simp (disch := first | omega | (simp only [List.length_cons, List.length_nil, List.length_append, u8s_len]; omega)) only [go_sem, ↓reduceIte, true_and, Nat.reduceLeDiff, Nat.reduceEqDiff, Nat.reduceAdd, Nat.reduceBEq, Int.reduceEq, H.cv_3_57, H.cv_5_3, H.cv_57_3, t0, hv.same, hv.disc]
  refine (check_ok H hv (by omega) _).mono ?_
  rintro _ h1 ⟨rfl, rfl⟩
  cases hs : Srt l with
  | false =>
    rw [contK_some]; simp (disch := first | omega | (simp only [List.length_cons, List.length_nil, List.length_append, u8s_len]; omega)) only [go_sem, ↓reduceIte, true_and, Nat.reduceLeDiff, Nat.reduceEqDiff, Nat.reduceAdd, Nat.reduceBEq, Int.reduceEq, H.cv_3_57, H.cv_5_3, H.cv_57_3, errN]
    refine hM _ ?_; clear hM M
    simp (disch := first | omega | (simp only [List.length_cons, List.length_nil, List.length_append, u8s_len]; omega)) only [go_sem, ↓reduceIte, true_and, Nat.reduceLeDiff, Nat.reduceEqDiff, Nat.reduceAdd, Nat.reduceBEq, Int.reduceEq, H.cv_3_57, H.cv_5_3, H.cv_57_3]
    exact ⟨by rw [DropP, hs]; rfl, hO.keep⟩
  | true =>
    rw [contK_some]; simp (disch := first | omega | (simp only [List.length_cons, List.length_nil, List.length_append, u8s_len]; omega)) only [go_sem, ↓reduceIte, true_and, Nat.reduceLeDiff, Nat.reduceEqDiff, Nat.reduceAdd, Nat.reduceBEq, Int.reduceEq, H.cv_3_57, H.cv_5_3, H.cv_57_3, errN]
    refine hM _ ?_; clear hM M
    simp (disch := first | omega | (simp only [List.length_cons, List.length_nil, List.length_append, u8s_len]; omega)) only [go_sem, ↓reduceIte, true_and, Nat.reduceLeDiff, Nat.reduceEqDiff, Nat.reduceAdd, Nat.reduceBEq, Int.reduceEq, H.cv_3_57, H.cv_5_3, H.cv_57_3]
    refine hN _ ?_; clear hN N
    refine A_seq_gen fun N hN => W_sound ?_
    refine W_forget (fun t => t 0 = v ∧ t 3 = .op o3 0 ∧ True) ⟨by simp [upd_at, t0], by simp [upd_at, t3], trivial⟩ ?_
    clear t0 t3 t4 t5
    rintro t ⟨t0, t3, -⟩
    simp (disch := first | omega | (simp only [List.length_cons, List.length_nil, List.length_append, u8s_len]; omega)) only [go_sem, ↓reduceIte, true_and, Nat.reduceLeDiff, Nat.reduceEqDiff, Nat.reduceAdd, Nat.reduceBEq, Int.reduceEq, H.cv_3_57, H.cv_5_3, H.cv_57_3, t0, hv.same, hv.disc]
    refine (clone1_ok H hv hl _).mono ?_
    rintro r h1 (⟨hr, rfl, rfl⟩ | ⟨o, cap, z, ho, rfl, hle, hz, rfl⟩)
    · have hsl : SL 2 r [] := by rcases hr with rfl | rfl; exact SL.nil; exact SL.bs
      rw [contK_some]; simp (disch := first | omega | (simp only [List.length_cons, List.length_nil, List.length_append, u8s_len]; omega)) only [go_sem, ↓reduceIte, true_and, Nat.reduceLeDiff, Nat.reduceEqDiff, Nat.reduceAdd, Nat.reduceBEq, Int.reduceEq, H.cv_3_57, H.cv_5_3, H.cv_57_3, t3, hsl.dis.disc, hsl.dd, hsl.disc]
      refine (del_nil H hO.get0 hsl).mono ?_
      rintro r h1 ⟨hr, rfl⟩
      rw [contK_some]; simp (disch := first | omega | (simp only [List.length_cons, List.length_nil, List.length_append, u8s_len]; omega)) only [go_sem, ↓reduceIte, true_and, Nat.reduceLeDiff, Nat.reduceEqDiff, Nat.reduceAdd, Nat.reduceBEq, Int.reduceEq, H.cv_3_57, H.cv_5_3, H.cv_57_3, hr.dis.disc, hr.dd, hr.disc]
      refine hN _ ?_; clear hN N
      refine W_sound ?_
      simp (disch := first | omega | (simp only [List.length_cons, List.length_nil, List.length_append, u8s_len]; omega)) only [go_sem, ↓reduceIte, true_and, Nat.reduceLeDiff, Nat.reduceEqDiff, Nat.reduceAdd, Nat.reduceBEq, Int.reduceEq, H.cv_3_57, H.cv_5_3, H.cv_57_3, hr.dis.disc, hr.dd, hr.disc]
      exact ⟨⟨_, rfl, hr.df⟩, hO.keep⟩
    · have n3 : o3 ≠ o := fun e => by have := hO.get0; rw [e, ho] at this; cases this
      have hO2 := hO.new ho (X := .arr ((prs l).flatten ++ z))
      rw [contK_some]; simp (disch := first | omega | (simp only [List.length_cons, List.length_nil, List.length_append, u8s_len]; omega)) only [go_sem, ↓reduceIte, true_and, Nat.reduceLeDiff, Nat.reduceEqDiff, Nat.reduceAdd, Nat.reduceBEq, Int.reduceEq, H.cv_3_57, H.cv_5_3, H.cv_57_3, t3]
      refine (del_ok H (k := k) hO2.get1 n3 hO2.get0 (by omega)).mono ?_
      rintro _ h2 ⟨lim, z', rfl, hk, h2o⟩
      have hO3 := hO2.hear0 hk h2o
      rw [contK_some]; simp (disch := first | omega | (simp only [List.length_cons, List.length_nil, List.length_append, u8s_len]; omega)) only [go_sem, ↓reduceIte, true_and, Nat.reduceLeDiff, Nat.reduceEqDiff, Nat.reduceAdd, Nat.reduceBEq, Int.reduceEq, H.cv_3_57, H.cv_5_3, H.cv_57_3]
      refine hN _ ?_; clear hN N
      have hlen : 0 + (dropS l k).length * 2 ≤ ((prs (dropS l k)).flatten ++ z').length := by rw [List.length_append, flat_len]; omega
      refine .ghost (.slot (i := 4) (o := o) (c := 0) (sz := 2) (n := (dropS l k).length) (lim := lim) false (by simp [upd_at]) h2o hlen (fun q => by cases q)) (W_sound ?_)
      simp (disch := first | omega | (simp only [List.length_cons, List.length_nil, List.length_append, u8s_len]; omega)) only [go_sem, ↓reduceIte, true_and, Nat.reduceLeDiff, Nat.reduceEqDiff, Nat.reduceAdd, Nat.reduceBEq, Int.reduceEq, H.cv_3_57, H.cv_5_3, H.cv_57_3]
      refine ⟨?_, fun x hx => ?_⟩
      · rw [DropP, hs, if_pos rfl]
        refine ⟨_, rfl, ?_⟩
        simp only [List.drop_zero, List.map_append, flatP_eq, chunks_flat]
        exact SF.bs
      · have : x ≠ o := fun e => hx (by rw [e]; exact hO3.own0)
        rw [if_neg this]
        exact hO3.keep x hx
end Go.Proofs.Ytmdkgaljnoookaa
