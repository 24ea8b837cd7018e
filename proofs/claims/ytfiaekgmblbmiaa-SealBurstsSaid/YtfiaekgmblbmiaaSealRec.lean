/- Records, and rows of them. -/
import Derived.Test.YtfiaekgmblbmiaaSealPure
set_option linter.unusedVariables false
set_option linter.unusedSimpArgs false
namespace Go.Proofs.Ytfiaekgmblbmiaa
open Go.Am

def i64 (n : Int) : AV := .sc (.int .i64 n)
/-- A sealed record. -/
def recS (b : List UInt8) : List UInt8 := three b.length ++ three (sumS (three b.length)).toNat ++ b ++ three (sumS b).toNat

theorem three_len (n : Nat) : (three n).length = 3 := rfl
theorem sum_lt (l : List UInt8) : (sumS l).toNat < 2 ^ 24 := (sumS l).isLt

variable {P : Program} (H : Has P)
include H

theorem awake_ok (h : Heap) : AWF P ann 0 8 [] h fun v h' => v = .sc (.bool true) ∧ h' = h := by
  refine AWF.fn H.f0_8 rfl ?_
  simp (disch := first | omega | (simp only [List.length_cons, List.length_nil, List.length_append, u8s_len]; omega)) only [code0_8, go_sem, ↓reduceIte, Nat.reduceEqDiff, Nat.reduceAdd, Nat.reduceBEq, Int.reduceEq, H.cv_3_29, H.cv_3_34, H.cv_5_3, H.cv_5_29, H.cv_29_3, H.cv_29_5, H.cv_33_3]
  refine (sum_ok H (l := [49, 50, 51, 52, 53, 54, 55, 56, 57]) SL.bs (by simp) h).mono ?_
  rintro _ _ ⟨rfl, hh⟩; subst hh
  have e : sumS [49, 50, 51, 52, 53, 54, 55, 56, 57] = 0x21CF02#24 := by decide +kernel
  rw [e]
  rw [contK_some]; simp (disch := first | omega | (simp only [List.length_cons, List.length_nil, List.length_append, u8s_len]; omega)) only [go_sem, ↓reduceIte, Nat.reduceEqDiff, Nat.reduceAdd, Nat.reduceBEq, Int.reduceEq, H.cv_3_29, H.cv_3_34, H.cv_5_3, H.cv_5_29, H.cv_29_3, H.cv_29_5, H.cv_33_3, u32]
  rfl

theorem record_long {v : AV} {l : List UInt8} (hv : SL 1 v (u8s l)) (hl : l.length < 2 ^ 60) (hL : 16384 < l.length) (h : Heap) : AWF P ann 0 9 [v] h fun r h' => r = .tu [.sc (.slice none 0 0), .sc (.int .i64 (3 : Nat))] ∧ h' = h := by
  refine AWF.fn H.f0_9 rfl ?_
  have hlen := @u8s_len l
  have hq : 16384 < l.length := by omega
  simp (disch := first | omega | (simp only [List.length_cons, List.length_nil, List.length_append, u8s_len]; omega)) only [code0_9, go_sem, ↓reduceIte, Nat.reduceEqDiff, Nat.reduceAdd, Nat.reduceBEq, Int.reduceEq, H.cv_3_29, H.cv_3_34, H.cv_5_3, H.cv_5_29, H.cv_29_3, H.cv_29_5, H.cv_33_3, hv.dis.len, hlen, hq]

theorem record_ok {v : AV} {l : List UInt8} (hv : SL 1 v (u8s l)) (hl : l.length ≤ 16384) (h : Heap) : AWF P ann 0 9 [v] h fun r h' => (∃ x, r = .tu [x, .sc (.int .i64 (0 : Nat))] ∧ SF 1 x (u8s (recS l))) ∧ h' = h := by
  refine AWF.fnc H.f0_9 rfl ?_
  have hlen := @u8s_len l
  have hq : ¬ 16384 < l.length := by omega
  (refine W_seq_gen fun N hN => ?_); simp (disch := first | omega | (simp only [List.length_cons, List.length_nil, List.length_append, u8s_len]; omega)) only [go_sem, ↓reduceIte, Nat.reduceEqDiff, Nat.reduceAdd, Nat.reduceBEq, Int.reduceEq, H.cv_3_29, H.cv_3_34, H.cv_5_3, H.cv_5_29, H.cv_29_3, H.cv_29_5, H.cv_33_3]
  refine hN _ ?_; clear hN N
  (refine W_seq_gen fun N hN => ?_); simp (disch := first | omega | (simp only [List.length_cons, List.length_nil, List.length_append, u8s_len]; omega)) only [go_sem, ↓reduceIte, Nat.reduceEqDiff, Nat.reduceAdd, Nat.reduceBEq, Int.reduceEq, H.cv_3_29, H.cv_3_34, H.cv_5_3, H.cv_5_29, H.cv_29_3, H.cv_29_5, H.cv_33_3, hv.dis.len, hlen, hq]
  refine hN _ ?_; clear hN N
  (refine W_seq_gen fun N hN => ?_); simp (disch := first | omega | (simp only [List.length_cons, List.length_nil, List.length_append, u8s_len]; omega)) only [go_sem, ↓reduceIte, Nat.reduceEqDiff, Nat.reduceAdd, Nat.reduceBEq, Int.reduceEq, H.cv_3_29, H.cv_3_34, H.cv_5_3, H.cv_5_29, H.cv_29_3, H.cv_29_5, H.cv_33_3, hv.dis.len, hlen, wrap_u32u]
  refine (put_ok H SG.nil (l := []) (by simp) l.length (by omega) h).mono ?_
  rintro _ _ ⟨rfl, hh⟩; subst hh
  have h1 : SG 1 (catV 1 (u8s (three l.length)) (.sc (.slice none 0 0))) (u8s (three l.length)) := SG.nil.cat _
  generalize catV 1 (u8s (three l.length)) (.sc (.slice none 0 0)) = a at h1
  rw [contK_some]; simp (disch := first | omega | (simp only [List.length_cons, List.length_nil, List.length_append, u8s_len]; omega)) only [go_sem, ↓reduceIte, Nat.reduceEqDiff, Nat.reduceAdd, Nat.reduceBEq, Int.reduceEq, H.cv_3_29, H.cv_3_34, H.cv_5_3, H.cv_5_29, H.cv_29_3, H.cv_29_5, H.cv_33_3]
  refine hN _ ?_; clear hN N
  have hs := sum_lt (three l.length)
  (refine W_seq_gen fun N hN => ?_); simp (disch := first | omega | (simp only [List.length_cons, List.length_nil, List.length_append, u8s_len]; omega)) only [go_sem, ↓reduceIte, Nat.reduceEqDiff, Nat.reduceAdd, Nat.reduceBEq, Int.reduceEq, H.cv_3_29, H.cv_3_34, H.cv_5_3, H.cv_5_29, H.cv_29_3, H.cv_29_5, H.cv_33_3]
  refine (sum_ok H h1.sl.dis (by simp [three_len]) _).mono ?_
  rintro _ _ ⟨rfl, hh⟩; subst hh
  rw [contK_some]; simp (disch := first | omega | (simp only [List.length_cons, List.length_nil, List.length_append, u8s_len]; omega)) only [go_sem, ↓reduceIte, Nat.reduceEqDiff, Nat.reduceAdd, Nat.reduceBEq, Int.reduceEq, H.cv_3_29, H.cv_3_34, H.cv_5_3, H.cv_5_29, H.cv_29_3, H.cv_29_5, H.cv_33_3, u32]
  refine (put_ok H h1 (by simp [three_len]) _ hs _).mono ?_
  rintro _ _ ⟨rfl, hh⟩; subst hh
  have h2 := h1.cat (u8s (three (sumS (three l.length)).toNat))
  generalize catV 1 _ a = b at h2
  rw [contK_some]; simp (disch := first | omega | (simp only [List.length_cons, List.length_nil, List.length_append, u8s_len]; omega)) only [go_sem, ↓reduceIte, Nat.reduceEqDiff, Nat.reduceAdd, Nat.reduceBEq, Int.reduceEq, H.cv_3_29, H.cv_3_34, H.cv_5_3, H.cv_5_29, H.cv_29_3, H.cv_29_5, H.cv_33_3, hv.dis.elems, h2.app (bytes := 1) (ys := u8s l) (by simp [u8s_len, three_len]; omega)]
  refine hN _ ?_; clear hN N
  have h3 := h2.cat (u8s l)
  generalize catV 1 (u8s l) b = c at h3
  have hs := sum_lt l
  rw [u8s_app, u8s_app] at h3
  (refine W_seq_gen fun N hN => ?_); simp (disch := first | omega | (simp only [List.length_cons, List.length_nil, List.length_append, u8s_len]; omega)) only [go_sem, ↓reduceIte, Nat.reduceEqDiff, Nat.reduceAdd, Nat.reduceBEq, Int.reduceEq, H.cv_3_29, H.cv_3_34, H.cv_5_3, H.cv_5_29, H.cv_29_3, H.cv_29_5, H.cv_33_3]
  refine (sum_ok H hv.dis (by omega) _).mono ?_
  rintro _ _ ⟨rfl, hh⟩; subst hh
  rw [contK_some]; simp (disch := first | omega | (simp only [List.length_cons, List.length_nil, List.length_append, u8s_len]; omega)) only [go_sem, ↓reduceIte, Nat.reduceEqDiff, Nat.reduceAdd, Nat.reduceBEq, Int.reduceEq, H.cv_3_29, H.cv_3_34, H.cv_5_3, H.cv_5_29, H.cv_29_3, H.cv_29_5, H.cv_33_3, u32]
  refine (put_ok H h3 (by simp [three_len]; omega) _ hs _).mono ?_
  rintro _ _ ⟨rfl, hh⟩; subst hh
  have h4 := h3.cat (u8s (three (sumS l).toNat))
  rw [contK_some]; simp (disch := first | omega | (simp only [List.length_cons, List.length_nil, List.length_append, u8s_len]; omega)) only [go_sem, ↓reduceIte, Nat.reduceEqDiff, Nat.reduceAdd, Nat.reduceBEq, Int.reduceEq, H.cv_3_29, H.cv_3_34, H.cv_5_3, H.cv_5_29, H.cv_29_3, H.cv_29_5, H.cv_33_3]
  refine hN _ ?_; clear hN N
  simp (disch := first | omega | (simp only [List.length_cons, List.length_nil, List.length_append, u8s_len]; omega)) only [go_sem, ↓reduceIte, Nat.reduceEqDiff, Nat.reduceAdd, Nat.reduceBEq, Int.reduceEq, H.cv_3_29, H.cv_3_34, H.cv_5_3, H.cv_5_29, H.cv_29_3, H.cv_29_5, H.cv_33_3]
  rw [u8s_app] at h4
  exact ⟨_, rfl, h4.sl.df⟩

/-- The first record of bytes: it, how many bytes it took, why there is none. -/
def firstS (b : List UInt8) : List UInt8 × Nat × Nat :=
  if b.length < 6 then ([], 0, 5)
  else if take3 (b.drop 3) ≠ (sumS (b.take 3)).toNat then ([], 0, 6)
  else if 16384 < take3 b ∨ b.length < take3 b + 9 then ([], 0, 5)
  else if take3 (b.drop (6 + take3 b)) ≠ (sumS ((b.drop 6).take (take3 b))).toNat then ([], 0, 6)
  else ((b.drop 6).take (take3 b), take3 b + 9, 0)

omit H in
theorem take3_lt (l : List UInt8) : take3 l < 2 ^ 24 := by
  unfold take3 num3
  have h1 := (l.getD 0 0).toNat_lt; have h2 := (l.getD 1 0).toNat_lt; have h3 := (l.getD 2 0).toNat_lt
  omega

theorem first_ok {v : AV} {l : List UInt8} (hv : SL 1 v (u8s l)) (hl : l.length < 2 ^ 40) (h : Heap) :
    AWF P ann 0 10 [v] h fun r h' => (∃ x, r = .tu [x, .sc (.int .i64 ((firstS l).2.1 : Nat)), .sc (.int .i64 ((firstS l).2.2 : Nat))] ∧ SF 1 x (u8s (firstS l).1)) ∧ h' = h := by
  refine AWF.fnc H.f0_10 rfl ?_
  have hlen := @u8s_len l
  (refine W_seq_gen fun N hN => ?_); simp (disch := first | omega | (simp only [List.length_cons, List.length_nil, List.length_append, u8s_len]; omega)) only [go_sem, ↓reduceIte, Nat.reduceEqDiff, Nat.reduceAdd, Nat.reduceBEq, Int.reduceEq, H.cv_3_29, H.cv_3_34, H.cv_5_3, H.cv_5_29, H.cv_29_3, H.cv_29_5, H.cv_33_3]
  refine hN _ ?_; clear hN N
  (refine W_seq_gen fun N hN => ?_); simp (disch := first | omega | (simp only [List.length_cons, List.length_nil, List.length_append, u8s_len]; omega)) only [go_sem, ↓reduceIte, Nat.reduceEqDiff, Nat.reduceAdd, Nat.reduceBEq, Int.reduceEq, H.cv_3_29, H.cv_3_34, H.cv_5_3, H.cv_5_29, H.cv_29_3, H.cv_29_5, H.cv_33_3, hv.dis.len, hlen]
  refine ⟨fun h6 => ?_, fun h6 => ?_⟩
  · have e : firstS l = ([], 0, 5) := by unfold firstS; rw [if_pos h6]
    rw [e]
    exact ⟨_, rfl, SF.nil⟩
  refine hN _ ?_; clear hN N
  have hd3 : SF 1 (cutV 1 3 l.length v.dis) (u8s (l.drop 3)) := by have := hv.dis.drop 3; rwa [hlen, u8s_drop] at this
  have ht3 : SF 1 (cutV 1 0 3 v.dis) (u8s (l.take 3)) := by have := hv.dis.take 3; rwa [u8s_take] at this
  (refine W_seq_gen fun N hN => ?_); simp (disch := first | omega | (simp only [List.length_cons, List.length_nil, List.length_append, u8s_len]; omega)) only [go_sem, ↓reduceIte, Nat.reduceEqDiff, Nat.reduceAdd, Nat.reduceBEq, Int.reduceEq, H.cv_3_29, H.cv_3_34, H.cv_5_3, H.cv_5_29, H.cv_29_3, H.cv_29_5, H.cv_33_3, hlen, hv.dis.slc_l, hv.dis.slc_u, hd3.same, ht3.same]
  refine ⟨_, take_ok H hd3.sl (by simp; omega) _, ?_⟩
  rw [contK_some]; simp (disch := first | omega | (simp only [List.length_cons, List.length_nil, List.length_append, u8s_len]; omega)) only [go_sem, ↓reduceIte, Nat.reduceEqDiff, Nat.reduceAdd, Nat.reduceBEq, Int.reduceEq, H.cv_3_29, H.cv_3_34, H.cv_5_3, H.cv_5_29, H.cv_29_3, H.cv_29_5, H.cv_33_3, hlen, hv.dis.slc_l, hv.dis.slc_u, hd3.same, ht3.same]
  refine ⟨_, sum_ok H ht3.sl (by simp; omega) _, ?_⟩
  rw [contK_some]; simp (disch := first | omega | (simp only [List.length_cons, List.length_nil, List.length_append, u8s_len]; omega)) only [go_sem, ↓reduceIte, Nat.reduceEqDiff, Nat.reduceAdd, Nat.reduceBEq, Int.reduceEq, H.cv_3_29, H.cv_3_34, H.cv_5_3, H.cv_5_29, H.cv_29_3, H.cv_29_5, H.cv_33_3, u32]
  refine ⟨fun hs => ?_, fun hs => ?_⟩
  · have e : firstS l = ([], 0, 6) := by unfold firstS; rw [if_neg h6, if_pos hs]
    rw [e]
    exact ⟨_, rfl, SF.nil⟩
  refine hN _ ?_; clear hN N
  (refine W_seq_gen fun N hN => ?_); simp (disch := first | omega | (simp only [List.length_cons, List.length_nil, List.length_append, u8s_len]; omega)) only [go_sem, ↓reduceIte, Nat.reduceEqDiff, Nat.reduceAdd, Nat.reduceBEq, Int.reduceEq, H.cv_3_29, H.cv_3_34, H.cv_5_3, H.cv_5_29, H.cv_29_3, H.cv_29_5, H.cv_33_3]
  refine (take_ok H hv.dis (by omega) _).mono ?_
  rintro _ _ ⟨rfl, hh⟩; subst hh
  have ht := take3_lt l
  rw [contK_some]; simp (disch := first | omega | (simp only [List.length_cons, List.length_nil, List.length_append, u8s_len]; omega)) only [go_sem, ↓reduceIte, Nat.reduceEqDiff, Nat.reduceAdd, Nat.reduceBEq, Int.reduceEq, H.cv_3_29, H.cv_3_34, H.cv_5_3, H.cv_5_29, H.cv_29_3, H.cv_29_5, H.cv_33_3, u32, wrap_i64u]
  refine hN _ ?_; clear hN N
  by_cases hn : 16384 < take3 l
  · have e : firstS l = ([], 0, 5) := by unfold firstS; rw [if_neg h6, if_neg (by omega), if_pos (.inl hn)]
    (refine W_seq_gen fun N hN => ?_); simp (disch := first | omega | (simp only [List.length_cons, List.length_nil, List.length_append, u8s_len]; omega)) only [go_sem, ↓reduceIte, Nat.reduceEqDiff, Nat.reduceAdd, Nat.reduceBEq, Int.reduceEq, H.cv_3_29, H.cv_3_34, H.cv_5_3, H.cv_5_29, H.cv_29_3, H.cv_29_5, H.cv_33_3, hn, e]
    exact ⟨_, rfl, SF.nil⟩
  have e1 : ((l.length : Nat) : Int) - ((6 : Nat) : Int) = ((l.length - 6 : Nat) : Int) := by omega
  by_cases hn2 : l.length < take3 l + 9
  · have e : firstS l = ([], 0, 5) := by unfold firstS; rw [if_neg h6, if_neg (by omega), if_pos (.inr hn2)]
    have e2 : ((l.length - 6 : Nat) : Int) - ((3 : Nat) : Int) < (take3 l : Int) := by omega
    (refine W_seq_gen fun N hN => ?_); simp (disch := first | omega | (simp only [List.length_cons, List.length_nil, List.length_append, u8s_len]; omega)) only [go_sem, ↓reduceIte, Nat.reduceEqDiff, Nat.reduceAdd, Nat.reduceBEq, Int.reduceEq, H.cv_3_29, H.cv_3_34, H.cv_5_3, H.cv_5_29, H.cv_29_3, H.cv_29_5, H.cv_33_3, hn, e, hv.dis.len, hlen, e1, e2]
    exact ⟨_, rfl, SF.nil⟩
  have e2 : ((l.length - 6 : Nat) : Int) - ((3 : Nat) : Int) = ((l.length - 9 : Nat) : Int) := by omega
  have e3 : ¬ (l.length - 9 < take3 l) := by omega
  (refine W_seq_gen fun N hN => ?_); simp (disch := first | omega | (simp only [List.length_cons, List.length_nil, List.length_append, u8s_len]; omega)) only [go_sem, ↓reduceIte, Nat.reduceEqDiff, Nat.reduceAdd, Nat.reduceBEq, Int.reduceEq, H.cv_3_29, H.cv_3_34, H.cv_5_3, H.cv_5_29, H.cv_29_3, H.cv_29_5, H.cv_33_3, hn, hv.dis.len, hlen, e1, e2, e3]
  refine hN _ ?_; clear hN N
  have hr : SF 1 (cutV 1 6 (6 + take3 l) v.dis) (u8s ((l.drop 6).take (take3 l))) := by
    have := hv.dis.cut 6 (6 + take3 l); rw [u8s_drop, u8s_take, show 6 + take3 l - 6 = take3 l by omega] at this; exact this
  have hd : SF 1 (cutV 1 (6 + take3 l) l.length v.dis) (u8s (l.drop (6 + take3 l))) := by have := hv.dis.drop (6 + take3 l); rwa [hlen, u8s_drop] at this
  (refine W_seq_gen fun N hN => ?_); simp (disch := first | omega | (simp only [List.length_cons, List.length_nil, List.length_append, u8s_len]; omega)) only [go_sem, ↓reduceIte, Nat.reduceEqDiff, Nat.reduceAdd, Nat.reduceBEq, Int.reduceEq, H.cv_3_29, H.cv_3_34, H.cv_5_3, H.cv_5_29, H.cv_29_3, H.cv_29_5, H.cv_33_3, hlen, nat_add, hv.dis.slc_lu, hr.same]
  refine hN _ ?_; clear hN N
  (refine W_seq_gen fun N hN => ?_); simp (disch := first | omega | (simp only [List.length_cons, List.length_nil, List.length_append, u8s_len]; omega)) only [go_sem, ↓reduceIte, Nat.reduceEqDiff, Nat.reduceAdd, Nat.reduceBEq, Int.reduceEq, H.cv_3_29, H.cv_3_34, H.cv_5_3, H.cv_5_29, H.cv_29_3, H.cv_29_5, H.cv_33_3, hlen, nat_add, hv.dis.slc_l, hr.same, hd.same]
  refine (take_ok H hd.sl (by simp; omega) _).mono ?_
  rintro _ _ ⟨rfl, hh⟩; subst hh
  rw [contK_some]; simp (disch := first | omega | (simp only [List.length_cons, List.length_nil, List.length_append, u8s_len]; omega)) only [go_sem, ↓reduceIte, Nat.reduceEqDiff, Nat.reduceAdd, Nat.reduceBEq, Int.reduceEq, H.cv_3_29, H.cv_3_34, H.cv_5_3, H.cv_5_29, H.cv_29_3, H.cv_29_5, H.cv_33_3, u32, hr.same]
  refine (sum_ok H hr.sl (by simp; omega) _).mono ?_
  rintro _ _ ⟨rfl, hh⟩; subst hh
  rw [contK_some]; simp (disch := first | omega | (simp only [List.length_cons, List.length_nil, List.length_append, u8s_len]; omega)) only [go_sem, ↓reduceIte, Nat.reduceEqDiff, Nat.reduceAdd, Nat.reduceBEq, Int.reduceEq, H.cv_3_29, H.cv_3_34, H.cv_5_3, H.cv_5_29, H.cv_29_3, H.cv_29_5, H.cv_33_3, u32]
  refine ⟨fun hs2 => ?_, fun hs2 => ?_⟩
  · have e : firstS l = ([], 0, 6) := by unfold firstS; rw [if_neg h6, if_neg (by omega), if_neg (by omega), if_pos hs2]
    rw [e]
    exact ⟨_, rfl, SF.nil⟩
  refine hN _ ?_; clear hN N
  have e : firstS l = ((l.drop 6).take (take3 l), take3 l + 9, 0) := by unfold firstS; rw [if_neg h6, if_neg (by omega), if_neg (by omega), if_neg (by omega)]
  have ha : SG 1 (.bs true 1 [] (some 0)) [] := SG.bs
  (refine W_seq_gen fun N hN => ?_); simp (disch := first | omega | (simp only [List.length_cons, List.length_nil, List.length_append, u8s_len]; omega)) only [go_sem, ↓reduceIte, Nat.reduceEqDiff, Nat.reduceAdd, Nat.reduceBEq, Int.reduceEq, H.cv_3_29, H.cv_3_34, H.cv_5_3, H.cv_5_29, H.cv_29_3, H.cv_29_5, H.cv_33_3, hr.sl.elems, hr.same, ha.app (ys := u8s ((l.drop 6).take (take3 l))) (bytes := 1) (by simp [u8s_len]; omega), nat_add, e]
  refine hN _ ?_; clear hN N
  simp (disch := first | omega | (simp only [List.length_cons, List.length_nil, List.length_append, u8s_len]; omega)) only [go_sem, ↓reduceIte, Nat.reduceEqDiff, Nat.reduceAdd, Nat.reduceBEq, Int.reduceEq, H.cv_3_29, H.cv_3_34, H.cv_5_3, H.cv_5_29, H.cv_29_3, H.cv_29_5, H.cv_33_3]
  have e9 : 6 + take3 l + 3 = take3 l + 9 := by omega
  rw [e9, e]
  exact ⟨_, rfl, (ha.cat _).sl.df⟩

theorem firstRef_ok {v : AV} {l : List UInt8} (hv : SL 1 v (u8s l)) (hl : l.length < 2 ^ 40) (h : Heap) :
    AWF P ann 0 14 [v] h fun r h' => (∃ x, r = .tu [x, .sc (.int .i64 ((firstS l).2.1 : Nat)), .sc (.int .i64 ((firstS l).2.2 : Nat))] ∧ SF 1 x (u8s (firstS l).1)) ∧ h' = h := by
  refine AWF.fnc H.f0_14 rfl ?_
  have hlen := @u8s_len l
  (refine W_seq_gen fun N hN => ?_); simp (disch := first | omega | (simp only [List.length_cons, List.length_nil, List.length_append, u8s_len]; omega)) only [go_sem, ↓reduceIte, Nat.reduceEqDiff, Nat.reduceAdd, Nat.reduceBEq, Int.reduceEq, H.cv_3_29, H.cv_3_34, H.cv_5_3, H.cv_5_29, H.cv_29_3, H.cv_29_5, H.cv_33_3]
  refine hN _ ?_; clear hN N
  (refine W_seq_gen fun N hN => ?_); simp (disch := first | omega | (simp only [List.length_cons, List.length_nil, List.length_append, u8s_len]; omega)) only [go_sem, ↓reduceIte, Nat.reduceEqDiff, Nat.reduceAdd, Nat.reduceBEq, Int.reduceEq, H.cv_3_29, H.cv_3_34, H.cv_5_3, H.cv_5_29, H.cv_29_3, H.cv_29_5, H.cv_33_3, hv.dis.len, hlen]
  refine ⟨fun h6 => ?_, fun h6 => ?_⟩
  · have e : firstS l = ([], 0, 5) := by unfold firstS; rw [if_pos h6]
    rw [e]
    exact ⟨_, rfl, SF.nil⟩
  refine hN _ ?_; clear hN N
  have hd3 : SF 1 (cutV 1 3 l.length v.dis) (u8s (l.drop 3)) := by have := hv.dis.drop 3; rwa [hlen, u8s_drop] at this
  have ht3 : SF 1 (cutV 1 0 3 v.dis) (u8s (l.take 3)) := by have := hv.dis.take 3; rwa [u8s_take] at this
  (refine W_seq_gen fun N hN => ?_); simp (disch := first | omega | (simp only [List.length_cons, List.length_nil, List.length_append, u8s_len]; omega)) only [go_sem, ↓reduceIte, Nat.reduceEqDiff, Nat.reduceAdd, Nat.reduceBEq, Int.reduceEq, H.cv_3_29, H.cv_3_34, H.cv_5_3, H.cv_5_29, H.cv_29_3, H.cv_29_5, H.cv_33_3, hlen, hv.dis.slc_l, hv.dis.slc_u, hd3.same, ht3.same]
  refine ⟨_, number_ok H hd3.sl (by simp; omega) _, ?_⟩
  rw [contK_some]; simp (disch := first | omega | (simp only [List.length_cons, List.length_nil, List.length_append, u8s_len]; omega)) only [go_sem, ↓reduceIte, Nat.reduceEqDiff, Nat.reduceAdd, Nat.reduceBEq, Int.reduceEq, H.cv_3_29, H.cv_3_34, H.cv_5_3, H.cv_5_29, H.cv_29_3, H.cv_29_5, H.cv_33_3, hlen, hv.dis.slc_l, hv.dis.slc_u, hd3.same, ht3.same]
  refine ⟨_, sumRef_ok H ht3.sl (by simp; omega) _, ?_⟩
  rw [sums_eq]
  have hs0 := sum_lt (l.take 3)
  rw [contK_some]; simp (disch := first | omega | (simp only [List.length_cons, List.length_nil, List.length_append, u8s_len]; omega)) only [go_sem, ↓reduceIte, Nat.reduceEqDiff, Nat.reduceAdd, Nat.reduceBEq, Int.reduceEq, H.cv_3_29, H.cv_3_34, H.cv_5_3, H.cv_5_29, H.cv_29_3, H.cv_29_5, H.cv_33_3, u32, wrap_i64u]
  refine ⟨fun hs => ?_, fun hs => ?_⟩
  · have e : firstS l = ([], 0, 6) := by unfold firstS; rw [if_neg h6, if_pos hs]
    rw [e]
    exact ⟨_, rfl, SF.nil⟩
  refine hN _ ?_; clear hN N
  (refine W_seq_gen fun N hN => ?_); simp (disch := first | omega | (simp only [List.length_cons, List.length_nil, List.length_append, u8s_len]; omega)) only [go_sem, ↓reduceIte, Nat.reduceEqDiff, Nat.reduceAdd, Nat.reduceBEq, Int.reduceEq, H.cv_3_29, H.cv_3_34, H.cv_5_3, H.cv_5_29, H.cv_29_3, H.cv_29_5, H.cv_33_3]
  refine (number_ok H hv.dis (by omega) _).mono ?_
  rintro _ _ ⟨rfl, hh⟩; subst hh
  have ht := take3_lt l
  rw [contK_some]; simp (disch := first | omega | (simp only [List.length_cons, List.length_nil, List.length_append, u8s_len]; omega)) only [go_sem, ↓reduceIte, Nat.reduceEqDiff, Nat.reduceAdd, Nat.reduceBEq, Int.reduceEq, H.cv_3_29, H.cv_3_34, H.cv_5_3, H.cv_5_29, H.cv_29_3, H.cv_29_5, H.cv_33_3]
  refine hN _ ?_; clear hN N
  by_cases hn : 16384 < take3 l
  · have e : firstS l = ([], 0, 5) := by unfold firstS; rw [if_neg h6, if_neg (by omega), if_pos (.inl hn)]
    (refine W_seq_gen fun N hN => ?_); simp (disch := first | omega | (simp only [List.length_cons, List.length_nil, List.length_append, u8s_len]; omega)) only [go_sem, ↓reduceIte, Nat.reduceEqDiff, Nat.reduceAdd, Nat.reduceBEq, Int.reduceEq, H.cv_3_29, H.cv_3_34, H.cv_5_3, H.cv_5_29, H.cv_29_3, H.cv_29_5, H.cv_33_3, hn, e]
    exact ⟨_, rfl, SF.nil⟩
  by_cases hn2 : l.length < take3 l + 9
  · have e : firstS l = ([], 0, 5) := by unfold firstS; rw [if_neg h6, if_neg (by omega), if_pos (.inr hn2)]
    (refine W_seq_gen fun N hN => ?_); simp (disch := first | omega | (simp only [List.length_cons, List.length_nil, List.length_append, u8s_len]; omega)) only [go_sem, ↓reduceIte, Nat.reduceEqDiff, Nat.reduceAdd, Nat.reduceBEq, Int.reduceEq, H.cv_3_29, H.cv_3_34, H.cv_5_3, H.cv_5_29, H.cv_29_3, H.cv_29_5, H.cv_33_3, hn, e, hv.dis.len, hlen, nat_add, hn2]
    exact ⟨_, rfl, SF.nil⟩
  (refine W_seq_gen fun N hN => ?_); simp (disch := first | omega | (simp only [List.length_cons, List.length_nil, List.length_append, u8s_len]; omega)) only [go_sem, ↓reduceIte, Nat.reduceEqDiff, Nat.reduceAdd, Nat.reduceBEq, Int.reduceEq, H.cv_3_29, H.cv_3_34, H.cv_5_3, H.cv_5_29, H.cv_29_3, H.cv_29_5, H.cv_33_3, hn, hv.dis.len, hlen, nat_add, hn2]
  refine hN _ ?_; clear hN N
  have hr : SF 1 (cutV 1 6 (6 + take3 l) v.dis) (u8s ((l.drop 6).take (take3 l))) := by
    have := hv.dis.cut 6 (6 + take3 l); rw [u8s_drop, u8s_take, show 6 + take3 l - 6 = take3 l by omega] at this; exact this
  have hd : SF 1 (cutV 1 (6 + take3 l) l.length v.dis) (u8s (l.drop (6 + take3 l))) := by have := hv.dis.drop (6 + take3 l); rwa [hlen, u8s_drop] at this
  (refine W_seq_gen fun N hN => ?_); simp (disch := first | omega | (simp only [List.length_cons, List.length_nil, List.length_append, u8s_len]; omega)) only [go_sem, ↓reduceIte, Nat.reduceEqDiff, Nat.reduceAdd, Nat.reduceBEq, Int.reduceEq, H.cv_3_29, H.cv_3_34, H.cv_5_3, H.cv_5_29, H.cv_29_3, H.cv_29_5, H.cv_33_3, hlen, nat_add, hv.dis.slc_lu, hv.dis.slc_l, hr.same, hd.same]
  refine ⟨_, number_ok H hd.sl (by simp; omega) _, ?_⟩
  rw [contK_some]; simp (disch := first | omega | (simp only [List.length_cons, List.length_nil, List.length_append, u8s_len]; omega)) only [go_sem, ↓reduceIte, Nat.reduceEqDiff, Nat.reduceAdd, Nat.reduceBEq, Int.reduceEq, H.cv_3_29, H.cv_3_34, H.cv_5_3, H.cv_5_29, H.cv_29_3, H.cv_29_5, H.cv_33_3, hlen, nat_add, hv.dis.slc_lu, hv.dis.slc_l, hr.same, hd.same]
  refine ⟨_, sumRef_ok H hr.sl (by simp; omega) _, ?_⟩
  rw [sums_eq]
  have hs1 := sum_lt ((l.drop 6).take (take3 l))
  rw [contK_some]; simp (disch := first | omega | (simp only [List.length_cons, List.length_nil, List.length_append, u8s_len]; omega)) only [go_sem, ↓reduceIte, Nat.reduceEqDiff, Nat.reduceAdd, Nat.reduceBEq, Int.reduceEq, H.cv_3_29, H.cv_3_34, H.cv_5_3, H.cv_5_29, H.cv_29_3, H.cv_29_5, H.cv_33_3, u32, wrap_i64u]
  refine ⟨fun hs2 => ?_, fun hs2 => ?_⟩
  · have e : firstS l = ([], 0, 6) := by unfold firstS; rw [if_neg h6, if_neg (by omega), if_neg (by omega), if_pos hs2]
    rw [e]
    exact ⟨_, rfl, SF.nil⟩
  refine hN _ ?_; clear hN N
  have e : firstS l = ((l.drop 6).take (take3 l), take3 l + 9, 0) := by unfold firstS; rw [if_neg h6, if_neg (by omega), if_neg (by omega), if_neg (by omega)]
  (refine W_seq_gen fun N hN => ?_); simp (disch := first | omega | (simp only [List.length_cons, List.length_nil, List.length_append, u8s_len]; omega)) only [go_sem, ↓reduceIte, Nat.reduceEqDiff, Nat.reduceAdd, Nat.reduceBEq, Int.reduceEq, H.cv_3_29, H.cv_3_34, H.cv_5_3, H.cv_5_29, H.cv_29_3, H.cv_29_5, H.cv_33_3, hlen, hv.dis.slc_lu, hr.same, nat_add, e]
  refine hN _ ?_; clear hN N
  simp (disch := first | omega | (simp only [List.length_cons, List.length_nil, List.length_append, u8s_len]; omega)) only [go_sem, ↓reduceIte, Nat.reduceEqDiff, Nat.reduceAdd, Nat.reduceBEq, Int.reduceEq, H.cv_3_29, H.cv_3_34, H.cv_5_3, H.cv_5_29, H.cv_29_3, H.cv_29_5, H.cv_33_3]
  rw [e]
  exact ⟨_, rfl, hr.dis⟩

/-- All records of a row, and how many bytes they took. -/
def rowF : Nat → List UInt8 → List (List UInt8) × Nat
  | 0, _ => ([], 0)
  | n + 1, b => if (firstS b).2.2 ≠ 0 then ([], 0) else ((firstS b).1 :: (rowF n (b.drop (firstS b).2.1)).1, (firstS b).2.1 + (rowF n (b.drop (firstS b).2.1)).2)
def rowS (b : List UInt8) : List (List UInt8) × Nat := rowF (b.length + 1) b

omit H in
theorem first_some {b : List UInt8} (h : (firstS b).2.2 = 0) : 9 ≤ (firstS b).2.1 ∧ (firstS b).2.1 ≤ b.length := by
  unfold firstS at h ⊢
  split at h
  · simp at h
  rename_i h1
  rw [if_neg h1]
  split at h
  · simp at h
  rename_i h2
  rw [if_neg h2]
  split at h
  · simp at h
  rename_i h3
  rw [if_neg h3]
  split at h
  · simp at h
  rename_i h4
  rw [if_neg h4]
  simp
  omega

omit H in
theorem rowF_more : ∀ (n m : Nat) (b : List UInt8), b.length < n → b.length < m → rowF n b = rowF m b
  | 0, _, b, h, _ => by omega
  | _, 0, b, _, h => by omega
  | n + 1, m + 1, b, h1, h2 => by
    unfold rowF
    by_cases hf : (firstS b).2.2 = 0
    · have := first_some hf
      have hd : (b.drop (firstS b).2.1).length = b.length - (firstS b).2.1 := by simp
      rw [rowF_more n m (b.drop (firstS b).2.1) (by omega) (by omega)]
    · simp [hf]

omit H in
theorem rowS_eq (b : List UInt8) : rowS b = if (firstS b).2.2 ≠ 0 then ([], 0) else ((firstS b).1 :: (rowS (b.drop (firstS b).2.1)).1, (firstS b).2.1 + (rowS (b.drop (firstS b).2.1)).2) := by
  unfold rowS
  by_cases hf : (firstS b).2.2 = 0
  · have := first_some hf
    rw [rowF]
    have hd : (b.drop (firstS b).2.1).length = b.length - (firstS b).2.1 := by simp
    rw [rowF_more b.length ((b.drop (firstS b).2.1).length + 1) (b.drop (firstS b).2.1) (by omega) (by omega)]
  · rw [rowF]
    simp [hf]

omit H in
theorem rowF_len : ∀ (n : Nat) (b : List UInt8), (rowF n b).1.length ≤ b.length ∧ (rowF n b).2 ≤ b.length
  | 0, b => by simp [rowF]
  | n + 1, b => by
    unfold rowF
    by_cases hf : (firstS b).2.2 = 0
    · have h1 := first_some hf
      have h2 := rowF_len n (b.drop (firstS b).2.1)
      simp [hf] at h2 ⊢
      omega
    · simp [hf]
omit H in
theorem rowS_len (b : List UInt8) : (rowS b).1.length ≤ b.length := (rowF_len _ b).1

theorem row_ok {v : AV} {l : List UInt8} (hv : SL 1 v (u8s l)) (hl : l.length < 2 ^ 40) (h : Heap) :
    AWF P ann 0 15 [v] h fun r h' => (∃ x es, r = .tu [x, .sc (.int .i64 ((rowS l).2 : Nat))] ∧ SF 1 x es ∧ RR bytesR es (rowS l).1) ∧ h' = h := by
  refine AWF.fnc H.f0_15 rfl ?_
  have hlen := @u8s_len l
  (refine W_seq_gen fun N hN => ?_); simp (disch := first | omega | (simp only [List.length_cons, List.length_nil, List.length_append, u8s_len]; omega)) only [go_sem, ↓reduceIte, Nat.reduceEqDiff, Nat.reduceAdd, Nat.reduceBEq, Int.reduceEq, H.cv_3_29, H.cv_3_34, H.cv_5_3, H.cv_5_29, H.cv_29_3, H.cv_29_5, H.cv_33_3]
  refine hN _ ?_; clear hN N
  (refine W_seq_gen fun N hN => ?_); simp (disch := first | omega | (simp only [List.length_cons, List.length_nil, List.length_append, u8s_len]; omega)) only [go_sem, ↓reduceIte, Nat.reduceEqDiff, Nat.reduceAdd, Nat.reduceBEq, Int.reduceEq, H.cv_3_29, H.cv_3_34, H.cv_5_3, H.cv_5_29, H.cv_29_3, H.cv_29_5, H.cv_33_3]
  refine hN _ ?_; clear hN N
  (refine W_seq_gen fun N hN => ?_); simp (disch := first | omega | (simp only [List.length_cons, List.length_nil, List.length_append, u8s_len]; omega)) only [go_sem, ↓reduceIte, Nat.reduceEqDiff, Nat.reduceAdd, Nat.reduceBEq, Int.reduceEq, H.cv_3_29, H.cv_3_34, H.cv_5_3, H.cv_5_29, H.cv_29_3, H.cv_29_5, H.cv_33_3]
  refine hN _ ?_; clear hN N
  simp (disch := first | omega | (simp only [List.length_cons, List.length_nil, List.length_append, u8s_len]; omega)) only [go_sem, ↓reduceIte, Nat.reduceEqDiff, Nat.reduceAdd, Nat.reduceBEq, Int.reduceEq, H.cv_3_29, H.cv_3_34, H.cv_5_3, H.cv_5_29, H.cv_29_3, H.cv_29_5, H.cv_33_3]
  refine AW_loopN (fun n t h' => h' = h ∧ ∃ at_ a es L, n = l.length - at_ ∧ at_ ≤ l.length ∧ t 0 = v ∧ t 4 = a ∧ SG 1 a es ∧ RR bytesR es L ∧ L.length ≤ at_ ∧ t 5 = .sc (.int .i64 (at_ : Nat)) ∧ rowS l = (L ++ (rowS (l.drop at_)).1, at_ + (rowS (l.drop at_)).2))
    (n := l.length) ⟨rfl, 0, _, [], [], rfl, Nat.zero_le _, rfl, rfl, SG.nil, RR.nil, Nat.le_refl _, rfl, by simp⟩ ?_
  rintro n t h' ⟨rfl, at_, a, es, L, rfl, hat, t0, t4, ha, hL, hLl, t5, hrow⟩
  have hd := hv.dis.drop at_
  rw [hlen, u8s_drop] at hd
  rw [W_block]
  (refine W_seq_gen fun N hN => ?_); simp (disch := first | omega | (simp only [List.length_cons, List.length_nil, List.length_append, u8s_len]; omega)) only [go_sem, ↓reduceIte, Nat.reduceEqDiff, Nat.reduceAdd, Nat.reduceBEq, Int.reduceEq, H.cv_3_29, H.cv_3_34, H.cv_5_3, H.cv_5_29, H.cv_29_3, H.cv_29_5, H.cv_33_3, t0, t5, hv.dis.slc_l, hlen]
  refine (first_ok H hd.sl (by simp; omega) _).mono ?_
  rintro _ _ ⟨⟨x, rfl, hx⟩, hh⟩; subst hh
  rw [contK_some]; simp (disch := first | omega | (simp only [List.length_cons, List.length_nil, List.length_append, u8s_len]; omega)) only [go_sem, ↓reduceIte, Nat.reduceEqDiff, Nat.reduceAdd, Nat.reduceBEq, Int.reduceEq, H.cv_3_29, H.cv_3_34, H.cv_5_3, H.cv_5_29, H.cv_29_3, H.cv_29_5, H.cv_33_3, hx.disc, hx.same]
  refine hN _ ?_; clear hN N
  (refine W_seq_gen fun N hN => ?_); simp (disch := first | omega | (simp only [List.length_cons, List.length_nil, List.length_append, u8s_len]; omega)) only [go_sem, ↓reduceIte, Nat.reduceEqDiff, Nat.reduceAdd, Nat.reduceBEq, Int.reduceEq, H.cv_3_29, H.cv_3_34, H.cv_5_3, H.cv_5_29, H.cv_29_3, H.cv_29_5, H.cv_33_3, t4, t5, ha.sl.dd]
  have re := rowS_eq (l.drop at_)
  refine ⟨fun hf => ?_, fun hf => ?_⟩
  · rw [if_pos hf] at re
    rw [hrow, re]
    exact ⟨_, _, rfl, ha.sl.df, by simpa using hL⟩
  refine hN _ ?_; clear hN N
  rw [if_neg (by omega)] at re
  have hfs := first_some hf
  have hdl : (l.drop at_).length = l.length - at_ := by simp
  have hel := hL.len
  simp (disch := first | omega | (simp only [List.length_cons, List.length_nil, List.length_append, u8s_len]; omega)) only [go_sem, ↓reduceIte, Nat.reduceEqDiff, Nat.reduceAdd, Nat.reduceBEq, Int.reduceEq, H.cv_3_29, H.cv_3_34, H.cv_5_3, H.cv_5_29, H.cv_29_3, H.cv_29_5, H.cv_33_3, t4, t5, hx.same, hx.sl.cells, fits_SL hx.sl, nat_add, ha.app (ys := [[x]]) (bytes := 24) (by simp; omega), wrap_i64u]
  refine ⟨l.length - (at_ + (firstS (l.drop at_)).2.1), by omega, at_ + (firstS (l.drop at_)).2.1, _, _, L ++ [(firstS (l.drop at_)).1], rfl, by omega, t0, rfl, ha.cat _, hL.append (RR.one ⟨x, rfl, hx⟩), by simp; omega, rfl, ?_⟩
  rw [hrow, re]
  simp [List.drop_drop, Nat.add_assoc]

theorem rowRef_ok {v : AV} {l : List UInt8} (hv : SL 1 v (u8s l)) (hl : l.length < 2 ^ 40) (h : Heap) :
    AWF P ann 0 16 [v] h fun r h' => (∃ x es, r = .tu [x, .sc (.int .i64 ((rowS l).2 : Nat))] ∧ SF 1 x es ∧ RR bytesR es (rowS l).1) ∧ h' = h := by
  refine AWF.fnc H.f0_16 rfl ?_
  have hlen := @u8s_len l
  (refine W_seq_gen fun N hN => ?_); simp (disch := first | omega | (simp only [List.length_cons, List.length_nil, List.length_append, u8s_len]; omega)) only [go_sem, ↓reduceIte, Nat.reduceEqDiff, Nat.reduceAdd, Nat.reduceBEq, Int.reduceEq, H.cv_3_29, H.cv_3_34, H.cv_5_3, H.cv_5_29, H.cv_29_3, H.cv_29_5, H.cv_33_3]
  refine hN _ ?_; clear hN N
  (refine W_seq_gen fun N hN => ?_); simp (disch := first | omega | (simp only [List.length_cons, List.length_nil, List.length_append, u8s_len]; omega)) only [go_sem, ↓reduceIte, Nat.reduceEqDiff, Nat.reduceAdd, Nat.reduceBEq, Int.reduceEq, H.cv_3_29, H.cv_3_34, H.cv_5_3, H.cv_5_29, H.cv_29_3, H.cv_29_5, H.cv_33_3]
  refine hN _ ?_; clear hN N
  (refine W_seq_gen fun N hN => ?_); simp (disch := first | omega | (simp only [List.length_cons, List.length_nil, List.length_append, u8s_len]; omega)) only [go_sem, ↓reduceIte, Nat.reduceEqDiff, Nat.reduceAdd, Nat.reduceBEq, Int.reduceEq, H.cv_3_29, H.cv_3_34, H.cv_5_3, H.cv_5_29, H.cv_29_3, H.cv_29_5, H.cv_33_3]
  refine hN _ ?_; clear hN N
  (refine W_seq_gen fun N hN => ?_)
  (refine W_seq_gen fun N hN => ?_); simp (disch := first | omega | (simp only [List.length_cons, List.length_nil, List.length_append, u8s_len]; omega)) only [go_sem, ↓reduceIte, Nat.reduceEqDiff, Nat.reduceAdd, Nat.reduceBEq, Int.reduceEq, H.cv_3_29, H.cv_3_34, H.cv_5_3, H.cv_5_29, H.cv_29_3, H.cv_29_5, H.cv_33_3]
  refine hN _ ?_; clear hN N
  simp (disch := first | omega | (simp only [List.length_cons, List.length_nil, List.length_append, u8s_len]; omega)) only [go_sem, ↓reduceIte, Nat.reduceEqDiff, Nat.reduceAdd, Nat.reduceBEq, Int.reduceEq, H.cv_3_29, H.cv_3_34, H.cv_5_3, H.cv_5_29, H.cv_29_3, H.cv_29_5, H.cv_33_3]
  refine AW_loopN (fun n t h' => h' = h ∧ ∃ at_ i a es L, n = l.length - at_ ∧ at_ ≤ l.length ∧ t 0 = v ∧ t 4 = a ∧ SG 1 a es ∧ RR bytesR es L ∧ L.length ≤ at_ ∧ t 5 = .sc (.int .i64 (at_ : Nat)) ∧ t 6 = .sc (.int .i64 (i : Nat)) ∧ i ≤ at_ ∧ rowS l = (L ++ (rowS (l.drop at_)).1, at_ + (rowS (l.drop at_)).2))
    (n := l.length) ⟨rfl, 0, 0, _, [], [], rfl, Nat.zero_le _, rfl, rfl, SG.bs, RR.nil, Nat.le_refl _, rfl, rfl, Nat.le_refl _, by simp⟩ ?_
  rintro n t h' ⟨rfl, at_, i, a, es, L, rfl, hat, t0, t4, ha, hL, hLl, t5, t6, hi, hrow⟩
  have hd := hv.dis.drop at_
  rw [hlen, u8s_drop] at hd
  have hq : i ≤ l.length := by omega
  (refine W_seq_gen fun N hN => ?_); simp (disch := first | omega | (simp only [List.length_cons, List.length_nil, List.length_append, u8s_len]; omega)) only [go_sem, ↓reduceIte, Nat.reduceEqDiff, Nat.reduceAdd, Nat.reduceBEq, Int.reduceEq, H.cv_3_29, H.cv_3_34, H.cv_5_3, H.cv_5_29, H.cv_29_3, H.cv_29_5, H.cv_33_3, t0, t6, hv.dis.len, hlen, hq]
  refine hN _ ?_; clear hN N
  (refine W_seq_gen fun N hN => ?_)
  rw [W_block]
  (refine W_seq_gen fun N hN => ?_); simp (disch := first | omega | (simp only [List.length_cons, List.length_nil, List.length_append, u8s_len]; omega)) only [go_sem, ↓reduceIte, Nat.reduceEqDiff, Nat.reduceAdd, Nat.reduceBEq, Int.reduceEq, H.cv_3_29, H.cv_3_34, H.cv_5_3, H.cv_5_29, H.cv_29_3, H.cv_29_5, H.cv_33_3, t0, t5, hv.dis.slc_l, hlen]
  refine (firstRef_ok H hd.sl (by simp; omega) _).mono ?_
  rintro _ _ ⟨⟨x, rfl, hx⟩, hh⟩; subst hh
  rw [contK_some]; simp (disch := first | omega | (simp only [List.length_cons, List.length_nil, List.length_append, u8s_len]; omega)) only [go_sem, ↓reduceIte, Nat.reduceEqDiff, Nat.reduceAdd, Nat.reduceBEq, Int.reduceEq, H.cv_3_29, H.cv_3_34, H.cv_5_3, H.cv_5_29, H.cv_29_3, H.cv_29_5, H.cv_33_3, hx.disc, hx.same]
  refine hN _ ?_; clear hN N
  (refine W_seq_gen fun N hN => ?_); simp (disch := first | omega | (simp only [List.length_cons, List.length_nil, List.length_append, u8s_len]; omega)) only [go_sem, ↓reduceIte, Nat.reduceEqDiff, Nat.reduceAdd, Nat.reduceBEq, Int.reduceEq, H.cv_3_29, H.cv_3_34, H.cv_5_3, H.cv_5_29, H.cv_29_3, H.cv_29_5, H.cv_33_3, t4, t5, ha.sl.dd]
  have re := rowS_eq (l.drop at_)
  refine ⟨fun hf => ?_, fun hf => ?_⟩
  · rw [if_pos hf] at re
    rw [hrow, re]
    exact ⟨_, _, rfl, ha.sl.df, by simpa using hL⟩
  refine hN _ ?_; clear hN N
  rw [if_neg (by omega)] at re
  have hfs := first_some hf
  have hdl : (l.drop at_).length = l.length - at_ := by simp
  have hel := hL.len
  (refine W_seq_gen fun N hN => ?_); simp (disch := first | omega | (simp only [List.length_cons, List.length_nil, List.length_append, u8s_len]; omega)) only [go_sem, ↓reduceIte, Nat.reduceEqDiff, Nat.reduceAdd, Nat.reduceBEq, Int.reduceEq, H.cv_3_29, H.cv_3_34, H.cv_5_3, H.cv_5_29, H.cv_29_3, H.cv_29_5, H.cv_33_3, t4, t5, hx.same, hx.sl.cells, fits_SL hx.sl, nat_add, ha.app (ys := [[x]]) (bytes := 24) (by simp; omega)]
  refine hN _ ?_; clear hN N
  simp (disch := first | omega | (simp only [List.length_cons, List.length_nil, List.length_append, u8s_len]; omega)) only [go_sem, ↓reduceIte, Nat.reduceEqDiff, Nat.reduceAdd, Nat.reduceBEq, Int.reduceEq, H.cv_3_29, H.cv_3_34, H.cv_5_3, H.cv_5_29, H.cv_29_3, H.cv_29_5, H.cv_33_3, t5, nat_add]
  refine hN _ ?_; clear hN N
  simp (disch := first | omega | (simp only [List.length_cons, List.length_nil, List.length_append, u8s_len]; omega)) only [go_sem, ↓reduceIte, Nat.reduceEqDiff, Nat.reduceAdd, Nat.reduceBEq, Int.reduceEq, H.cv_3_29, H.cv_3_34, H.cv_5_3, H.cv_5_29, H.cv_29_3, H.cv_29_5, H.cv_33_3, t6, nat_add]
  refine ⟨l.length - (at_ + (firstS (l.drop at_)).2.1), by omega, at_ + (firstS (l.drop at_)).2.1, i + 1, _, _, L ++ [(firstS (l.drop at_)).1], rfl, by omega, t0, rfl, ha.cat _, hL.append (RR.one ⟨x, rfl, hx⟩), by simp; omega, rfl, rfl, by omega, ?_⟩
  rw [hrow, re]
  simp [List.drop_drop, Nat.add_assoc]

theorem same_ok {v w : AV} {es fs : List (List AV)} {A B : List (List UInt8)} (hv : SL 1 v es) (hA : RR bytesR es A) (hw : SL 1 w fs) (hB : RR bytesR fs B) (hl : A.length < 2 ^ 62) (hl' : B.length < 2 ^ 62) (h : Heap) :
    AWF P ann 0 17 [v, w] h fun r h' => r = .sc (.bool (decide (A = B))) ∧ h' = h := by
  refine AWF.fnc H.f0_17 rfl ?_
  have e1 := hA.len
  have e2 := hB.len
  (refine W_seq_gen fun N hN => ?_); simp (disch := first | omega | (simp only [List.length_cons, List.length_nil, List.length_append, u8s_len]; omega)) only [go_sem, ↓reduceIte, Nat.reduceEqDiff, Nat.reduceAdd, Nat.reduceBEq, Int.reduceEq, H.cv_3_29, H.cv_3_34, H.cv_5_3, H.cv_5_29, H.cv_29_3, H.cv_29_5, H.cv_33_3]
  refine hN _ ?_; clear hN N
  (refine W_seq_gen fun N hN => ?_); simp (disch := first | omega | (simp only [List.length_cons, List.length_nil, List.length_append, u8s_len]; omega)) only [go_sem, ↓reduceIte, Nat.reduceEqDiff, Nat.reduceAdd, Nat.reduceBEq, Int.reduceEq, H.cv_3_29, H.cv_3_34, H.cv_5_3, H.cv_5_29, H.cv_29_3, H.cv_29_5, H.cv_33_3, hv.dis.len, hw.dis.len, e1, e2]
  refine ⟨fun hne => ?_, fun heq => ?_⟩
  · have : A ≠ B := fun e => hne (by rw [e])
    simp [this]
  refine hN _ ?_; clear hN N
  (refine W_seq_gen fun M hM => ?_)
  (refine W_seq_gen fun N hN => ?_); simp (disch := first | omega | (simp only [List.length_cons, List.length_nil, List.length_append, u8s_len]; omega)) only [go_sem, ↓reduceIte, Nat.reduceEqDiff, Nat.reduceAdd, Nat.reduceBEq, Int.reduceEq, H.cv_3_29, H.cv_3_34, H.cv_5_3, H.cv_5_29, H.cv_29_3, H.cv_29_5, H.cv_33_3]
  refine hN _ ?_; clear hN N
  simp (disch := first | omega | (simp only [List.length_cons, List.length_nil, List.length_append, u8s_len]; omega)) only [go_sem, ↓reduceIte, Nat.reduceEqDiff, Nat.reduceAdd, Nat.reduceBEq, Int.reduceEq, H.cv_3_29, H.cv_3_34, H.cv_5_3, H.cv_5_29, H.cv_29_3, H.cv_29_5, H.cv_33_3]
  refine AW_loopN (fun n t h' => h' = h ∧ ∃ i, n = A.length - i ∧ i ≤ A.length ∧ t 0 = v ∧ t 1 = w ∧ t 5 = .sc (.int .i64 (i : Nat)) ∧ A.take i = B.take i)
    (n := A.length) ⟨rfl, 0, rfl, Nat.zero_le _, rfl, rfl, rfl, rfl⟩ ?_
  rintro n t h' ⟨rfl, i, rfl, hi, t0, t1, t5, hAB⟩
  rcases Nat.lt_or_ge i A.length with hlt | hge
  · (refine W_seq_gen fun N hN => ?_); simp (disch := first | omega | (simp only [List.length_cons, List.length_nil, List.length_append, u8s_len]; omega)) only [go_sem, ↓reduceIte, Nat.reduceEqDiff, Nat.reduceAdd, Nat.reduceBEq, Int.reduceEq, H.cv_3_29, H.cv_3_34, H.cv_5_3, H.cv_5_29, H.cv_29_3, H.cv_29_5, H.cv_33_3, t0, t5, hv.dis.len, e1, hlt]
    refine hN _ ?_; clear hN N
    (refine W_seq_gen fun N hN => ?_)
    rw [W_block]
    obtain ⟨_, g1, x, rfl, hx⟩ := hA.lt hlt
    obtain ⟨_, g2, y, rfl, hy⟩ := hB.lt (heq ▸ hlt)
    simp (disch := first | omega | (simp only [List.length_cons, List.length_nil, List.length_append, u8s_len]; omega)) only [go_sem, ↓reduceIte, Nat.reduceEqDiff, Nat.reduceAdd, Nat.reduceBEq, Int.reduceEq, H.cv_3_29, H.cv_3_34, H.cv_5_3, H.cv_5_29, H.cv_29_3, H.cv_29_5, H.cv_33_3, t0, t1, t5, hv.dis.ia, hw.dis.ia, g1, g2, hx.same, hy.same, hx.sl.b2s, hy.sl.b2s, str_inj]
    have hs : A.take (i + 1) = A.take i ++ [A[i]] := by rw [List.take_add_one]; simp [hlt]
    have hs' : B.take (i + 1) = B.take i ++ [B[i]'(heq ▸ hlt)] := by rw [List.take_add_one]; simp [heq ▸ hlt]
    refine ⟨fun hne => ?_, fun heq2 => ?_⟩
    · have : A ≠ B := fun e => hne (by subst e; rfl)
      simp [this]
    refine hN _ ?_; clear hN N
    simp (disch := first | omega | (simp only [List.length_cons, List.length_nil, List.length_append, u8s_len]; omega)) only [go_sem, ↓reduceIte, Nat.reduceEqDiff, Nat.reduceAdd, Nat.reduceBEq, Int.reduceEq, H.cv_3_29, H.cv_3_34, H.cv_5_3, H.cv_5_29, H.cv_29_3, H.cv_29_5, H.cv_33_3, t5, nat_add]
    exact ⟨A.length - (i + 1), by omega, i + 1, rfl, by omega, t0, t1, rfl, by rw [hs, hs', hAB, heq2]⟩
  · have hi' : i = A.length := by omega
    subst hi'
    (refine W_seq_gen fun N hN => ?_); simp (disch := first | omega | (simp only [List.length_cons, List.length_nil, List.length_append, u8s_len]; omega)) only [go_sem, ↓reduceIte, Nat.reduceEqDiff, Nat.reduceAdd, Nat.reduceBEq, Int.reduceEq, H.cv_3_29, H.cv_3_34, H.cv_5_3, H.cv_5_29, H.cv_29_3, H.cv_29_5, H.cv_33_3, t0, t5, hv.dis.len, e1, Nat.lt_irrefl]
    refine hM _ ?_
    have : A = B := by
      rw [List.take_length, List.take_of_length_le (by omega)] at hAB
      exact hAB
    simp (disch := first | omega | (simp only [List.length_cons, List.length_nil, List.length_append, u8s_len]; omega)) only [go_sem, ↓reduceIte, Nat.reduceEqDiff, Nat.reduceAdd, Nat.reduceBEq, Int.reduceEq, H.cv_3_29, H.cv_3_34, H.cv_5_3, H.cv_5_29, H.cv_29_3, H.cv_29_5, H.cv_33_3, this]
end Go.Proofs.Ytfiaekgmblbmiaa
