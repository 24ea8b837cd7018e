/- Pairs set in any order: plain lists. -/
import Derived.Test.YtmdkgaljnoookaaSheafAt
set_option linter.unusedVariables false
set_option linter.unusedSimpArgs false
namespace Go.Proofs.Ytmdkgaljnoookaa
open Go.Am
theorem sorted_unique : ∀ (l m : List Pr), l.Pairwise (fun a b => sl a.1 b.1 = true) → m.Pairwise (fun a b => sl a.1 b.1 = true) → l.Perm m → l = m
  | [], m, _, _, h => by rw [List.nil_perm.1 h]
  | a :: l, [], _, _, h => by have := h.length_eq; simp at this
  | a :: l, b :: m, hl, hm, h => by
    have hl1 := List.pairwise_cons.1 hl
    have hm1 := List.pairwise_cons.1 hm
    have hab : a = b := by
      have h1 : a ∈ b :: m := h.subset (by simp)
      have h2 : b ∈ a :: l := h.symm.subset (by simp)
      rcases List.mem_cons.1 h1 with e | h1
      · exact e
      · rcases List.mem_cons.1 h2 with e | h2
        · exact e.symm
        · have q1 := hm1.1 a h1
          have q2 := hl1.1 b h2
          rw [sl_asym q1] at q2
          cases q2
    subst hab
    rw [sorted_unique l m hl1.2 hm1.2 (List.perm_cons a |>.1 h)]
theorem srt_pw : ∀ {l : List Pr}, Srt l = true → l.Pairwise (fun a b => sl a.1 b.1 = true)
  | [], _ => List.Pairwise.nil
  | a :: l, h => List.pairwise_cons.2 ⟨srt_lt h, srt_pw (srt_tail h)⟩
theorem set_perm : ∀ (a : List Pr) (k v : ByteArray), Srt a = true → (∀ p ∈ a, p.1 ≠ k) → (setS a k v).Perm ((k, v) :: a)
  | [], k, v, _, _ => List.Perm.refl _
  | p :: a, k, v, ha, hk => by
    cases hpk : sl p.1 k with
    | true =>
      have e : setS (p :: a) k v = p :: setS a k v := by simp [setS, List.takeWhile_cons, hpk]
      rw [e]
      exact ((set_perm a k v (srt_tail ha) (fun q hq => hk q (by simp [hq]))).cons p).trans (List.Perm.swap _ _ _)
    | false =>
      have e : setS (p :: a) k v = (k, v) :: (p :: a).filter (gtk k) := by
        show _ ++ _ = _
        rw [List.takeWhile_cons, hpk]
        rfl
      have hf : (p :: a).filter (gtk k) = p :: a := by
        rw [List.filter_eq_self]
        intro q hq
        have h1 := hk q hq
        have h2 : sl q.1 k = false := by
          rcases List.mem_cons.1 hq with rfl | hq
          · exact hpk
          · cases h : sl q.1 k with
            | false => rfl
            | true => rw [sl_trans (srt_lt ha q hq) h] at hpk; cases hpk
        simp [gtk, h1, h2]
      rw [e, hf]
/-- Pairs set one behind the other. -/
def setAll (o : List Pr) (q : List Pr) : List Pr := q.foldl (fun o p => setS o p.1 p.2) o
theorem setAll_snoc (o q : List Pr) (p : Pr) : setAll o (q ++ [p]) = setS (setAll o q) p.1 p.2 := by simp [setAll]
theorem setAll_srt : ∀ (q o : List Pr), Srt o = true → Srt (setAll o q) = true
  | [], o, h => h
  | p :: q, o, h => setAll_srt q _ (srt_set o _ _ h)
theorem setAll_perm : ∀ (q o : List Pr), Srt o = true → (∀ p ∈ o, ∀ r ∈ q, p.1 ≠ r.1) → q.Pairwise (fun a b => a.1 ≠ b.1) → (setAll o q).Perm (o ++ q)
  | [], o, _, _, _ => by simp [setAll]
  | p :: q, o, h, hd, hp => by
    have hp1 := List.pairwise_cons.1 hp
    have h1 := set_perm o p.1 p.2 h (fun r hr => hd r hr p (by simp))
    have h2 := setAll_perm q (setS o p.1 p.2) (srt_set o _ _ h) (fun r hr s hs => by
      rcases List.mem_cons.1 (h1.subset hr) with rfl | hr
      · exact hp1.1 s hs
      · exact hd r hr s (by simp [hs])) hp1.2
    refine h2.trans ((h1.append_right q).trans ?_)
    rw [List.cons_append]
    exact List.perm_middle.symm
theorem setAll_eq {l q : List Pr} (hl : Srt l = true) (hq : q.Perm l) : setAll [] q = l := by
  have hne : l.Pairwise (fun a b => a.1 ≠ b.1) := (srt_pw hl).imp fun {a b} h e => by rw [e, sl_irr] at h; cases h
  have hq2 : q.Pairwise (fun a b => a.1 ≠ b.1) := hq.symm.pairwise hne fun {a b} h => h.symm
  exact sorted_unique _ _ (srt_pw (setAll_srt q [] rfl)) (srt_pw hl) ((setAll_perm q [] rfl (fun p hp => by cases hp) hq2).trans (by simpa using hq))
theorem merge_one {o : List Pr} (p : Pr) (ho : Srt o = true) : mergeS o [p] = setS o p.1 p.2 := by
  rw [merge_set o p [] ho rfl, mergeS_nil]
theorem swap_perm (q : List Pr) {i k : Nat} (hi : i < q.length) (hk : k < q.length) : ((q.set i q[k]).set k q[i]).Perm q := List.set_set_perm hi hk

/-! ### Pairs as an object's cells -/
def flatP (q : List Pr) : List AV := (prs q).flatten
theorem flatP_cons (p : Pr) (q : List Pr) : flatP (p :: q) = .sc (.string p.1) :: .sc (.string p.2) :: flatP q := rfl
theorem flatP_len : ∀ q : List Pr, (flatP q).length = 2 * q.length
  | [] => rfl
  | p :: q => by rw [flatP_cons, List.length_cons, List.length_cons, flatP_len q, List.length_cons]; omega
theorem flatP_drop : ∀ (q : List Pr) (i : Nat) (hi : i < q.length), (flatP q).drop (i * 2) = .sc (.string q[i].1) :: .sc (.string q[i].2) :: flatP (q.drop (i + 1))
  | p :: q, 0, _ => rfl
  | p :: q, i + 1, hi => by
    have e : (i + 1) * 2 = i * 2 + 1 + 1 := by omega
    rw [flatP_cons, e, List.drop_succ_cons, List.drop_succ_cons, flatP_drop q i (by simpa using hi)]
    rfl
theorem flatP_set : ∀ (q : List Pr) (i : Nat) (hi : i < q.length) (p : Pr), setRange (flatP q) (i * 2) [.sc (.string p.1), .sc (.string p.2)] = flatP (q.set i p)
  | r :: q, 0, _, p => rfl
  | r :: q, i + 1, hi, p => by
    have e : (i + 1) * 2 = i * 2 + 1 + 1 := by omega
    have ih := flatP_set q i (by simpa using hi) p
    unfold setRange at ih ⊢
    rw [flatP_cons, List.set_cons_succ, flatP_cons, ← ih, e]
    rfl
end Go.Proofs.Ytmdkgaljnoookaa
