/- Pairs in order: plain lists. -/
import Derived.Test.YtmdkgaljnoookaaSheafCode
import Derived.Test.YtmdkgaljnoookaaAmEq
set_option linter.unusedVariables false
set_option linter.unusedSimpArgs false
namespace Go.Proofs.Ytmdkgaljnoookaa
open Go.Am
abbrev Pr := ByteArray × ByteArray
/-- Pairs, as a slice's elements. -/
def prs (l : List Pr) : List (List AV) := l.map fun p => [.sc (.string p.1), .sc (.string p.2)]
theorem prs_len {l : List Pr} : (prs l).length = l.length := by simp [prs]
theorem prs_get {l : List Pr} {i : Nat} (h : i < l.length) : (prs l)[i]? = some [.sc (.string l[i].1), .sc (.string l[i].2)] := by simp [prs, h]
theorem prs_app (l m : List Pr) : prs l ++ prs m = prs (l ++ m) := by simp [prs]
theorem prs_one (p : Pr) : prs [p] = [[.sc (.string p.1), .sc (.string p.2)]] := rfl
theorem prs_take (l : List Pr) (i : Nat) : (prs l).take i = prs (l.take i) := by simp [prs]
theorem prs_drop (l : List Pr) (i : Nat) : (prs l).drop i = prs (l.drop i) := by simp [prs]
theorem prs_snoc (l : List Pr) (p : Pr) : prs (l ++ [p]) = prs l ++ [[.sc (.string p.1), .sc (.string p.2)]] := by simp [prs]

/-- Rising keys. -/
def Srt : List Pr → Bool
  | a :: b :: r => sl a.1 b.1 && Srt (b :: r)
  | _ => true
theorem srt_tail {a : Pr} {l : List Pr} (h : Srt (a :: l) = true) : Srt l = true := by
  cases l with
  | nil => rfl
  | cons b r => simp [Srt] at h; exact h.2
theorem srt_lt {a : Pr} : ∀ {l : List Pr}, Srt (a :: l) = true → ∀ p ∈ l, sl a.1 p.1 = true
  | [], _, p, hp => by cases hp
  | b :: r, h, p, hp => by
    simp [Srt] at h
    rcases List.mem_cons.1 hp with rfl | hp
    · exact h.1
    · exact sl_trans h.1 (srt_lt h.2 p hp)
theorem srt_of {a : Pr} {l : List Pr} (h : ∀ p ∈ l, sl a.1 p.1 = true) (hl : Srt l = true) : Srt (a :: l) = true := by
  cases l with
  | nil => rfl
  | cons b r => simp [Srt, h b (by simp), hl]
theorem srt_iff : ∀ (l : List Pr), Srt l = true ↔ ∀ (i : Nat) (h : i + 1 < l.length), sl (l[i]'(by omega)).1 (l[i + 1]).1 = true
  | [] => by simp [Srt]
  | [a] => by simp [Srt]
  | a :: b :: r => by
    simp only [Srt, Bool.and_eq_true, srt_iff (b :: r)]
    constructor
    · rintro ⟨h1, h2⟩ i hi
      cases i with
      | zero => exact h1
      | succ i => exact h2 i (by simpa using hi)
    · intro h
      exact ⟨h 0 (by simp), fun i hi => h (i + 1) (by simpa using hi)⟩

def setS (l : List Pr) (k v : ByteArray) : List Pr := l.takeWhile (fun p => sl p.1 k) ++ ((k, v) :: l.filter (fun p => !(sl p.1 k || decide (p.1 = k))))
def mergeR (a b : List Pr) : List Pr := b.foldl (fun a p => setS a p.1 p.2) a
def mergeS : List Pr → List Pr → List Pr
  | a, [] => a
  | [], q :: b => q :: mergeS [] b
  | p :: a, q :: b => if sl p.1 q.1 then p :: mergeS a (q :: b) else if p.1 = q.1 then q :: mergeS a b else q :: mergeS (p :: a) b
termination_by a b => a.length + b.length
theorem mergeS_nil (a : List Pr) : mergeS a [] = a := by cases a <;> simp [mergeS]
theorem mergeS_nil' : ∀ (b : List Pr), mergeS [] b = b
  | [] => by simp [mergeS]
  | q :: b => by rw [mergeS, mergeS_nil' b]
theorem mergeS_lt (p : Pr) (a b : List Pr) (h : ∀ q ∈ b, sl p.1 q.1 = true) : mergeS (p :: a) b = p :: mergeS a b := by
  cases b with
  | nil => rw [mergeS_nil, mergeS_nil]
  | cons q b => rw [mergeS, if_pos (h q (by simp))]
theorem merge_set : ∀ (a : List Pr) (q : Pr) (b : List Pr), Srt a = true → Srt (q :: b) = true → mergeS a (q :: b) = mergeS (setS a q.1 q.2) b
  | [], q, b, _, hb => by
    have h1 := srt_lt hb
    have : setS [] q.1 q.2 = [q] := rfl
    rw [this, mergeS_nil', mergeS_lt q [] b h1, mergeS_nil']
  | p :: a, q, b, ha, hb => by
    have h1 := srt_lt hb
    have h2 := srt_lt ha
    have h3 := srt_tail ha
    rw [mergeS]
    cases hpq : sl p.1 q.1 with
    | true =>
      rw [if_pos rfl]
      have e : setS (p :: a) q.1 q.2 = p :: setS a q.1 q.2 := by
        simp [setS, List.takeWhile_cons, hpq]
      rw [e, mergeS_lt p _ b (fun r hr => sl_trans hpq (h1 r hr)), merge_set a q b h3 hb]
    | false =>
      rw [if_neg (by simp)]
      by_cases he : p.1 = q.1
      · rw [if_pos he]
        have e : setS (p :: a) q.1 q.2 = q :: a := by
          have hf : a.filter (fun p => !(sl p.1 q.1 || decide (p.1 = q.1))) = a := by
            rw [List.filter_eq_self]
            intro r hr
            have := h2 r hr
            rw [he] at this
            have hn : r.1 ≠ q.1 := fun e => by rw [e, sl_irr] at this; cases this
            simp [sl_asym this, hn]
          have hp : (p :: a).filter (fun p => !(sl p.1 q.1 || decide (p.1 = q.1))) = a := by
            rw [List.filter_cons, hf]; simp [he]
          rw [setS, hp, List.takeWhile_cons, hpq]; rfl
        rw [e, mergeS_lt q a b h1]
      · rw [if_neg he]
        have hqp : sl q.1 p.1 = true := by
          cases h : sl q.1 p.1 with
          | true => rfl
          | false => exact absurd (sl_tri hpq h) he
        have e : setS (p :: a) q.1 q.2 = q :: p :: a := by
          have hf : a.filter (fun p => !(sl p.1 q.1 || decide (p.1 = q.1))) = a := by
            rw [List.filter_eq_self]
            intro r hr
            have := sl_trans hqp (h2 r hr)
            have hn : r.1 ≠ q.1 := fun e => by rw [e, sl_irr] at this; cases this
            simp [sl_asym this, hn]
          have hp : (p :: a).filter (fun p => !(sl p.1 q.1 || decide (p.1 = q.1))) = p :: a := by
            rw [List.filter_cons, hf]; simp [he, hpq]
          rw [setS, hp, List.takeWhile_cons, hpq]; rfl
        rw [e, mergeS_lt q _ b h1]
theorem srt_set : ∀ (a : List Pr) (k v : ByteArray), Srt a = true → Srt (setS a k v) = true
  | [], k, v, _ => rfl
  | p :: a, k, v, ha => by
    have h2 := srt_lt ha
    have h3 := srt_tail ha
    cases hpk : sl p.1 k with
    | true =>
      have e : setS (p :: a) k v = p :: setS a k v := by simp [setS, List.takeWhile_cons, hpk]
      rw [e]
      refine srt_of (fun r hr => ?_) (srt_set a k v h3)
      simp only [setS, List.mem_append, List.mem_cons, List.mem_filter] at hr
      rcases hr with hr | rfl | ⟨hr, _⟩
      · exact h2 r (List.takeWhile_subset _ hr)
      · exact hpk
      · exact h2 r hr
    | false =>
      have e : setS (p :: a) k v = (k, v) :: (p :: a).filter (fun p => !(sl p.1 k || decide (p.1 = k))) := by simp [setS, List.takeWhile_cons, hpk]
      rw [e]
      have hs : ∀ l : List Pr, Srt l = true → ∀ f : Pr → Bool, Srt (l.filter f) = true := by
        intro l
        induction l with
        | nil => intro _ _; rfl
        | cons x l ih =>
          intro h f
          rw [List.filter_cons]
          split
          · exact srt_of (fun r hr => srt_lt h r (List.mem_filter.1 hr).1) (ih (srt_tail h) f)
          · exact ih (srt_tail h) f
      refine srt_of (fun r hr => ?_) (hs _ ha _)
      have := (List.mem_filter.1 hr).2
      simp only [Bool.not_eq_true', Bool.or_eq_false_iff, decide_eq_false_iff_not] at this
      cases h : sl k r.1 with
      | true => rfl
      | false => exact absurd (sl_tri this.1 h) this.2
theorem merge_eq : ∀ (b a : List Pr), Srt a = true → Srt b = true → mergeS a b = mergeR a b
  | [], a, _, _ => by rw [mergeS_nil]; rfl
  | q :: b, a, ha, hb => by
    rw [merge_set a q b ha hb, merge_eq b _ (srt_set a _ _ ha) (srt_tail hb)]
    rfl
theorem mergeS_len : ∀ (a b : List Pr), (mergeS a b).length ≤ a.length + b.length
  | a, [] => by rw [mergeS_nil]; simp
  | [], q :: b => by rw [mergeS_nil']; simp
  | p :: a, q :: b => by
    rw [mergeS]
    split
    · have := mergeS_len a (q :: b); simp at this ⊢; omega
    · split
      · have := mergeS_len a b; simp; omega
      · have := mergeS_len (p :: a) b; simp at this ⊢; omega
termination_by a b => a.length + b.length
theorem setS_len (l : List Pr) (k v : ByteArray) : (setS l k v).length ≤ 2 * l.length + 1 := by
  have h1 := List.length_filter_le (fun p : Pr => !(sl p.1 k || decide (p.1 = k))) l
  have h2 := (List.takeWhile_prefix (l := l) (fun p : Pr => sl p.1 k)).length_le
  have e : (setS l k v).length = (l.takeWhile (fun p : Pr => sl p.1 k)).length + ((l.filter (fun p : Pr => !(sl p.1 k || decide (p.1 = k)))).length + 1) := by
    rw [setS, List.length_append, List.length_cons]
  rw [e]
  generalize (l.takeWhile (fun p : Pr => sl p.1 k)).length = x at h2 ⊢
  generalize (l.filter (fun p : Pr => !(sl p.1 k || decide (p.1 = k)))).length = y at h1 ⊢
  omega
end Go.Proofs.Ytmdkgaljnoookaa
