/- Keys in order: plain lists (under way: numbers; texts and lists to come). -/
import Derived.Test.YtmellpjoinldnaaRankPure
set_option linter.unusedVariables false
set_option linter.unusedSimpArgs false
namespace Go.Proofs.Ytmellpjoinldnaa
open Go.Am
def beFrom (c : Nat) (l : List UInt8) : Nat := l.foldl (fun a b => a * 256 + b.toNat) c
theorem bl_pre (p x y : List UInt8) : Op.bytesLess (p ++ x) (p ++ y) = Op.bytesLess x y := by
  induction p with
  | nil => rfl
  | cons a p ih =>
    rw [List.cons_append, List.cons_append, Op.bytesLess, ih]
    simp [UInt8.lt_irrefl]
theorem beFrom_lt : ∀ (a b : List UInt8) (c d : Nat), a.length = b.length → c < d → beFrom c a < beFrom d b
  | [], [], c, d, _, h => h
  | x :: a, y :: b, c, d, hl, h => by
    have := x.toNat_lt
    exact beFrom_lt a b (c * 256 + x.toNat) (d * 256 + y.toNat) (by simpa using hl) (by have := y.toNat_lt; omega)
  | [], _ :: _, _, _, h, _ => by simp at h
  | _ :: _, [], _, _, h, _ => by simp at h
theorem bl_be : ∀ (a b x y : List UInt8) (c : Nat), a.length = b.length → Op.bytesLess (a ++ x) (b ++ y) = (decide (beFrom c a < beFrom c b) || (decide (beFrom c a = beFrom c b) && Op.bytesLess x y))
  | [], [], x, y, c, _ => by simp [beFrom]
  | p :: a, q :: b, x, y, c, hl => by
    have hl' : a.length = b.length := by simpa using hl
    rw [List.cons_append, List.cons_append, Op.bytesLess]
    have e : ∀ (r : UInt8) (l : List UInt8), beFrom c (r :: l) = beFrom (c * 256 + r.toNat) l := fun _ _ => rfl
    rw [e, e]
    by_cases h1 : p < q
    · have h2 : p.toNat < q.toNat := h1
      have := beFrom_lt a b (c * 256 + p.toNat) (c * 256 + q.toNat) hl' (by omega)
      simp [h1, this]
    · by_cases h2 : p = q
      · subst h2
        rw [bl_be a b x y (c * 256 + p.toNat) hl']
        simp [UInt8.lt_irrefl]
      · have h3 : q.toNat < p.toNat := by
          have : q < p := UInt8.lt_of_le_of_ne (UInt8.not_lt.1 h1) (Ne.symm h2)
          exact this
        have := beFrom_lt b a (c * 256 + q.toNat) (c * 256 + p.toNat) hl'.symm (by omega)
        have h5 : ¬ beFrom (c * 256 + p.toNat) a < beFrom (c * 256 + q.toNat) b := by omega
        have h6 : ¬ beFrom (c * 256 + p.toNat) a = beFrom (c * 256 + q.toNat) b := by omega
        simp [h1, h2, h5, h6]
  | [], _ :: _, _, _, _, h => by simp at h
  | _ :: _, [], _, _, _, h => by simp at h
theorem bl_num {a b : Int} {x y : List UInt8} (ha : -9007199254740992 ≤ a ∧ a ≤ 9007199254740992) (hb : -9007199254740992 ≤ b ∧ b ≤ 9007199254740992) :
    Op.bytesLess (numB a ++ x) (numB b ++ y) = (decide (a < b) || (decide (a = b) && Op.bytesLess x y)) := by
  rw [bl_be (numB a) (numB b) x y 0 (by rw [numB_len, numB_len])]
  have e1 : beFrom 0 (numB a) = liftN a := be_numB a
  have e2 : beFrom 0 (numB b) = liftN b := be_numB b
  rw [e1, e2]
  have h1 : liftN a < liftN b ↔ a < b := by unfold liftN; omega
  have h2 : liftN a = liftN b ↔ a = b := by unfold liftN; omega
  simp only [h1, h2]
theorem bl_ne : ∀ (a b x y : List UInt8), a.length = b.length → a ≠ b → Op.bytesLess (a ++ x) (b ++ y) = Op.bytesLess a b
  | [], [], _, _, _, h => absurd rfl h
  | p :: a, q :: b, x, y, hl, h => by
    rw [List.cons_append, List.cons_append, Op.bytesLess, Op.bytesLess]
    by_cases e : p = q
    · subst e
      rw [bl_ne a b x y (by simpa using hl) (fun e => h (by rw [e]))]
    · have : (p == q) = false := by simpa using e
      rw [this]; simp
  | [], _ :: _, _, _, h, _ => by simp at h
  | _ :: _, [], _, _, h, _ => by simp at h
theorem bl_zeros : ∀ (r : List UInt8) (n : Nat), r.length = n → Op.bytesLess r (zeros n) = false
  | [], n, h => by subst h; rfl
  | a :: r, n + 1, h => by
    have e : zeros (n + 1) = 0 :: zeros n := rfl
    rw [e, Op.bytesLess, bl_zeros r n (by simpa using h)]
    have : ¬ a < 0 := fun h => by have : a.toNat < 0 := h; omega
    simp [this]
  | _ :: _, 0, h => by simp at h
theorem zeros_bl : ∀ (r : List UInt8) (n : Nat), r.length = n → r ≠ zeros n → Op.bytesLess (zeros n) r = true
  | [], n, h, hn => by subst h; exact absurd rfl hn
  | a :: r, n + 1, h, hn => by
    have e : zeros (n + 1) = 0 :: zeros n := rfl
    rw [e, Op.bytesLess]
    by_cases ha : a = 0
    · subst ha
      rw [zeros_bl r n (by simpa using h) (fun e2 => hn (by rw [e2, e]))]
      simp
    · have h0 : (0 : UInt8) < a := by
        have h1 : a.toNat ≠ 0 := fun e => ha (UInt8.toNat_inj.1 e)
        show (0 : UInt8).toNat < a.toNat
        simp; omega
      simp [h0]
  | _ :: _, 0, h, _ => by simp at h
/-- A text that is filled up with zeros, beside bytes of that length. -/
theorem bl_fill : ∀ (u t : List UInt8) (n : Nat), u.length = t.length + n → u ≠ t ++ zeros n → Op.bytesLess u (t ++ zeros n) = Op.bytesLess u t ∧ (Op.bytesLess (t ++ zeros n) u = Op.bytesLess t u)
  | u, [], n, h, hn => by
    simp only [List.nil_append, List.length_nil, Nat.zero_add] at h hn ⊢
    rw [bl_zeros u n h, zeros_bl u n h hn]
    cases u with
    | nil => subst h; exact absurd rfl hn
    | cons a u => exact ⟨rfl, rfl⟩
  | [], q :: t, n, h, _ => by simp at h; omega
  | p :: u, q :: t, n, h, hn => by
    rw [List.cons_append, Op.bytesLess, Op.bytesLess, Op.bytesLess, Op.bytesLess]
    by_cases e : p = q
    · subst e
      have ih := bl_fill u t n (by simp at h; omega) (fun e => hn (by rw [e]; rfl))
      rw [ih.1, ih.2]
      exact ⟨rfl, rfl⟩
    · have h1 : (p == q) = false := by simpa using e
      have h2 : (q == p) = false := by simpa using fun h => e h.symm
      rw [h1, h2]; simp
/-- A shorter text that begins another one. -/
theorem bl_begin (t r : List UInt8) : Op.bytesLess t (t ++ r) = decide (r ≠ []) ∧ Op.bytesLess (t ++ r) t = false := by
  have h1 := bl_pre t [] r
  have h2 := bl_pre t r []
  rw [List.append_nil] at h1 h2
  rw [h1, h2]
  cases r <;> simp [Op.bytesLess]
/-- Bytes behind each other: the first seven of a text decide, or the rest does. -/
theorem bl_take (s t : List UInt8) (hs : 7 ≤ s.length) (ht : 7 ≤ t.length) : Op.bytesLess s t = if s.take 7 = t.take 7 then Op.bytesLess (s.drop 7) (t.drop 7) else Op.bytesLess (s.take 7) (t.take 7) := by
  conv => lhs; rw [← List.take_append_drop 7 s, ← List.take_append_drop 7 t]
  split
  · rename_i h
    rw [h, bl_pre]
  · rename_i h
    rw [bl_ne _ _ _ _ (by simp; omega) h]
theorem bl_long : ∀ (u t r : List UInt8), t.length < u.length → Op.bytesLess (u ++ r) t = Op.bytesLess u t ∧ Op.bytesLess t (u ++ r) = Op.bytesLess t u
  | [], t, r, h => by simp at h
  | a :: u, [], r, h => ⟨rfl, rfl⟩
  | a :: u, b :: t, r, h => by
    have ih := bl_long u t r (by simpa using h)
    rw [List.cons_append, Op.bytesLess, Op.bytesLess, Op.bytesLess, Op.bytesLess, ih.1, ih.2]
    exact ⟨rfl, rfl⟩
/-- A text of seven bytes or more, beside a shorter one. -/
theorem bl_mixed (s t x y : List UInt8) (hs : 7 ≤ s.length) (ht : ¬ 7 ≤ t.length) : Op.bytesLess (textB s ++ x) (textB t ++ y) = Op.bytesLess s t ∧ Op.bytesLess (textB t ++ y) (textB s ++ x) = Op.bytesLess t s := by
  rw [textB_big hs, textB_small ht]
  simp only [List.append_assoc, List.cons_append, List.nil_append]
  rw [← List.append_assoc t]
  have hl : (s.take 7).length = (t ++ zeros (7 - t.length)).length := by simp [zeros]; omega
  have hst : s = s.take 7 ++ s.drop 7 := (List.take_append_drop 7 s).symm
  by_cases e : s.take 7 = t ++ zeros (7 - t.length)
  · rw [e, bl_pre, bl_pre]
    have h8 : ¬ (8 : UInt8) < UInt8.ofNat t.length := fun h => by
      have : (8 : UInt8).toNat < (UInt8.ofNat t.length).toNat := h
      simp at this
      omega
    have h9 : UInt8.ofNat t.length < (8 : UInt8) := by
      show (UInt8.ofNat t.length).toNat < (8 : UInt8).toNat
      simp
      omega
    have hne : ((8 : UInt8) == UInt8.ofNat t.length) = false := by
      have : (8 : UInt8) ≠ UInt8.ofNat t.length := fun e => by rw [← e] at h9; exact absurd h9 (by decide)
      simpa using this
    have hs2 : s = t ++ (zeros (7 - t.length) ++ s.drop 7) := by
      conv => lhs; rw [hst, e, List.append_assoc]
    have hr : zeros (7 - t.length) ++ s.drop 7 ≠ [] := by
      intro h
      have := congrArg List.length h
      simp [zeros] at this
      omega
    have hb := bl_begin t (zeros (7 - t.length) ++ s.drop 7)
    rw [← hs2] at hb
    rw [hb.1, hb.2, Op.bytesLess, Op.bytesLess]
    simp [h8, h9, hne, hr]
  · have hf := bl_fill (s.take 7) t (7 - t.length) (by simp; omega) e
    have hg := bl_long (s.take 7) t (s.drop 7) (by simp; omega)
    rw [bl_ne _ _ _ _ hl e, bl_ne _ _ _ _ hl.symm (fun h => e h.symm), hf.1, hf.2, ← hg.1, ← hg.2, List.take_append_drop]
    exact ⟨rfl, rfl⟩
theorem bl_small (s t : List UInt8) (hs : ¬ 7 ≤ s.length) (ht : ¬ 7 ≤ t.length) (e : s ++ zeros (7 - s.length) ≠ t ++ zeros (7 - t.length)) :
    Op.bytesLess (s ++ zeros (7 - s.length)) (t ++ zeros (7 - t.length)) = Op.bytesLess s t := by
  have hz : ∀ n, (zeros n).length = n := fun n => by simp [zeros]
  by_cases h : t.length ≤ s.length
  · rw [(bl_fill (s ++ zeros (7 - s.length)) t (7 - t.length) (by rw [List.length_append, hz]; omega) e).1]
    by_cases h2 : t.length < s.length
    · exact (bl_long s t _ h2).1
    · have hl : s.length = t.length := by omega
      have hne : s ≠ t := fun q => e (by rw [q])
      have := bl_ne s t (zeros (7 - s.length)) [] hl hne
      rwa [List.append_nil] at this
  · rw [(bl_fill (t ++ zeros (7 - t.length)) s (7 - s.length) (by rw [List.length_append, hz]; omega) (fun h => e h.symm)).2]
    exact (bl_long t s _ (by omega)).2
/-- Texts' keys are ordered as the texts are. -/
theorem bl_text : ∀ (n : Nat) (s t x y : List UInt8), s.length ≤ n → Op.bytesLess (textB s ++ x) (textB t ++ y) = (Op.bytesLess s t || (decide (s = t) && Op.bytesLess x y))
  | n, s, t, x, y, hn => by
    by_cases hs : 7 ≤ s.length
    · by_cases ht : 7 ≤ t.length
      · match n with
        | 0 => omega
        | n + 1 =>
          rw [textB_big hs, textB_big ht, bl_take s t hs ht]
          simp only [List.append_assoc, List.cons_append]
          have hst : s = t ↔ s.take 7 = t.take 7 ∧ s.drop 7 = t.drop 7 := by
            constructor
            · intro h; rw [h]; exact ⟨rfl, rfl⟩
            · rintro ⟨h1, h2⟩
              rw [← List.take_append_drop 7 s, ← List.take_append_drop 7 t, h1, h2]
          by_cases e : s.take 7 = t.take 7
          · rw [e, bl_pre, if_pos rfl, Op.bytesLess, bl_text n (s.drop 7) (t.drop 7) x y (by simp; omega)]
            have h8 : ¬ (8 : UInt8) < 8 := by decide
            simp [h8, hst, e]
          · rw [bl_ne _ _ _ _ (by simp; omega) e, if_neg e]
            have : ¬ s = t := fun h => e (hst.1 h).1
            simp [this]
      · rw [(bl_mixed s t x y hs ht).1]
        have : ¬ s = t := fun h => ht (by rw [← h]; exact hs)
        simp [this]
    · by_cases ht : 7 ≤ t.length
      · rw [(bl_mixed t s y x ht hs).2]
        have : ¬ s = t := fun h => hs (by rw [h]; exact ht)
        simp [this]
      · rw [textB_small hs, textB_small ht]
        by_cases e : s ++ zeros (7 - s.length) = t ++ zeros (7 - t.length)
        · rw [List.append_assoc (s ++ zeros (7 - s.length)), List.append_assoc (t ++ zeros (7 - t.length)), e, bl_pre, List.singleton_append, List.singleton_append, Op.bytesLess]
          have hz : ∀ n, (zeros n).length = n := fun n => by simp [zeros]
          have lt_of : ∀ a b : Nat, a < 7 → b < 7 → (UInt8.ofNat a < UInt8.ofNat b ↔ a < b) := fun a b ha hb => by
            show (UInt8.ofNat a).toNat < (UInt8.ofNat b).toNat ↔ a < b
            simp; omega
          have eq_of : ∀ a b : Nat, a < 7 → b < 7 → ((UInt8.ofNat a == UInt8.ofNat b) = decide (a = b)) := fun a b ha hb => by
            by_cases h : a = b
            · subst h; simp
            · have : UInt8.ofNat a ≠ UInt8.ofNat b := fun q => by
                have := congrArg UInt8.toNat q
                simp at this
                omega
              simp [h, this]
          have begins : ∀ a b : List UInt8, a ++ zeros (7 - a.length) = b ++ zeros (7 - b.length) → a.length < b.length → ∃ r, r ≠ [] ∧ b = a ++ r := by
            intro a b hab hlt
            have h1 : b = (a ++ zeros (7 - a.length)).take b.length := by rw [hab, List.take_left]
            refine ⟨(zeros (7 - a.length)).take (b.length - a.length), ?_, ?_⟩
            · intro q
              rw [List.take_append, q, List.append_nil] at h1
              have := congrArg List.length h1
              simp at this
              omega
            · conv => lhs; rw [h1, List.take_append, List.take_of_length_le (Nat.le_of_lt hlt)]
          have hlt := lt_of s.length t.length (by omega) (by omega)
          have heq := eq_of s.length t.length (by omega) (by omega)
          rcases Nat.lt_trichotomy s.length t.length with h | h | h
          · obtain ⟨r, hr, hb⟩ := begins s t e h
            have := (bl_begin s r).1
            rw [← hb] at this
            rw [this]
            simp [hlt, h, hr]
          · have hst : s = t := (List.append_inj e h).1
            subst hst
            simp [bl_irr]
          · obtain ⟨r, hr, hb⟩ := begins t s e.symm h
            have h2 := (bl_begin t r).2
            rw [← hb] at h2
            have h3 : ¬ s = t := fun q => by rw [q] at h; omega
            have h4 : ¬ s.length < t.length := by omega
            have h5 : ¬ s.length = t.length := by omega
            rw [heq, h2]
            simp [hlt, h3, h4, h5]
        · rw [List.append_assoc (s ++ zeros (7 - s.length)), List.append_assoc (t ++ zeros (7 - t.length)), bl_ne _ _ _ _ (by simp [zeros]; omega) e, bl_small s t hs ht e]
          have : ¬ s = t := fun h => e (by rw [h])
          simp [this]
termination_by n => n
theorem sl_str (s t : List UInt8) : sl (str s) (str t) = Op.bytesLess s t := by
  unfold sl
  rw [ByteArray.toList_eq, ByteArray.toList_eq, str_data, str_data]
end Go.Proofs.Ytmellpjoinldnaa
