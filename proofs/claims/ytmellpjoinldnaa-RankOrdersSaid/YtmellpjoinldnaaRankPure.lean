/- Keys, in plain lists: no key begins another one but for a list that begins the other one. -/
import Derived.Test.YtmellpjoinldnaaRankKey
set_option linter.unusedVariables false
set_option linter.unusedSimpArgs false
namespace Go.Proofs.Ytmellpjoinldnaa
open Go.Am
/-- Bytes that make a number. -/
def be (l : List UInt8) : Nat := l.foldl (fun a b => a * 256 + b.toNat) 0
theorem be_numB (n : Int) : be (numB n) = liftN n := by
  have hl : liftN n < 18446744073709551616 := by unfold liftN; omega
  simp only [numB, be, List.range, List.range.loop, List.map_cons, List.map_nil, List.foldl_cons, List.foldl_nil, UInt8.toNat_ofNat']
  generalize liftN n = u at hl
  omega
theorem numB_inj {a b : Int} (ha : -9007199254740992 ≤ a ∧ a ≤ 9007199254740992) (hb : -9007199254740992 ≤ b ∧ b ≤ 9007199254740992) (h : numB a = numB b) : a = b := by
  have h1 := be_numB a
  rw [h, be_numB b] at h1
  unfold liftN at h1
  omega
theorem app_split {α : Type} {a b x y : List α} (hl : a.length = b.length) (h : a ++ x = b ++ y) : a = b ∧ x = y := List.append_inj h hl
theorem textB_small {s : List UInt8} (h : ¬ 7 ≤ s.length) : textB s = s ++ zeros (7 - s.length) ++ [UInt8.ofNat s.length] := by rw [textB, dif_neg h]
theorem textB_big {s : List UInt8} (h : 7 ≤ s.length) : textB s = s.take 7 ++ 8 :: textB (s.drop 7) := by rw [textB, dif_pos h]
theorem textB_free : ∀ (n : Nat) (s t x y : List UInt8), s.length ≤ n → textB s ++ x = textB t ++ y → s = t
  | n, s, t, x, y, hn, h => by
    by_cases hs : 7 ≤ s.length
    · by_cases ht : 7 ≤ t.length
      · rw [textB_big hs, textB_big ht] at h
        simp only [List.append_assoc, List.cons_append] at h
        obtain ⟨h1, h2⟩ := List.append_inj h (by simp; omega)
        rw [List.cons.injEq] at h2
        match n with
        | 0 => omega
        | n + 1 =>
          have h3 := textB_free n (s.drop 7) (t.drop 7) x y (by simp; omega) h2.2
          rw [← List.take_append_drop 7 s, ← List.take_append_drop 7 t, h1, h3]
      · rw [textB_big hs, textB_small ht] at h
        simp only [List.append_assoc, List.cons_append] at h
        rw [← List.append_assoc t] at h
        obtain ⟨h1, h2⟩ := List.append_inj h (by simp [zeros]; omega)
        have : (8 : UInt8) = UInt8.ofNat t.length := by simpa using (List.cons.inj h2).1
        have := congrArg UInt8.toNat this
        simp at this
        omega
    · by_cases ht : 7 ≤ t.length
      · rw [textB_small hs, textB_big ht] at h
        simp only [List.append_assoc, List.cons_append] at h
        rw [← List.append_assoc s] at h
        obtain ⟨h1, h2⟩ := List.append_inj h (by simp [zeros]; omega)
        have : UInt8.ofNat s.length = (8 : UInt8) := by simpa using (List.cons.inj h2).1
        have := congrArg UInt8.toNat this
        simp at this
        omega
      · rw [textB_small hs, textB_small ht] at h
        simp only [List.append_assoc, List.cons_append] at h
        rw [← List.append_assoc s, ← List.append_assoc t] at h
        obtain ⟨h1, h2⟩ := List.append_inj h (by simp [zeros]; omega)
        have : UInt8.ofNat s.length = UInt8.ofNat t.length := by simpa using (List.cons.inj h2).1
        have := congrArg UInt8.toNat this
        simp at this
        have hst : s.length = t.length := by omega
        exact (List.append_inj h1 hst).1
termination_by n => n

/-- The values that may be. -/
inductive Good : Vl → Prop
  | num (n : Int) (h : -9007199254740992 ≤ n ∧ n ≤ 9007199254740992) : Good (numV n)
  | text (s : List UInt8) : Good (textV s)
  | point (a b : Int) (ha : -9007199254740992 ≤ a ∧ a ≤ 9007199254740992) (hb : -9007199254740992 ≤ b ∧ b ≤ 9007199254740992) : Good (pointV a b)
theorem good_of {v : Vl} (h : checkS v = 0) : Good v := by
  unfold checkS at h
  split at h
  · split at h
    · rename_i h1
      simp only [Bool.and_eq_true, decide_eq_true_eq, okNum] at h1
      rw [h1.1]
      exact .num _ ⟨h1.2.1, h1.2.2⟩
    · cases h
  · split at h
    · split at h
      · rename_i h1
        simp only [Bool.and_eq_true, decide_eq_true_eq, okPart] at h1
        rw [h1.1]
        exact .point _ _ (by omega) (by omega)
      · cases h
    · split at h
      · split at h
        · cases h
        · split at h
          · rename_i h1
            rw [h1]
            exact .text _
          · cases h
      · cases h
theorem keyB_num (n : Int) : keyB (numV n) = 1 :: numB n := rfl
theorem keyB_text (s : List UInt8) : keyB (textV s) = 2 :: textB s := rfl
theorem keyB_point (a b : Int) : keyB (pointV a b) = 3 :: (numB a ++ numB b) := rfl
theorem keyB_free {v w : Vl} {x y : List UInt8} (hv : Good v) (hw : Good w) (h : keyB v ++ x = keyB w ++ y) : v = w ∧ x = y := by
  have fin : v = w → v = w ∧ x = y := fun e => ⟨e, by rw [e] at h; exact List.append_cancel_left h⟩
  apply fin
  cases hv with
  | num n hn =>
    cases hw with
    | num m hm =>
      rw [keyB_num, keyB_num, List.cons_append, List.cons_append, List.cons.injEq] at h
      rw [numB_inj hn hm (List.append_inj h.2 (by rw [numB_len, numB_len])).1]
    | text s => rw [keyB_num, keyB_text, List.cons_append, List.cons_append, List.cons.injEq] at h; exact absurd h.1 (by decide)
    | point c d _ _ => rw [keyB_num, keyB_point, List.cons_append, List.cons_append, List.cons.injEq] at h; exact absurd h.1 (by decide)
  | text s =>
    cases hw with
    | num m hm => rw [keyB_text, keyB_num, List.cons_append, List.cons_append, List.cons.injEq] at h; exact absurd h.1 (by decide)
    | text t =>
      rw [keyB_text, keyB_text, List.cons_append, List.cons_append, List.cons.injEq] at h
      rw [textB_free _ s t x y (Nat.le_refl _) h.2]
    | point c d _ _ => rw [keyB_text, keyB_point, List.cons_append, List.cons_append, List.cons.injEq] at h; exact absurd h.1 (by decide)
  | point a b ha hb =>
    cases hw with
    | num m hm => rw [keyB_point, keyB_num, List.cons_append, List.cons_append, List.cons.injEq] at h; exact absurd h.1 (by decide)
    | text s => rw [keyB_point, keyB_text, List.cons_append, List.cons_append, List.cons.injEq] at h; exact absurd h.1 (by decide)
    | point c d hc hd =>
      rw [keyB_point, keyB_point, List.cons_append, List.cons_append, List.cons.injEq, List.append_assoc, List.append_assoc] at h
      obtain ⟨h1, h2⟩ := List.append_inj h.2 (by rw [numB_len, numB_len])
      obtain ⟨h3, _⟩ := List.append_inj h2 (by rw [numB_len, numB_len])
      rw [numB_inj ha hc h1, numB_inj hb hd h3]
theorem keyE_cons {v : Vl} {l : List Vl} (h : keyE (v :: l) = 0) : Good v ∧ keyE l = 0 := by
  rw [keyE] at h
  split at h
  · exact ⟨good_of ‹_›, h⟩
  · contradiction
theorem keyBs_cons (v : Vl) (l : List Vl) : keyBs (v :: l) = keyB v ++ keyBs l := by simp [keyBs]
theorem keys_begin : ∀ (a b : List Vl) (x : List UInt8), keyE a = 0 → keyE b = 0 → keyBs b = keyBs a ++ x → ∃ c, b = a ++ c
  | [], b, x, _, _, _ => ⟨b, rfl⟩
  | v :: a, [], x, ha, _, h => by
    rw [keyBs_cons] at h
    simp [keyBs, keyB] at h
  | v :: a, w :: b, x, ha, hb, h => by
    rw [keyBs_cons, keyBs_cons, List.append_assoc] at h
    obtain ⟨g1, g2⟩ := keyE_cons ha
    obtain ⟨g3, g4⟩ := keyE_cons hb
    obtain ⟨e1, e2⟩ := keyB_free g3 g1 h
    obtain ⟨c, hc⟩ := keys_begin a b x g2 g4 e2
    exact ⟨c, by rw [e1, hc]; rfl⟩
theorem keys_begin_iff {a b : List Vl} (ha : keyE a = 0) (hb : keyE b = 0) : (keyBs b).take (keyBs a).length = keyBs a ∧ (keyBs a).length ≤ (keyBs b).length ↔ b.take a.length = a ∧ a.length ≤ b.length := by
  constructor
  · rintro ⟨h1, _⟩
    obtain ⟨c, hc⟩ := keys_begin a b ((keyBs b).drop (keyBs a).length) ha hb (by conv => lhs; rw [← List.take_append_drop (keyBs a).length (keyBs b)]
                                                                                 rw [h1])
    rw [hc]
    simp
  · rintro ⟨h1, _⟩
    have : b = a ++ b.drop a.length := by conv => lhs; rw [← List.take_append_drop a.length b, h1]
    rw [this]
    simp [keyBs]
end Go.Proofs.Ytmellpjoinldnaa
