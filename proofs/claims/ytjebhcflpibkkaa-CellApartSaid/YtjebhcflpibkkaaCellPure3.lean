/- Unlike cells have unlike bytes. -/
import Derived.Test.YtjebhcflpibkkaaCellPure2
set_option linter.unusedVariables false
set_option linter.unusedSimpArgs false
namespace Go.Proofs.Ytjebhcflpibkkaa
open Go.Am
theorem sameL_eq {l : List Cel} (h : ∀ x ∈ l, ∀ y, sameS x y = true → x = y) : ∀ l', sameL l l' = true → l = l' := by
  induction l with
  | nil => intro l' h; cases l' with
    | nil => rfl
    | cons _ _ => simp [sameL] at h
  | cons x l ih =>
    intro l' hs
    cases l' with
    | nil => simp [sameL] at hs
    | cons y l' =>
      rw [sameL, Bool.and_eq_true] at hs
      rw [h x (by simp) y hs.1, ih (fun z hz => h z (by simp [hz])) l' hs.2]
theorem sameS_same (a : Cel) : ∀ b, sameS a b = true → a = b := by
  induction a using Cel.ind with
  | h a ih =>
    intro b hs
    cases a with
    | mk k n s l =>
      cases b with
      | mk k' n' s' l' =>
        rw [sameS] at hs
        simp only [Bool.and_eq_true, decide_eq_true_eq] at hs
        obtain ⟨⟨⟨rfl, rfl⟩, rfl⟩, h⟩ := hs
        rw [sameL_eq (l := l) ih l' h]
theorem u8_inj {a b : Nat} (ha : a < 256) (hb : b < 256) (h : UInt8.ofNat a = UInt8.ofNat b) : a = b := by
  have := congrArg UInt8.toNat h
  simp at this
  omega
theorem numB_pre : ∀ (m m' : Nat) (r r' : List UInt8), numB m ++ r = numB m' ++ r' → m = m' ∧ r = r' := by
  intro m
  induction m using Nat.strongRecOn with
  | _ m ih =>
    intro m' r r' h
    rw [numB, numB.eq_def m'] at h
    split at h
    · split at h
      · simp only [List.cons_append, List.nil_append, List.cons.injEq] at h
        exact ⟨u8_inj (by omega) (by omega) h.1, h.2⟩
      · simp only [List.cons_append, List.nil_append, List.cons.injEq] at h
        have := u8_inj (by omega) (by omega) h.1
        omega
    · split at h
      · simp only [List.cons_append, List.nil_append, List.cons.injEq] at h
        have := u8_inj (by omega) (by omega) h.1
        omega
      · simp only [List.cons_append, List.cons.injEq] at h
        have h1 := u8_inj (by omega) (by omega) h.1
        obtain ⟨h2, h3⟩ := ih (m / 128) (by omega) (m' / 128) r r' h.2
        exact ⟨by omega, h3⟩
theorem zig_inj {a b : Int} (h : zig a = zig b) : a = b := by
  unfold zig at h
  split at h <;> split at h <;> omega
theorem encL_pre {l : List Cel} (h : ∀ x ∈ l, ∀ y r r', pureS x = true → pureS y = true → encB x ++ r = encB y ++ r' → x = y ∧ r = r') :
    ∀ (l' : List Cel) (r r' : List UInt8), l.length = l'.length → pureL l = true → pureL l' = true → encL l ++ r = encL l' ++ r' → l = l' ∧ r = r' := by
  induction l with
  | nil =>
    intro l' r r' hl _ _ he
    have : l' = [] := List.eq_nil_of_length_eq_zero hl.symm
    subst this
    exact ⟨rfl, he⟩
  | cons x l ih =>
    intro l' r r' hl hp hp' he
    cases l' with
    | nil => simp at hl
    | cons y l' =>
      rw [pureL, Bool.and_eq_true] at hp hp'
      rw [encL, encL, List.append_assoc, List.append_assoc] at he
      obtain ⟨rfl, h2⟩ := h x (by simp) y _ _ hp.1 hp'.1 he
      obtain ⟨rfl, h3⟩ := ih (fun z hz => h z (by simp [hz])) l' r r' (by simpa using hl) hp.2 hp'.2 h2
      exact ⟨rfl, h3⟩
theorem pureS_cases {k n : Int} {s : ByteArray} {l : List Cel} (h : pureS (.mk k n s l) = true) :
    (k = 1 ∧ s = ByteArray.empty ∧ l = []) ∨ (k = 2 ∧ n = 0 ∧ l = []) ∨ (k = 3 ∧ n = 0 ∧ s = ByteArray.empty ∧ pureL l = true) := by
  rw [pureS] at h
  split at h
  · rename_i hk
    simp only [Bool.and_eq_true, decide_eq_true_eq] at h
    exact .inl ⟨hk, h.1.2, List.eq_nil_of_length_eq_zero h.2⟩
  · split at h
    · rename_i hk
      simp only [Bool.and_eq_true, decide_eq_true_eq] at h
      exact .inr (.inl ⟨hk, h.1, List.eq_nil_of_length_eq_zero h.2⟩)
    · split at h
      · rename_i hk
        simp only [Bool.and_eq_true, decide_eq_true_eq] at h
        exact .inr (.inr ⟨hk, h.1.1, h.1.2, h.2⟩)
      · cases h
theorem ba_ext {s s' : ByteArray} (h : s.data.toList = s'.data.toList) : s = s' := by
  cases s; cases s'
  simp only [ByteArray.mk.injEq]
  exact Array.ext' h
theorem encB_pre (a : Cel) : ∀ b r r', pureS a = true → pureS b = true → encB a ++ r = encB b ++ r' → a = b ∧ r = r' := by
  induction a using Cel.ind with
  | h a ih =>
    intro b r r' ha hb he
    cases a with
    | mk k n s l =>
      cases b with
      | mk k' n' s' l' =>
        rw [encB, encB, List.cons_append, List.cons_append, List.cons.injEq] at he
        obtain ⟨hk, he⟩ := he
        have hkk : k = k' := by
          have h1 := pureS_cases ha
          have h2 := pureS_cases hb
          have := u8_inj (by omega) (by omega) hk
          omega
        subst hkk
        rcases pureS_cases ha with ⟨rfl, rfl, rfl⟩ | ⟨rfl, rfl, rfl⟩ | ⟨rfl, rfl, rfl, hp⟩
        · rcases pureS_cases hb with ⟨_, rfl, rfl⟩ | ⟨h, _⟩ | ⟨h, _⟩
          · rw [if_pos rfl, if_pos rfl] at he
            obtain ⟨h1, h2⟩ := numB_pre _ _ _ _ he
            rw [zig_inj h1]
            exact ⟨rfl, h2⟩
          · omega
          · omega
        · rcases pureS_cases hb with ⟨h, _⟩ | ⟨_, rfl, rfl⟩ | ⟨h, _⟩
          · omega
          · rw [if_neg (by decide), if_pos rfl, if_neg (by decide), if_pos rfl, List.append_assoc, List.append_assoc] at he
            obtain ⟨h1, h2⟩ := numB_pre _ _ _ _ he
            have hlen : s.data.toList.length = s'.data.toList.length := by rw [Array.length_toList, Array.length_toList]; exact h1
            obtain ⟨h3, h4⟩ := List.append_inj h2 hlen
            rw [ba_ext h3]
            exact ⟨rfl, h4⟩
          · omega
        · rcases pureS_cases hb with ⟨h, _⟩ | ⟨h, _⟩ | ⟨_, rfl, rfl, hp'⟩
          · omega
          · omega
          · rw [if_neg (by decide), if_neg (by decide), if_neg (by decide), if_neg (by decide), List.append_assoc, List.append_assoc] at he
            obtain ⟨h1, h2⟩ := numB_pre _ _ _ _ he
            obtain ⟨h3, h4⟩ := encL_pre (l := l) ih l' r r' h1 hp hp' h2
            rw [h3]
            exact ⟨rfl, h4⟩
/-- Bytes of which one's are the beginning of the other's are the same cell's. -/
theorem enc_apart {a b : Cel} (ha : pureS a = true) (hb : pureS b = true) {n : Nat} (hn : n = min (encB a).length (encB b).length) :
    decide ((encB a).take n = (encB b).take n) = sameS a b := by
  rw [Bool.eq_iff_iff, decide_eq_true_eq]
  constructor
  · intro h
    have key : a = b := by
      rcases Nat.le_total (encB a).length (encB b).length with hle | hle
      · have hn' : n = (encB a).length := by omega
        have h' : (encB b).take n = encB a := by rw [← h, hn', List.take_length]
        have : encB a ++ (encB b).drop n = encB b ++ [] := by rw [List.append_nil]; exact Eq.trans (by rw [h']) (List.take_append_drop n (encB b))
        exact (encB_pre a b _ _ ha hb this).1
      · have hn' : n = (encB b).length := by omega
        have h' : (encB a).take n = encB b := by rw [h, hn', List.take_length]
        have : encB b ++ (encB a).drop n = encB a ++ [] := by rw [List.append_nil]; exact Eq.trans (by rw [h']) (List.take_append_drop n (encB a))
        exact (encB_pre b a _ _ hb ha this).1.symm
    rw [key]
    exact sameS_refl b
  · intro h
    rw [sameS_same a b h]
end Go.Proofs.Ytjebhcflpibkkaa
