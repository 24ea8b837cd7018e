/- What is no longer asked of the slots may be forgotten; a branch that is not taken is not looked at. -/
import Derived.Test.YtcdfdnmnnepnoaaDoorAmEq
namespace Go.Am
theorem W_forget {P : Program} {ann : Ann} {c : AC} {t : Nat → AV} {h : Heap} {Q : Ex → St → Prop} (F : (Nat → AV) → Prop) (hF : F t) (H : ∀ t', F t' → W P ann c ⟨t', h⟩ Q) : W P ann c ⟨t, h⟩ Q := H t hF
def condK (v : AV) (A B : Prop) : Prop := ∃ t, v = .bool t ∧ (t = true → A) ∧ (t = false → B)
theorem condK_b {b : Bool} {A B : Prop} : condK (.sc (.bool b)) A B = ((b = true → A) ∧ (b = false → B)) := by
  apply propext
  constructor
  · rintro ⟨t, h1, h2⟩
    cases h1
    exact h2
  · intro h
    exact ⟨b, rfl, h⟩
theorem condK_t {A B : Prop} : condK (.sc (.bool true)) A B = A := by rw [condK_b]; simp
theorem condK_f {A B : Prop} : condK (.sc (.bool false)) A B = B := by rw [condK_b]; simp
@[congr] theorem condK_congr {v v' : AV} {A B : Prop} (h : v = v') : condK v A B = condK v' A B := by rw [h]
theorem W_condK {P : Program} {ann : Ann} {t : Nat → AV} {h : Heap} {Q : Ex → St → Prop} {c a b} : W P ann (.cond c a b) ⟨t, h⟩ Q = condK (c.ev t) (W P ann a ⟨t, h⟩ Q) (W P ann b ⟨t, h⟩ Q) := by
  rw [W_cond]
  rfl

theorem W_f {P : Program} {ann : Ann} {c : AC} {t : Nat → AV} {h : Heap} {Q : Ex → St → Prop} (F : (Nat → AV) → Prop) (H : ∀ t', F t' → W P ann c ⟨t', h⟩ Q) (hF : F t := by simp [upd_at, *] <;> and_intros <;> rfl) : W P ann c ⟨t, h⟩ Q := H t hF

theorem AWF.to {P : Program} {ann : Ann} {k f : Nat} {args : List AV} {h : Heap} {v : AV} {Q : AV → Heap → Prop} (H : AWF P ann k f args h fun r h' => r = v ∧ h' = h) (q : Q v h) : AWF P ann k f args h Q :=
  H.mono fun r h' e => by rw [e.1, e.2]; exact q
attribute [go_sem] condK_t condK_f true_and
attribute [go_sem ↓ high] W_condK
end Go.Am
