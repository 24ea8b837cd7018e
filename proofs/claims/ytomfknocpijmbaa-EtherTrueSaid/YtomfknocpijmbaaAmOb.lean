/- A function's own objects. -/
import Derived.Test.YtomfknocpijmbaaAmEq
set_option linter.unusedVariables false
set_option linter.unusedSimpArgs false
namespace Go.Am
def OB (h : Heap) (l : List (Nat × AObj)) (h' : Heap) : Prop :=
 (∀ o, ¬ h o = none → h' o = h o) ∧ (∀ p ∈ l, h p.1 = none ∧ h' p.1 = some p.2) ∧ (l.map Prod.fst).Nodup
namespace OB
variable {h h1 : Heap} {l A B : List (Nat × AObj)} {b : Nat} {X Y : AObj}
theorem nil : OB h [] h := ⟨fun _ _ => rfl, fun p hp => (List.not_mem_nil hp).elim, List.nodup_nil⟩
theorem keep (H : OB h l h1) : ∀ o, ¬ h o = none → h1 o = h o := H.1
theorem live (H : OB h l h1) {o : Nat} {X : AObj} (ho : h o = some X) : h1 o = some X := by rw [H.1 o (by rw [ho]; simp), ho]
theorem free (H : OB h l h1) (hb : h1 b = none) : h b = none := by
 cases hq : h b with
 | none => rfl
 | some X => rw [H.live hq] at hb; cases hb
theorem new (H : OB h l h1) (hb : h1 b = none) : OB h ((b, X) :: l) (upd h1 b (some X)) := by
 have hb0 := H.free hb
 have hn : ∀ p ∈ l, p.1 ≠ b := fun p hp e => by
  have := (H.2.1 p hp).2
  rw [e, hb] at this
  cases this
 refine ⟨fun o ho => ?_, fun p hp => ?_, ?_⟩
 ·have : o ≠ b := fun e => ho (by rw [e]; exact hb0)
  rw [upd_ne _ _ this]
  exact H.1 o ho
 ·rcases List.mem_cons.1 hp with rfl | hp
  ·exact ⟨hb0, upd_same _ _ _⟩
  ·rw [upd_ne _ _ (hn p hp)]
   exact H.2.1 p hp
 ·refine List.nodup_cons.2 ⟨fun hm => ?_, H.2.2⟩
  obtain ⟨p, hp, e⟩ := List.mem_map.1 hm
  exact hn p hp e
theorem set (H : OB h (A ++ (b, X) :: B) h1) : OB h (A ++ (b, Y) :: B) (upd h1 b (some Y)) := by
 have hb0 := (H.2.1 (b, X) (by simp)).1
 have hnd := H.2.2
 rw [List.map_append, List.map_cons] at hnd
 obtain ⟨n1, n2, n3⟩ := List.nodup_append.1 hnd
 have hA : ∀ p ∈ A, p.1 ≠ b := fun p hp => n3 p.1 (List.mem_map_of_mem hp) b (by simp)
 have hB : ∀ p ∈ B, p.1 ≠ b := fun p hp e => (List.nodup_cons.1 n2).1 (by rw [← e]; exact List.mem_map.2 ⟨p, hp, rfl⟩)
 refine ⟨fun o ho => ?_, fun p hp => ?_, by rw [List.map_append, List.map_cons]; exact hnd⟩
 ·have : o ≠ b := fun e => ho (by rw [e]; exact hb0)
  rw [upd_ne _ _ this]
  exact H.1 o ho
 ·rcases List.mem_append.1 hp with hp | hp
  ·rw [upd_ne _ _ (hA p hp)]
   exact H.2.1 p (List.mem_append_left _ hp)
  ·rcases List.mem_cons.1 hp with rfl | hp
   ·exact ⟨hb0, upd_same _ _ _⟩
   ·rw [upd_ne _ _ (hB p hp)]
    exact H.2.1 p (by simp [hp])
theorem trans {h2 : Heap} {m : List (Nat × AObj)} (H : OB h l h1) (H2 : OB h1 m h2) : OB h l h2 := by
 refine ⟨fun o ho => ?_, fun p hp => ?_, H.2.2⟩
 ·have := H.1 o ho
  rw [H2.1 o (by rw [this]; exact ho), this]
 ·obtain ⟨q1, q2⟩ := H.2.1 p hp
  exact ⟨q1, H2.live q2⟩
theorem base {o : Nat} (H : OB h l h1) (ho : h o ≠ none) : OB (upd h o (some X)) l (upd h1 o (some X)) := by
 refine ⟨fun x hx => ?_, fun p hp => ?_, H.2.2⟩
 ·simp only [upd] at hx ⊢
  split
  ·rfl
  ·rename_i hne
   rw [if_neg hne] at hx
   exact H.1 x hx
 ·have h1 := H.2.1 p hp
  have hne : p.1 ≠ o := fun e => ho (by rw [← e]; exact h1.1)
  simp only [upd, if_neg hne]
  exact h1
theorem get0 (H : OB h ((b, X) :: l) h1) : h1 b = some X := (H.2.1 (b, X) (by simp)).2
theorem own0 (H : OB h ((b, X) :: l) h1) : h b = none := (H.2.1 (b, X) (by simp)).1
theorem st0 (H : OB h ((b, X) :: l) h1) : OB h ((b, Y) :: l) (upd h1 b (some Y)) := OB.set (A := []) H
theorem get1 {p0 : Nat × AObj} (H : OB h (p0 :: (b, X) :: l) h1) : h1 b = some X := (H.2.1 (b, X) (by simp)).2
theorem own1 {p0 : Nat × AObj} (H : OB h (p0 :: (b, X) :: l) h1) : h b = none := (H.2.1 (b, X) (by simp)).1
theorem get2 {p0 p1 : Nat × AObj} (H : OB h (p0 :: p1 :: (b, X) :: l) h1) : h1 b = some X := (H.2.1 (b, X) (by simp)).2
theorem get3 {p0 p1 p2 : Nat × AObj} (H : OB h (p0 :: p1 :: p2 :: (b, X) :: l) h1) : h1 b = some X := (H.2.1 (b, X) (by simp)).2
end OB
theorem W_ob {P : Program} {ann : Ann} {c : AC} {t : Nat → AV} {h h1 : Heap} {l : List (Nat × AObj)} {Q : Ex → St → Prop} (H : OB h l h1) (hG : ∀ h2, OB h l h2 → W P ann c ⟨t, h2⟩ Q) : W P ann c ⟨t, h1⟩ Q := hG _ H
end Go.Am
