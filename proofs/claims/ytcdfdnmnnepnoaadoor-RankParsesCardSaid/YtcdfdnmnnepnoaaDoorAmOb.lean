/- A function's own objects. -/
import Derived.Test.YtcdfdnmnnepnoaaDoorAmEq
set_option linter.unusedVariables false
set_option linter.unusedSimpArgs false
namespace Go.Am

def OB (h : Heap) (l : List (Nat × AObj)) (h' : Heap) : Prop :=
  (∀ o, ¬ h o = none → h' o = h o) ∧ (∀ p ∈ l, h p.1 = none ∧ h' p.1 = some p.2) ∧ (l.map Prod.fst).Nodup
namespace OB
variable {h h1 : Heap} {l A B : List (Nat × AObj)} {b : Nat} {X Y : AObj}
theorem nil : OB h [] h := ⟨fun _ _ => rfl, fun p hp => (List.not_mem_nil hp).elim, List.nodup_nil⟩
theorem keep (H : OB h l h1) : ∀ o, ¬ h o = none → h1 o = h o := H.1
theorem live (H : OB h l h1) {o : Nat} {X : AObj} (ho : h o = some X) : h1 o = some X := by rw [H.1 o (by rw [ho]; simp), ho]
theorem free (H : OB h l h1) (hb : h1 b = none) : h b = none := by
  cases hq : h b with
  | none => rfl
  | some X => rw [H.live hq] at hb; cases hb
theorem new (H : OB h l h1) (hb : h1 b = none) : OB h ((b, X) :: l) (upd h1 b (some X)) := by
  have hb0 := H.free hb
  have hn : ∀ p ∈ l, p.1 ≠ b := fun p hp e => by
    have := (H.2.1 p hp).2
    rw [e, hb] at this
    cases this
  refine ⟨fun o ho => ?_, fun p hp => ?_, ?_⟩
  · have : o ≠ b := fun e => ho (by rw [e]; exact hb0)
    rw [upd_ne _ _ this]
    exact H.1 o ho
  · rcases List.mem_cons.1 hp with rfl | hp
    · exact ⟨hb0, upd_same _ _ _⟩
    · rw [upd_ne _ _ (hn p hp)]
      exact H.2.1 p hp
  · refine List.nodup_cons.2 ⟨fun hm => ?_, H.2.2⟩
    obtain ⟨p, hp, e⟩ := List.mem_map.1 hm
    exact hn p hp e
theorem set (H : OB h (A ++ (b, X) :: B) h1) : OB h (A ++ (b, Y) :: B) (upd h1 b (some Y)) := by
  have hb0 := (H.2.1 (b, X) (by simp)).1
  have hnd := H.2.2
  rw [List.map_append, List.map_cons] at hnd
  obtain ⟨n1, n2, n3⟩ := List.nodup_append.1 hnd
  have hA : ∀ p ∈ A, p.1 ≠ b := fun p hp => n3 p.1 (List.mem_map_of_mem hp) b (by simp)
  have hB : ∀ p ∈ B, p.1 ≠ b := fun p hp e => (List.nodup_cons.1 n2).1 (by rw [← e]; exact List.mem_map.2 ⟨p, hp, rfl⟩)
  refine ⟨fun o ho => ?_, fun p hp => ?_, by rw [List.map_append, List.map_cons]; exact hnd⟩
  · have : o ≠ b := fun e => ho (by rw [e]; exact hb0)
    rw [upd_ne _ _ this]
    exact H.1 o ho
  · rcases List.mem_append.1 hp with hp | hp
    · rw [upd_ne _ _ (hA p hp)]
      exact H.2.1 p (List.mem_append_left _ hp)
    · rcases List.mem_cons.1 hp with rfl | hp
      · exact ⟨hb0, upd_same _ _ _⟩
      · rw [upd_ne _ _ (hB p hp)]
        exact H.2.1 p (by simp [hp])
theorem tail {p : Nat × AObj} (H : OB h (p :: l) h1) : OB h l h1 := ⟨H.1, fun q hq => H.2.1 q (by simp [hq]), (List.nodup_cons.1 H.2.2).2⟩

theorem trans {h2 : Heap} {m : List (Nat × AObj)} (H : OB h l h1) (H2 : OB h1 m h2) : OB h l h2 := by
  refine ⟨fun o ho => ?_, fun p hp => ?_, H.2.2⟩
  · have := H.1 o ho
    rw [H2.1 o (by rw [this]; exact ho), this]
  · obtain ⟨q1, q2⟩ := H.2.1 p hp
    exact ⟨q1, H2.live q2⟩

theorem base {o : Nat} (H : OB h l h1) (ho : h o ≠ none) : OB (upd h o (some X)) l (upd h1 o (some X)) := by
  refine ⟨fun x hx => ?_, fun p hp => ?_, H.2.2⟩
  · simp only [upd] at hx ⊢
    split
    · rfl
    · rename_i hne
      rw [if_neg hne] at hx
      exact H.1 x hx
  · have h1 := H.2.1 p hp
    have hne : p.1 ≠ o := fun e => ho (by rw [← e]; exact h1.1)
    simp only [upd, if_neg hne]
    exact h1

theorem heard {h2 : Heap} {o : Nat} (H : OB h l h1) (ho : h o ≠ none) (hk : ∀ x, x ≠ o → h1 x ≠ none → h2 x = h1 x) : OB (upd h o (h2 o)) l h2 := by
  refine ⟨fun x hx => ?_, fun p hp => ?_, H.2.2⟩
  · by_cases c : x = o
    · subst c; rw [upd_same]
    · rw [upd_ne _ _ c] at hx ⊢
      have := H.1 x hx
      rw [hk x c (by rw [this]; exact hx), this]
  · obtain ⟨q1, q2⟩ := H.2.1 p hp
    have c : p.1 ≠ o := fun e => ho (by rw [← e]; exact q1)
    rw [upd_ne _ _ c]
    exact ⟨q1, by rw [hk p.1 c (by rw [q2]; simp), q2]⟩

theorem hear0 {h2 : Heap} (H : OB h ((b, X) :: l) h1) (hk : ∀ x, x ≠ b → h1 x ≠ none → h2 x = h1 x) (hb : h2 b = some Y) : OB h ((b, Y) :: l) h2 := by
  have hb0 := (H.2.1 (b, X) (by simp)).1
  refine ⟨fun x hx => ?_, fun p hp => ?_, H.2.2⟩
  · have c : x ≠ b := fun e => hx (by rw [e]; exact hb0)
    have := H.1 x hx
    rw [hk x c (by rw [this]; exact hx), this]
  · rcases List.mem_cons.1 hp with rfl | hp
    · exact ⟨hb0, hb⟩
    · obtain ⟨q1, q2⟩ := H.2.1 p (by simp [hp])
      have c : p.1 ≠ b := fun e => (List.nodup_cons.1 H.2.2).1 (by rw [← e]; exact List.mem_map.2 ⟨p, hp, rfl⟩)
      exact ⟨q1, by rw [hk p.1 c (by rw [q2]; simp), q2]⟩
theorem get0 (H : OB h ((b, X) :: l) h1) : h1 b = some X := (H.2.1 (b, X) (by simp)).2
theorem own0 (H : OB h ((b, X) :: l) h1) : h b = none := (H.2.1 (b, X) (by simp)).1
theorem st0 (H : OB h ((b, X) :: l) h1) : OB h ((b, Y) :: l) (upd h1 b (some Y)) := OB.set (A := []) H
theorem get1 {p0 : Nat × AObj} (H : OB h (p0 :: (b, X) :: l) h1) : h1 b = some X := (H.2.1 (b, X) (by simp)).2
theorem own1 {p0 : Nat × AObj} (H : OB h (p0 :: (b, X) :: l) h1) : h b = none := (H.2.1 (b, X) (by simp)).1
theorem st1 {p0 : Nat × AObj} (H : OB h (p0 :: (b, X) :: l) h1) : OB h (p0 :: (b, Y) :: l) (upd h1 b (some Y)) := OB.set (A := [p0]) H
theorem get2 {p0 p1 : Nat × AObj} (H : OB h (p0 :: p1 :: (b, X) :: l) h1) : h1 b = some X := (H.2.1 (b, X) (by simp)).2
theorem own2 {p0 p1 : Nat × AObj} (H : OB h (p0 :: p1 :: (b, X) :: l) h1) : h b = none := (H.2.1 (b, X) (by simp)).1
theorem st2 {p0 p1 : Nat × AObj} (H : OB h (p0 :: p1 :: (b, X) :: l) h1) : OB h (p0 :: p1 :: (b, Y) :: l) (upd h1 b (some Y)) := OB.set (A := [p0, p1]) H
theorem get3 {p0 p1 p2 : Nat × AObj} (H : OB h (p0 :: p1 :: p2 :: (b, X) :: l) h1) : h1 b = some X := (H.2.1 (b, X) (by simp)).2
theorem own3 {p0 p1 p2 : Nat × AObj} (H : OB h (p0 :: p1 :: p2 :: (b, X) :: l) h1) : h b = none := (H.2.1 (b, X) (by simp)).1
theorem st3 {p0 p1 p2 : Nat × AObj} (H : OB h (p0 :: p1 :: p2 :: (b, X) :: l) h1) : OB h (p0 :: p1 :: p2 :: (b, Y) :: l) (upd h1 b (some Y)) := OB.set (A := [p0, p1, p2]) H
theorem get4 {p0 p1 p2 p3 : Nat × AObj} (H : OB h (p0 :: p1 :: p2 :: p3 :: (b, X) :: l) h1) : h1 b = some X := (H.2.1 (b, X) (by simp)).2
theorem own4 {p0 p1 p2 p3 : Nat × AObj} (H : OB h (p0 :: p1 :: p2 :: p3 :: (b, X) :: l) h1) : h b = none := (H.2.1 (b, X) (by simp)).1
theorem st4 {p0 p1 p2 p3 : Nat × AObj} (H : OB h (p0 :: p1 :: p2 :: p3 :: (b, X) :: l) h1) : OB h (p0 :: p1 :: p2 :: p3 :: (b, Y) :: l) (upd h1 b (some Y)) := OB.set (A := [p0, p1, p2, p3]) H
theorem get5 {p0 p1 p2 p3 p4 : Nat × AObj} (H : OB h (p0 :: p1 :: p2 :: p3 :: p4 :: (b, X) :: l) h1) : h1 b = some X := (H.2.1 (b, X) (by simp)).2
theorem own5 {p0 p1 p2 p3 p4 : Nat × AObj} (H : OB h (p0 :: p1 :: p2 :: p3 :: p4 :: (b, X) :: l) h1) : h b = none := (H.2.1 (b, X) (by simp)).1
theorem st5 {p0 p1 p2 p3 p4 : Nat × AObj} (H : OB h (p0 :: p1 :: p2 :: p3 :: p4 :: (b, X) :: l) h1) : OB h (p0 :: p1 :: p2 :: p3 :: p4 :: (b, Y) :: l) (upd h1 b (some Y)) := OB.set (A := [p0, p1, p2, p3, p4]) H
theorem get6 {p0 p1 p2 p3 p4 p5 : Nat × AObj} (H : OB h (p0 :: p1 :: p2 :: p3 :: p4 :: p5 :: (b, X) :: l) h1) : h1 b = some X := (H.2.1 (b, X) (by simp)).2
theorem own6 {p0 p1 p2 p3 p4 p5 : Nat × AObj} (H : OB h (p0 :: p1 :: p2 :: p3 :: p4 :: p5 :: (b, X) :: l) h1) : h b = none := (H.2.1 (b, X) (by simp)).1
theorem st6 {p0 p1 p2 p3 p4 p5 : Nat × AObj} (H : OB h (p0 :: p1 :: p2 :: p3 :: p4 :: p5 :: (b, X) :: l) h1) : OB h (p0 :: p1 :: p2 :: p3 :: p4 :: p5 :: (b, Y) :: l) (upd h1 b (some Y)) := OB.set (A := [p0, p1, p2, p3, p4, p5]) H
theorem get7 {p0 p1 p2 p3 p4 p5 p6 : Nat × AObj} (H : OB h (p0 :: p1 :: p2 :: p3 :: p4 :: p5 :: p6 :: (b, X) :: l) h1) : h1 b = some X := (H.2.1 (b, X) (by simp)).2
theorem own7 {p0 p1 p2 p3 p4 p5 p6 : Nat × AObj} (H : OB h (p0 :: p1 :: p2 :: p3 :: p4 :: p5 :: p6 :: (b, X) :: l) h1) : h b = none := (H.2.1 (b, X) (by simp)).1
theorem st7 {p0 p1 p2 p3 p4 p5 p6 : Nat × AObj} (H : OB h (p0 :: p1 :: p2 :: p3 :: p4 :: p5 :: p6 :: (b, X) :: l) h1) : OB h (p0 :: p1 :: p2 :: p3 :: p4 :: p5 :: p6 :: (b, Y) :: l) (upd h1 b (some Y)) := OB.set (A := [p0, p1, p2, p3, p4, p5, p6]) H
theorem ne01 {p0 p1 : Nat × AObj} (H : OB h (p0 :: p1 :: l) h1) : ¬ p0.1 = p1.1 := by have := H.2.2; simp at this; simp_all
theorem ne02 {p0 p1 p2 : Nat × AObj} (H : OB h (p0 :: p1 :: p2 :: l) h1) : ¬ p0.1 = p2.1 := by have := H.2.2; simp at this; simp_all
theorem ne03 {p0 p1 p2 p3 : Nat × AObj} (H : OB h (p0 :: p1 :: p2 :: p3 :: l) h1) : ¬ p0.1 = p3.1 := by have := H.2.2; simp at this; simp_all
theorem ne04 {p0 p1 p2 p3 p4 : Nat × AObj} (H : OB h (p0 :: p1 :: p2 :: p3 :: p4 :: l) h1) : ¬ p0.1 = p4.1 := by have := H.2.2; simp at this; simp_all
theorem ne05 {p0 p1 p2 p3 p4 p5 : Nat × AObj} (H : OB h (p0 :: p1 :: p2 :: p3 :: p4 :: p5 :: l) h1) : ¬ p0.1 = p5.1 := by have := H.2.2; simp at this; simp_all
theorem ne06 {p0 p1 p2 p3 p4 p5 p6 : Nat × AObj} (H : OB h (p0 :: p1 :: p2 :: p3 :: p4 :: p5 :: p6 :: l) h1) : ¬ p0.1 = p6.1 := by have := H.2.2; simp at this; simp_all
theorem ne07 {p0 p1 p2 p3 p4 p5 p6 p7 : Nat × AObj} (H : OB h (p0 :: p1 :: p2 :: p3 :: p4 :: p5 :: p6 :: p7 :: l) h1) : ¬ p0.1 = p7.1 := by have := H.2.2; simp at this; simp_all
theorem ne12 {p0 p1 p2 : Nat × AObj} (H : OB h (p0 :: p1 :: p2 :: l) h1) : ¬ p1.1 = p2.1 := by have := H.2.2; simp at this; simp_all
theorem ne13 {p0 p1 p2 p3 : Nat × AObj} (H : OB h (p0 :: p1 :: p2 :: p3 :: l) h1) : ¬ p1.1 = p3.1 := by have := H.2.2; simp at this; simp_all
theorem ne14 {p0 p1 p2 p3 p4 : Nat × AObj} (H : OB h (p0 :: p1 :: p2 :: p3 :: p4 :: l) h1) : ¬ p1.1 = p4.1 := by have := H.2.2; simp at this; simp_all
theorem ne15 {p0 p1 p2 p3 p4 p5 : Nat × AObj} (H : OB h (p0 :: p1 :: p2 :: p3 :: p4 :: p5 :: l) h1) : ¬ p1.1 = p5.1 := by have := H.2.2; simp at this; simp_all
theorem ne16 {p0 p1 p2 p3 p4 p5 p6 : Nat × AObj} (H : OB h (p0 :: p1 :: p2 :: p3 :: p4 :: p5 :: p6 :: l) h1) : ¬ p1.1 = p6.1 := by have := H.2.2; simp at this; simp_all
theorem ne17 {p0 p1 p2 p3 p4 p5 p6 p7 : Nat × AObj} (H : OB h (p0 :: p1 :: p2 :: p3 :: p4 :: p5 :: p6 :: p7 :: l) h1) : ¬ p1.1 = p7.1 := by have := H.2.2; simp at this; simp_all
theorem ne23 {p0 p1 p2 p3 : Nat × AObj} (H : OB h (p0 :: p1 :: p2 :: p3 :: l) h1) : ¬ p2.1 = p3.1 := by have := H.2.2; simp at this; simp_all
theorem ne24 {p0 p1 p2 p3 p4 : Nat × AObj} (H : OB h (p0 :: p1 :: p2 :: p3 :: p4 :: l) h1) : ¬ p2.1 = p4.1 := by have := H.2.2; simp at this; simp_all
theorem ne25 {p0 p1 p2 p3 p4 p5 : Nat × AObj} (H : OB h (p0 :: p1 :: p2 :: p3 :: p4 :: p5 :: l) h1) : ¬ p2.1 = p5.1 := by have := H.2.2; simp at this; simp_all
theorem ne26 {p0 p1 p2 p3 p4 p5 p6 : Nat × AObj} (H : OB h (p0 :: p1 :: p2 :: p3 :: p4 :: p5 :: p6 :: l) h1) : ¬ p2.1 = p6.1 := by have := H.2.2; simp at this; simp_all
theorem ne27 {p0 p1 p2 p3 p4 p5 p6 p7 : Nat × AObj} (H : OB h (p0 :: p1 :: p2 :: p3 :: p4 :: p5 :: p6 :: p7 :: l) h1) : ¬ p2.1 = p7.1 := by have := H.2.2; simp at this; simp_all
theorem ne34 {p0 p1 p2 p3 p4 : Nat × AObj} (H : OB h (p0 :: p1 :: p2 :: p3 :: p4 :: l) h1) : ¬ p3.1 = p4.1 := by have := H.2.2; simp at this; simp_all
theorem ne35 {p0 p1 p2 p3 p4 p5 : Nat × AObj} (H : OB h (p0 :: p1 :: p2 :: p3 :: p4 :: p5 :: l) h1) : ¬ p3.1 = p5.1 := by have := H.2.2; simp at this; simp_all
theorem ne36 {p0 p1 p2 p3 p4 p5 p6 : Nat × AObj} (H : OB h (p0 :: p1 :: p2 :: p3 :: p4 :: p5 :: p6 :: l) h1) : ¬ p3.1 = p6.1 := by have := H.2.2; simp at this; simp_all
theorem ne37 {p0 p1 p2 p3 p4 p5 p6 p7 : Nat × AObj} (H : OB h (p0 :: p1 :: p2 :: p3 :: p4 :: p5 :: p6 :: p7 :: l) h1) : ¬ p3.1 = p7.1 := by have := H.2.2; simp at this; simp_all
theorem ne45 {p0 p1 p2 p3 p4 p5 : Nat × AObj} (H : OB h (p0 :: p1 :: p2 :: p3 :: p4 :: p5 :: l) h1) : ¬ p4.1 = p5.1 := by have := H.2.2; simp at this; simp_all
theorem ne46 {p0 p1 p2 p3 p4 p5 p6 : Nat × AObj} (H : OB h (p0 :: p1 :: p2 :: p3 :: p4 :: p5 :: p6 :: l) h1) : ¬ p4.1 = p6.1 := by have := H.2.2; simp at this; simp_all
theorem ne47 {p0 p1 p2 p3 p4 p5 p6 p7 : Nat × AObj} (H : OB h (p0 :: p1 :: p2 :: p3 :: p4 :: p5 :: p6 :: p7 :: l) h1) : ¬ p4.1 = p7.1 := by have := H.2.2; simp at this; simp_all
theorem ne56 {p0 p1 p2 p3 p4 p5 p6 : Nat × AObj} (H : OB h (p0 :: p1 :: p2 :: p3 :: p4 :: p5 :: p6 :: l) h1) : ¬ p5.1 = p6.1 := by have := H.2.2; simp at this; simp_all
theorem ne57 {p0 p1 p2 p3 p4 p5 p6 p7 : Nat × AObj} (H : OB h (p0 :: p1 :: p2 :: p3 :: p4 :: p5 :: p6 :: p7 :: l) h1) : ¬ p5.1 = p7.1 := by have := H.2.2; simp at this; simp_all
theorem ne67 {p0 p1 p2 p3 p4 p5 p6 p7 : Nat × AObj} (H : OB h (p0 :: p1 :: p2 :: p3 :: p4 :: p5 :: p6 :: p7 :: l) h1) : ¬ p6.1 = p7.1 := by have := H.2.2; simp at this; simp_all
end OB

theorem W_ob {P : Program} {ann : Ann} {c : AC} {t : Nat → AV} {h h1 : Heap} {l : List (Nat × AObj)} {Q : Ex → St → Prop} (H : OB h l h1) (hG : ∀ h2, OB h l h2 → W P ann c ⟨t, h2⟩ Q) : W P ann c ⟨t, h1⟩ Q := hG _ H
end Go.Am
