/- Drawn regions where some operation chooses: by a table that hangs on the choice. -/
import Derived.Test.YtomfknocpijmbaaAmTab
set_option linter.unusedVariables false
namespace Go.Am
def keptC (ops : List AOper) (t t' : Nat → AV) : Prop := ∀ k, (ops.all fun o => o.dst != some k) = true → t' k = t k
def slotC (v : Nat → AV) (t' : Nat → AV) (ops : List AOper) (j : Nat) : Prop := ∀ o, ops[j]? = some o → ∀ d, o.dst = some d → t' d = v j
def stepC {α : Type} (P : Program) (ann : Ann) (ops : List AOper) (Cond : α → (Nat → Bool) → Prop) (vals : α → Nat → AV) (Hh : α → (Nat → Bool) → Heap) (o : AOper) (i : Nat) (c : α) (l : Nat → Bool) (t' : Nat → AV) : Prop :=
 AW1 P ann o ⟨t', Hh c l⟩ fun s' => ∃ c', Cond c' (upd l i true) ∧ s'.h = Hh c' (upd l i true) ∧ s'.t = putd t' o.dst (vals c' i) ∧ ∀ j, l j = true → vals c' j = vals c j
def stepsC {α : Type} (P : Program) (ann : Ann) (ops : List AOper) (pre : List (List Nat)) (Cond : α → (Nat → Bool) → Prop) (vals : α → Nat → AV) (Hh : α → (Nat → Bool) → Heap) (t : Nat → AV) : List AOper → Nat → Prop
 | [], _ => True
 | o :: r, i => (∀ c l t', Cond c l → clo pre l → l i = false → (∀ j ∈ pre.getD i [], l j = true) → keptC ops t t' → (∀ j ∈ pre.getD i [], slotC (vals c) t' ops j) → stepC P ann ops Cond vals Hh o i c l t') ∧ stepsC P ann ops pre Cond vals Hh t r (i + 1)
section
variable {α : Type} {P : Program} {ann : Ann} {ops : List AOper} {pre : List (List Nat)} {Cond : α → (Nat → Bool) → Prop} {vals : α → Nat → AV} {Hh : α → (Nat → Bool) → Heap} {t : Nat → AV}
theorem stepsC_at : ∀ {r : List AOper} {b i : Nat} {o : AOper}, stepsC P ann ops pre Cond vals Hh t r b → r[i]? = some o →
  ∀ c l t', Cond c l → clo pre l → l (b + i) = false → (∀ j ∈ pre.getD (b + i) [], l j = true) → keptC ops t t' → (∀ j ∈ pre.getD (b + i) [], slotC (vals c) t' ops j) → stepC P ann ops Cond vals Hh o (b + i) c l t'
 | [], _, _, _, _, h => by simp at h
 | o :: r, b, 0, _, H, h => by
  simp only [List.getElem?_cons_zero, Option.some.injEq] at h
  subst h
  exact H.1
 | o :: r, b, i + 1, o', H, h => by
  have := stepsC_at H.2 (i := i) (o := o') (by simpa using h)
  rw [show b + 1 + i = b + (i + 1) by omega] at this
  exact this
theorem AW1.mono' {o : AOper} {s : St} {Q R : St → Prop} (hq : ∀ s, Q s → R s) (h : AW1 P ann o s Q) : AW1 P ann o s R := by
 cases h with
 | pass h1 h2 => exact .pass h1 (hq _ h2)
 | val h1 h2 h3 => exact .val h1 h2 (hq _ h3)
 | new h1 h2 h3 => exact .new h1 h2 fun b hb => hq _ (h3 b hb)
 | newc h1 h2 h3 => exact .newc h1 h2 fun b c hb hc => hq _ (h3 b c hb hc)
 | call R' h1 h2 h3 h4 => exact .call R' h1 h2 h3 fun v h hv => hq _ (h4 v h hv)
theorem stepC_val {o : AOper} {i : Nat} {c : α} {l : Nat → Bool} {t' : Nat → AV} (hg : o.guard = none) (ha : aex P o.op ⟨t', Hh c l⟩ = some (.val (vals c i) t' (Hh c (upd l i true)))) (hc : Cond c (upd l i true)) : stepC P ann ops Cond vals Hh o i c l t' :=
 .val (by simp [wantedA, hg]) ha ⟨c, hc, rfl, rfl, fun _ _ => rfl⟩
theorem stepC_call {d k f : Nat} {xs : List Opd} {args : List AV} {i : Nat} {c : α} {l : Nat → Bool} {t' : Nat → AV} (he : xs.map (Opd.ev t') = args) (h1 : own1 args = true) (hs : ∀ a ∈ args, a.dis = a)
  (ha : AWF P ann k f args (Hh c l) fun r h' => ∃ c', Cond c' (upd l i true) ∧ h' = Hh c' (upd l i true) ∧ r = vals c' i ∧ ∀ j, l j = true → vals c' j = vals c j) : stepC P ann ops Cond vals Hh ⟨some d, .call k f xs, none⟩ i c l t' := by
 subst he
 refine .call _ (by simp [wantedA]) (by rw [aex_call1, if_pos h1]) ha ?_
 rintro v h ⟨c', hc, rfl, rfl, hj⟩
 exact ⟨c', hc, rfl, by rw [strips_id fun x hx => hs _ (List.mem_map.2 ⟨x, hx, rfl⟩)], hj⟩
theorem W_tabC {h : Heap} {Q : Ex → St → Prop} (hd : drawOk ops pre = false) (hok : tabOk ops pre = true) (Cond : α → (Nat → Bool) → Prop) (vals : α → Nat → AV) (Hh : α → (Nat → Bool) → Heap) (c0 : α) (hc0 : Cond c0 (fun _ => false))
  (h0 : Hh c0 (fun _ => false) = h) (steps : stepsC P ann ops pre Cond vals Hh t ops 0)
  (fin : ∀ c l t', Cond c l → (∀ i, i < ops.length → l i = true) → keptC ops t t' → doneT (vals c) t' ops 0 → Q .normal ⟨t', Hh c l⟩) : W P ann (.regd ops pre) ⟨t, h⟩ Q := by
 have hok' : ∀ i, i < ops.length → (∀ j ∈ pre.getD i [], j < i) ∧ ∀ o, ops[i]? = some o → o.guard = none ∧ ∀ d, o.dst = some d → ops.findIdx? (fun o => o.dst == some d) = some i := by
  intro i hi
  have := List.all_eq_true.1 hok i (List.mem_range.2 hi)
  rw [Bool.and_eq_true] at this
  obtain ⟨h1, h2⟩ := this
  refine ⟨fun j hj => of_decide_eq_true (List.all_eq_true.1 h1 j hj), fun o ho => ?_⟩
  rw [ho] at h2
  simp only [Bool.and_eq_true] at h2
  refine ⟨Option.isNone_iff_eq_none.1 h2.1, fun d hd => ?_⟩
  have := h2.2
  rw [hd] at this
  simpa using this
 have lt_of : ∀ {i o}, ops[i]? = some o → i < ops.length := fun {i o} ho => by
  rcases Nat.lt_or_ge i ops.length with h | h
  ·exact h
  ·rw [List.getElem?_eq_none h] at ho; cases ho
 refine W_inv hd (fun l s => clo pre l ∧ ∃ c, Cond c l ∧ s.h = Hh c l ∧ keptC ops t s.t ∧ ∀ j, l j = true → slotC (vals c) s.t ops j) ⟨fun i h => (by cases h), c0, hc0, h0.symm, fun _ _ => rfl, fun j h => (by cases h)⟩ ?_ ?_
 ·rintro l ⟨t', h'⟩ i o ⟨hc, c, hcc, rfl, hk, hs⟩ ⟨hi, hf, hp⟩ ho
  have := stepsC_at steps ho c l t' hcc hc (by rw [Nat.zero_add]; exact hf) (by rw [Nat.zero_add]; exact hp) hk (fun j hj => hs j (by rw [Nat.zero_add] at hj; exact hp j hj))
  rw [Nat.zero_add] at this
  refine this.mono' ?_
  rintro ⟨t2, h2⟩ ⟨c', hc', rfl, rfl, hj⟩
  refine ⟨clo_upd hc hp, c', hc', rfl, fun k hkk => ?_, fun j hjj o' ho' d hd' => ?_⟩
  ·have h1 : o.dst ≠ some k := by
    have := List.all_eq_true.1 hkk o (List.mem_of_getElem? ho)
    simpa using this
   show putd t' o.dst _ k = t k
   cases hq : o.dst with
   | none => exact hk k hkk
   | some d =>
    have : k ≠ d := fun e => h1 (by rw [hq, e])
    simp only [putd, upd, if_neg this]
    exact hk k hkk
  ·show putd t' o.dst _ d = _
   by_cases e : j = i
   ·subst e
    rw [ho] at ho'
    cases ho'
    rw [hd']
    simp [putd, upd]
   ·have hl : l j = true := by simpa [upd, e] using hjj
    rw [hj j hl, ← hs j hl o' ho' d hd']
    cases hq : o.dst with
    | none => rfl
    | some d' =>
     have : d ≠ d' := fun e2 => by
      have g1 := (hok' i hi).2 o ho
      have g2 := (hok' j (lt_of ho')).2 o' ho'
      have a1 := g1.2 d' hq
      have a2 := g2.2 d hd'
      rw [e2, a1] at a2
      exact e (Option.some.inj a2).symm
     simp only [putd, upd, if_neg this]
 ·rintro l ⟨t', h'⟩ ⟨hc, c, hcc, rfl, hk, hs⟩ hn
  have hl : ∀ i, i < ops.length → l i = true := by
   intro i
   induction i using Nat.strongRecOn with
   | _ i ih =>
    intro hi
    rcases hq : l i with _ | _
    ·exact absurd ⟨hi, hq, fun j hj => ih j ((hok' i hi).1 j hj) (by have := (hok' i hi).1 j hj; omega)⟩ (hn i)
    ·rfl
  refine fin c l t' hcc hl hk ?_
  have key : ∀ (r : List AOper) (b : Nat), (∀ i o, r[i]? = some o → ops[b + i]? = some o) → doneT (vals c) t' r b := by
   intro r
   induction r with
   | nil => intro b _; exact trivial
   | cons o r ih =>
    intro b hr
    refine ⟨?_, ih (b + 1) fun i o' h => by rw [show b + 1 + i = b + (i + 1) by omega]; exact hr (i + 1) o' (by simpa using h)⟩
    have h1 := hr 0 o rfl
    cases hq : o.dst with
    | none => trivial
    | some d => exact hs b (hl b (lt_of h1)) o h1 d hq
  exact key ops 0 fun i o h => by rw [Nat.zero_add]; exact h
end
end Go.Am
