/- Drawn regions whose operations each come to one value, whatever the order: by a table. -/
import Derived.Test.YtomfknocpijmbaaAmInv
set_option linter.unusedVariables false
namespace Go.Am
def tabT (ops : List AOper) (vals : Nat → AV) (l : Nat → Bool) (t : Nat → AV) : Nat → AV := fun k =>
 match ops.findIdx? (fun o => o.dst == some k) with
 | some i => if l i then vals i else t k
 | none => t k
def clo (pre : List (List Nat)) (l : Nat → Bool) : Prop := ∀ i, l i = true → ∀ j ∈ pre.getD i [], l j = true
theorem clo_upd {pre : List (List Nat)} {l : Nat → Bool} {i : Nat} (hc : clo pre l) (hp : ∀ j ∈ pre.getD i [], l j = true) : clo pre (upd l i true) := by
 intro j hj k hk
 have hl : l k = true := by
  by_cases c : j = i
  ·subst c; exact hp k hk
  ·exact hc j (by simpa [upd, c] using hj) k hk
 simp only [upd]
 split
 ·rfl
 ·exact hl
theorem clo_not {pre : List (List Nat)} {l : Nat → Bool} {i j : Nat} (hc : clo pre l) (hi : l i = false) (hj : i ∈ pre.getD j []) : l j = false := by
 cases q : l j with
 | false => rfl
 | true => have := hc j q i hj; rw [hi] at this; cases this
theorem all_done {pre : List (List Nat)} {n : Nat} {l : Nat → Bool} (hlt : ((List.range n).all fun i => (pre.getD i []).all fun j => decide (j < i)) = true) (hn : ∀ i, ¬ readyA pre n l i) : ∀ i, i < n → l i = true := by
 intro i
 induction i using Nat.strongRecOn with
 | _ i ih =>
  intro hi
  rcases hq : l i with _ | _
  ·have h1 := List.all_eq_true.1 hlt i (List.mem_range.2 hi)
   have h2 : ∀ j ∈ pre.getD i [], j < i := fun j hj => of_decide_eq_true (List.all_eq_true.1 h1 j hj)
   exact absurd ⟨hi, hq, fun j hj => ih j (h2 j hj) (by have := h2 j hj; omega)⟩ (hn i)
  ·rfl
def stepsT (P : Program) (ops : List AOper) (pre : List (List Nat)) (vals : Nat → AV) (Hh : (Nat → Bool) → Heap) (t : Nat → AV) : List AOper → Nat → Prop
 | [], _ => True
 | o :: r, i => (∀ l, clo pre l → l i = false → (∀ j ∈ pre.getD i [], l j = true) → aex P o.op ⟨tabT ops vals l t, Hh l⟩ = some (.val (vals i) (tabT ops vals l t) (Hh (upd l i true)))) ∧ stepsT P ops pre vals Hh t r (i + 1)
def tabOk (ops : List AOper) (pre : List (List Nat)) : Bool := (List.range ops.length).all fun i => ((pre.getD i []).all fun j => decide (j < i)) && match ops[i]? with
 | some o => o.guard.isNone && (match o.dst with | some d => ops.findIdx? (fun o => o.dst == some d) == some i | none => true)
 | none => false
theorem stepsT_at {P : Program} {ops : List AOper} {pre : List (List Nat)} {vals : Nat → AV} {Hh : (Nat → Bool) → Heap} {t : Nat → AV} : ∀ {r : List AOper} {b i : Nat} {o : AOper}, stepsT P ops pre vals Hh t r b → r[i]? = some o →
  ∀ l, clo pre l → l (b + i) = false → (∀ j ∈ pre.getD (b + i) [], l j = true) → aex P o.op ⟨tabT ops vals l t, Hh l⟩ = some (.val (vals (b + i)) (tabT ops vals l t) (Hh (upd l (b + i) true)))
 | [], _, _, _, _, h => by simp at h
 | o :: r, b, 0, _, H, h => by
  simp only [List.getElem?_cons_zero, Option.some.injEq] at h
  subst h
  exact H.1
 | o :: r, b, i + 1, o', H, h => by
  have := stepsT_at H.2 (i := i) (o := o') (by simpa using h)
  rw [show b + 1 + i = b + (i + 1) by omega] at this
  exact this
theorem tabT_upd {ops : List AOper} {vals : Nat → AV} {l : Nat → Bool} {t : Nat → AV} {i : Nat} {o : AOper} (ho : ops[i]? = some o) (hd : ∀ d, o.dst = some d → ops.findIdx? (fun o => o.dst == some d) = some i) :
  tabT ops vals (upd l i true) t = putd (tabT ops vals l t) o.dst (vals i) := by
 funext k
 have hk : ∀ j, ops.findIdx? (fun o => o.dst == some k) = some j → ∃ o', ops[j]? = some o' ∧ o'.dst = some k := fun j hj => by
  obtain ⟨hlt, hp, _⟩ := List.findIdx?_eq_some_iff_getElem.1 hj
  exact ⟨ops[j], List.getElem?_eq_getElem hlt, by simpa using hp⟩
 have main : tabT ops vals (upd l i true) t k = if o.dst = some k then vals i else tabT ops vals l t k := by
  by_cases c : o.dst = some k
  ·rw [if_pos c]
   simp [tabT, hd k c, upd]
  ·rw [if_neg c]
   unfold tabT
   cases hf : ops.findIdx? (fun o => o.dst == some k) with
   | none => rfl
   | some j =>
    have hne : j ≠ i := fun e => by
     obtain ⟨o', h1, h2⟩ := hk j hf
     rw [e, ho] at h1
     cases h1
     exact c h2
    simp [upd, hne]
 rw [main]
 cases hq : o.dst with
 | none => simp [putd]
 | some d =>
  by_cases c : d = k
  ·subst c; simp [putd, upd]
  ·have : ¬ k = d := fun e => c e.symm
   simp [putd, upd, c, this]
theorem W_tab {P : Program} {ann : Ann} {ops : List AOper} {pre : List (List Nat)} {t : Nat → AV} {h : Heap} {Q : Ex → St → Prop} (hd : drawOk ops pre = false) (hok : tabOk ops pre = true) (vals : Nat → AV) (Hh : (Nat → Bool) → Heap)
  (h0 : Hh (fun _ => false) = h) (steps : stepsT P ops pre vals Hh t ops 0) (fin : ∀ l, (∀ i, i < ops.length → l i = true) → Q .normal ⟨tabT ops vals l t, Hh l⟩) : W P ann (.regd ops pre) ⟨t, h⟩ Q := by
 have hok' : ∀ i, i < ops.length → (∀ j ∈ pre.getD i [], j < i) ∧ ∀ o, ops[i]? = some o → o.guard = none ∧ ∀ d, o.dst = some d → ops.findIdx? (fun o => o.dst == some d) = some i := by
  intro i hi
  have := List.all_eq_true.1 hok i (List.mem_range.2 hi)
  rw [Bool.and_eq_true] at this
  obtain ⟨h1, h2⟩ := this
  refine ⟨fun j hj => of_decide_eq_true (List.all_eq_true.1 h1 j hj), fun o ho => ?_⟩
  rw [ho] at h2
  simp only [Bool.and_eq_true] at h2
  refine ⟨Option.isNone_iff_eq_none.1 h2.1, fun d hd => ?_⟩
  have := h2.2
  rw [hd] at this
  simpa using this
 refine W_inv hd (fun l s => clo pre l ∧ s = ⟨tabT ops vals l t, Hh l⟩) ⟨fun i h => (by cases h), ?_⟩ ?_ ?_
 ·rw [h0]
  congr 1
  funext k
  unfold tabT
  split <;> rfl
 ·rintro l s i o ⟨hc, rfl⟩ ⟨hi, hf, hp⟩ ho
  obtain ⟨_, h2⟩ := hok' i hi
  obtain ⟨hg, hfd⟩ := h2 o ho
  have hs := stepsT_at steps ho l hc (by rw [Nat.zero_add]; exact hf) (by rw [Nat.zero_add]; exact hp)
  rw [Nat.zero_add] at hs
  refine .val (by simp [wantedA, hg]) hs ⟨fun j hj k hk => ?_, by rw [tabT_upd ho hfd]⟩
  by_cases c : j = i
  ·subst c
   have := hp k hk
   by_cases c2 : k = j
   ·subst c2; simp [upd]
   ·simp [upd, c2, this]
  ·have : l j = true := by simpa [upd, c] using hj
   have := hc j this k hk
   by_cases c2 : k = i
   ·subst c2; simp [upd]
   ·simp [upd, c2, this]
 ·rintro l s ⟨hc, rfl⟩ hn
  refine fin l fun i => ?_
  induction i using Nat.strongRecOn with
  | _ i ih =>
   intro hi
   rcases hq : l i with _ | _
   ·exact absurd ⟨hi, hq, fun j hj => ih j ((hok' i hi).1 j hj) (by have := (hok' i hi).1 j hj; omega)⟩ (hn i)
   ·rfl
def slotsT (vals : Nat → AV) (t : Nat → AV) (T : (Nat → Bool) → Nat → AV) : List AOper → Nat → Prop
 | [], _ => True
 | o :: r, i => (match o.dst with | some d => ∀ l, T l d = if l i then vals i else t d | none => True) ∧ slotsT vals t T r (i + 1)
def stepsU (P : Program) (pre : List (List Nat)) (vals : Nat → AV) (Hh : (Nat → Bool) → Heap) (T : (Nat → Bool) → Nat → AV) : List AOper → Nat → Prop
 | [], _ => True
 | o :: r, i => (∀ l, clo pre l → l i = false → (∀ j ∈ pre.getD i [], l j = true) → aex P o.op ⟨T l, Hh l⟩ = some (.val (vals i) (T l) (Hh (upd l i true)))) ∧ stepsU P pre vals Hh T r (i + 1)
def doneT (vals : Nat → AV) (t' : Nat → AV) : List AOper → Nat → Prop
 | [], _ => True
 | o :: r, i => (match o.dst with | some d => t' d = vals i | none => True) ∧ doneT vals t' r (i + 1)
theorem stepsUT {P : Program} {ops : List AOper} {pre : List (List Nat)} {vals : Nat → AV} {Hh : (Nat → Bool) → Heap} {t : Nat → AV} : ∀ {r : List AOper} {b : Nat}, stepsU P pre vals Hh (fun l => tabT ops vals l t) r b → stepsT P ops pre vals Hh t r b
 | [], _, _ => trivial
 | _ :: _, _, H => ⟨H.1, stepsUT H.2⟩
theorem slots_of {ops : List AOper} {vals : Nat → AV} {t : Nat → AV} : ∀ {r : List AOper} {b : Nat}, (∀ i o, r[i]? = some o → ∀ d, o.dst = some d → ops.findIdx? (fun o => o.dst == some d) = some (b + i)) → slotsT vals t (fun l => tabT ops vals l t) r b
 | [], _, _ => trivial
 | o :: r, b, H => by
  refine ⟨?_, slots_of fun i o ho d hd => by rw [H (i + 1) o (by simpa using ho) d hd]; congr 1; omega⟩
  have := H 0 o rfl
  cases hq : o.dst with
  | none => trivial
  | some d =>
   have := this d hq
   intro l
   simp [tabT, this]
theorem done_of {ops : List AOper} {vals : Nat → AV} {t : Nat → AV} {l : Nat → Bool} : ∀ {r : List AOper} {b : Nat}, (∀ i, i < r.length → l (b + i) = true) → slotsT vals t (fun l => tabT ops vals l t) r b → doneT vals (tabT ops vals l t) r b
 | [], _, _, _ => trivial
 | o :: r, b, hl, H => by
  refine ⟨?_, done_of (fun i hi => by have := hl (i + 1) (by simp; omega); rwa [show b + (i + 1) = b + 1 + i by omega] at this) H.2⟩
  have h1 := H.1
  have h0 := hl 0 (by simp)
  cases hq : o.dst with
  | none => trivial
  | some d =>
   rw [hq] at h1
   have := h1 l
   rw [show b + 0 = b from rfl] at h0
   rw [h0] at this
   exact this
theorem W_tabU {P : Program} {ann : Ann} {ops : List AOper} {pre : List (List Nat)} {t : Nat → AV} {h : Heap} {Q : Ex → St → Prop} (hd : drawOk ops pre = false) (hok : tabOk ops pre = true) (vals : Nat → AV) (Hh : (Nat → Bool) → Heap)
  (h0 : Hh (fun _ => false) = h) (steps : ∀ T : (Nat → Bool) → Nat → AV, (∀ k, (ops.all fun o => o.dst != some k) = true → ∀ l, T l k = t k) → slotsT vals t T ops 0 → stepsU P pre vals Hh T ops 0)
  (fin : ∀ l t', (∀ k, (ops.all fun o => o.dst != some k) = true → t' k = t k) → doneT vals t' ops 0 → (∀ i, i < ops.length → l i = true) → Q .normal ⟨t', Hh l⟩) : W P ann (.regd ops pre) ⟨t, h⟩ Q := by
 have hsl : slotsT vals t (fun l => tabT ops vals l t) ops 0 := slots_of fun i o ho d hdd => by
  have hi : i < ops.length := by
   rcases Nat.lt_or_ge i ops.length with h | h
   ·exact h
   ·rw [List.getElem?_eq_none h] at ho; cases ho
  have := List.all_eq_true.1 hok i (List.mem_range.2 hi)
  rw [Bool.and_eq_true, ho] at this
  have h2 := this.2
  simp only [Bool.and_eq_true, hdd] at h2
  rw [Nat.zero_add]
  simpa using h2.2
 have hk : ∀ k, (ops.all fun o => o.dst != some k) = true → ∀ l, tabT ops vals l t k = t k := by
  intro k hk l
  unfold tabT
  cases hf : ops.findIdx? (fun o => o.dst == some k) with
  | none => rfl
  | some j =>
   obtain ⟨hlt, hp, _⟩ := List.findIdx?_eq_some_iff_getElem.1 hf
   have := List.all_eq_true.1 hk ops[j] (List.getElem_mem hlt)
   simp only [bne, hp] at this
   cases this
 refine W_tab hd hok vals Hh h0 (stepsUT (steps _ hk hsl)) fun l hl => fin l _ (fun k h => hk k h l) (done_of (fun i hi => by rw [Nat.zero_add]; exact hl i hi) hsl) hl
end Go.Am
