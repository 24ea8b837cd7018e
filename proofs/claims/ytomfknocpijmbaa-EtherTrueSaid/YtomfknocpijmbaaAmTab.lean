/- Drawn regions whose operations each come to one value, whatever the order: by a table. -/
import Derived.Test.YtomfknocpijmbaaAmInv
set_option linter.unusedVariables false
namespace Go.Am
def tabT (ops : List AOper) (vals : Nat → AV) (l : Nat → Bool) (t : Nat → AV) : Nat → AV := fun k =>
 match ops.findIdx? (fun o => o.dst == some k) with
 | some i => if l i then vals i else t k
 | none => t k
def clo (pre : List (List Nat)) (l : Nat → Bool) : Prop := ∀ i, l i = true → ∀ j ∈ pre.getD i [], l j = true
theorem clo_upd {pre : List (List Nat)} {l : Nat → Bool} {i : Nat} (hc : clo pre l) (hp : ∀ j ∈ pre.getD i [], l j = true) : clo pre (upd l i true) := by
 intro j hj k hk
 have hl : l k = true := by
  by_cases c : j = i
  ·subst c; exact hp k hk
  ·exact hc j (by simpa [upd, c] using hj) k hk
 simp only [upd]
 split
 ·rfl
 ·exact hl
theorem clo_not {pre : List (List Nat)} {l : Nat → Bool} {i j : Nat} (hc : clo pre l) (hi : l i = false) (hj : i ∈ pre.getD j []) : l j = false := by
 cases q : l j with
 | false => rfl
 | true => have := hc j q i hj; rw [hi] at this; cases this
def stepsT (P : Program) (ops : List AOper) (pre : List (List Nat)) (vals : Nat → AV) (Hh : (Nat → Bool) → Heap) (t : Nat → AV) : List AOper → Nat → Prop
 | [], _ => True
 | o :: r, i => (∀ l, clo pre l → l i = false → (∀ j ∈ pre.getD i [], l j = true) → aex P o.op ⟨tabT ops vals l t, Hh l⟩ = some (.val (vals i) (tabT ops vals l t) (Hh (upd l i true)))) ∧ stepsT P ops pre vals Hh t r (i + 1)
def tabOk (ops : List AOper) (pre : List (List Nat)) : Bool := (List.range ops.length).all fun i => ((pre.getD i []).all fun j => decide (j < i)) && match ops[i]? with
 | some o => o.guard.isNone && (match o.dst with | some d => ops.findIdx? (fun o => o.dst == some d) == some i | none => true)
 | none => false
def doneT (vals : Nat → AV) (t' : Nat → AV) : List AOper → Nat → Prop
 | [], _ => True
 | o :: r, i => (match o.dst with | some d => t' d = vals i | none => True) ∧ doneT vals t' r (i + 1)
end Go.Am
