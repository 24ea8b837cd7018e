/- A library function over numbers and strings alone, by a contract after which the world has only grown. -/
import Derived.Test.YtcdfdnmnnepnoaaDoorAmEq
import Derived.Below
set_option linter.unusedVariables false
namespace Go.Am
open Go.RowKit
variable {P : Program}
theorem more_below {w w' : World} (h : Below w.heap.size w w') : More w w' := by
  exact ⟨h.os, h.output, h.tape, h.size, fun b hb => h.block b hb⟩
theorem args_scal {G : Gh} {w : World} {args : List Value} {vals : Array Value} (har : ARel G w (args.map AV.sc) vals) : vals = args.toArray := by
  apply Array.ext
  · simpa using har.size
  · intro i h1 h2
    have hl : i < args.length := by simpa using h2
    have := har.val i
    rw [List.getD_eq_getElem?_getD, List.getElem?_map, List.getElem?_eq_getElem hl] at this
    have h3 := this.sc_inv.1
    rw [Array.getD_eq_getD_getElem?, Array.getElem?_eq_getElem h1] at h3
    simpa using h3

theorem M5_grow {f : Nat} {args rs : List Value} {h : Heap} (hf : ∃ fn, P.funcs[f]? = some fn ∧ fn.body.isSome = true ∧ (fn.name == "runtime.NumGoroutine") = false) (hr : ∀ r ∈ rs, scalarV r = true)
    (hc : ∀ w, Calls P f args.toArray w fun e w' => e = .returned (.tuple rs.toArray) ∧ Below w.heap.size w w') : M5 P f (args.map AV.sc) h (fun v h' => v = .tu (rs.map AV.sc) ∧ h' = h) := by
  refine ⟨hf, fun G w vals har hi => ?_⟩
  rw [args_scal har]
  refine (hc w).mono fun e w' ⟨h1, h2⟩ => ?_
  have hm := more_below h2
  refine ⟨_, _, h, G, h1, ⟨rfl, rfl⟩, .tu (by simp) fun m c hc => ?_, .of_not rfl, hi.more hm, ⟨fun _ _ _ h => h, hm.os, hm.output, hm.tape, hm.size, fun b hb h1 h2 => ⟨hm.keep b hb, fun _ => rfl, h1, h2⟩, fun _ _ h => h⟩⟩
  rw [List.getElem?_map] at hc
  cases hq : rs[m]? with
  | none => rw [hq] at hc; cases hc
  | some r =>
    rw [hq] at hc
    cases hc
    have : (rs.toArray.getD m undef) = r := by rw [Array.getD_eq_getD_getElem?]; simp [hq]
    rw [this]
    exact .sc (hr r (List.mem_of_getElem? hq))
end Go.Am
