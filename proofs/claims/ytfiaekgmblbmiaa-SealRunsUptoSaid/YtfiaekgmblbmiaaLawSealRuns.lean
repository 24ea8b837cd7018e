/- The statement SealRuns of the package tailracelaw: for every input the law returns true, and each argument reads behind the call as it read before.
   Conditions: what is read is of bulk at most 1048576 (the given second form). -/
import Derived.Test.YtfiaekgmblbmiaaRows
import Derived.Test.YtfiaekgmblbmiaaAmLaw
import Derived.Test.YtfiaekgmblbmiaaSealArgs2
import Derived.JoinedCond
import Derived.Test.YtfiaekgmblbmiaaAmBulk
set_option linter.unusedVariables false
namespace Go.Proofs.Ytfiaekgmblbmiaa.rowSealRuns
open Go.Am Go.ChangeShapes Go.WideShapes Go.ChangeAt Go.RowKit
theorem own : ownKnob Try.prog.godebug = none := by kernel_rfl
theorem laid : laidOutB Try.prog = true := by kernel_rfl
theorem mixed : Try.prog.follows .mixedOrders = true := by kernel_rfl
theorem hts : ∀ t ∈ ([36, 22, 5] : List TypeId), plainT Try.prog [36, 22, 5] t = true := fun t ht => List.all_eq_true.1 (by kernel_rfl : ([36, 22, 5] : List TypeId).all (plainT Try.prog [36, 22, 5]) = true) t ht
theorem hpts : ∀ t ∈ Try.f7.params.toList, t ∈ ([36, 22, 5] : List TypeId) := by decide
theorem hread : ∀ t ∈ Try.f7.params.toList, Try.prog.readableRec t = true ∧ t < Try.prog.types.size := fun t ht => by
  have := List.all_eq_true.1 (by kernel_rfl : (Try.f7.params.toList).all (fun t => Try.prog.readableRec t && decide (t < Try.prog.types.size)) = true) t ht
  simpa using this
theorem hfn (H : Type) : ∀ ds : List (DataW H), ds.length = Try.f7.params.size → Rows.sealRunsSpec.fn H ds = { results := [.lit (.bool true)], args := ds } := fun ds h => by
  have h : ds.length = 2 := h
  match ds, h with
  | [a0, a1], _ => rfl
set_option maxRecDepth 100000 in
theorem lifted (os : Os) (started : os.Started) (H : Type) (enc : TypeId × Value → H) (F : Stop.Interp) :
    ReturnsInHanded {} Try.checked os 7 .any ((Rows.OpenSpec.upto Rows.sealRunsSpec).pre6 enc Try.prog Try.f7 Rows.sealRunsUptoRow.domain false) (((Rows.OpenSpec.upto Rows.sealRunsSpec).at F).post enc Try.prog Try.f7 false true false false) := by
  refine returnsInHanded_of_cond (C := Try.checked) (s := Rows.OpenSpec.upto Rows.sealRunsSpec) (k := Rows.uptoSmall) rfl own started (by kernel_rfl) Try.func7
    (OpenSpec.witness (enc := enc) (C := Try.checked) (s := Rows.OpenSpec.upto Rows.sealRunsSpec) (k := Rows.uptoSmall) rfl false ⟨#[], #[.slice none 0 0, .slice none 0 0], []⟩ 8 (by kernel_rfl) (by kernel_rfl) (by kernel_rfl)
      (x := ([.nil, .nil], [], [])) (by kernel_rfl) rfl (by kernel_rfl)) ?_
  intro W base args ds gs before hval hW _ hk _
  refine law_calls (P := Try.prog) (f := Try.f7) (tb := 4) mixed laid rfl rfl Try.underlying4 (hfn H) hread hts hpts (her_bulk Try.prog) (fun avs h => runs_row h) hval hW ?_
  intro j t d hj hd
  refine bulk_each hk d (List.mem_append_left _ (List.mem_of_getElem? hd))
theorem over : Rows.sealRunsUptoRow.holds Try.pinned (Rows.OpenSpec.upto Rows.sealRunsSpec) :=
  OpenClaim.holds_of_cond 7 Try.f7 rfl rfl rfl rfl rfl rfl rfl ⟨rfl, rfl, rfl, rfl, rfl⟩ rfl rfl rfl rfl rfl (by kernel_rfl) Try.func7 (by kernel_rfl)
    (of_decide_eq_true (by kernel_rfl)) (by unfold Func.isWrapper; first | (rw [if_pos (by decide +kernel)]; kernel_rfl) | (rw [if_neg (by decide +kernel)]; exact ⟨rfl, rfl⟩))
    (fun os started H enc _ F => lifted os started H enc F)
end Go.Proofs.Ytfiaekgmblbmiaa.rowSealRuns
namespace Go.Proofs.Ytfiaekgmblbmiaa
theorem sealRuns_holds : Rows.SealRunsUptoSaid := rowSealRuns.over
end Go.Proofs.Ytfiaekgmblbmiaa
