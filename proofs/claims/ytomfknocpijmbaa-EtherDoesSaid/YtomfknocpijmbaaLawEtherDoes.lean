/- The statement EtherDoes of the package tailracelaw: for every input the law returns true, and each argument reads behind the call as it read before.
  Conditions: none beside the form's own reach. -/
import Derived.Test.YtomfknocpijmbaaRows
import Derived.Test.YtomfknocpijmbaaAmLaw
import Derived.Test.YtomfknocpijmbaaEtherM8
set_option linter.unusedVariables false
namespace Go.Proofs.Ytomfknocpijmbaa.rowEtherDoes
open Go.Am Go.ChangeShapes Go.WideShapes Go.ChangeAt Go.RowKit
theorem own : ownKnob Try.prog.godebug = none := by kernel_rfl
theorem laid : laidOutB Try.prog = true := by kernel_rfl
theorem mixed : Try.prog.follows .mixedOrders = true := by kernel_rfl
theorem hts : ∀ t ∈ ([25, 42, 22, 23, 3, 54, 69, 52, 61, 27, 4, 5] : List TypeId), plainT Try.prog [25, 42, 22, 23, 3, 54, 69, 52, 61, 27, 4, 5] t = true := fun t ht => List.all_eq_true.1 (by kernel_rfl : ([25, 42, 22, 23, 3, 54, 69, 52, 61, 27, 4, 5] : List TypeId).all (plainT Try.prog [25, 42, 22, 23, 3, 54, 69, 52, 61, 27, 4, 5]) = true) t ht
theorem hpts : ∀ t ∈ Try.f6.params.toList, t ∈ ([25, 42, 22, 23, 3, 54, 69, 52, 61, 27, 4, 5] : List TypeId) := by decide
theorem hread : ∀ t ∈ Try.f6.params.toList, Try.prog.readableRec t = true ∧ t < Try.prog.types.size := fun t ht => by
 have := List.all_eq_true.1 (by kernel_rfl : (Try.f6.params.toList).all (fun t => Try.prog.readableRec t && decide (t < Try.prog.types.size)) = true) t ht
 simpa using this
theorem hfn (H : Type) : ∀ ds : List (DataW H), ds.length = Try.f6.params.size → Rows.etherDoesSpec.fn H ds = { results := [.lit (.bool true)], args := ds } := fun ds h => by
 have h : ds.length = 2 := h
 match ds, h with
 | [a0, a1], _ => rfl
set_option maxRecDepth 100000 in
theorem lifted (os : Os) (started : os.Started) (H : Type) (enc : TypeId × Value → H) :
  ReturnsInHanded {} Try.checked os 6 .any (Rows.etherDoesSpec.pre6 enc Try.prog Try.f6 Rows.etherDoesRow.domain false) (Rows.etherDoesSpec.post enc Try.prog Try.f6 false true false false) := by
 refine returnsInHanded_of_change_sized (C := Try.checked) own started (by kernel_rfl) Try.func6
  (ChangeSpec.witness6 (enc := enc) (C := Try.checked) false ⟨#[], #[.agg #[.slice none 0 0, .slice none 0 0], .agg #[.int .i64 0, .int .i64 0, .int .i64 0, .int .i64 0, .int .i64 0]], []⟩ 8 (by kernel_rfl) (by kernel_rfl) (by kernel_rfl) (by kernel_rfl)) ?_
 intro W base args ds gs before hval hW hcnd hsz _
 refine law_calls (P := Try.prog) (f := Try.f6) (tb := 4) mixed laid rfl rfl Try.underlying4 (hfn H) hread hts hpts her_weights (fun avs h => does_row h) hval hW ?_ ⟨_, Try.func6, by kernel_rfl⟩
 intro j t d hj hd
 refine weights_each _ _ hsz j t d ?_ ?_
 ·rw [List.getElem?_append_left (List.getElem?_eq_some_iff.1 hj).1]; exact hj
 ·rw [List.getElem?_append_left (List.getElem?_eq_some_iff.1 hd).1]; exact hd
theorem over : Rows.etherDoesRow.holds Try.pinned (OpenSpec.ofChange Rows.etherDoesSpec) :=
 OpenClaim.holds_of_wide 6 Try.f6 rfl rfl rfl rfl rfl rfl rfl ⟨rfl, rfl, rfl, rfl, rfl⟩ rfl rfl rfl rfl rfl (by kernel_rfl) Try.func6 (by kernel_rfl)
  (of_decide_eq_true (by kernel_rfl)) (by unfold Func.isWrapper; first | (rw [if_pos (by decide +kernel)]; kernel_rfl) | (rw [if_neg (by decide +kernel)]; exact ⟨rfl, rfl⟩))
  (fun os started H enc _ => lifted os started H enc)
end Go.Proofs.Ytomfknocpijmbaa.rowEtherDoes
namespace Go.Proofs.Ytomfknocpijmbaa
theorem etherDoes_holds : Rows.EtherDoesSaid := rowEtherDoes.over
end Go.Proofs.Ytomfknocpijmbaa
