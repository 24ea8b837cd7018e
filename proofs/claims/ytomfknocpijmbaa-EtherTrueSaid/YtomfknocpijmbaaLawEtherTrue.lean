/- The statement EtherTrue of the package tailracelaw: for every input the law returns true, and each argument reads behind the call as it read before.
  Conditions: none beside the form's own reach. -/
import Derived.Test.YtomfknocpijmbaaRows
import Derived.Test.YtomfknocpijmbaaAmLaw
import Derived.Test.YtomfknocpijmbaaEtherM8
set_option linter.unusedVariables false
namespace Go.Proofs.Ytomfknocpijmbaa.rowEtherTrue
open Go.Am Go.ChangeShapes Go.WideShapes Go.ChangeAt Go.RowKit
theorem own : ownKnob Try.prog.godebug = none := by kernel_rfl
theorem laid : laidOutB Try.prog = true := by kernel_rfl
theorem mixed : Try.prog.follows .mixedOrders = true := by kernel_rfl
theorem hts : ∀ t ∈ ([38, 39, 27, 42, 5, 3] : List TypeId), plainT Try.prog [38, 39, 27, 42, 5, 3] t = true := fun t ht => List.all_eq_true.1 (by kernel_rfl : ([38, 39, 27, 42, 5, 3] : List TypeId).all (plainT Try.prog [38, 39, 27, 42, 5, 3]) = true) t ht
theorem hpts : ∀ t ∈ Try.f4.params.toList, t ∈ ([38, 39, 27, 42, 5, 3] : List TypeId) := by decide
theorem hread : ∀ t ∈ Try.f4.params.toList, Try.prog.readableRec t = true ∧ t < Try.prog.types.size := fun t ht => by
 have := List.all_eq_true.1 (by kernel_rfl : (Try.f4.params.toList).all (fun t => Try.prog.readableRec t && decide (t < Try.prog.types.size)) = true) t ht
 simpa using this
theorem hfn (H : Type) : ∀ ds : List (DataW H), ds.length = Try.f4.params.size → Rows.etherTrueSpec.fn H ds = { results := [.lit (.bool true)], args := ds } := fun ds h => by
 have h : ds.length = 2 := h
 match ds, h with
 | [a0, a1], _ => rfl
set_option maxRecDepth 100000 in
theorem lifted (os : Os) (started : os.Started) (H : Type) (enc : TypeId × Value → H) :
  ReturnsInHanded {} Try.checked os 4 .any (Rows.etherTrueSpec.pre6 enc Try.prog Try.f4 Rows.etherTrueRow.domain false) (Rows.etherTrueSpec.post enc Try.prog Try.f4 false true false false) := by
 refine returnsInHanded_of_change_sized (C := Try.checked) own started (by kernel_rfl) Try.func4
  (ChangeSpec.witness6 (enc := enc) (C := Try.checked) false ⟨#[], #[.slice none 0 0, .slice none 0 0], []⟩ 8 (by kernel_rfl) (by kernel_rfl) (by kernel_rfl) (by kernel_rfl)) ?_
 intro W base args ds gs before hval hW hcnd hsz _
 refine law_calls (P := Try.prog) (f := Try.f4) (tb := 4) mixed laid rfl rfl Try.underlying4 (hfn H) hread hts hpts her_weights (fun avs h => true_row h) hval hW ?_ ⟨_, Try.func4, by kernel_rfl⟩
 intro j t d hj hd
 refine weights_each _ _ hsz j t d ?_ ?_
 ·rw [List.getElem?_append_left (List.getElem?_eq_some_iff.1 hj).1]; exact hj
 ·rw [List.getElem?_append_left (List.getElem?_eq_some_iff.1 hd).1]; exact hd
theorem over : Rows.etherTrueRow.holds Try.pinned (OpenSpec.ofChange Rows.etherTrueSpec) :=
 OpenClaim.holds_of_wide 4 Try.f4 rfl rfl rfl rfl rfl rfl rfl ⟨rfl, rfl, rfl, rfl, rfl⟩ rfl rfl rfl rfl rfl (by kernel_rfl) Try.func4 (by kernel_rfl)
  (of_decide_eq_true (by kernel_rfl)) (by unfold Func.isWrapper; first | (rw [if_pos (by decide +kernel)]; kernel_rfl) | (rw [if_neg (by decide +kernel)]; exact ⟨rfl, rfl⟩))
  (fun os started H enc _ => lifted os started H enc)
end Go.Proofs.Ytomfknocpijmbaa.rowEtherTrue
namespace Go.Proofs.Ytomfknocpijmbaa
theorem etherTrue_holds : Rows.EtherTrueSaid := rowEtherTrue.over
end Go.Proofs.Ytomfknocpijmbaa
