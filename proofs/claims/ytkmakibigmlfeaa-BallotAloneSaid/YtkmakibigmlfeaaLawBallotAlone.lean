/- The statement BallotAlone of the package tailracelaw: for every input the law returns true, and each argument reads behind the call as it read before.
   Conditions: none beside the form's own reach. -/
import Derived.Test.YtkmakibigmlfeaaRows
import Derived.Test.YtkmakibigmlfeaaAmLaw
import Derived.Test.YtkmakibigmlfeaaBallotArgs
set_option linter.unusedVariables false
namespace Go.Proofs.Ytkmakibigmlfeaa.rowBallotAlone
open Go.Am Go.ChangeShapes Go.WideShapes Go.ChangeAt Go.RowKit
theorem own : ownKnob Try.prog.godebug = none := by kernel_rfl
theorem laid : laidOutB Try.prog = true := by kernel_rfl
theorem mixed : Try.prog.follows .mixedOrders = true := by kernel_rfl
theorem hts : ∀ t ∈ ([5, 22, 33] : List TypeId), plainT Try.prog [5, 22, 33] t = true := fun t ht => List.all_eq_true.1 (by kernel_rfl : ([5, 22, 33] : List TypeId).all (plainT Try.prog [5, 22, 33]) = true) t ht
theorem hpts : ∀ t ∈ Try.f3.params.toList, t ∈ ([5, 22, 33] : List TypeId) := by decide
theorem hread : ∀ t ∈ Try.f3.params.toList, Try.prog.readableRec t = true ∧ t < Try.prog.types.size := fun t ht => by
  have := List.all_eq_true.1 (by kernel_rfl : (Try.f3.params.toList).all (fun t => Try.prog.readableRec t && decide (t < Try.prog.types.size)) = true) t ht
  simpa using this
theorem hfn (H : Type) : ∀ ds : List (DataW H), ds.length = Try.f3.params.size → Rows.ballotAloneSpec.fn H ds = { results := [.lit (.bool true)], args := ds } := fun ds h => by
  have h : ds.length = 2 := h
  match ds, h with
  | [a0, a1], _ => rfl
set_option maxRecDepth 100000 in
theorem lifted (os : Os) (started : os.Started) (H : Type) (enc : TypeId × Value → H) :
    ReturnsInHanded {} Try.checked os 3 .any (Rows.ballotAloneSpec.pre6 enc Try.prog Try.f3 Rows.ballotAloneRow.domain false) (Rows.ballotAloneSpec.post enc Try.prog Try.f3 false true false false) := by
  refine returnsInHanded_of_change_sized (C := Try.checked) own started (by kernel_rfl) Try.func3
    (ChangeSpec.witness6 (enc := enc) (C := Try.checked) false ⟨#[], #[.int .u8 0, .slice none 0 0], []⟩ 8 (by kernel_rfl) (by kernel_rfl) (by kernel_rfl) (by kernel_rfl)) ?_
  intro W base args ds gs before hval hW hcnd hsz _
  refine law_calls (P := Try.prog) (f := Try.f3) (tb := 4) mixed laid rfl rfl Try.underlying4 (hfn H) hread hts hpts her_weights (fun avs h => alone_row h) hval hW ?_
  intro j t d hj hd
  refine weights_each _ _ hsz j t d ?_ ?_
  · rw [List.getElem?_append_left (List.getElem?_eq_some_iff.1 hj).1]; exact hj
  · rw [List.getElem?_append_left (List.getElem?_eq_some_iff.1 hd).1]; exact hd
theorem over : Rows.ballotAloneRow.holds Try.pinned (OpenSpec.ofChange Rows.ballotAloneSpec) :=
  OpenClaim.holds_of_wide 3 Try.f3 rfl rfl rfl rfl rfl rfl rfl ⟨rfl, rfl, rfl, rfl, rfl⟩ rfl rfl rfl rfl rfl (by kernel_rfl) Try.func3 (by kernel_rfl)
    (of_decide_eq_true (by kernel_rfl)) (by unfold Func.isWrapper; first | (rw [if_pos (by decide +kernel)]; kernel_rfl) | (rw [if_neg (by decide +kernel)]; exact ⟨rfl, rfl⟩))
    (fun os started H enc _ => lifted os started H enc)
end Go.Proofs.Ytkmakibigmlfeaa.rowBallotAlone
namespace Go.Proofs.Ytkmakibigmlfeaa
theorem ballotAlone_holds : Rows.BallotAloneSaid := rowBallotAlone.over
end Go.Proofs.Ytkmakibigmlfeaa
