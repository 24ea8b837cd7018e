/- The statement RankParses of the package tailracelaw: for every input the law returns true, and each argument reads behind the call as it read before.
   Conditions: none beside the form's own reach. -/
import Derived.Test.YtcdfdnmnnepnoaaDoorCards
import Derived.Test.YtcdfdnmnnepnoaaDoorTie
import Derived.ProofKit
import Derived.LaidMore
import Derived.Lay
import Derived.LaidOnce
import Derived.SevenTiedAt
import Derived.Stop.Joined
import Derived.Test.YtcdfdnmnnepnoaaDoorAmLaw
import Derived.Test.YtcdfdnmnnepnoaaDoorRankM4
set_option linter.unusedVariables false
namespace Go.Proofs.YtcdfdnmnnepnoaaDoor.rowRankParses
open Go.Am Go.ChangeShapes Go.WideShapes Go.ChangeAt Go.RowKit
theorem own : ownKnob Tryd.prog.godebug = none := by kernel_rfl
theorem laid : laidOutB Tryd.prog = true := by kernel_rfl
theorem mixed : Tryd.prog.follows .mixedOrders = true := by kernel_rfl
theorem hts : ∀ t ∈ ([9] : List TypeId), plainT Tryd.prog [9] t = true := fun t ht => List.all_eq_true.1 (by kernel_rfl : ([9] : List TypeId).all (plainT Tryd.prog [9]) = true) t ht
theorem hpts : ∀ t ∈ Tryd.f4.params.toList, t ∈ ([9] : List TypeId) := by decide
theorem hread : ∀ t ∈ Tryd.f4.params.toList, Tryd.prog.readableRec t = true ∧ t < Tryd.prog.types.size := fun t ht => by
  have := List.all_eq_true.1 (by kernel_rfl : (Tryd.f4.params.toList).all (fun t => Tryd.prog.readableRec t && decide (t < Tryd.prog.types.size)) = true) t ht
  simpa using this
theorem hfn (H : Type) : ∀ ds : List (DataW H), ds.length = Tryd.f4.params.size → Rows.rankParsesSpec.fn H ds = { results := [.lit (.bool true)], args := ds } := fun ds h => by
  have h : ds.length = 1 := h
  match ds, h with
  | [a0], _ => rfl
abbrev laidL : List (String × DataW Unit) := Rows.rankParsesRow.laid
set_option maxRecDepth 100000 in
theorem lifted (os : Os) (started : os.Started) (H : Type) (enc : TypeId × Value → H) :
    ReturnsInHanded {} Tryd.checked os 4 .any (fun w args => (Rows.rankParsesSpec.pre enc Tryd.prog Tryd.f4 Rows.rankParsesRow.domain false w args ∧ laidMetH Tryd.prog laidL w) ∧ sizedMet enc Tryd.prog Tryd.f4 (OpenSpec.ofChange Rows.rankParsesSpec) false w args)
      (Rows.rankParsesSpec.post enc Tryd.prog Tryd.f4 false true false false) := by
  refine returnsInHanded_of_change_and (C := Tryd.checked) (X := fun w _ => laidMetH Tryd.prog laidL w) (fun _ _ _ hh h => h.of_heap hh) own started (by kernel_rfl) Tryd.func4
    (ChangeSpec.witness_shaped (enc := enc) (C := Tryd.checked) (os := os) (X := fun w _ => laidMetH Tryd.prog laidL w) false (World.laidAll Tryd.prog os laidL) #[.string ⟨#[]⟩] 8 (World.laidAll_os _ _ _)
      (World.shaped_of_ZipB (by kernel_rfl) (by kernel_rfl)) (by kernel_rfl) (by kernel_rfl) (by kernel_rfl)
      (by rw [MakeChecks.laidMetH_plain _ _ _ (by kernel_rfl)]; exact laidMet_laidAll _ (by kernel_rfl) (by kernel_rfl))) ?_
  intro W base args ds gs before hval hW hcnd hsz hL _
  refine law_calls (P := Tryd.prog) (f := Tryd.f4) (tb := 4) mixed laid rfl rfl Tryd.underlying4 (hfn H) hread hts hpts her_weights (fun avs h => parses_row h) hval hW ?_ ⟨_, Tryd.func4, by kernel_rfl⟩
  intro j t d hj hd
  refine weights_each _ _ hsz j t d ?_ ?_
  · rw [List.getElem?_append_left (List.getElem?_eq_some_iff.1 hj).1]; exact hj
  · rw [List.getElem?_append_left (List.getElem?_eq_some_iff.1 hd).1]; exact hd
theorem over : Rows.rankParsesRow.holds Tryd.pinned (OpenSpec.ofChange Rows.rankParsesSpec) :=
  OpenClaim.holds_of_wide 4 Tryd.f4 rfl rfl rfl rfl rfl rfl rfl ⟨rfl, rfl, rfl, rfl, rfl⟩ rfl rfl rfl rfl rfl (by kernel_rfl) Tryd.func4 (by kernel_rfl)
    (of_decide_eq_true (by kernel_rfl)) (by unfold Func.isWrapper; first | (rw [if_pos (by decide +kernel)]; kernel_rfl) | (rw [if_neg (by decide +kernel)]; exact ⟨rfl, rfl⟩))
    (fun os started H enc _ => lifted os started H enc)
theorem card : Rows.RankParsesCardSaid :=
  Claim7.holds_tied_plain_at .later [] [.data, .pinned] true (true, "d2e9a151578715d69f261fdf1fa48582e96574cca71874fb0b9ecf29bb737f95") false over (fun _ h => by cases h) (by kernel_rfl) (fun _ h => by cases h) rankParses_row_tie rfl ⟨rfl, rfl⟩ (by kernel_rfl) rfl
    (fun f fn hf hfn => by
      obtain rfl : f = 4 := Option.some.inj ((show Tryd.prog.funcNamed "tailrace/tailracelaw02.RankParses" = some 4 by kernel_rfl).symm.trans hf) |>.symm
      obtain rfl : fn = Tryd.f4 := (Option.some.inj (Tryd.func4.symm.trans hfn)).symm
      exact ⟨by kernel_rfl, fun j t ht => by
        rw [Tryd.params4] at ht
        have hm : t ∈ [9] := by simpa using Array.mem_of_getElem? ht
        have hall : ([9].all fun u => !Tryd.prog.wantsStandIn u) = true := by kernel_rfl
        exact (show Tryd.prog.wantsStandIn t = false by simpa using List.all_eq_true.1 hall t hm)⟩)
    (by kernel_rfl)
end Go.Proofs.YtcdfdnmnnepnoaaDoor.rowRankParses
namespace Go.Proofs.YtcdfdnmnnepnoaaDoor
theorem rankParses_holds : Rows.RankParsesCardSaid := rowRankParses.card
end Go.Proofs.YtcdfdnmnnepnoaaDoor
