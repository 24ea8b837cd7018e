/- The law of merges, for arguments that came in. -/
import Derived.Test.YtmdkgaljnoookaaSheafMrg
import Derived.Test.YtmdkgaljnoookaaSheafShelf
import Derived.Test.YtmdkgaljnoookaaAmArg
set_option linter.unusedVariables false
namespace Go.Proofs.Ytmdkgaljnoookaa
open Go.Am
theorem cells33 : Try.prog.cellsOf 33 = 2 := by kernel_rfl
theorem bytes33 : Try.prog.bytesOf 33 = 32 := by kernel_rfl
theorem cmp_cb : ∀ a b : List UInt8, Lib.compareBytes a b = if Op.bytesLess a b then -1 else if a = b then 0 else 1
  | [], [] => by simp [Lib.compareBytes, Op.bytesLess]
  | [], _ :: _ => by simp [Lib.compareBytes, Op.bytesLess]
  | _ :: _, [] => by simp [Lib.compareBytes, Op.bytesLess]
  | x :: a, y :: b => by
    rw [Lib.compareBytes, cmp_cb a b]
    by_cases h1 : x < y
    · simp [h1, Op.bytesLess]
    · by_cases h2 : y < x
      · have hne : ¬ x = y := fun e => by rw [e] at h2; exact UInt8.lt_irrefl _ h2
        simp [h1, h2, hne, Op.bytesLess]
      · have : x = y := UInt8.le_antisymm (UInt8.not_lt.1 h2) (UInt8.not_lt.1 h1)
        subst this
        simp [h1, Op.bytesLess]
theorem lb : Lb Try.prog where
  cmp a b h := by
    refine .sem (M5_pure (P := Try.prog) (args := [.string a, .string b]) (r := .int .i64 (cb a b)) ⟨_, Try.func30, rfl, by decide⟩ (by simp [scalarV]) rfl fun w => ?_)
    refine (Try.strings_Compare a b w).mono fun e w' ⟨h1, h2⟩ => ⟨?_, h2⟩
    rw [h1, cmp_cb]
    have : (if Op.bytesLess a.data.toList b.data.toList then (-1 : Int) else if a.data.toList = b.data.toList then 0 else 1) = cb a b := by
      unfold cb sl
      rw [ByteArray.toList_eq, ByteArray.toList_eq]
      have : (a.data.toList = b.data.toList) ↔ a = b := by
        constructor
        · intro h; cases a; cases b; simpa using h
        · intro h; rw [h]
      simp only [this]
    rw [this]

theorem hasC : HasC Try.prog where
  ne a b c d := by
    have ht : ∀ (x y : ByteArray), pureRun Try.prog (Op.equalIn 9999 9 (.string x) (.string y)) = some (decide (x = y)) := fun x y => by
      rw [← ba_beq]
      exact eqin_str Try.underlying9 9998 x y
    have hp : ∀ (x y : ByteArray), pureRun Try.prog (part 9 #[.string x, .string y] 0) = some (.string x) := fun x y => part_sc Try.underlying9 (fun _ => by simp) (fun _ _ => by simp) rfl
    have hq : ∀ (x y : ByteArray), pureRun Try.prog (part 9 #[.string x, .string y] 1) = some (.string y) := fun x y => part_sc Try.underlying9 (fun _ => by simp) (fun _ _ => by simp) rfl
    exact sb_agg_neq (by kernel_rfl) (eqin_two Try.underlying33 (by decide) (by decide) (by kernel_rfl) 9999 (hp a b) (hq a b) (hp c d) (hq c d) (ht a c) (ht b d))
abbrev slW : TypeId → Nat → Prop := fun e n => n * Try.prog.bytesOf e ≤ reachBytes
abbrev stW : Nat → Prop := fun n => n ≤ reachBytes
/-- A pair's cells. -/
def prR (e : List AV) (p : Pr) : Prop := e = [.sc (.string p.1), .sc (.string p.2)]
theorem RR.prs : ∀ {es : List (List AV)} {l : List Pr}, RR prR es l → es = prs l
  | [], [], _ => rfl
  | _ :: _, _ :: _, h => by
    have h1 : _ = _ := h.1
    rw [h1, RR.prs h.2]
    rfl
  | [], _ :: _, h => h.elim
  | _ :: _, [], h => h.elim
theorem pair_ok {sl : TypeId → Nat → Prop} {st : Nat → Prop} {m : Nat} {x : List AV} (h : OkAv Try.prog sl st m 33 x) : ∃ p, prR x p := by
  obtain ⟨k, _, hf⟩ := okav_struct Try.underlying33 h
  obtain ⟨a, b, rfl, ha, c, d, rfl, hc, rfl⟩ := hf
  obtain ⟨s, rfl, _⟩ := okav_string Try.underlying9 ha
  obtain ⟨s', rfl, _⟩ := okav_string Try.underlying9 hc
  exact ⟨(s, s'), rfl⟩
theorem pairs_ok {a : AV} (h : OkArg Try.prog slW stW 22 a) : ∃ l : List Pr, SF 2 a (prs l) ∧ l.length < 2 ^ 48 := by
  obtain ⟨es, l, h1, h2, h3, h4⟩ := okarg_slice (R := prR) Try.underlying22 cells33 (fun m x hx => pair_ok hx) h
  rw [RR.prs h2] at h1
  refine ⟨l, h1, ?_⟩
  by_cases hl : l = []
  · subst hl; simp
  · have := h4 hl
    simp only [slW, bytes33, reachBytes] at this
    omega
theorem merges_row {avs : List AV} (h : okArgs Try.prog slW stW Try.f3.params.toList avs) : AWF Try.prog ann 0 3 avs (fun _ => none) fun v _ => v = .sc (.bool true) := by
  obtain ⟨a, b, rfl, ha, hb⟩ := okArgs2 (t := 22) (u := 22) h
  obtain ⟨l, h1, h2⟩ := pairs_ok ha
  obtain ⟨m, g1, g2⟩ := pairs_ok hb
  exact merges_law has lb hasC h1 g1 (by omega) (by omega) _
end Go.Proofs.Ytmdkgaljnoookaa
