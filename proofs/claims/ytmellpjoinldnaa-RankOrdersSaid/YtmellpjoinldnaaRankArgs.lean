/- The laws of values, for arguments that came in. -/
import Derived.Test.YtmellpjoinldnaaRankLaws
import Derived.Test.YtmellpjoinldnaaRankShelf
import Derived.Test.YtmellpjoinldnaaAmArg
set_option linter.unusedVariables false
set_option linter.unusedSimpArgs false
namespace Go.Proofs.Ytmellpjoinldnaa
open Go.Am
theorem cmp_cb : ∀ a b : List UInt8, Lib.compareBytes a b = if Op.bytesLess a b then -1 else if a = b then 0 else 1
  | [], [] => by simp [Lib.compareBytes, Op.bytesLess]
  | [], _ :: _ => by simp [Lib.compareBytes, Op.bytesLess]
  | _ :: _, [] => by simp [Lib.compareBytes, Op.bytesLess]
  | x :: a, y :: b => by
    rw [Lib.compareBytes, cmp_cb a b]
    by_cases h1 : x < y
    · simp [h1, Op.bytesLess]
    · by_cases h2 : y < x
      · have hne : ¬ x = y := fun e => by rw [e] at h2; exact UInt8.lt_irrefl _ h2
        simp [h1, h2, hne, Op.bytesLess]
      · have : x = y := UInt8.le_antisymm (UInt8.not_lt.1 h2) (UInt8.not_lt.1 h1)
        subst this
        simp [h1, Op.bytesLess]
theorem lb : Lb Try.prog where
  cmp a b h := by
    refine .sem (M5_pure (P := Try.prog) (args := [.string a, .string b]) (r := .int .i64 (cb a b)) ⟨_, Try.func23, rfl, by decide⟩ (by simp [scalarV]) rfl fun w => ?_)
    refine (Try.strings_Compare a b w).mono fun e w' ⟨h1, h2⟩ => ⟨?_, h2⟩
    rw [h1, cmp_cb]
    have : (if Op.bytesLess a.data.toList b.data.toList then (-1 : Int) else if a.data.toList = b.data.toList then 0 else 1) = cb a b := by
      unfold cb sl
      rw [ByteArray.toList_eq, ByteArray.toList_eq]
      have : (a.data.toList = b.data.toList) ↔ a = b := by
        constructor
        · intro h; cases a; cases b; simpa using h
        · intro h; rw [h]
      simp only [this]
    rw [this]
theorem eqin_four {P : Program} {t : TypeId} {f0 f1 f2 f3 : Field} (ht : P.underlying t = some (.struct #[f0, f1, f2, f3])) (n0 : f0.name ≠ "_") (n1 : f1.name ≠ "_") (n2 : f2.name ≠ "_") (n3 : f3.name ≠ "_") (hs : P.stoodInHeld t = false) {xs ys : Array Value} {a0 a1 a2 a3 b0 b1 b2 b3 : Value} {e0 e1 e2 e3 : Bool} (d : Nat)
   (p0 : pureRun P (part f0.type xs f0.offset) = some a0) (p1 : pureRun P (part f1.type xs f1.offset) = some a1) (p2 : pureRun P (part f2.type xs f2.offset) = some a2) (p3 : pureRun P (part f3.type xs f3.offset) = some a3)
   (q0 : pureRun P (part f0.type ys f0.offset) = some b0) (q1 : pureRun P (part f1.type ys f1.offset) = some b1) (q2 : pureRun P (part f2.type ys f2.offset) = some b2) (q3 : pureRun P (part f3.type ys f3.offset) = some b3)
   (h0 : pureRun P (Op.equalIn d f0.type a0 b0) = some e0) (h1 : pureRun P (Op.equalIn d f1.type a1 b1) = some e1) (h2 : pureRun P (Op.equalIn d f2.type a2 b2) = some e2) (h3 : pureRun P (Op.equalIn d f3.type a3 b3) = some e3) :
    pureRun P (Op.equalIn (d + 1) t (.agg xs) (.agg ys)) = some (e0 && (e1 && (e2 && e3))) := by
  rw [Op.equalIn, pr_bind, pr_underlying ht]
  cases e0 <;> cases e1 <;> cases e2 <;> cases e3 <;> simp [pr_bind, pr_prog, hs, n0, n1, n2, n3, p0, p1, p2, p3, q0, q1, q2, q3, h0, h1, h2, h3, pr_pure]
theorem hasC : HasC Try.prog where
  bne p q := by
    have : pureRun Try.prog (Op.equal 4 (.bool p) (.bool q)) = some (p == q) := eqin_bool Try.underlying4 9999 p q
    simp [scalarBin, eqGuard, binOp, pr_bind, pr_prog, pr_pure, pr_map, this]
    cases p <;> cases q <;> rfl
  eq a b := by
    have hi : ∀ (d : Nat) (x y : Int), pureRun Try.prog (Op.equalIn (d + 1) 3 (.int .i64 x) (.int .i64 y)) = some (decide (x = y)) := fun d x y => by
      rw [eqin_int Try.underlying3 d x y]
      by_cases h : x = y <;> simp [h]
    have ht : ∀ (x y : List UInt8), pureRun Try.prog (Op.equalIn 9999 9 (.string (str x)) (.string (str y))) = some (decide (x = y)) := fun x y => by
      rw [eqin_str Try.underlying9 9998, ba_beq]
      by_cases h : x = y
      · rw [h]; simp
      · simp [h, str_inj]
    have hp : ∀ (v : Vl), pureRun Try.prog (part 29 #[.int .i64 v.kind, .int .i64 v.num, .string (str v.text), .int .i64 v.re, .int .i64 v.im] 3) = some (.agg #[.int .i64 v.re, .int .i64 v.im]) := fun v => by
      have hsz : pureRun Try.prog (Go.sizeOf 29) = some 2 := by kernel_rfl
      unfold part isAgg
      simp only [pr_bind, pr_underlying Try.underlying29, Option.bind_some, pr_pure]
      simp [pr_map, hsz]
    have i0 : ∀ (c0 c1 c2 c3 c4 : Value), pureRun Try.prog (part 3 #[c0, c1, c2, c3, c4] 0) = some c0 := fun _ _ _ _ _ => part_sc Try.underlying3 (fun _ => by simp) (fun _ _ => by simp) rfl
    have i1 : ∀ (c0 c1 c2 c3 c4 : Value), pureRun Try.prog (part 3 #[c0, c1, c2, c3, c4] 1) = some c1 := fun _ _ _ _ _ => part_sc Try.underlying3 (fun _ => by simp) (fun _ _ => by simp) rfl
    have i2 : ∀ (c0 c1 c2 c3 c4 : Value), pureRun Try.prog (part 9 #[c0, c1, c2, c3, c4] 2) = some c2 := fun _ _ _ _ _ => part_sc Try.underlying9 (fun _ => by simp) (fun _ _ => by simp) rfl
    have j0 : ∀ (c0 c1 : Value), pureRun Try.prog (part 3 #[c0, c1] 0) = some c0 := fun _ _ => part_sc Try.underlying3 (fun _ => by simp) (fun _ _ => by simp) rfl
    have j1 : ∀ (c0 c1 : Value), pureRun Try.prog (part 3 #[c0, c1] 1) = some c1 := fun _ _ => part_sc Try.underlying3 (fun _ => by simp) (fun _ _ => by simp) rfl
    have hpt := eqin_two Try.underlying29 (by decide) (by decide) (by kernel_rfl) 9998 (j0 (.int .i64 a.re) (.int .i64 a.im)) (j1 (.int .i64 a.re) (.int .i64 a.im)) (j0 (.int .i64 b.re) (.int .i64 b.im)) (j1 (.int .i64 b.re) (.int .i64 b.im)) (hi 9997 a.re b.re) (hi 9997 a.im b.im)
    have key := sb_agg_eql (P := Try.prog) (t := 31) (by kernel_rfl) (eqin_four Try.underlying31 (by decide) (by decide) (by decide) (by decide) (by kernel_rfl) 9999 (i0 _ _ _ _ _) (i1 _ _ _ _ _) (i2 _ _ _ _ _) (hp a) (i0 _ _ _ _ _) (i1 _ _ _ _ _) (i2 _ _ _ _ _) (hp b) (hi 9998 a.kind b.kind) (hi 9998 a.num b.num) (ht a.text b.text) hpt)
    rw [key]
    congr 2
    cases a; cases b
    simp [and_assoc]
theorem cells31 : Try.prog.cellsOf 31 = 5 := by kernel_rfl
abbrev slW : TypeId → Nat → Prop := fun e n => n * Try.prog.bytesOf e ≤ reachBytes
abbrev stW : Nat → Prop := fun n => n ≤ reachBytes
theorem vl_fs {sl : TypeId → Nat → Prop} {st : Nat → Prop} {k : Nat} {x : List AV} (hf : okFs (OkAv Try.prog sl st k)
    [{ name := "Kind", type := 3, offset := 0, embedded := false, tag := "", pkgPath := "", byteOffset := 0 }, { name := "Num", type := 3, offset := 1, embedded := false, tag := "", pkgPath := "", byteOffset := 8 },
     { name := "Text", type := 9, offset := 2, embedded := false, tag := "", pkgPath := "", byteOffset := 16 }, { name := "Point", type := 29, offset := 3, embedded := false, tag := "", pkgPath := "", byteOffset := 32 }] x) : ∃ v : Vl, x = v.cells := by
  obtain ⟨a, _, rfl, ha, b, _, rfl, hb, c, _, rfl, hc, d, _, rfl, hd, rfl⟩ := hf
  obtain ⟨a, rfl, _⟩ := okav_int Try.underlying3 ha
  obtain ⟨b, rfl, _⟩ := okav_int Try.underlying3 hb
  obtain ⟨c, rfl, _⟩ := okav_string Try.underlying9 hc
  obtain ⟨m, _, hf⟩ := okav_struct Try.underlying29 hd
  obtain ⟨e, _, rfl, he, f, _, rfl, hf, rfl⟩ := hf
  obtain ⟨e, rfl, _⟩ := okav_int Try.underlying3 he
  obtain ⟨f, rfl, _⟩ := okav_int Try.underlying3 hf
  exact ⟨⟨a, b, c.data.toList, e, f⟩, by rw [Vl.cells, ← str_of]; rfl⟩
theorem vl_arg {a : AV} (h : OkArg Try.prog slW stW 31 a) : ∃ v : Vl, a = v.av := by
  obtain ⟨n, cs, rfl, hf⟩ := okarg_struct Try.underlying31 h
  obtain ⟨v, rfl⟩ := vl_fs hf
  exact ⟨v, rfl⟩
theorem makes_row {avs : List AV} (h : okArgs Try.prog slW stW Try.f4.params.toList avs) : AWF Try.prog ann 0 4 avs (fun _ => none) fun v _ => v = .sc (.bool true) := by
  obtain ⟨a, b, c, rfl, ha, hb, hc⟩ := okArgs3 (t := 3) (u := 9) (v := 29) h
  obtain ⟨n, rfl, _⟩ := okarg_int Try.underlying3 ha
  obtain ⟨s, rfl, _⟩ := okarg_string Try.underlying9 hb
  obtain ⟨m, cs, rfl, hf⟩ := okarg_struct Try.underlying29 hc
  obtain ⟨e, _, rfl, he, f, _, rfl, hf, rfl⟩ := hf
  obtain ⟨e, rfl, _⟩ := okav_int Try.underlying3 he
  obtain ⟨f, rfl, _⟩ := okav_int Try.underlying3 hf
  rw [str_of s]
  exact makes_law has hasC lb n s.data.toList e f _
theorem sorts_row {avs : List AV} (h : okArgs Try.prog slW stW Try.f5.params.toList avs) : AWF Try.prog ann 0 5 avs (fun _ => none) fun v _ => v = .sc (.bool true) := by
  obtain ⟨a, b, c, rfl, ha, hb, hc⟩ := okArgs3 (t := 31) (u := 31) (v := 31) h
  obtain ⟨a, rfl⟩ := vl_arg ha
  obtain ⟨b, rfl⟩ := vl_arg hb
  obtain ⟨c, rfl⟩ := vl_arg hc
  exact sorts_law has hasC lb a b c _
end Go.Proofs.Ytmellpjoinldnaa
