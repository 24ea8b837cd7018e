/- The law of turns, of arguments. -/
import Derived.Test.YtnohkfjifdjnnaaFeedLaw
import Derived.Test.YtnohkfjifdjnnaaAmArg
set_option linter.unusedVariables false
set_option linter.unusedSimpArgs false
namespace Go.Proofs.Ytnohkfjifdjnnaa
open Go.Am
abbrev slW : TypeId → Nat → Prop := fun e n => n * Try.prog.bytesOf e ≤ reachBytes
abbrev stW : Nat → Prop := fun n => n ≤ reachBytes
theorem eqin_four {P : Program} {t : TypeId} {f0 f1 f2 f3 : Field} (ht : P.underlying t = some (.struct #[f0, f1, f2, f3])) (n0 : f0.name ≠ "_") (n1 : f1.name ≠ "_") (n2 : f2.name ≠ "_") (n3 : f3.name ≠ "_") (hs : P.stoodInHeld t = false) {xs ys : Array Value} {a0 a1 a2 a3 b0 b1 b2 b3 : Value} {e0 e1 e2 e3 : Bool} (d : Nat)
   (p0 : pureRun P (part f0.type xs f0.offset) = some a0) (p1 : pureRun P (part f1.type xs f1.offset) = some a1) (p2 : pureRun P (part f2.type xs f2.offset) = some a2) (p3 : pureRun P (part f3.type xs f3.offset) = some a3)
   (q0 : pureRun P (part f0.type ys f0.offset) = some b0) (q1 : pureRun P (part f1.type ys f1.offset) = some b1) (q2 : pureRun P (part f2.type ys f2.offset) = some b2) (q3 : pureRun P (part f3.type ys f3.offset) = some b3)
   (h0 : pureRun P (Op.equalIn d f0.type a0 b0) = some e0) (h1 : pureRun P (Op.equalIn d f1.type a1 b1) = some e1) (h2 : pureRun P (Op.equalIn d f2.type a2 b2) = some e2) (h3 : pureRun P (Op.equalIn d f3.type a3 b3) = some e3) :
    pureRun P (Op.equalIn (d + 1) t (.agg xs) (.agg ys)) = some (e0 && (e1 && (e2 && e3))) := by
  rw [Op.equalIn, pr_bind, pr_underlying ht]
  cases e0 <;> cases e1 <;> cases e2 <;> cases e3 <;> simp [pr_bind, pr_prog, hs, n0, n1, n2, n3, p0, p1, p2, p3, q0, q1, q2, q3, h0, h1, h2, h3, pr_pure]
theorem hi (d : Nat) (x y : Int) : pureRun Try.prog (Op.equalIn (d + 1) 3 (.int .i64 x) (.int .i64 y)) = some (decide (x = y)) := by
  rw [eqin_int Try.underlying3 d x y]
  by_cases h : x = y <;> simp [h]
theorem ht (d : Nat) (x y : ByteArray) : pureRun Try.prog (Op.equalIn (d + 1) 9 (.string x) (.string y)) = some (decide (x = y)) := by
  rw [eqin_str Try.underlying9 d, ba_beq]
theorem p3 {cs : Array Value} {off : Nat} {v : Value} (h : cs[off]? = some v) : pureRun Try.prog (part 3 cs off) = some v := part_sc Try.underlying3 (fun _ => by simp) (fun _ _ => by simp) h
theorem p9 {cs : Array Value} {off : Nat} {v : Value} (h : cs[off]? = some v) : pureRun Try.prog (part 9 cs off) = some v := part_sc Try.underlying9 (fun _ => by simp) (fun _ _ => by simp) h
theorem pPoint (k n : Int) (t : ByteArray) (re im : Int) : pureRun Try.prog (part 103 #[.int .i64 k, .int .i64 n, .string t, .int .i64 re, .int .i64 im] 3) = some (.agg #[.int .i64 re, .int .i64 im]) := by
  have hsz : pureRun Try.prog (Go.sizeOf 103) = some 2 := by kernel_rfl
  unfold part isAgg
  simp only [pr_bind, pr_underlying Try.underlying103, Option.bind_some, pr_pure]
  simp [pr_map, hsz]
theorem pVal (p : ByteArray) (k n : Int) (t : ByteArray) (re im : Int) : pureRun Try.prog (part 105 #[.string p, .int .i64 k, .int .i64 n, .string t, .int .i64 re, .int .i64 im] 1) = some (.agg #[.int .i64 k, .int .i64 n, .string t, .int .i64 re, .int .i64 im]) := by
  have hsz : pureRun Try.prog (Go.sizeOf 105) = some 5 := by kernel_rfl
  unfold part isAgg
  simp only [pr_bind, pr_underlying Try.underlying105, Option.bind_some, pr_pure]
  simp [pr_map, hsz]
set_option maxRecDepth 100000 in
theorem hasC : HasC Try.prog where
  bne p q := by
    have : pureRun Try.prog (Op.equal 4 (.bool p) (.bool q)) = some (p == q) := eqin_bool Try.underlying4 9999 p q
    simp [scalarBin, eqGuard, binOp, pr_bind, pr_prog, pr_pure, pr_map, this]
    cases p <;> cases q <;> rfl
  fne a b := by
    have hpt := eqin_two Try.underlying103 (by decide) (by decide) (by kernel_rfl) 9997 (p3 (cs := #[.int .i64 a.re, .int .i64 a.im]) (off := 0) rfl) (p3 (cs := #[.int .i64 a.re, .int .i64 a.im]) (off := 1) rfl) (p3 (cs := #[.int .i64 b.re, .int .i64 b.im]) (off := 0) rfl) (p3 (cs := #[.int .i64 b.re, .int .i64 b.im]) (off := 1) rfl) (hi 9996 a.re b.re) (hi 9996 a.im b.im)
    have hv := eqin_four Try.underlying105 (by decide) (by decide) (by decide) (by decide) (by kernel_rfl) 9998
      (p3 (cs := #[.int .i64 a.kind, .int .i64 a.num, .string a.text, .int .i64 a.re, .int .i64 a.im]) (off := 0) rfl) (p3 (cs := #[.int .i64 a.kind, .int .i64 a.num, .string a.text, .int .i64 a.re, .int .i64 a.im]) (off := 1) rfl) (p9 (cs := #[.int .i64 a.kind, .int .i64 a.num, .string a.text, .int .i64 a.re, .int .i64 a.im]) (off := 2) rfl) (pPoint a.kind a.num a.text a.re a.im)
      (p3 (cs := #[.int .i64 b.kind, .int .i64 b.num, .string b.text, .int .i64 b.re, .int .i64 b.im]) (off := 0) rfl) (p3 (cs := #[.int .i64 b.kind, .int .i64 b.num, .string b.text, .int .i64 b.re, .int .i64 b.im]) (off := 1) rfl) (p9 (cs := #[.int .i64 b.kind, .int .i64 b.num, .string b.text, .int .i64 b.re, .int .i64 b.im]) (off := 2) rfl) (pPoint b.kind b.num b.text b.re b.im)
      (hi 9997 a.kind b.kind) (hi 9997 a.num b.num) (ht 9997 a.text b.text) hpt
    have key := sb_agg_neq (P := Try.prog) (t := 107) (by kernel_rfl) (eqin_two Try.underlying107 (by decide) (by decide) (by kernel_rfl) 9999
      (p9 (cs := #[.string a.path, .int .i64 a.kind, .int .i64 a.num, .string a.text, .int .i64 a.re, .int .i64 a.im]) (off := 0) rfl) (pVal a.path a.kind a.num a.text a.re a.im)
      (p9 (cs := #[.string b.path, .int .i64 b.kind, .int .i64 b.num, .string b.text, .int .i64 b.re, .int .i64 b.im]) (off := 0) rfl) (pVal b.path b.kind b.num b.text b.re b.im) (ht 9998 a.path b.path) hv)
    rw [key]
    congr 2
    cases a; cases b
    simp [and_assoc]
theorem hasB (p q : Bool) : scalarBin Try.prog .eql 4 (.bool p) (.bool q) = some (.bool (p == q)) := by
  have : pureRun Try.prog (Op.equal 4 (.bool p) (.bool q)) = some (p == q) := eqin_bool Try.underlying4 9999 p q
  simp [scalarBin, eqGuard, binOp, pr_bind, pr_prog, pr_pure, pr_map, this]
theorem fl_av {m : Nat} {x : List AV} (h : OkAv Try.prog slW stW m 107 x) : ∃ f : Fl, x = fl f := by
  obtain ⟨k, _, hf⟩ := okav_struct Try.underlying107 h
  obtain ⟨a1, _, rfl, g1, a2, _, rfl, g2, rfl⟩ := hf
  obtain ⟨p, rfl, _⟩ := okav_string Try.underlying9 g1
  obtain ⟨k2, _, hf2⟩ := okav_struct Try.underlying105 g2
  obtain ⟨b1, _, rfl, e1, b2, _, rfl, e2, b3, _, rfl, e3, b4, _, rfl, e4, rfl⟩ := hf2
  obtain ⟨kk, rfl, _⟩ := okav_int Try.underlying3 e1
  obtain ⟨nn, rfl, _⟩ := okav_int Try.underlying3 e2
  obtain ⟨tt, rfl, _⟩ := okav_string Try.underlying9 e3
  obtain ⟨k3, _, hf3⟩ := okav_struct Try.underlying103 e4
  obtain ⟨c1, _, rfl, i1, c2, _, rfl, i2, rfl⟩ := hf3
  obtain ⟨re, rfl, _⟩ := okav_int Try.underlying3 i1
  obtain ⟨im, rfl, _⟩ := okav_int Try.underlying3 i2
  exact ⟨⟨p, kk, nn, tt, re, im⟩, rfl⟩
theorem rr_fls : ∀ {es : List (List AV)} {l : List Fl}, RR (fun e f => e = fl f) es l → es = fls l
  | [], [], _ => rfl
  | e :: es, f :: l, h => by rw [h.1, rr_fls h.2]; rfl
  | [], _ :: _, h => by cases h
  | _ :: _, [], h => by cases h
theorem doc_av {m : Nat} {x : List AV} (h : OkAv Try.prog slW stW m 26 x) : ∃ v l, x = [v] ∧ SF 6 v (fls l) := by
  obtain ⟨w, es, xs, rfl, h1, h2, h3, h4⟩ := okav_slice (R := fun e f => e = fl f) Try.underlying26 (by kernel_rfl : Try.prog.cellsOf 107 = 6) (fun m' x' _ hx' => fl_av hx') h
  rw [rr_fls h2] at h1
  exact ⟨w, xs, rfl, h1⟩
theorem any_av {m sz : Nat} {x : List AV} {t e : TypeId} (ht : Try.prog.underlying t = some (.slice e)) (hsz : Try.prog.cellsOf e = sz) (h : OkAv Try.prog slW stW m t x) : ∃ v, x = [v] ∧ v.disc = v := by
  obtain ⟨w, es, xs, rfl, h1, _⟩ := okav_slice (R := fun _ (_ : Unit) => True) ht hsz (fun m' x' _ hx' => ⟨(), trivial⟩) h
  exact ⟨w, rfl, h1.disc⟩
theorem nm_av {m : Nat} {x : List AV} (h : OkAv Try.prog slW stW m 64 x) : ∃ y, nmR x y := by
  obtain ⟨k, _, hf⟩ := okav_struct Try.underlying64 h
  obtain ⟨a, _, rfl, ha, b, _, rfl, hb, rfl⟩ := hf
  obtain ⟨p, rfl, _⟩ := okav_string Try.underlying9 ha
  obtain ⟨v, l, rfl, hv⟩ := doc_av hb
  exact ⟨(p, l), v, rfl, hv⟩
theorem ch_av {m : Nat} {x : List AV} (h : OkAv Try.prog slW stW m 66 x) : ∃ y, chR x y := by
  obtain ⟨k, _, hf⟩ := okav_struct Try.underlying66 h
  obtain ⟨a, _, rfl, ha, b, _, rfl, hb, c, _, rfl, hc, d, _, rfl, hd, rfl⟩ := hf
  obtain ⟨n, rfl, _⟩ := okav_int Try.underlying3 ha
  obtain ⟨p, rfl, _⟩ := okav_string Try.underlying9 hb
  obtain ⟨q, rfl⟩ := okav_bool Try.underlying4 hc
  obtain ⟨v, l, rfl, hv⟩ := doc_av hd
  exact ⟨(n, p, q, l), v, rfl, hv⟩
theorem len_rng {α : Type} {xs : List α} {e : TypeId} (he : 1 ≤ Try.prog.bytesOf e) (h : xs ≠ [] → slW e xs.length) : xs.length < 2 ^ 60 := by
  by_cases hx : xs = []
  · subst hx; simp
  · have h1 := h hx
    have h2 := Nat.mul_le_mul_left xs.length he
    simp only [slW, reachBytes] at h1
    omega
set_option maxRecDepth 100000 in
theorem turns_row {avs : List AV} (h : okArgs Try.prog slW stW Try.f3.params.toList avs) : AWF Try.prog ann 0 3 avs (fun _ => none) fun v _ => v = .sc (.bool true) := by
  obtain ⟨a, b, c, rfl, ha, hb, hc⟩ := okArgs3 (t := 24) (u := 31) (v := 34) h
  obtain ⟨n1, cs1, rfl, hf1⟩ := okarg_struct Try.underlying24 ha
  obtain ⟨s1, _, rfl, f1, s2, _, rfl, f2, s3, _, rfl, f3, s4, _, rfl, f4, rfl⟩ := hf1
  obtain ⟨df, rfl, _⟩ := okav_string Try.underlying9 f1
  obtain ⟨rd, rfl⟩ := okav_bool Try.underlying4 f2
  obtain ⟨mk, rfl, _⟩ := okav_int Try.underlying3 f3
  obtain ⟨en, rfl, hen⟩ := any_av Try.underlying22 rfl f4
  obtain ⟨n2, cs2, rfl, hf⟩ := okarg_struct Try.underlying31 hb
  obtain ⟨a1, _, rfl, g1, a2, _, rfl, g2, a3, _, rfl, g3, a4, _, rfl, g4, a5, _, rfl, g5, a6, _, rfl, g6, a7, _, rfl, g7, a8, _, rfl, g8, a9, _, rfl, g9, a10, _, rfl, g10, a11, _, rfl, g11, rfl⟩ := hf
  obtain ⟨kind, rfl, _⟩ := okav_int Try.underlying3 g1
  obtain ⟨k1, rfl, _⟩ := okav_string Try.underlying9 g2
  obtain ⟨k2, rfl, _⟩ := okav_string Try.underlying9 g3
  obtain ⟨v1, rfl, q1⟩ := any_av Try.underlying26 rfl g4
  obtain ⟨v2, rfl, q2⟩ := any_av Try.underlying26 rfl g5
  obtain ⟨b1, rfl⟩ := okav_bool Try.underlying4 g6
  obtain ⟨on, rfl, _⟩ := okav_int Try.underlying3 g7
  obtain ⟨m1, rfl, _⟩ := okav_int Try.underlying3 g8
  obtain ⟨v3, rfl, q3⟩ := any_av Try.underlying27 rfl g9
  obtain ⟨v4, rfl, q4⟩ := any_av Try.underlying28 rfl g10
  obtain ⟨v5, rfl, q5⟩ := any_av Try.underlying29 rfl g11
  obtain ⟨n3, cs3, rfl, hf3⟩ := okarg_struct Try.underlying34 hc
  obtain ⟨z1, _, rfl, y1, z2, _, rfl, y2, z3, _, rfl, y3, z4, _, rfl, y4, z5, _, rfl, y5, z6, _, rfl, y6, z7, _, rfl, y7, z8, _, rfl, y8, rfl⟩ := hf3
  obtain ⟨code, rfl, _⟩ := okav_int Try.underlying32 y1
  obtain ⟨b2, rfl⟩ := okav_bool Try.underlying4 y2
  obtain ⟨v6, rfl, q6⟩ := any_av Try.underlying26 rfl y3
  obtain ⟨d, es, l, rfl, hd, hL, _, hbl⟩ := okav_slice (R := nmR) Try.underlying28 (by kernel_rfl : Try.prog.cellsOf 64 = 2) (fun m' x' _ hx' => nm_av hx') y4
  obtain ⟨w, fs, m, rfl, hw, hM, _, hbm⟩ := okav_slice (R := chR) Try.underlying29 (by kernel_rfl : Try.prog.cellsOf 66 = 4) (fun m' x' _ hx' => ch_av hx') y5
  obtain ⟨an, rfl, _⟩ := okav_int Try.underlying3 y6
  obtain ⟨tt, rfl, _⟩ := okav_int Try.underlying3 y7
  obtain ⟨v7, rfl, q7⟩ := any_av Try.underlying22 rfl y8
  exact turns_law has hasC hasB hen q1 q2 q3 q4 q5 q6 q7 hd hL hw hM (len_rng (by decide +kernel) hbl) (len_rng (by decide +kernel) hbm) _
end Go.Proofs.Ytnohkfjifdjnnaa
