/- The law; arguments. -/
import Derived.Test.YtomfknocpijmbaaEtherM7
import Derived.Test.YtomfknocpijmbaaEtherM6
import Derived.Test.YtomfknocpijmbaaEtherM5
import Derived.Test.YtomfknocpijmbaaEtherM1
import Derived.Test.YtomfknocpijmbaaEtherM4
import Derived.Test.YtomfknocpijmbaaAmArg
import Derived.Test.YtomfknocpijmbaaAmExt
section
set_option linter.unusedVariables false
set_option linter.unusedSimpArgs false
namespace Go.Proofs.Ytomfknocpijmbaa
open Go.Am
variable {P : Program} (H : Has P)
include H
set_option maxHeartbeats 4000000 in
theorem does_law (hQ : ∀ p q : Bool, scalarBin P .neq 4 (.bool p) (.bool q) = some (.bool (p != q))) (hQe : ∀ p q : Bool, scalarBin P .eql 4 (.bool p) (.bool q) = some (.bool (p == q)))
  (hA : ∀ a b c d : Int, scalarBin P .neq 69 (.agg #[.int .i64 a, .int .i64 b]) (.agg #[.int .i64 c, .int .i64 d]) = some (.bool (!(a == c && b == d))))
  (hE : ∀ {f : Nat}, f = 55 ∨ f = 57 → ∀ {o1 c1 s1 n1 o2 c2 s2 n2 : Nat} {l1 l2 : Option Nat} {cs1 cs2 : List AV} {h : Heap}, h o1 = some (.arr cs1) → h o2 = some (.arr cs2) → o1 ≠ o2 → cs2 ≠ [] → AWF P ann 0 f [.rs o1 c1 s1 n1 l1, .rs o2 c2 s2 n2 l2] h fun v h' => v = .sc (.bool false) ∧ h' = h)
  {bv cv : AV} {E : Eth} {bes ces : List (List AV)} {x : Act} (hbv : SF 3 bv bes) (hB : RR BgR bes E.bags) (hcv : SF 2 cv ces) (hC : RR CK ces E.cuts) (h : Heap) :
  AWF P ann 0 6 [.ag [bv, cv], x.av] h fun r h' => r = .sc (.bool true) := by
 refine AWF.fnc H.f0_6 rfl ?_
 (refine W_seq_gen fun N hN => ?_); simp (disch := omega) only [go_sem, ↓reduceIte, Nat.reduceEqDiff, Nat.reduceLeDiff, Act.av, hbv.disc, hcv.disc]
 intro o2 ho2 o3 ho3
 obtain ⟨h2, hh, f2, f3, hk⟩ := box2 ho2 ho3 (Y := some (.arr [.sc (.int .i64 x.kd), .sc (.int .i64 x.a), .sc (.int .i64 x.b), .sc (.int .i64 x.n), .sc (.int .i64 x.w)]))
 refine hN _ ?_; clear hN N
 rw [hh]
 clear hh ho2 ho3 hk
 refine W_f (fun t => t 2 = .op o2 0 ∧ t 3 = .op o3 0 ∧ True) ?_; rintro t ⟨t2, t3, -⟩
 (refine W_seq_gen fun M hM => ?_)
 simp (disch := omega) only [go_sem, ↓reduceIte, Nat.reduceEqDiff, Nat.reduceLeDiff, t2, f2, hbv.disc, hcv.disc]
 refine (light_ok H hbv hB hcv hC _).mono ?_
 rintro _ hx9 ⟨⟨b, rfl, hL⟩, hh9⟩; rw [hh9]; clear hh9 hx9
 cases b with
 | false =>
  rw [contK_some]; simp (disch := omega) only [go_sem, ↓reduceIte, Nat.reduceEqDiff, Nat.reduceLeDiff]
  refine (awake_ok H hE _).to ?_
  rw [contK_some]; simp (disch := omega) only [go_sem, ↓reduceIte, Nat.reduceEqDiff, Nat.reduceLeDiff]
 | true =>
  obtain ⟨l1, l2, l3⟩ := hL rfl
  have hz : Szd E := ⟨by omega, by omega, fun b hb => ⟨by have := (l3 b hb).1; omega, fun y hy => by have := (l3 b hb).2 y hy; omega⟩⟩
  rw [contK_some]; simp (disch := omega) only [go_sem, ↓reduceIte, Nat.reduceEqDiff, Nat.reduceLeDiff]
  refine hM _ ?_; clear hM M
  refine W_f (fun t => t 2 = .op o2 0 ∧ t 3 = .op o3 0 ∧ True) ?_; rintro t ⟨t2, t3, -⟩
  (refine W_seq_gen fun N hN => ?_)
  simp (disch := omega) only [go_sem, ↓reduceIte, Nat.reduceEqDiff, Nat.reduceLeDiff, t2, t3, f2, f3, hbv.disc, hcv.disc]
  refine (do_ok H (x := x) hbv hB hcv hC hz (fun {_ _ _ _ _ _ _ _ _ _ _ _ _} => hE (.inr rfl)) _).mono ?_
  rintro _ hx9 ⟨⟨v, w, rfl, ⟨bv', cv', bes', ces', rfl, hbv', hB', hcv', hC'⟩, hw⟩, hh9⟩; rw [hh9]; clear hh9 hx9
  rw [contK_some]; simp (disch := omega) only [go_sem, ↓reduceIte, Nat.reduceEqDiff, Nat.reduceLeDiff, hbv'.disc, hcv'.disc, hw.disc, hw.same]
  intro o5 ho5
  have g5 : (upd h2 o5 (some (.arr [bv', cv']))) o5 = some (.arr [bv', cv']) := upd_same ..
  have g2 : (upd h2 o5 (some (.arr [bv', cv']))) o2 = some (.arr [bv, cv]) := by rw [upd_ne _ _ (fun e => by rw [← e, f2] at ho5; cases ho5)]; exact f2
  have g3 : (upd h2 o5 (some (.arr [bv', cv']))) o3 = some (.arr [.sc (.int .i64 x.kd), .sc (.int .i64 x.a), .sc (.int .i64 x.b), .sc (.int .i64 x.n), .sc (.int .i64 x.w)]) := by rw [upd_ne _ _ (fun e => by rw [← e, f3] at ho5; cases ho5)]; exact f3
  generalize upd h2 o5 (some (.arr [bv', cv'])) = h7 at g5 g2 g3
  clear f2 f3 ho5 h2
  refine hN _ ?_; clear hN N
  refine W_f (fun t => t 2 = .op o2 0 ∧ t 3 = .op o3 0 ∧ t 5 = .op o5 0 ∧ t 6 = w ∧ t 7 = .sc (.bool (checkB E && (doP E x).2.2)) ∧ t 8 = .sc (.int .i64 ((if checkB E then 0 else 1 : Nat) : Int)) ∧ True) ?_; rintro t ⟨t2, t3, t5, t6, t7, t8, -⟩
  (refine W_seq_gen fun M hM => ?_)
  simp (disch := omega) only [go_sem, ↓reduceIte, Nat.reduceEqDiff, Nat.reduceLeDiff, t2, g2, hbv.disc, hcv.disc]
  refine (may_ok H hbv hB hcv hC (by omega) (by omega) _).to ?_
  cases hm : mayB E with
  | false =>
   have hch : checkB E = false := by rw [← may_check]; exact hm
   have hcn : cntB E = 0 := by unfold cntB; rw [hch]; rfl
   rw [hch] at t7 t8 hB' hC' hw
   simp only [Bool.false_and, Bool.false_eq_true, if_false] at t7 t8 hB' hC' hw
   have hchk := fun h => check_ok H hbv hB hcv hC (by omega) (by omega) h
   rw [hch] at hchk
   simp only [Bool.false_eq_true, if_false] at hchk
   have hsame := fun h => same_ok H hQ hA hbv' (E := ⟨[], []⟩) hB' hcv' hC' (E' := ⟨[], []⟩) (.nil : SF 3 (.sc (.slice none 0 0)) []) trivial (.nil : SF 2 (.sc (.slice none 0 0)) []) trivial ⟨by simp, by simp, by simp⟩ h
   rw [sameB_true.2 rfl] at hsame
   have hcnt := fun h => count_ok H hbv hB hcv hC hz.1 hz.2.1 (fun b hb => (hz.2.2 b hb).1) h
   rw [hcn] at hcnt
   rw [contK_some]; simp (disch := omega) only [go_sem, ↓reduceIte, Nat.reduceEqDiff, Nat.reduceLeDiff, t2, g2, hbv.disc, hcv.disc]
   refine (hchk _).to ?_
   rw [contK_some]; simp (disch := omega) only [go_sem, ↓reduceIte, Nat.reduceEqDiff, Nat.reduceLeDiff, t5, t6, t7, t8, g5, hw.same, hw.disc, hw.sl.len, hbv'.disc, hcv'.disc]
   refine (hsame _).to ?_
   rw [contK_some]; simp (disch := omega) only [go_sem, ↓reduceIte, Nat.reduceEqDiff, Nat.reduceLeDiff, t2, g2, hbv.disc, hcv.disc]
   refine (hcnt _).to ?_
   rw [contK_some]; simp (disch := omega) only [go_sem, ↓reduceIte, Nat.reduceEqDiff, Nat.reduceLeDiff]
   refine (awake_ok H hE _).to ?_
   rw [contK_some]; simp (disch := omega) only [go_sem, ↓reduceIte, Nat.reduceEqDiff, Nat.reduceLeDiff]
  | true =>
   have G := may_good.1 hm
   have hch : checkB E = true := by rw [← may_check]; exact hm
   rw [hch] at t7 t8 hB' hC' hw
   simp only [Bool.true_and, if_true] at t7 t8 hB' hC' hw
   rw [contK_some]; simp (disch := omega) only [go_sem, ↓reduceIte, Nat.reduceEqDiff, Nat.reduceLeDiff]
   refine hM _ ?_; clear hM M
   (refine W_seq_gen fun N hN => ?_)
   refine W_f (fun t => t 2 = .op o2 0 ∧ t 3 = .op o3 0 ∧ t 5 = .op o5 0 ∧ t 6 = w ∧ t 7 = .sc (.bool (doP E x).2.2) ∧ t 8 = .sc (.int .i64 ((0 : Nat) : Int)) ∧ True) ?_; rintro t ⟨t2, t3, t5, t6, t7, t8, -⟩
   simp (disch := omega) only [go_sem, ↓reduceIte, Nat.reduceEqDiff, Nat.reduceLeDiff, t2, t3, g2, g3, hbv.disc, hcv.disc]
   refine (rdo_ok H (x := x) hbv hB hcv hC hz (fun b hb => (G.bb b hb).2.2.1) _).mono ?_
   rw [rdo_do G]
   rintro _ hx9 ⟨⟨v2, w2, rfl, ⟨bv2, cv2, bes2, ces2, rfl, hbv2, hB2, hcv2, hC2⟩, hw2⟩, hh9⟩; rw [hh9]; clear hh9 hx9
   rw [contK_some]; simp (disch := omega) only [go_sem, ↓reduceIte, Nat.reduceEqDiff, Nat.reduceLeDiff, hbv2.disc, hcv2.disc, hw2.disc, hw2.same]
   intro o9 ho9
   have q9 : (upd h7 o9 (some (.arr [bv2, cv2]))) o9 = some (.arr [bv2, cv2]) := upd_same ..
   have q2 : (upd h7 o9 (some (.arr [bv2, cv2]))) o2 = some (.arr [bv, cv]) := by rw [upd_ne _ _ (fun e => by rw [← e, g2] at ho9; cases ho9)]; exact g2
   have q5 : (upd h7 o9 (some (.arr [bv2, cv2]))) o5 = some (.arr [bv', cv']) := by rw [upd_ne _ _ (fun e => by rw [← e, g5] at ho9; cases ho9)]; exact g5
   generalize upd h7 o9 (some (.arr [bv2, cv2])) = h9 at q9 q2 q5
   clear g2 g3 g5 ho9 h7
   have S1 := sm_do (x := x) (⟨G, l2, fun b hb => (l3 b hb).2⟩ : Sm E 60)
   have z := S1.szd (by omega)
   generalize doP E x = D at *
   have hn := S1.g.n
   have hchk := fun h => check_ok H hbv hB hcv hC (by omega) (by omega) h
   rw [hch] at hchk
   simp only [if_true] at hchk
   have hsame := fun h => same_ok H hQ hA hbv' hB' hcv' hC' hbv2 hB2 hcv2 hC2 z h
   rw [sameB_true.2 rfl] at hsame
   have hmay := fun h => may_ok H hbv' hB' hcv' hC' (by omega) (by have := z.2.1; omega) h
   rw [may_good.2 S1.g] at hmay
   have hps := fun h => psame_ok H hA hQe hbv hB hcv hC hbv' hB' hcv' hC' hz h
   have hrs := fun h => same_ok H hQ hA hbv hB hcv hC hbv' hB' hcv' hC' hz h
   have hc1 := fun h => count_ok H hbv' hB' hcv' hC' z.1 z.2.1 (fun b hb => (z.2.2 b hb).1) h
   rw [cntB_good S1.g] at hc1
   have hc2 := fun h => Count_ok H hcv2.disc hbv2 hB2 (by omega) (fun b hb => (z.2.2 b hb).1) h
   have sq : ∀ b : ByteArray, decide (b = b) = true := fun b => decide_eq_true rfl
   have bq : ∀ b : Bool, (b == b) = true := fun b => by cases b <;> rfl
   have nq : ∀ n : Nat, decide (n = n) = true := fun n => decide_eq_true rfl
   refine hN _ ?_; clear hN N
   refine W_f (fun t => t 2 = .op o2 0 ∧ t 5 = .op o5 0 ∧ t 6 = w ∧ t 7 = .sc (.bool D.2.2) ∧ t 8 = .sc (.int .i64 ((0 : Nat) : Int)) ∧ t 9 = .op o9 0 ∧ t 10 = w2 ∧ t 11 = .sc (.bool D.2.2) ∧ True) ?_; rintro t ⟨t2, t5, t6, t7, t8, t9, t10, t11, -⟩
   simp (disch := omega) only [go_sem, ↓reduceIte, Nat.reduceEqDiff, Nat.reduceLeDiff, t2, q2, hbv.disc, hcv.disc]
   refine ⟨_, hchk _, ?_⟩
   rw [contK_some]; simp (disch := omega) only [go_sem, ↓reduceIte, Nat.reduceEqDiff, Nat.reduceLeDiff, t5, t6, t7, t8, t9, t10, t11, q5, q9, hQe, bq, hw.same, hw.disc, hw.sl.b2s, hw2.same, hw2.disc, hw2.sl.b2s, sq, hbv'.disc, hcv'.disc, hbv2.disc, hcv2.disc]
   refine ⟨_, hsame _, ?_⟩
   rw [contK_some]; simp (disch := omega) only [go_sem, ↓reduceIte, Nat.reduceEqDiff, Nat.reduceLeDiff, t5, q5, hbv'.disc, hcv'.disc]
   refine ⟨_, hmay _, ?_⟩
   rw [contK_some]; simp (disch := omega) only [go_sem, ↓reduceIte, Nat.reduceEqDiff, Nat.reduceLeDiff, t2, t5, q2, q5, hbv.disc, hcv.disc, hbv'.disc, hcv'.disc]
   refine ⟨_, hps _, ?_⟩
   rw [contK_some]; simp (disch := omega) only [go_sem, ↓reduceIte, Nat.reduceEqDiff, Nat.reduceLeDiff, t2, t5, q2, q5, hbv.disc, hcv.disc, hbv'.disc, hcv'.disc]
   refine ⟨_, hrs _, ?_⟩
   rw [contK_some]; simp (disch := omega) only [go_sem, ↓reduceIte, Nat.reduceEqDiff, Nat.reduceLeDiff, t5, q5, hQe, bq, hbv'.disc, hcv'.disc]
   refine ⟨_, hc1 _, ?_⟩
   rw [contK_some]; simp (disch := omega) only [go_sem, ↓reduceIte, Nat.reduceEqDiff, Nat.reduceLeDiff, t9, q9, hbv2.disc, hcv2.disc]
   refine ⟨_, hc2 _, ?_⟩
   rw [contK_some]; simp (disch := omega) only [go_sem, ↓reduceIte, Nat.reduceEqDiff, Nat.reduceLeDiff, nq]
   refine ⟨_, awake_ok H hE _, ?_⟩
   rw [contK_some]; simp (disch := omega) only [go_sem, ↓reduceIte, Nat.reduceEqDiff, Nat.reduceLeDiff]
end Go.Proofs.Ytomfknocpijmbaa
end
section
set_option linter.unusedVariables false
set_option linter.unusedSimpArgs false
namespace Go.Proofs.Ytomfknocpijmbaa
open Go.Am
variable {P : Program} (H : Has P)
include H
end Go.Proofs.Ytomfknocpijmbaa
end
section
set_option linter.unusedVariables false
set_option linter.unusedSimpArgs false
namespace Go.Proofs.Ytomfknocpijmbaa
open Go.Am
abbrev slE : TypeId → Nat → Prop := fun e n => n * Try.prog.bytesOf e ≤ reachBytes
abbrev stE : Nat → Prop := fun n => n ≤ reachBytes
theorem hasNE (p q : Bool) : scalarBin Try.prog .neq 4 (.bool p) (.bool q) = some (.bool (p != q)) := by
 have : pureRun Try.prog (Op.equal 4 (.bool p) (.bool q)) = some (p == q) := eqin_bool Try.underlying4 9999 p q
 simp [scalarBin, eqGuard, binOp, pr_bind, pr_prog, pr_pure, pr_map, this]
 cases p <;> cases q <;> rfl
theorem cut_av {m : Nat} {x : List AV} (h : OkAv Try.prog slE stE m 69 x) : ∃ k : Int × Int, CK x k := by
 obtain ⟨k, _, hf⟩ := okav_array Try.underlying69 h
 obtain ⟨a, _, rfl, ha, b, _, rfl, hb, rfl⟩ := hf
 obtain ⟨n, rfl, _⟩ := okav_int Try.underlying3 ha
 obtain ⟨n2, rfl, _⟩ := okav_int Try.underlying3 hb
 exact ⟨(n, n2), rfl⟩
theorem pcl_av {m : Nat} {x : List AV} (h : OkAv Try.prog slE stE m 61 x) : ∃ y : Pcl, PcR x y := by
 obtain ⟨k, _, hf⟩ := okav_struct Try.underlying61 h
 obtain ⟨a, _, rfl, ha, b, _, rfl, hb, rfl⟩ := hf
 obtain ⟨l, ⟨w, rfl, hw⟩, _⟩ := okav_bytes Try.underlying27 Try.underlying5 (by kernel_rfl) ha
 obtain ⟨b, rfl⟩ := okav_bool Try.underlying4 hb
 exact ⟨(l, b), w, rfl, hw⟩
theorem bag_av {m : Nat} {x : List AV} (h : OkAv Try.prog slE stE m 54 x) : ∃ y : Bg, BgR x y := by
 obtain ⟨k, _, hf⟩ := okav_struct Try.underlying54 h
 obtain ⟨a, _, rfl, ha, b, _, rfl, hb, c, _, rfl, hc, rfl⟩ := hf
 obtain ⟨n, rfl, _⟩ := okav_int Try.underlying3 ha
 obtain ⟨n2, rfl, _⟩ := okav_int Try.underlying3 hb
 obtain ⟨lv, es, l, rfl, hlv, hL, _⟩ := okav_slice (R := PcR) Try.underlying52 (by kernel_rfl : Try.prog.cellsOf 61 = 2) (fun m' x' _ hx' => pcl_av hx') hc
 exact ⟨⟨(n, n2), l⟩, lv, es, rfl, hlv, hL⟩
theorem eth_arg {v : AV} (h : OkArg Try.prog slE stE 25 v) : ∃ E, EthV v E := by
 obtain ⟨n, cs, rfl, hf⟩ := okarg_struct Try.underlying25 h
 obtain ⟨a, _, rfl, ha, b, _, rfl, hb, rfl⟩ := hf
 obtain ⟨bv, bes, B, rfl, hbv, hB, _⟩ := okav_slice (R := BgR) Try.underlying22 (by kernel_rfl : Try.prog.cellsOf 54 = 3) (fun m' x' _ hx' => bag_av hx') ha
 obtain ⟨cv, ces, C, rfl, hcv, hC, _⟩ := okav_slice (R := CK) Try.underlying23 (by kernel_rfl : Try.prog.cellsOf 69 = 2) (fun m' x' _ hx' => cut_av hx') hb
 exact ⟨⟨B, C⟩, bv, cv, bes, ces, rfl, hbv, hB, hcv, hC⟩
theorem hasE {f : Nat} (hf : f = 55 ∨ f = 57) {o1 c1 s1 n1 o2 c2 s2 n2 : Nat} {l1 l2 : Option Nat} {cs1 cs2 : List AV} {h : Heap} (h1 : h o1 = some (.arr cs1)) (h2 : h o2 = some (.arr cs2)) (hne : o1 ≠ o2) (hcs : cs2 ≠ []) :
  AWF Try.prog ann 0 f [.rs o1 c1 s1 n1 l1, .rs o2 c2 s2 n2 l2] h fun v h' => v = .sc (.bool false) ∧ h' = h := by
 rcases hf with rfl | rfl
 ·exact overlaps_ext (tS := 22) (tR := 4) (e := 54) Try.func55 (by kernel_rfl) (by kernel_rfl) (by kernel_rfl) (by kernel_rfl) Try.underlying22 (size := 3) (by kernel_rfl) h1 h2 hne hcs
 ·exact overlaps_ext (tS := 23) (tR := 4) (e := 69) Try.func57 (by kernel_rfl) (by kernel_rfl) (by kernel_rfl) (by kernel_rfl) Try.underlying23 (size := 2) (by kernel_rfl) h1 h2 hne hcs
end Go.Proofs.Ytomfknocpijmbaa
end
section
set_option linter.unusedVariables false
set_option linter.unusedSimpArgs false
namespace Go.Proofs.Ytomfknocpijmbaa
open Go.Am
theorem eqin_arr2 {P : Program} {t e : TypeId} (ht : P.underlying t = some (.array 2 e)) {xs ys : Array Value} {a0 a1 b0 b1 : Value} {e0 e1 : Bool} (d n : Nat) (hs : pureRun P (sizeOf e) = some n)
  (p0 : pureRun P (part e xs (0 * n)) = some a0) (p1 : pureRun P (part e xs (1 * n)) = some a1) (q0 : pureRun P (part e ys (0 * n)) = some b0) (q1 : pureRun P (part e ys (1 * n)) = some b1)
  (h0 : pureRun P (Op.equalIn d e a0 b0) = some e0) (h1 : pureRun P (Op.equalIn d e a1 b1) = some e1) : pureRun P (Op.equalIn (d + 1) t (.agg xs) (.agg ys)) = some (e0 && e1) := by
 rw [Op.equalIn, pr_bind, pr_underlying ht]
 simp only [Nat.zero_mul, Nat.one_mul] at p0 p1 q0 q1
 cases e0 <;> cases e1 <;> simp [pr_bind, pr_prog, hs, Std.Legacy.Range.forIn_eq_forIn_range', Std.Legacy.Range.size, List.range', p0, p1, q0, q1, h0, h1, pr_pure]
theorem hasA (a b c d : Int) : scalarBin Try.prog .neq 69 (.agg #[.int .i64 a, .int .i64 b]) (.agg #[.int .i64 c, .int .i64 d]) = some (.bool (!(a == c && b == d))) := by
 have hp : ∀ (x y : Int), pureRun Try.prog (part 3 #[.int .i64 x, .int .i64 y] 0) = some (.int .i64 x) := fun x y => part_sc Try.underlying3 (fun _ => by simp) (fun _ _ => by simp) rfl
 have hq : ∀ (x y : Int), pureRun Try.prog (part 3 #[.int .i64 x, .int .i64 y] 1) = some (.int .i64 y) := fun x y => part_sc Try.underlying3 (fun _ => by simp) (fun _ _ => by simp) rfl
 have ht : ∀ (x y : Int), pureRun Try.prog (Op.equalIn 9999 3 (.int .i64 x) (.int .i64 y)) = some (x == y) := fun x y => eqin_int Try.underlying3 9998 x y
 exact sb_agg_neq (by kernel_rfl) (eqin_arr2 Try.underlying69 9999 1 (by kernel_rfl) (hp a b) (hq a b) (hp c d) (hq c d) (ht a c) (ht b d))
end Go.Proofs.Ytomfknocpijmbaa
end
section
set_option linter.unusedVariables false
set_option linter.unusedSimpArgs false
namespace Go.Proofs.Ytomfknocpijmbaa
open Go.Am
end Go.Proofs.Ytomfknocpijmbaa
end
section
set_option linter.unusedVariables false
set_option linter.unusedSimpArgs false
namespace Go.Proofs.Ytomfknocpijmbaa
open Go.Am
theorem hasQE (p q : Bool) : scalarBin Try.prog .eql 4 (.bool p) (.bool q) = some (.bool (p == q)) := by
 have : pureRun Try.prog (Op.equal 4 (.bool p) (.bool q)) = some (p == q) := eqin_bool Try.underlying4 9999 p q
 simp [scalarBin, eqGuard, binOp, pr_bind, pr_prog, pr_pure, pr_map, this]
set_option maxRecDepth 100000 in
theorem does_row {avs : List AV} (h : okArgs Try.prog slE stE Try.f6.params.toList avs) : AWF Try.prog ann 0 6 avs (fun _ => none) fun v _ => v = .sc (.bool true) := by
 obtain ⟨a, b, rfl, ha, hb⟩ := okArgs2 (t := 25) (u := 42) h
 obtain ⟨E, bv, cv, bes, ces, rfl, hbv, hB, hcv, hC⟩ := eth_arg ha
 obtain ⟨n, cs, rfl, hf⟩ := okarg_struct Try.underlying42 hb
 obtain ⟨a1, _, rfl, g1, a2, _, rfl, g2, a3, _, rfl, g3, a4, _, rfl, g4, a5, _, rfl, g5, rfl⟩ := hf
 obtain ⟨n1, rfl, _⟩ := okav_int Try.underlying3 g1
 obtain ⟨n2, rfl, _⟩ := okav_int Try.underlying3 g2
 obtain ⟨n3, rfl, _⟩ := okav_int Try.underlying3 g3
 obtain ⟨n4, rfl, _⟩ := okav_int Try.underlying3 g4
 obtain ⟨n5, rfl, _⟩ := okav_int Try.underlying3 g5
 exact does_law has hasNE hasQE hasA (fun hf => hasE hf) (x := ⟨n1, n2, n3, n4, n5⟩) hbv hB hcv hC _
end Go.Proofs.Ytomfknocpijmbaa
end
