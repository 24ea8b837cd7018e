/- The law of what an index wants, and what comes of any answer. -/
import Derived.Test.YtnohkfjifdjnnaaFeedSame
set_option linter.unusedVariables false
set_option linter.unusedSimpArgs false
namespace Go.Proofs.Ytnohkfjifdjnnaa
open Go.Am
theorem setR13 {a b c0 c1 c2 c3 c4 c5 c6 c7 c8 c9 c10 x0 x1 x2 x3 x4 x5 x6 x7 x8 x9 x10 : AV} : setRange [a, b, c0, c1, c2, c3, c4, c5, c6, c7, c8, c9, c10] 2 [x0, x1, x2, x3, x4, x5, x6, x7, x8, x9, x10] = [a, b, x0, x1, x2, x3, x4, x5, x6, x7, x8, x9, x10] := rfl
attribute [go_sem] setR13
variable {P : Program} (H : Has P) (HC : HasC P) (HB : ∀ p q : Bool, scalarBin P .eql 4 (.bool p) (.bool q) = some (.bool (p == q)))
include H HC HB
theorem turns_law {df k1 k2 : ByteArray} {rd b1 b2 : Bool} {mk kind on m1 code an tt : Int} {en v1 v2 v3 v4 v5 v6 d w v7 : AV} {es fs : List (List AV)} {l : List (ByteArray × List Fl)} {m : List (Int × ByteArray × Bool × List Fl)}
    (hen : en.disc = en) (q1 : v1.disc = v1) (q2 : v2.disc = v2) (q3 : v3.disc = v3) (q4 : v4.disc = v4) (q5 : v5.disc = v5) (q6 : v6.disc = v6) (q7 : v7.disc = v7)
    (hd : SF 2 d es) (hL : RR nmR es l) (hw : SF 4 w fs) (hM' : RR chR fs m) (hl : l.length < 2 ^ 60) (hl' : m.length < 2 ^ 60) (h : Heap) :
    AWF P ann 0 3 [.ag [.sc (.string df), .sc (.bool rd), .sc (.int .i64 mk), en], .ag [.sc (.int .i64 kind), .sc (.string k1), .sc (.string k2), v1, v2, .sc (.bool b1), .sc (.int .i64 on), .sc (.int .i64 m1), v3, v4, v5],
      .ag [.sc (.int .i64 code), .sc (.bool b2), v6, d, w, .sc (.int .i64 an), .sc (.int .i64 tt), v7]] h fun r h' => r = .sc (.bool true) := by
  refine AWF.fnc H.f0_3 rfl ?_
  have hO := OB.nil (h := h)
  (refine W_seq_gen fun N hN => ?_); simp (disch := first | omega | (simp only [List.length_cons, List.length_nil, List.length_append, u8s_len]; omega)) only [go_sem, ↓reduceIte, true_and, Nat.reduceLeDiff, Nat.reduceEqDiff, Nat.reduceAdd, Nat.reduceBEq, Int.reduceEq, hen, q1, q2, q3, q4, q5, q6, q7, hd.disc, hw.disc]
  intro o3 h3 o4 h4 o5 h5
  refine hN _ ?_; clear hN N; refine W_ob (((hO.new h3).new h4).new h5) fun hc hO => ?_
  refine W_forget (fun t => t 3 = .op o3 0 ∧ t 4 = .op o4 0 ∧ t 5 = .op o5 0 ∧ True) (by simp [upd_at, *] <;> (first | rfl | exact ⟨rfl, rfl⟩ | exact ⟨rfl, rfl, rfl⟩ | exact ⟨rfl, rfl, rfl, rfl⟩ | exact ⟨rfl, rfl, rfl, rfl, rfl⟩)) ?_; rintro t ⟨t3, t4, t5, -⟩
  -- DEF T: t3, t4, t5, hO.get0, hO.get1, hO.get2, hen, q1, q2, q3, q4, q5, q6, q7, hd.disc, hd.same, hw.disc, hw.same
  (refine W_seq_gen fun M hM => ?_)
  have quit : ∀ (t : Nat → AV) (h1 : Heap), True := fun _ _ => trivial
  simp (disch := first | omega | (simp only [List.length_cons, List.length_nil, List.length_append, u8s_len]; omega)) only [go_sem, ↓reduceIte, true_and, Nat.reduceLeDiff, Nat.reduceEqDiff, Nat.reduceAdd, Nat.reduceBEq, Int.reduceEq, t3, t4, t5, hO.get0, hO.get1, hO.get2, hen, q1, q2, q3, q4, q5, q6, q7, hd.disc, hd.same, hw.disc, hw.same]
  refine (gdocs_ok H hd hL hl _).mono ?_
  rintro _ h1 ⟨⟨x, rfl, hx⟩, rfl⟩
  cases x with
  | false =>
    rw [contK_some]; simp (disch := first | omega | (simp only [List.length_cons, List.length_nil, List.length_append, u8s_len]; omega)) only [go_sem, ↓reduceIte, true_and, Nat.reduceLeDiff, Nat.reduceEqDiff, Nat.reduceAdd, Nat.reduceBEq, Int.reduceEq]
    refine (awake_ok H _).mono ?_
    rintro _ _ ⟨rfl, hh⟩; subst hh
    rw [contK_some]; simp (disch := first | omega | (simp only [List.length_cons, List.length_nil, List.length_append, u8s_len]; omega)) only [go_sem, ↓reduceIte, true_and, Nat.reduceLeDiff, Nat.reduceEqDiff, Nat.reduceAdd, Nat.reduceBEq, Int.reduceEq]
  | true =>
    obtain ⟨hx1, hx2⟩ := hx rfl
    rw [contK_some]; simp (disch := first | omega | (simp only [List.length_cons, List.length_nil, List.length_append, u8s_len]; omega)) only [go_sem, ↓reduceIte, true_and, Nat.reduceLeDiff, Nat.reduceEqDiff, Nat.reduceAdd, Nat.reduceBEq, Int.reduceEq, t3, t4, t5, hO.get0, hO.get1, hO.get2, hen, q1, q2, q3, q4, q5, q6, q7, hd.disc, hd.same, hw.disc, hw.same]
    refine (gnews_ok H hw hM' hl' _).mono ?_
    rintro _ h1 ⟨⟨y, rfl, hy⟩, rfl⟩
    cases y with
    | false =>
      rw [contK_some]; simp (disch := first | omega | (simp only [List.length_cons, List.length_nil, List.length_append, u8s_len]; omega)) only [go_sem, ↓reduceIte, true_and, Nat.reduceLeDiff, Nat.reduceEqDiff, Nat.reduceAdd, Nat.reduceBEq, Int.reduceEq]
      refine (awake_ok H _).mono ?_
      rintro _ _ ⟨rfl, hh⟩; subst hh
      rw [contK_some]; simp (disch := first | omega | (simp only [List.length_cons, List.length_nil, List.length_append, u8s_len]; omega)) only [go_sem, ↓reduceIte, true_and, Nat.reduceLeDiff, Nat.reduceEqDiff, Nat.reduceAdd, Nat.reduceBEq, Int.reduceEq]
    | true =>
      obtain ⟨hy1, hy2⟩ := hy rfl
      rw [contK_some]; simp (disch := first | omega | (simp only [List.length_cons, List.length_nil, List.length_append, u8s_len]; omega)) only [go_sem, ↓reduceIte, true_and, Nat.reduceLeDiff, Nat.reduceEqDiff, Nat.reduceAdd, Nat.reduceBEq, Int.reduceEq]
      refine hM _ ?_; clear hM M
      have sl : ∀ x ∈ l, x.2.length ≤ 2 ^ 30 := fun x hx => by have := hx2 x hx; omega
      have sm : ∀ x ∈ m, x.2.2.2.length ≤ 2 ^ 30 := fun x hx => by have := hy2 x hx; omega
      have ht := turns_ok H (df := df) (k1 := k1) (k2 := k2) (rd := rd) (b1 := b1) (b2 := b2) (mk := mk) (kind := kind) (on := on) (m1 := m1) (code := code) (an := an) (tt := tt) hen q1 q2 q3 q4 q5 q6 q7 hd hL hw hM' (by omega) sl (by omega) sm
      have hr := rturns_ok H (l := l) (df := df) (k1 := k1) (k2 := k2) (rd := rd) (b1 := b1) (b2 := b2) (mk := mk) (kind := kind) (on := on) (m1 := m1) (code := code) (an := an) (tt := tt) hen q1 q2 q3 q4 q5 q6 q7 hd hw hM'
      have two := turn_two (code := code) (kind := kind) (an := an) (on := on) (rd := rd) hd hL hw hM' (by omega) sl (by omega) sm
      generalize turnV code kind an on rd (ownV docD d) (ownV newD w) m.length = A at ht two
      generalize rturnV code kind an on rd d w m.length = B at hr two
      refine W_forget (fun t => t 3 = .op o3 0 ∧ t 4 = .op o4 0 ∧ t 5 = .op o5 0 ∧ True) (by simp [upd_at, *] <;> (first | rfl | exact ⟨rfl, rfl⟩ | exact ⟨rfl, rfl, rfl⟩ | exact ⟨rfl, rfl, rfl, rfl⟩ | exact ⟨rfl, rfl, rfl, rfl, rfl⟩)) ?_; rintro t ⟨t3, t4, t5, -⟩
      (refine W_seq_gen fun N hN => ?_); simp (disch := first | omega | (simp only [List.length_cons, List.length_nil, List.length_append, u8s_len]; omega)) only [go_sem, ↓reduceIte, true_and, Nat.reduceLeDiff, Nat.reduceEqDiff, Nat.reduceAdd, Nat.reduceBEq, Int.reduceEq, t3, t4, t5, hO.get0, hO.get1, hO.get2, hen, q1, q2, q3, q4, q5, q6, q7, hd.disc, hd.same, hw.disc, hw.same]
      refine (ht _).mono ?_
      rintro _ h1 ⟨rfl, rfl⟩
      obtain ⟨wk, wn, wm, hwv⟩ : ∃ wk wn wm, wantsV rd mk = opV wk wn wm nilA nilA := by
        unfold wantsV
        split
        · exact ⟨_, _, _, rfl⟩
        · exact ⟨_, _, _, rfl⟩
      have hwant := fun h => wants_ok H (df := df) (rd := rd) (mk := mk) hen h
      have hrwant := fun h => rwants_ok H (df := df) (rd := rd) (mk := mk) hen h
      rw [hwv] at hwant hrwant
      rcases two with ⟨p, q, rfl, rfl, k, n, mm, d1, w1, d2, w2, es1, fs1, es2, fs2, l', m', rfl, rfl, u1, u2, u3, u4, u5, u6, u7, u8, u9, u10, u11, u12⟩ | ⟨k, n, mm, rfl, rfl⟩
      · rw [contK_some]; simp (disch := first | omega | (simp only [List.length_cons, List.length_nil, List.length_append, u8s_len]; omega)) only [go_sem, ↓reduceIte, true_and, Nat.reduceLeDiff, Nat.reduceEqDiff, Nat.reduceAdd, Nat.reduceBEq, Int.reduceEq, opV, u1.disc, u1.same, u3.disc, u3.same]
        intro o7 h7
        refine hN _ ?_; clear hN N; refine W_ob (hO.new h7) fun hc hO => ?_
        refine W_forget (fun t => t 3 = .op o3 0 ∧ t 4 = .op o4 0 ∧ t 5 = .op o5 0 ∧ t 7 = .op o7 0 ∧ t 8 = .sc (.bool true) ∧ True) (by simp [upd_at, *] <;> (first | rfl | exact ⟨rfl, rfl⟩ | exact ⟨rfl, rfl, rfl⟩ | exact ⟨rfl, rfl, rfl, rfl⟩ | exact ⟨rfl, rfl, rfl, rfl, rfl⟩)) ?_; rintro t ⟨t3, t4, t5, t7, t8, -⟩
        -- DEF U: t3, t4, t5, hO.get0, hO.get1, hO.get2, hO.get3, hen, q1, q2, q3, q4, q5, q6, q7, hd.disc, hd.same, hw.disc, hw.same
        (refine W_seq_gen fun N hN => ?_); simp (disch := first | omega | (simp only [List.length_cons, List.length_nil, List.length_append, u8s_len]; omega)) only [go_sem, ↓reduceIte, true_and, Nat.reduceLeDiff, Nat.reduceEqDiff, Nat.reduceAdd, Nat.reduceBEq, Int.reduceEq, t3, t4, t5, hO.get0, hO.get1, hO.get2, hO.get3, hen, q1, q2, q3, q4, q5, q6, q7, hd.disc, hd.same, hw.disc, hw.same]
        refine (hr _).mono ?_
        rintro _ h1 ⟨rfl, rfl⟩
        rw [contK_some]; simp (disch := first | omega | (simp only [List.length_cons, List.length_nil, List.length_append, u8s_len]; omega)) only [go_sem, ↓reduceIte, true_and, Nat.reduceLeDiff, Nat.reduceEqDiff, Nat.reduceAdd, Nat.reduceBEq, Int.reduceEq, opV, u5.disc, u5.same, u7.disc, u7.same]
        intro o9 h9
        refine hN _ ?_; clear hN N; refine W_ob (hO.new h9) fun hc hO => ?_
        refine W_forget (fun t => t 3 = .op o3 0 ∧ t 7 = .op o7 0 ∧ t 8 = .sc (.bool true) ∧ t 9 = .op o9 0 ∧ t 10 = .sc (.bool true) ∧ True) (by simp [upd_at, *] <;> (first | rfl | exact ⟨rfl, rfl⟩ | exact ⟨rfl, rfl, rfl⟩ | exact ⟨rfl, rfl, rfl, rfl⟩ | exact ⟨rfl, rfl, rfl, rfl, rfl⟩)) ?_; rintro t ⟨t3, t7, t8, t9, t10, -⟩
        (refine W_seq_gen fun N hN => ?_); simp (disch := first | omega | (simp only [List.length_cons, List.length_nil, List.length_append, u8s_len]; omega)) only [go_sem, ↓reduceIte, true_and, Nat.reduceLeDiff, Nat.reduceEqDiff, Nat.reduceAdd, Nat.reduceBEq, Int.reduceEq, t10]
        refine hN _ ?_; clear hN N
        refine W_forget (fun t => t 3 = .op o3 0 ∧ t 7 = .op o7 0 ∧ t 8 = .sc (.bool true) ∧ t 9 = .op o9 0 ∧ t 10 = .sc (.bool true) ∧ True) (by simp [upd_at, *] <;> (first | rfl | exact ⟨rfl, rfl⟩ | exact ⟨rfl, rfl, rfl⟩ | exact ⟨rfl, rfl, rfl, rfl⟩ | exact ⟨rfl, rfl, rfl, rfl, rfl⟩)) ?_; rintro t ⟨t3, t7, t8, t9, t10, -⟩
        (refine W_seq_gen fun N hN => ?_); simp (disch := first | omega | (simp only [List.length_cons, List.length_nil, List.length_append, u8s_len]; omega)) only [go_sem, ↓reduceIte, true_and, Nat.reduceLeDiff, Nat.reduceEqDiff, Nat.reduceAdd, Nat.reduceBEq, Int.reduceEq, t7, t9, hO.get0, hO.get1, u1.disc, u1.same, u3.disc, u3.same, u5.disc, u5.same, u7.disc, u7.same]
        refine (samereq_ok H HC u1 u2 u3 u4 u5 u6 u7 u8 u9 u10 u11 u12 _).mono ?_
        rintro _ h1 ⟨rfl, rfl⟩
        rw [contK_some]; simp (disch := first | omega | (simp only [List.length_cons, List.length_nil, List.length_append, u8s_len]; omega)) only [go_sem, ↓reduceIte, true_and, Nat.reduceLeDiff, Nat.reduceEqDiff, Nat.reduceAdd, Nat.reduceBEq, Int.reduceEq]
        refine hN _ ?_; clear hN N
        refine W_forget (fun t => t 3 = .op o3 0 ∧ t 8 = .sc (.bool true) ∧ t 10 = .sc (.bool true) ∧ t 11 = .sc (.bool true) ∧ True) (by simp [upd_at, *] <;> (first | rfl | exact ⟨rfl, rfl⟩ | exact ⟨rfl, rfl, rfl⟩ | exact ⟨rfl, rfl, rfl, rfl⟩ | exact ⟨rfl, rfl, rfl, rfl, rfl⟩)) ?_; rintro t ⟨t3, t8, t10, t11, -⟩
        have bb : scalarBin P .eql 4 (.bool true) (.bool true) = some (.bool true) := HB true true
        simp (disch := first | omega | (simp only [List.length_cons, List.length_nil, List.length_append, u8s_len]; omega)) only [go_sem, ↓reduceIte, true_and, Nat.reduceLeDiff, Nat.reduceEqDiff, Nat.reduceAdd, Nat.reduceBEq, Int.reduceEq, t3, t8, t10, t11, bb, hO.get4, hen]
        refine ⟨_, hwant _, ?_⟩
        rw [contK_some]; simp (disch := first | omega | (simp only [List.length_cons, List.length_nil, List.length_append, u8s_len]; omega)) only [go_sem, ↓reduceIte, true_and, Nat.reduceLeDiff, Nat.reduceEqDiff, Nat.reduceAdd, Nat.reduceBEq, Int.reduceEq, opV, t3, hO.get4, hen]
        refine ⟨_, hrwant _, ?_⟩
        rw [contK_some]; simp (disch := first | omega | (simp only [List.length_cons, List.length_nil, List.length_append, u8s_len]; omega)) only [go_sem, ↓reduceIte, true_and, Nat.reduceLeDiff, Nat.reduceEqDiff, Nat.reduceAdd, Nat.reduceBEq, Int.reduceEq, opV]
        refine ⟨_, samereq_ok H HC (l := []) (m := []) (es := []) (fs := []) (es' := []) (fs' := []) SF.nil RR.nil SF.nil RR.nil SF.nil RR.nil SF.nil RR.nil (by simp) (by simp) (by simp) (by simp) _, ?_⟩
        rw [contK_some]; simp (disch := first | omega | (simp only [List.length_cons, List.length_nil, List.length_append, u8s_len]; omega)) only [go_sem, ↓reduceIte, true_and, Nat.reduceLeDiff, Nat.reduceEqDiff, Nat.reduceAdd, Nat.reduceBEq, Int.reduceEq]
        refine ⟨_, awake_ok H _, ?_⟩
        rw [contK_some]; simp (disch := first | omega | (simp only [List.length_cons, List.length_nil, List.length_append, u8s_len]; omega)) only [go_sem, ↓reduceIte, true_and, Nat.reduceLeDiff, Nat.reduceEqDiff, Nat.reduceAdd, Nat.reduceBEq, Int.reduceEq]
      · rw [contK_some]; simp (disch := first | omega | (simp only [List.length_cons, List.length_nil, List.length_append, u8s_len]; omega)) only [go_sem, ↓reduceIte, true_and, Nat.reduceLeDiff, Nat.reduceEqDiff, Nat.reduceAdd, Nat.reduceBEq, Int.reduceEq, op0, opV]
        intro o7 h7
        refine hN _ ?_; clear hN N; refine W_ob (hO.new h7) fun hc hO => ?_
        refine W_forget (fun t => t 3 = .op o3 0 ∧ t 4 = .op o4 0 ∧ t 5 = .op o5 0 ∧ t 7 = .op o7 0 ∧ t 8 = .sc (.bool false) ∧ True) (by simp [upd_at, *] <;> (first | rfl | exact ⟨rfl, rfl⟩ | exact ⟨rfl, rfl, rfl⟩ | exact ⟨rfl, rfl, rfl, rfl⟩ | exact ⟨rfl, rfl, rfl, rfl, rfl⟩)) ?_; rintro t ⟨t3, t4, t5, t7, t8, -⟩
        (refine W_seq_gen fun N hN => ?_); simp (disch := first | omega | (simp only [List.length_cons, List.length_nil, List.length_append, u8s_len]; omega)) only [go_sem, ↓reduceIte, true_and, Nat.reduceLeDiff, Nat.reduceEqDiff, Nat.reduceAdd, Nat.reduceBEq, Int.reduceEq, t3, t4, t5, hO.get0, hO.get1, hO.get2, hO.get3, hen, q1, q2, q3, q4, q5, q6, q7, hd.disc, hd.same, hw.disc, hw.same]
        refine (hr _).mono ?_
        rintro _ h1 ⟨rfl, rfl⟩
        rw [contK_some]; simp (disch := first | omega | (simp only [List.length_cons, List.length_nil, List.length_append, u8s_len]; omega)) only [go_sem, ↓reduceIte, true_and, Nat.reduceLeDiff, Nat.reduceEqDiff, Nat.reduceAdd, Nat.reduceBEq, Int.reduceEq, opV]
        intro o9 h9
        refine hN _ ?_; clear hN N; refine W_ob (hO.new h9) fun hc hO => ?_
        refine W_forget (fun t => t 3 = .op o3 0 ∧ t 7 = .op o7 0 ∧ t 8 = .sc (.bool false) ∧ t 9 = .op o9 0 ∧ t 10 = .sc (.bool false) ∧ True) (by simp [upd_at, *] <;> (first | rfl | exact ⟨rfl, rfl⟩ | exact ⟨rfl, rfl, rfl⟩ | exact ⟨rfl, rfl, rfl, rfl⟩ | exact ⟨rfl, rfl, rfl, rfl, rfl⟩)) ?_; rintro t ⟨t3, t7, t8, t9, t10, -⟩
        (refine W_seq_gen fun N hN => ?_); simp (disch := first | omega | (simp only [List.length_cons, List.length_nil, List.length_append, u8s_len]; omega)) only [go_sem, ↓reduceIte, true_and, Nat.reduceLeDiff, Nat.reduceEqDiff, Nat.reduceAdd, Nat.reduceBEq, Int.reduceEq, t9, t10, hO.get0]
        refine hN _ ?_; clear hN N; refine W_ob (hO.st0) fun hc hO => ?_
        refine W_forget (fun t => t 3 = .op o3 0 ∧ t 7 = .op o7 0 ∧ t 8 = .sc (.bool false) ∧ t 9 = .op o9 0 ∧ t 10 = .sc (.bool false) ∧ True) (by simp [upd_at, *] <;> (first | rfl | exact ⟨rfl, rfl⟩ | exact ⟨rfl, rfl, rfl⟩ | exact ⟨rfl, rfl, rfl, rfl⟩ | exact ⟨rfl, rfl, rfl, rfl, rfl⟩)) ?_; rintro t ⟨t3, t7, t8, t9, t10, -⟩
        (refine W_seq_gen fun N hN => ?_); simp (disch := first | omega | (simp only [List.length_cons, List.length_nil, List.length_append, u8s_len]; omega)) only [go_sem, ↓reduceIte, true_and, Nat.reduceLeDiff, Nat.reduceEqDiff, Nat.reduceAdd, Nat.reduceBEq, Int.reduceEq, t7, t9, hO.get0, hO.get1]
        refine (samereq_ok H HC (l := []) (m := []) (es := []) (fs := []) (es' := []) (fs' := []) SF.nil RR.nil SF.nil RR.nil SF.nil RR.nil SF.nil RR.nil (by simp) (by simp) (by simp) (by simp) _).mono ?_
        rintro _ h1 ⟨rfl, rfl⟩
        rw [contK_some]; simp (disch := first | omega | (simp only [List.length_cons, List.length_nil, List.length_append, u8s_len]; omega)) only [go_sem, ↓reduceIte, true_and, Nat.reduceLeDiff, Nat.reduceEqDiff, Nat.reduceAdd, Nat.reduceBEq, Int.reduceEq]
        refine hN _ ?_; clear hN N
        refine W_forget (fun t => t 3 = .op o3 0 ∧ t 8 = .sc (.bool false) ∧ t 10 = .sc (.bool false) ∧ t 11 = .sc (.bool true) ∧ True) (by simp [upd_at, *] <;> (first | rfl | exact ⟨rfl, rfl⟩ | exact ⟨rfl, rfl, rfl⟩ | exact ⟨rfl, rfl, rfl, rfl⟩ | exact ⟨rfl, rfl, rfl, rfl, rfl⟩)) ?_; rintro t ⟨t3, t8, t10, t11, -⟩
        have bb : scalarBin P .eql 4 (.bool false) (.bool false) = some (.bool true) := HB false false
        simp (disch := first | omega | (simp only [List.length_cons, List.length_nil, List.length_append, u8s_len]; omega)) only [go_sem, ↓reduceIte, true_and, Nat.reduceLeDiff, Nat.reduceEqDiff, Nat.reduceAdd, Nat.reduceBEq, Int.reduceEq, t3, t8, t10, t11, bb, hO.get4, hen]
        refine ⟨_, hwant _, ?_⟩
        rw [contK_some]; simp (disch := first | omega | (simp only [List.length_cons, List.length_nil, List.length_append, u8s_len]; omega)) only [go_sem, ↓reduceIte, true_and, Nat.reduceLeDiff, Nat.reduceEqDiff, Nat.reduceAdd, Nat.reduceBEq, Int.reduceEq, opV, t3, hO.get4, hen]
        refine ⟨_, hrwant _, ?_⟩
        rw [contK_some]; simp (disch := first | omega | (simp only [List.length_cons, List.length_nil, List.length_append, u8s_len]; omega)) only [go_sem, ↓reduceIte, true_and, Nat.reduceLeDiff, Nat.reduceEqDiff, Nat.reduceAdd, Nat.reduceBEq, Int.reduceEq, opV]
        refine ⟨_, samereq_ok H HC (l := []) (m := []) (es := []) (fs := []) (es' := []) (fs' := []) SF.nil RR.nil SF.nil RR.nil SF.nil RR.nil SF.nil RR.nil (by simp) (by simp) (by simp) (by simp) _, ?_⟩
        rw [contK_some]; simp (disch := first | omega | (simp only [List.length_cons, List.length_nil, List.length_append, u8s_len]; omega)) only [go_sem, ↓reduceIte, true_and, Nat.reduceLeDiff, Nat.reduceEqDiff, Nat.reduceAdd, Nat.reduceBEq, Int.reduceEq]
        refine ⟨_, awake_ok H _, ?_⟩
        rw [contK_some]; simp (disch := first | omega | (simp only [List.length_cons, List.length_nil, List.length_append, u8s_len]; omega)) only [go_sem, ↓reduceIte, true_and, Nat.reduceLeDiff, Nat.reduceEqDiff, Nat.reduceAdd, Nat.reduceBEq, Int.reduceEq]
end Go.Proofs.Ytnohkfjifdjnnaa
