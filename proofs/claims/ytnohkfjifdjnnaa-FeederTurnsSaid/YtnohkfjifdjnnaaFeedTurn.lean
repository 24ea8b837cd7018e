/- What an index wants; what comes of an answer. -/
import Derived.Test.YtnohkfjifdjnnaaFeedDocs2
import Derived.Test.YtnohkfjifdjnnaaFeedNew
set_option linter.unusedVariables false
set_option linter.unusedSimpArgs false
namespace Go.Proofs.Ytnohkfjifdjnnaa
open Go.Am
def opV (k n m : Int) (d w : AV) : List AV := [.sc (.int .i64 k), .sc (.string noS), .sc (.string noS), .sc (.slice none 0 0), .sc (.slice none 0 0), .sc (.bool false), .sc (.int .i64 n), .sc (.int .i64 m), .sc (.slice none 0 0), d, w]
abbrev nilA : AV := .sc (.slice none 0 0)
def op0 : List AV := opV ((0 : Nat) : Int) ((0 : Nat) : Int) ((0 : Nat) : Int) nilA nilA
theorem ownV_ok {sz : Nat} {g : List AV → List AV} {v : AV} {es : List (List AV)} (hv : SF sz v es) : SF sz (ownV g v) (es.map g) := by
  rcases hv with ⟨rfl, rfl⟩ | ⟨lim, rfl⟩
  · exact SF.nil
  · exact SF.bs
theorem sf_cells {sz : Nat} {v : AV} {es : List (List AV)} (hv : SF sz v es) : v.cells = [v] ∧ v.isTu = false := by
  rcases hv with ⟨rfl, rfl⟩ | ⟨lim, rfl⟩ <;> exact ⟨rfl, rfl⟩
variable {P : Program} (H : Has P) (HC : HasC P)
include H
def wantsV (rd : Bool) (mk : Int) : List AV := if mk = 0 ∧ rd = false then opV ((13 : Nat) : Int) ((0 : Nat) : Int) ((0 : Nat) : Int) nilA nilA else opV ((12 : Nat) : Int) mk ((16 : Nat) : Int) nilA nilA
theorem wants_ok {df : ByteArray} {rd : Bool} {mk : Int} {en : AV} (hen : en.disc = en) (h : Heap) : AWF P ann 0 11 [.ag [.sc (.string df), .sc (.bool rd), .sc (.int .i64 mk), en]] h fun r h' => r = .ag (wantsV rd mk) ∧ h' = h := by
  refine AWF.fnPurec H.f0_11 rfl ?_
  have hO := OB.nil (h := h)
  (refine W_seq_gen fun N hN => ?_); simp (disch := first | omega | (simp only [List.length_cons, List.length_nil, List.length_append, u8s_len]; omega)) only [go_sem, ↓reduceIte, true_and, Nat.reduceLeDiff, Nat.reduceEqDiff, Nat.reduceAdd, Nat.reduceBEq, Int.reduceEq, hen]
  intro o1 h1 o2 h2
  refine hN _ ?_; clear hN N; refine W_ob ((hO.new h1).new h2) fun hc hO => ?_
  refine W_forget (fun t => t 1 = .op o1 0 ∧ t 2 = .op o2 0 ∧ True) (by simp [upd_at, *] <;> (first | rfl | exact ⟨rfl, rfl⟩ | exact ⟨rfl, rfl, rfl⟩ | exact ⟨rfl, rfl, rfl, rfl⟩ | exact ⟨rfl, rfl, rfl, rfl, rfl⟩)) ?_; rintro t ⟨t1, t2, -⟩
  by_cases c1 : mk = 0
  · subst c1
    have d1 : ((0 : Int) == ((0 : Nat) : Int)) = true := rfl
    cases rd with
    | true =>
      (refine W_seq_gen fun N hN => ?_); simp (disch := first | omega | (simp only [List.length_cons, List.length_nil, List.length_append, u8s_len]; omega)) only [go_sem, ↓reduceIte, true_and, Nat.reduceLeDiff, Nat.reduceEqDiff, Nat.reduceAdd, Nat.reduceBEq, Int.reduceEq, t1, hO.get1, d1]
      refine hN _ ?_; clear hN N
      simp (disch := first | omega | (simp only [List.length_cons, List.length_nil, List.length_append, u8s_len]; omega)) only [go_sem, ↓reduceIte, true_and, Nat.reduceLeDiff, Nat.reduceEqDiff, Nat.reduceAdd, Nat.reduceBEq, Int.reduceEq, t1, t2, hO.get0, hO.get1]
      exact ⟨rfl, hO.st0.keep⟩
    | false =>
      (refine W_seq_gen fun N hN => ?_); simp (disch := first | omega | (simp only [List.length_cons, List.length_nil, List.length_append, u8s_len]; omega)) only [go_sem, ↓reduceIte, true_and, Nat.reduceLeDiff, Nat.reduceEqDiff, Nat.reduceAdd, Nat.reduceBEq, Int.reduceEq, t1, t2, hO.get0, hO.get1, d1]
      exact ⟨rfl, hO.st0.keep⟩
  · have d1 : (mk == ((0 : Nat) : Int)) = false := by rw [beq_eq_false_iff_ne]; exact c1
    (refine W_seq_gen fun N hN => ?_); simp (disch := first | omega | (simp only [List.length_cons, List.length_nil, List.length_append, u8s_len]; omega)) only [go_sem, ↓reduceIte, true_and, Nat.reduceLeDiff, Nat.reduceEqDiff, Nat.reduceAdd, Nat.reduceBEq, Int.reduceEq, t1, hO.get1, d1]
    refine hN _ ?_; clear hN N
    simp (disch := first | omega | (simp only [List.length_cons, List.length_nil, List.length_append, u8s_len]; omega)) only [go_sem, ↓reduceIte, true_and, Nat.reduceLeDiff, Nat.reduceEqDiff, Nat.reduceAdd, Nat.reduceBEq, Int.reduceEq, t1, t2, hO.get0, hO.get1]
    exact ⟨by rw [wantsV, if_neg (fun h => c1 h.1)]; rfl, hO.st0.keep⟩
theorem rwants_ok {df : ByteArray} {rd : Bool} {mk : Int} {en : AV} (hen : en.disc = en) (h : Heap) : AWF P ann 0 12 [.ag [.sc (.string df), .sc (.bool rd), .sc (.int .i64 mk), en]] h fun r h' => r = .ag (wantsV rd mk) ∧ h' = h := by
  refine AWF.fnPurec H.f0_12 rfl ?_
  have hO := OB.nil (h := h)
  (refine W_seq_gen fun N hN => ?_); simp (disch := first | omega | (simp only [List.length_cons, List.length_nil, List.length_append, u8s_len]; omega)) only [go_sem, ↓reduceIte, true_and, Nat.reduceLeDiff, Nat.reduceEqDiff, Nat.reduceAdd, Nat.reduceBEq, Int.reduceEq, hen]
  intro o1 h1 o2 h2
  refine hN _ ?_; clear hN N; refine W_ob ((hO.new h1).new h2) fun hc hO => ?_
  refine W_forget (fun t => t 1 = .op o1 0 ∧ t 2 = .op o2 0 ∧ True) (by simp [upd_at, *] <;> (first | rfl | exact ⟨rfl, rfl⟩ | exact ⟨rfl, rfl, rfl⟩ | exact ⟨rfl, rfl, rfl, rfl⟩ | exact ⟨rfl, rfl, rfl, rfl, rfl⟩)) ?_; rintro t ⟨t1, t2, -⟩
  by_cases c1 : mk = 0
  · subst c1
    have d1 : ((0 : Int) != ((0 : Nat) : Int)) = false := rfl
    cases rd with
    | true =>
      (refine W_seq_gen fun N hN => ?_); simp (disch := first | omega | (simp only [List.length_cons, List.length_nil, List.length_append, u8s_len]; omega)) only [go_sem, ↓reduceIte, true_and, Nat.reduceLeDiff, Nat.reduceEqDiff, Nat.reduceAdd, Nat.reduceBEq, Int.reduceEq, t1, t2, hO.get0, hO.get1, d1]
      exact ⟨rfl, hO.st0.keep⟩
    | false =>
      (refine W_seq_gen fun N hN => ?_); simp (disch := first | omega | (simp only [List.length_cons, List.length_nil, List.length_append, u8s_len]; omega)) only [go_sem, ↓reduceIte, true_and, Nat.reduceLeDiff, Nat.reduceEqDiff, Nat.reduceAdd, Nat.reduceBEq, Int.reduceEq, t1, hO.get1, d1]
      refine hN _ ?_; clear hN N
      simp (disch := first | omega | (simp only [List.length_cons, List.length_nil, List.length_append, u8s_len]; omega)) only [go_sem, ↓reduceIte, true_and, Nat.reduceLeDiff, Nat.reduceEqDiff, Nat.reduceAdd, Nat.reduceBEq, Int.reduceEq, t1, t2, hO.get0, hO.get1]
      exact ⟨rfl, hO.st0.keep⟩
  · have d1 : (mk != ((0 : Nat) : Int)) = true := by simp [c1]
    cases rd with
    | true =>
      (refine W_seq_gen fun N hN => ?_); simp (disch := first | omega | (simp only [List.length_cons, List.length_nil, List.length_append, u8s_len]; omega)) only [go_sem, ↓reduceIte, true_and, Nat.reduceLeDiff, Nat.reduceEqDiff, Nat.reduceAdd, Nat.reduceBEq, Int.reduceEq, t1, t2, hO.get0, hO.get1, d1]
      exact ⟨by rw [wantsV, if_neg (fun h => c1 h.1)]; rfl, hO.st0.keep⟩
    | false =>
      (refine W_seq_gen fun N hN => ?_); simp (disch := first | omega | (simp only [List.length_cons, List.length_nil, List.length_append, u8s_len]; omega)) only [go_sem, ↓reduceIte, true_and, Nat.reduceLeDiff, Nat.reduceEqDiff, Nat.reduceAdd, Nat.reduceBEq, Int.reduceEq, t1, t2, hO.get0, hO.get1, d1]
      exact ⟨by rw [wantsV, if_neg (fun h => c1 h.1)]; rfl, hO.st0.keep⟩
/-- What comes of an answer. -/
def turnV (code kind an on : Int) (rd : Bool) (d w : AV) (nl : Nat) : AV :=
  if code = 0 then
    if kind = 13 ∧ an = 0 ∧ rd = false then .tu [.ag (opV ((103 : Nat) : Int) ((0 : Nat) : Int) ((0 : Nat) : Int) nilA nilA), .sc (.bool true)]
    else if kind = 13 then .tu [.ag (opV ((101 : Nat) : Int) an ((0 : Nat) : Int) d nilA), .sc (.bool true)]
    else if kind = 12 ∧ 0 < nl then .tu [.ag (opV ((102 : Nat) : Int) on ((0 : Nat) : Int) nilA w), .sc (.bool true)]
    else if kind = 12 ∧ rd = false then .tu [.ag (opV ((103 : Nat) : Int) ((0 : Nat) : Int) ((0 : Nat) : Int) nilA nilA), .sc (.bool true)]
    else .tu [.ag op0, .sc (.bool false)]
  else .tu [.ag op0, .sc (.bool false)]
theorem turns_ok {df k1 k2 : ByteArray} {rd b1 b2 : Bool} {mk kind on m1 code an tt : Int} {en v1 v2 v3 v4 v5 v6 d w v7 : AV} {es fs : List (List AV)} {l : List (ByteArray × List Fl)} {m : List (Int × ByteArray × Bool × List Fl)}
    (hen : en.disc = en) (q1 : v1.disc = v1) (q2 : v2.disc = v2) (q3 : v3.disc = v3) (q4 : v4.disc = v4) (q5 : v5.disc = v5) (q6 : v6.disc = v6) (q7 : v7.disc = v7)
    (hd : SF 2 d es) (hL : RR nmR es l) (hw : SF 4 w fs) (hM' : RR chR fs m) (hl : l.length ≤ 2 ^ 20) (hs : ∀ x ∈ l, x.2.length ≤ 2 ^ 30) (hl' : m.length ≤ 2 ^ 20) (hs' : ∀ x ∈ m, x.2.2.2.length ≤ 2 ^ 30) (h : Heap) :
    AWF P ann 0 8 [.ag [.sc (.string df), .sc (.bool rd), .sc (.int .i64 mk), en], .ag [.sc (.int .i64 kind), .sc (.string k1), .sc (.string k2), v1, v2, .sc (.bool b1), .sc (.int .i64 on), .sc (.int .i64 m1), v3, v4, v5],
      .ag [.sc (.int .i64 code), .sc (.bool b2), v6, d, w, .sc (.int .i64 an), .sc (.int .i64 tt), v7]] h fun r h' => r = turnV code kind an on rd (ownV docD d) (ownV newD w) m.length ∧ h' = h := by
  refine AWF.fnPurec H.f0_8 rfl ?_
  have hO := OB.nil (h := h)
  (refine W_seq_gen fun N hN => ?_); simp (disch := first | omega | (simp only [List.length_cons, List.length_nil, List.length_append, u8s_len]; omega)) only [go_sem, ↓reduceIte, true_and, Nat.reduceLeDiff, Nat.reduceEqDiff, Nat.reduceAdd, Nat.reduceBEq, Int.reduceEq, hen, q1, q2, q3, q4, q5, q6, q7, hd.disc, hw.disc]
  intro o3 h3 o4 h4 o5 h5 o6 h6
  refine hN _ ?_; clear hN N; refine W_ob ((((hO.new h3).new h4).new h5).new h6) fun hc hO => ?_
  refine W_forget (fun t => t 3 = .op o3 0 ∧ t 4 = .op o4 0 ∧ t 5 = .op o5 0 ∧ t 6 = .op o6 0 ∧ True) (by simp [upd_at, *] <;> (first | rfl | exact ⟨rfl, rfl⟩ | exact ⟨rfl, rfl, rfl⟩ | exact ⟨rfl, rfl, rfl, rfl⟩ | exact ⟨rfl, rfl, rfl, rfl, rfl⟩)) ?_; rintro t ⟨t3, t4, t5, t6, -⟩
  -- DEF T: t3, t4, t5, t6, hO.get0, hO.get1, hO.get2, hO.get3, hd.disc, hd.same, hw.disc, hw.same
  (refine W_seq_gen fun M hM => ?_)
  have quit : turnV code kind an on rd (ownV docD d) (ownV newD w) m.length = .tu [.ag op0, .sc (.bool false)] → ∀ t : Nat → AV, t 6 = .op o6 0 → M ⟨t, hc⟩ := by
    intro he t t6
    refine hM _ ?_; clear hM M
    rw [he]
    simp (disch := first | omega | (simp only [List.length_cons, List.length_nil, List.length_append, u8s_len]; omega)) only [go_sem, ↓reduceIte, true_and, Nat.reduceLeDiff, Nat.reduceEqDiff, Nat.reduceAdd, Nat.reduceBEq, Int.reduceEq, t6, hO.get0]
    exact ⟨rfl, hO.st0.keep⟩
  have e2 := hM'.len
  by_cases c0 : code = 0
  case neg =>
    have d0 : (code != ((0 : Nat) : Int)) = true := by simp [c0]
    simp (disch := first | omega | (simp only [List.length_cons, List.length_nil, List.length_append, u8s_len]; omega)) only [go_sem, ↓reduceIte, true_and, Nat.reduceLeDiff, Nat.reduceEqDiff, Nat.reduceAdd, Nat.reduceBEq, Int.reduceEq, t3, t4, t5, t6, hO.get0, hO.get1, hO.get2, hO.get3, hd.disc, hd.same, hw.disc, hw.same, d0]
    exact quit (by rw [turnV, if_neg c0]) _ (by simp [upd_at, t6])
  have d0 : (code != ((0 : Nat) : Int)) = false := by simp [c0]
  by_cases k13 : kind = 13
  · have dk : (kind == ((13 : Nat) : Int)) = true := by simp [k13]
    by_cases c1 : an = 0 ∧ rd = false
    · obtain ⟨c1, c2⟩ := c1
      have da : (an == ((0 : Nat) : Int)) = true := by simp [c1]
      rw [c2] at hO
      simp (disch := first | omega | (simp only [List.length_cons, List.length_nil, List.length_append, u8s_len]; omega)) only [go_sem, ↓reduceIte, true_and, Nat.reduceLeDiff, Nat.reduceEqDiff, Nat.reduceAdd, Nat.reduceBEq, Int.reduceEq, t3, t4, t5, t6, hO.get0, hO.get1, hO.get2, hO.get3, hd.disc, hd.same, hw.disc, hw.same, d0, dk, da]
      refine ⟨?_, hO.st0.keep⟩
      rw [turnV, if_pos c0, if_pos ⟨k13, c1, c2⟩]
      rfl
    · have hv : turnV code kind an on rd (ownV docD d) (ownV newD w) m.length = .tu [.ag (opV ((101 : Nat) : Int) an ((0 : Nat) : Int) (ownV docD d) nilA), .sc (.bool true)] := by
        rw [turnV, if_pos c0, if_neg (fun h => c1 ⟨h.2.1, h.2.2⟩), if_pos k13]
      rw [hv]
      clear hv quit
      by_cases c2 : an = 0
      · have c3 : rd = true := by cases rd with | true => rfl | false => exact absurd ⟨c2, rfl⟩ c1
        have da : (an == ((0 : Nat) : Int)) = true := by simp [c2]
        rw [c3] at hO
        simp (disch := first | omega | (simp only [List.length_cons, List.length_nil, List.length_append, u8s_len]; omega)) only [go_sem, ↓reduceIte, true_and, Nat.reduceLeDiff, Nat.reduceEqDiff, Nat.reduceAdd, Nat.reduceBEq, Int.reduceEq, t3, t4, t5, t6, hO.get0, hO.get1, hO.get2, hO.get3, hd.disc, hd.same, hw.disc, hw.same, d0, dk, da]
        have hx := ownV_ok (g := docD) hd
        have hy := docs_ok H hd hL hl hs
        generalize ownV docD d = x at hx hy ⊢
        obtain ⟨x1, x2⟩ := sf_cells hx
        refine ⟨_, hy, ?_⟩
        rw [contK_some]; simp (disch := first | omega | (simp only [List.length_cons, List.length_nil, List.length_append, u8s_len]; omega)) only [go_sem, ↓reduceIte, true_and, Nat.reduceLeDiff, Nat.reduceEqDiff, Nat.reduceAdd, Nat.reduceBEq, Int.reduceEq, t3, t4, t5, t6, hO.get0, hO.get1, hO.get2, hO.get3, hd.disc, hd.same, hw.disc, hw.same, x1, x2, hx.disc, hx.same]
        exact ⟨rfl, hO.st0.keep⟩
      · have da : (an == ((0 : Nat) : Int)) = false := by simp [c2]
        simp (disch := first | omega | (simp only [List.length_cons, List.length_nil, List.length_append, u8s_len]; omega)) only [go_sem, ↓reduceIte, true_and, Nat.reduceLeDiff, Nat.reduceEqDiff, Nat.reduceAdd, Nat.reduceBEq, Int.reduceEq, t3, t4, t5, t6, hO.get0, hO.get1, hO.get2, hO.get3, hd.disc, hd.same, hw.disc, hw.same, d0, dk, da]
        have hx := ownV_ok (g := docD) hd
        have hy := docs_ok H hd hL hl hs
        generalize ownV docD d = x at hx hy ⊢
        obtain ⟨x1, x2⟩ := sf_cells hx
        refine ⟨_, hy, ?_⟩
        rw [contK_some]; simp (disch := first | omega | (simp only [List.length_cons, List.length_nil, List.length_append, u8s_len]; omega)) only [go_sem, ↓reduceIte, true_and, Nat.reduceLeDiff, Nat.reduceEqDiff, Nat.reduceAdd, Nat.reduceBEq, Int.reduceEq, t3, t4, t5, t6, hO.get0, hO.get1, hO.get2, hO.get3, hd.disc, hd.same, hw.disc, hw.same, x1, x2, hx.disc, hx.same]
        exact ⟨rfl, hO.st0.keep⟩
  have dk : (kind == ((13 : Nat) : Int)) = false := by simp [k13]
  by_cases k12 : kind = 12
  case neg =>
    have dl : (kind == ((12 : Nat) : Int)) = false := by simp [k12]
    simp (disch := first | omega | (simp only [List.length_cons, List.length_nil, List.length_append, u8s_len]; omega)) only [go_sem, ↓reduceIte, true_and, Nat.reduceLeDiff, Nat.reduceEqDiff, Nat.reduceAdd, Nat.reduceBEq, Int.reduceEq, t3, t4, t5, t6, hO.get0, hO.get1, hO.get2, hO.get3, hd.disc, hd.same, hw.disc, hw.same, d0, dk, dl]
    exact quit (by rw [turnV, if_pos c0, if_neg (fun h => k13 h.1), if_neg k13, if_neg (fun h => k12 h.1), if_neg (fun h => k12 h.1)]) _ (by simp [upd_at, t6])
  have dl : (kind == ((12 : Nat) : Int)) = true := by simp [k12]
  by_cases cn : 0 < m.length
  · have hv : turnV code kind an on rd (ownV docD d) (ownV newD w) m.length = .tu [.ag (opV ((102 : Nat) : Int) on ((0 : Nat) : Int) nilA (ownV newD w)), .sc (.bool true)] := by
      rw [turnV, if_pos c0, if_neg (fun h => k13 h.1), if_neg k13, if_pos ⟨k12, cn⟩]
    rw [hv]
    clear hv quit
    simp (disch := first | omega | (simp only [List.length_cons, List.length_nil, List.length_append, u8s_len]; omega)) only [go_sem, ↓reduceIte, true_and, Nat.reduceLeDiff, Nat.reduceEqDiff, Nat.reduceAdd, Nat.reduceBEq, Int.reduceEq, t3, t4, t5, t6, hO.get0, hO.get1, hO.get2, hO.get3, hd.disc, hd.same, hw.disc, hw.same, d0, dk, dl, hw.sl.len, e2, cn]
    have hx := ownV_ok (g := newD) hw
    have hy := news_ok H hw hM' hl' hs'
    generalize ownV newD w = x at hx hy ⊢
    obtain ⟨x1, x2⟩ := sf_cells hx
    refine ⟨_, hy, ?_⟩
    rw [contK_some]; simp (disch := first | omega | (simp only [List.length_cons, List.length_nil, List.length_append, u8s_len]; omega)) only [go_sem, ↓reduceIte, true_and, Nat.reduceLeDiff, Nat.reduceEqDiff, Nat.reduceAdd, Nat.reduceBEq, Int.reduceEq, t3, t4, t5, t6, hO.get0, hO.get1, hO.get2, hO.get3, hd.disc, hd.same, hw.disc, hw.same, x1, x2, hx.disc, hx.same]
    exact ⟨rfl, hO.st0.keep⟩
  cases rd with
  | true =>
    simp (disch := first | omega | (simp only [List.length_cons, List.length_nil, List.length_append, u8s_len]; omega)) only [go_sem, ↓reduceIte, true_and, Nat.reduceLeDiff, Nat.reduceEqDiff, Nat.reduceAdd, Nat.reduceBEq, Int.reduceEq, t3, t4, t5, t6, hO.get0, hO.get1, hO.get2, hO.get3, hd.disc, hd.same, hw.disc, hw.same, d0, dk, dl, hw.sl.len, e2, cn]
    exact quit (by rw [turnV, if_pos c0, if_neg (fun h => k13 h.1), if_neg k13, if_neg (fun h => cn h.2), if_neg (fun h => by cases h.2)]) _ (by simp [upd_at, t6])
  | false =>
    simp (disch := first | omega | (simp only [List.length_cons, List.length_nil, List.length_append, u8s_len]; omega)) only [go_sem, ↓reduceIte, true_and, Nat.reduceLeDiff, Nat.reduceEqDiff, Nat.reduceAdd, Nat.reduceBEq, Int.reduceEq, t3, t4, t5, t6, hO.get0, hO.get1, hO.get2, hO.get3, hd.disc, hd.same, hw.disc, hw.same, d0, dk, dl, hw.sl.len, e2, cn]
    refine ⟨?_, hO.st0.keep⟩
    rw [turnV, if_pos c0, if_neg (fun h => k13 h.1), if_neg k13, if_neg (fun h => cn h.2), if_pos ⟨k12, rfl⟩]
    rfl
def rturnV (code kind an on : Int) (rd : Bool) (d w : AV) (nl : Nat) : AV :=
  if code = 0 then
    if kind = 13 ∧ an = 0 ∧ rd = false then .tu [.ag (opV ((103 : Nat) : Int) ((0 : Nat) : Int) ((0 : Nat) : Int) nilA nilA), .sc (.bool true)]
    else if kind = 13 then .tu [.ag (opV ((101 : Nat) : Int) an ((0 : Nat) : Int) d nilA), .sc (.bool true)]
    else if kind = 12 then
      if 0 < nl then .tu [.ag (opV ((102 : Nat) : Int) on ((0 : Nat) : Int) nilA w), .sc (.bool true)]
      else .tu [.ag (opV ((103 : Nat) : Int) ((0 : Nat) : Int) ((0 : Nat) : Int) nilA nilA), .sc (.bool !rd)]
    else .tu [.ag op0, .sc (.bool false)]
  else .tu [.ag op0, .sc (.bool false)]
theorem rturns_ok {df k1 k2 : ByteArray} {rd b1 b2 : Bool} {mk kind on m1 code an tt : Int} {en v1 v2 v3 v4 v5 v6 d w v7 : AV} {es fs : List (List AV)} {l : List (ByteArray × List Fl)} {m : List (Int × ByteArray × Bool × List Fl)}
    (hen : en.disc = en) (q1 : v1.disc = v1) (q2 : v2.disc = v2) (q3 : v3.disc = v3) (q4 : v4.disc = v4) (q5 : v5.disc = v5) (q6 : v6.disc = v6) (q7 : v7.disc = v7)
    (hd : SF 2 d es) (hw : SF 4 w fs) (hM' : RR chR fs m) (h : Heap) :
    AWF P ann 0 9 [.ag [.sc (.string df), .sc (.bool rd), .sc (.int .i64 mk), en], .ag [.sc (.int .i64 kind), .sc (.string k1), .sc (.string k2), v1, v2, .sc (.bool b1), .sc (.int .i64 on), .sc (.int .i64 m1), v3, v4, v5],
      .ag [.sc (.int .i64 code), .sc (.bool b2), v6, d, w, .sc (.int .i64 an), .sc (.int .i64 tt), v7]] h fun r h' => r = rturnV code kind an on rd d w m.length ∧ h' = h := by
  refine AWF.fnPurec H.f0_9 rfl ?_
  have hO := OB.nil (h := h)
  (refine W_seq_gen fun N hN => ?_); simp (disch := first | omega | (simp only [List.length_cons, List.length_nil, List.length_append, u8s_len]; omega)) only [go_sem, ↓reduceIte, true_and, Nat.reduceLeDiff, Nat.reduceEqDiff, Nat.reduceAdd, Nat.reduceBEq, Int.reduceEq, hen, q1, q2, q3, q4, q5, q6, q7, hd.disc, hw.disc]
  intro o3 h3 o4 h4 o5 h5 o6 h6
  refine hN _ ?_; clear hN N; refine W_ob ((((hO.new h3).new h4).new h5).new h6) fun hc hO => ?_
  refine W_forget (fun t => t 3 = .op o3 0 ∧ t 4 = .op o4 0 ∧ t 5 = .op o5 0 ∧ t 6 = .op o6 0 ∧ True) (by simp [upd_at, *] <;> (first | rfl | exact ⟨rfl, rfl⟩ | exact ⟨rfl, rfl, rfl⟩ | exact ⟨rfl, rfl, rfl, rfl⟩ | exact ⟨rfl, rfl, rfl, rfl, rfl⟩)) ?_; rintro t ⟨t3, t4, t5, t6, -⟩
  obtain ⟨dx1, dx2⟩ := sf_cells hd
  obtain ⟨wx1, wx2⟩ := sf_cells hw
  -- DEF T: t3, t4, t5, t6, hO.get0, hO.get1, hO.get2, hO.get3, hd.disc, hd.same, hw.disc, hw.same, dx1, dx2, wx1, wx2
  have e2 := hM'.len
  by_cases c0 : code = 0
  case neg =>
    have d0 : (code != ((0 : Nat) : Int)) = true := by simp [c0]
    simp (disch := first | omega | (simp only [List.length_cons, List.length_nil, List.length_append, u8s_len]; omega)) only [go_sem, ↓reduceIte, true_and, Nat.reduceLeDiff, Nat.reduceEqDiff, Nat.reduceAdd, Nat.reduceBEq, Int.reduceEq, t3, t4, t5, t6, hO.get0, hO.get1, hO.get2, hO.get3, hd.disc, hd.same, hw.disc, hw.same, dx1, dx2, wx1, wx2, d0]
    exact ⟨by rw [rturnV, if_neg c0]; rfl, hO.st0.keep⟩
  have d0 : (code != ((0 : Nat) : Int)) = false := by simp [c0]
  by_cases k13 : kind = 13
  · have dk : (kind == ((13 : Nat) : Int)) = true := by simp [k13]
    cases rd with
    | false =>
      by_cases c2 : an = 0
      · have da : (an == ((0 : Nat) : Int)) = true := by simp [c2]
        simp (disch := first | omega | (simp only [List.length_cons, List.length_nil, List.length_append, u8s_len]; omega)) only [go_sem, ↓reduceIte, true_and, Nat.reduceLeDiff, Nat.reduceEqDiff, Nat.reduceAdd, Nat.reduceBEq, Int.reduceEq, t3, t4, t5, t6, hO.get0, hO.get1, hO.get2, hO.get3, hd.disc, hd.same, hw.disc, hw.same, dx1, dx2, wx1, wx2, d0, dk, da]
        exact ⟨by rw [rturnV, if_pos c0, if_pos ⟨k13, c2, rfl⟩]; rfl, hO.st0.keep⟩
      · have da : (an == ((0 : Nat) : Int)) = false := by simp [c2]
        simp (disch := first | omega | (simp only [List.length_cons, List.length_nil, List.length_append, u8s_len]; omega)) only [go_sem, ↓reduceIte, true_and, Nat.reduceLeDiff, Nat.reduceEqDiff, Nat.reduceAdd, Nat.reduceBEq, Int.reduceEq, t3, t4, t5, t6, hO.get0, hO.get1, hO.get2, hO.get3, hd.disc, hd.same, hw.disc, hw.same, dx1, dx2, wx1, wx2, d0, dk, da]
        exact ⟨by rw [rturnV, if_pos c0, if_neg (fun h => c2 h.2.1), if_pos k13]; rfl, hO.st0.keep⟩
    | true =>
      simp (disch := first | omega | (simp only [List.length_cons, List.length_nil, List.length_append, u8s_len]; omega)) only [go_sem, ↓reduceIte, true_and, Nat.reduceLeDiff, Nat.reduceEqDiff, Nat.reduceAdd, Nat.reduceBEq, Int.reduceEq, t3, t4, t5, t6, hO.get0, hO.get1, hO.get2, hO.get3, hd.disc, hd.same, hw.disc, hw.same, dx1, dx2, wx1, wx2, d0, dk]
      exact ⟨by rw [rturnV, if_pos c0, if_neg (fun h => by cases h.2.2), if_pos k13]; rfl, hO.st0.keep⟩
  have dk : (kind == ((13 : Nat) : Int)) = false := by simp [k13]
  by_cases k12 : kind = 12
  case neg =>
    have dl : (kind != ((12 : Nat) : Int)) = true := by simp [k12]
    simp (disch := first | omega | (simp only [List.length_cons, List.length_nil, List.length_append, u8s_len]; omega)) only [go_sem, ↓reduceIte, true_and, Nat.reduceLeDiff, Nat.reduceEqDiff, Nat.reduceAdd, Nat.reduceBEq, Int.reduceEq, t3, t4, t5, t6, hO.get0, hO.get1, hO.get2, hO.get3, hd.disc, hd.same, hw.disc, hw.same, dx1, dx2, wx1, wx2, d0, dk, dl]
    exact ⟨by rw [rturnV, if_pos c0, if_neg (fun h => k13 h.1), if_neg k13, if_neg k12]; rfl, hO.st0.keep⟩
  have dl : (kind != ((12 : Nat) : Int)) = false := by simp [k12]
  by_cases cn : 0 < m.length
  · simp (disch := first | omega | (simp only [List.length_cons, List.length_nil, List.length_append, u8s_len]; omega)) only [go_sem, ↓reduceIte, true_and, Nat.reduceLeDiff, Nat.reduceEqDiff, Nat.reduceAdd, Nat.reduceBEq, Int.reduceEq, t3, t4, t5, t6, hO.get0, hO.get1, hO.get2, hO.get3, hd.disc, hd.same, hw.disc, hw.same, dx1, dx2, wx1, wx2, d0, dk, dl, hw.sl.len, e2, cn]
    exact ⟨by rw [rturnV, if_pos c0, if_neg (fun h => k13 h.1), if_neg k13, if_pos k12, if_pos cn]; rfl, hO.st0.keep⟩
  · simp (disch := first | omega | (simp only [List.length_cons, List.length_nil, List.length_append, u8s_len]; omega)) only [go_sem, ↓reduceIte, true_and, Nat.reduceLeDiff, Nat.reduceEqDiff, Nat.reduceAdd, Nat.reduceBEq, Int.reduceEq, t3, t4, t5, t6, hO.get0, hO.get1, hO.get2, hO.get3, hd.disc, hd.same, hw.disc, hw.same, dx1, dx2, wx1, wx2, d0, dk, dl, hw.sl.len, e2, cn]
    refine ⟨?_, ?_, hO.st0.keep⟩
    · exact hO.ne03
    · rw [rturnV, if_pos c0, if_neg (fun h => k13 h.1), if_neg k13, if_pos k12, if_neg cn]; rfl
end Go.Proofs.Ytnohkfjifdjnnaa
