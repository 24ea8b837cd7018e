/- Documents and changes of their own memory: the loops. -/
import Derived.Test.YtnohkfjifdjnnaaFeedDocs
set_option linter.unusedVariables false
set_option linter.unusedSimpArgs false
namespace Go.Proofs.Ytnohkfjifdjnnaa
open Go.Am
variable {P : Program} (H : Has P)
include H
theorem docs_ok {v : AV} {es : List (List AV)} {l : List (ByteArray × List Fl)} (hv : SF 2 v es) (hL : RR nmR es l) (hl : l.length ≤ 2 ^ 20) (hs : ∀ x ∈ l, (x.2).length ≤ 2 ^ 30) (h : Heap) : AWF P ann 0 20 [v] h fun r h' => r = ownV docD v ∧ h' = h := by
  refine AWF.fnPureA H.f0_20 rfl ?_
  have e1 := hL.len
  have hg : GE 2 es := fun e he => by
    obtain ⟨i, hi, rfl⟩ := List.getElem_of_mem he
    obtain ⟨e', h1, w, h2, hw⟩ := hL.lt (i := i) (by omega)
    rw [List.getElem?_eq_getElem hi] at h1
    cases h1
    rw [h2]
    exact ⟨rfl, by simp only [List.map_cons, List.map_nil, disc_sc, hw.disc]⟩
  have hO := OB.nil (h := h)
  refine A_seq_gen fun N hN => W_sound ?_
  simp (disch := first | omega | (simp only [List.length_cons, List.length_nil, List.length_append, u8s_len]; omega)) only [go_sem, ↓reduceIte, true_and, Nat.reduceLeDiff, Nat.reduceEqDiff, Nat.reduceAdd, Nat.reduceBEq, Int.reduceEq]
  refine hN _ ?_; clear hN N
  refine A_seq_gen fun N hN => W_sound ?_
  refine W_forget (fun t => t 0 = v ∧ True) (by simp [upd_at, *] <;> (first | rfl | exact ⟨rfl, rfl⟩ | exact ⟨rfl, rfl, rfl⟩ | exact ⟨rfl, rfl, rfl, rfl⟩ | exact ⟨rfl, rfl, rfl, rfl, rfl⟩)) ?_; rintro t ⟨t0, -⟩
  simp (disch := first | omega | (simp only [List.length_cons, List.length_nil, List.length_append, u8s_len]; omega)) only [go_sem, ↓reduceIte, true_and, Nat.reduceLeDiff, Nat.reduceEqDiff, Nat.reduceAdd, Nat.reduceBEq, Int.reduceEq, t0, hv.same, hv.disc]
  refine (clone36_ok H hv hg (by omega) _).mono ?_
  have d0 : decide ((0 : Nat) < 0) = false := rfl
  rintro r h1 (⟨rfl, rfl, rfl, rfl⟩ | ⟨⟨lim, rfl⟩, rfl, rfl, rfl⟩ | ⟨lim, rfl, o, cap, z, ho, rfl, hle, rfl⟩)
  · rw [contK_some]; simp (disch := first | omega | (simp only [List.length_cons, List.length_nil, List.length_append, u8s_len]; omega)) only [go_sem, ↓reduceIte, true_and, Nat.reduceLeDiff, Nat.reduceEqDiff, Nat.reduceAdd, Nat.reduceBEq, Int.reduceEq]
    refine hN _ ?_; clear hN N
    refine A_seq_gen fun M hM => W_sound ?_
    refine W_forget (fun t => t 0 = .sc (.slice none 0 0) ∧ True) (by simp [upd_at, *] <;> (first | rfl | exact ⟨rfl, rfl⟩ | exact ⟨rfl, rfl, rfl⟩ | exact ⟨rfl, rfl, rfl, rfl⟩ | exact ⟨rfl, rfl, rfl, rfl, rfl⟩)) ?_; rintro t ⟨t0, -⟩
    have nl : ∀ (t : Nat → AV) (h : Heap), aexLen 0 t h (.sc (.slice none 0 0)) = some (.val (.sc (.int .i64 ((0 : Nat) : Int))) t h) := fun t h => rfl
    simp (disch := first | omega | (simp only [List.length_cons, List.length_nil, List.length_append, u8s_len]; omega)) only [go_sem, ↓reduceIte, true_and, Nat.reduceLeDiff, Nat.reduceEqDiff, Nat.reduceAdd, Nat.reduceBEq, Int.reduceEq, t0, nl]
    refine AW_loopN (fun m t h' => h' = h1 ∧ t 0 = .sc (.slice none 0 0) ∧ t 8 = .sc (.int .i64 ((0 : Nat) : Int)) ∧ t 9 = .sc (.int .i64 ((0 : Nat) : Int))) (n := 0) ⟨rfl, by simp [upd_at, t0], by simp [upd_at], by simp [upd_at]⟩ ?_
    clear t0 t
    rintro m t h' ⟨rfl, t0, t8, t9⟩
    (refine W_seq_gen fun N hN => ?_); simp (disch := first | omega | (simp only [List.length_cons, List.length_nil, List.length_append, u8s_len]; omega)) only [go_sem, ↓reduceIte, true_and, Nat.reduceLeDiff, Nat.reduceEqDiff, Nat.reduceAdd, Nat.reduceBEq, Int.reduceEq, t8, t9]
    refine hN _ ?_; clear hN N
    (refine W_seq_gen fun N hN => ?_); simp (disch := first | omega | (simp only [List.length_cons, List.length_nil, List.length_append, u8s_len]; omega)) only [go_sem, ↓reduceIte, true_and, Nat.reduceLeDiff, Nat.reduceEqDiff, Nat.reduceAdd, Nat.reduceBEq, Int.reduceEq, d0]
    refine hM _ ?_; clear hN N hM M
    refine A_seq_gen fun N hN => W_sound ?_
    simp (disch := first | omega | (simp only [List.length_cons, List.length_nil, List.length_append, u8s_len]; omega)) only [go_sem, ↓reduceIte, true_and, Nat.reduceLeDiff, Nat.reduceEqDiff, Nat.reduceAdd, Nat.reduceBEq, Int.reduceEq, t0]
    refine hN _ ?_; clear hN N
    refine W_sound ?_
    simp (disch := first | omega | (simp only [List.length_cons, List.length_nil, List.length_append, u8s_len]; omega)) only [go_sem, ↓reduceIte, true_and, Nat.reduceLeDiff, Nat.reduceEqDiff, Nat.reduceAdd, Nat.reduceBEq, Int.reduceEq]
    first | exact rfl | exact ⟨rfl, hO.keep⟩
  · rw [contK_some]; simp (disch := first | omega | (simp only [List.length_cons, List.length_nil, List.length_append, u8s_len]; omega)) only [go_sem, ↓reduceIte, true_and, Nat.reduceLeDiff, Nat.reduceEqDiff, Nat.reduceAdd, Nat.reduceBEq, Int.reduceEq]
    refine hN _ ?_; clear hN N
    refine A_seq_gen fun M hM => W_sound ?_
    refine W_forget (fun t => t 0 = .bs true 2 [] (some 0) ∧ True) (by simp [upd_at, *] <;> (first | rfl | exact ⟨rfl, rfl⟩ | exact ⟨rfl, rfl, rfl⟩ | exact ⟨rfl, rfl, rfl, rfl⟩ | exact ⟨rfl, rfl, rfl, rfl, rfl⟩)) ?_; rintro t ⟨t0, -⟩
    have nl : ∀ (t : Nat → AV) (h : Heap), aexLen 0 t h (.bs false 2 [] (some 0)) = some (.val (.sc (.int .i64 ((0 : Nat) : Int))) t h) := fun t h => rfl
    simp (disch := first | omega | (simp only [List.length_cons, List.length_nil, List.length_append, u8s_len]; omega)) only [go_sem, ↓reduceIte, true_and, Nat.reduceLeDiff, Nat.reduceEqDiff, Nat.reduceAdd, Nat.reduceBEq, Int.reduceEq, t0, nl]
    refine AW_loopN (fun m t h' => h' = h1 ∧ t 0 = .bs true 2 [] (some 0) ∧ t 8 = .sc (.int .i64 ((0 : Nat) : Int)) ∧ t 9 = .sc (.int .i64 ((0 : Nat) : Int))) (n := 0) ⟨rfl, by simp [upd_at, t0], by simp [upd_at], by simp [upd_at]⟩ ?_
    clear t0 t
    rintro m t h' ⟨rfl, t0, t8, t9⟩
    (refine W_seq_gen fun N hN => ?_); simp (disch := first | omega | (simp only [List.length_cons, List.length_nil, List.length_append, u8s_len]; omega)) only [go_sem, ↓reduceIte, true_and, Nat.reduceLeDiff, Nat.reduceEqDiff, Nat.reduceAdd, Nat.reduceBEq, Int.reduceEq, t8, t9]
    refine hN _ ?_; clear hN N
    (refine W_seq_gen fun N hN => ?_); simp (disch := first | omega | (simp only [List.length_cons, List.length_nil, List.length_append, u8s_len]; omega)) only [go_sem, ↓reduceIte, true_and, Nat.reduceLeDiff, Nat.reduceEqDiff, Nat.reduceAdd, Nat.reduceBEq, Int.reduceEq, d0]
    refine hM _ ?_; clear hN N hM M
    refine A_seq_gen fun N hN => W_sound ?_
    simp (disch := first | omega | (simp only [List.length_cons, List.length_nil, List.length_append, u8s_len]; omega)) only [go_sem, ↓reduceIte, true_and, Nat.reduceLeDiff, Nat.reduceEqDiff, Nat.reduceAdd, Nat.reduceBEq, Int.reduceEq, t0]
    refine hN _ ?_; clear hN N
    refine .ghost (.lim (i := 2) (own := true) (sz := 2) (es := []) (lim := some 0) (by simp [upd_at])) (W_sound ?_)
    simp (disch := first | omega | (simp only [List.length_cons, List.length_nil, List.length_append, u8s_len]; omega)) only [go_sem, ↓reduceIte, true_and, Nat.reduceLeDiff, Nat.reduceEqDiff, Nat.reduceAdd, Nat.reduceBEq, Int.reduceEq]
    first | exact rfl | exact ⟨rfl, hO.keep⟩
  · have hO := hO.new ho (X := .arr (es.flatten ++ z))
    rw [contK_some]; simp (disch := first | omega | (simp only [List.length_cons, List.length_nil, List.length_append, u8s_len]; omega)) only [go_sem, ↓reduceIte, true_and, Nat.reduceLeDiff, Nat.reduceEqDiff, Nat.reduceAdd, Nat.reduceBEq, Int.reduceEq]
    refine hN _ ?_; clear hN N
    refine A_seq_gen fun M hM => W_sound ?_
    refine W_forget (fun t => t 0 = .rs o 0 2 es.length (some cap) ∧ True) (by simp [upd_at, *] <;> (first | rfl | exact ⟨rfl, rfl⟩ | exact ⟨rfl, rfl, rfl⟩ | exact ⟨rfl, rfl, rfl, rfl⟩ | exact ⟨rfl, rfl, rfl, rfl, rfl⟩)) ?_; rintro t ⟨t0, -⟩
    have nl : ∀ (t : Nat → AV) (h : Heap), aexLen 0 t h (.rs o 0 2 es.length (some cap)) = some (.val (.sc (.int .i64 (es.length : Nat))) t h) := fun t h => rfl
    simp (disch := first | omega | (simp only [List.length_cons, List.length_nil, List.length_append, u8s_len]; omega)) only [go_sem, ↓reduceIte, true_and, Nat.reduceLeDiff, Nat.reduceEqDiff, Nat.reduceAdd, Nat.reduceBEq, Int.reduceEq, t0, nl]
    have gO : ∀ e ∈ es, (docO e).length = 2 := fun e he => by
      obtain ⟨i, hi, rfl⟩ := List.getElem_of_mem he
      obtain ⟨e', h1, w, h2, hw⟩ := hL.lt (i := i) (by omega)
      rw [List.getElem?_eq_getElem hi] at h1
      cases h1
      rw [h2]
      rfl
    have flen : ∀ i, i ≤ es.length → ((es.take i).map docO).flatten.length = i * 2 := fun i hi => by
      have : ∀ q : List (List AV), (∀ e ∈ q, (docO e).length = 2) → (q.map docO).flatten.length = q.length * 2 := fun q hq => by
        induction q with
        | nil => rfl
        | cons e q ih => rw [List.map_cons, List.flatten_cons, List.length_append, ih (fun x hx => hq x (by simp [hx])), hq e (by simp), List.length_cons]; omega
      rw [this _ (fun e he => gO e (List.mem_of_mem_take he)), List.length_take, Nat.min_eq_left hi]
    refine AW_loopN (fun m t h' => ∃ i, m = es.length - i ∧ i ≤ es.length ∧ t 0 = .rs o 0 2 es.length (some cap) ∧ t 7 = .rs o 0 2 es.length (some cap) ∧ t 8 = .sc (.int .i64 (es.length : Nat)) ∧ t 9 = .sc (.int .i64 (i : Nat)) ∧
        (∀ x, h x ≠ none → h' x = h x) ∧ h' o = some (.arr (((es.take i).map docO).flatten ++ (es.drop i).flatten ++ z))) (n := es.length)
      ⟨0, rfl, Nat.zero_le _, by simp [upd_at, t0], by simp [upd_at, t0], by simp [upd_at], by simp [upd_at], hO.keep, by simp [upd]⟩ ?_
    clear t0 t hO
    rintro m t h' ⟨i, rfl, hi, t0, t7, t8, t9, hk, ho'⟩
    rcases Nat.lt_or_ge i es.length with hlt | hge
    · obtain ⟨e, g0, w, he, hw⟩ := hL.lt (i := i) (by omega)
      have hge : es[i] = e := by rw [List.getElem?_eq_getElem hlt] at g0; exact Option.some.inj g0
      have hdr : es.drop i = e :: es.drop (i + 1) := by rw [List.drop_eq_getElem_cons hlt, hge]
      have htk : es.take (i + 1) = es.take i ++ [e] := by rw [List.take_add_one, g0]; rfl
      have fl := flen i (by omega)
      rw [hdr] at ho'
      have iad : ∀ t (h : Heap), aexIad 2 ((i : Nat) : Int) t h (.rs o 0 2 es.length (some cap)) = some (.val (.op o (i * 2)) t h) := fun t h => by
        have : (2 = 2 ∧ (0 : Int) ≤ (i : Int) ∧ (i : Int) < es.length) := ⟨rfl, by omega, by omega⟩
        simp only [aexIad, this, and_self, if_true, Int.toNat_natCast, Nat.zero_add]
      have el : e.length = 2 := by rw [he]; rfl
      have hat := rows_at (z := z) (B := es.drop (i + 1)) fl el
      have hset := rows_set (z := z) (B := es.drop (i + 1)) (k := 1) (x := clo w) (e' := docO e) fl (by rw [el]; decide) (by rw [he]; rfl)
      have hlen : i * 2 + 2 ≤ (((es.take i).map docO).flatten ++ (e :: es.drop (i + 1)).flatten ++ z).length := by
        rw [List.length_append, List.length_append, fl, List.flatten_cons, List.length_append, el]; omega
      have hlen1 : i * 2 + 1 + 1 ≤ (((es.take i).map docO).flatten ++ (e :: es.drop (i + 1)).flatten ++ z).length := by omega
      generalize ((es.take i).map docO).flatten ++ (e :: es.drop (i + 1)).flatten ++ z = cs at ho' hat hset hlen hlen1
      rw [he] at hat
      have hcl := clo_ok hw
      have cc : (clo w).cellsD = [clo w] := by rcases hcl with ⟨q, _⟩ | ⟨_, _, q⟩ <;> rw [q] <;> rfl
      have ct : (clo w).isTu = false := by rcases hcl with ⟨q, _⟩ | ⟨_, _, q⟩ <;> rw [q] <;> rfl
      have hbw := hs _ (List.getElem_mem (show i < l.length by omega))
      (refine W_seq_gen fun N hN => ?_); simp (disch := first | omega | (simp only [List.length_cons, List.length_nil, List.length_append, u8s_len]; omega)) only [go_sem, ↓reduceIte, true_and, Nat.reduceLeDiff, Nat.reduceEqDiff, Nat.reduceAdd, Nat.reduceBEq, Int.reduceEq, t8, t9, hlt]
      refine hN _ ?_; clear hN N
      (refine W_seq_gen fun N hN => ?_); simp (disch := first | omega | (simp only [List.length_cons, List.length_nil, List.length_append, u8s_len]; omega)) only [go_sem, ↓reduceIte, true_and, Nat.reduceLeDiff, Nat.reduceEqDiff, Nat.reduceAdd, Nat.reduceBEq, Int.reduceEq]
      refine hN _ ?_; clear hN N
      (refine W_seq_gen fun N hN => ?_)
      rw [W_block]
      (refine W_seq_gen fun N hN => ?_); simp (disch := first | omega | (simp only [List.length_cons, List.length_nil, List.length_append, u8s_len]; omega)) only [go_sem, ↓reduceIte, true_and, Nat.reduceLeDiff, Nat.reduceEqDiff, Nat.reduceAdd, Nat.reduceBEq, Int.reduceEq, t7, t9, iad, ho', hlen, hat, hw.disc, hw.same]
      intro o4 h4
      have hO := OB.nil (h := h')
      refine hN _ ?_; clear hN N; refine W_ob (hO.new h4) fun hc hO => ?_
      refine W_forget (fun t => t 0 = .rs o 0 2 es.length (some cap) ∧ t 3 = .sc (.int .i64 (i : Nat)) ∧ t 4 = .op o4 0 ∧ t 7 = .rs o 0 2 es.length (some cap) ∧ t 8 = .sc (.int .i64 (es.length : Nat)) ∧ t 9 = .sc (.int .i64 (i : Nat)) ∧ True) (by simp [upd_at, *] <;> (first | rfl | exact ⟨rfl, rfl⟩ | exact ⟨rfl, rfl, rfl⟩ | exact ⟨rfl, rfl, rfl, rfl⟩ | exact ⟨rfl, rfl, rfl, rfl, rfl⟩)) ?_; rintro t ⟨t0, t3, t4, t7, t8, t9, -⟩
      simp (disch := first | omega | (simp only [List.length_cons, List.length_nil, List.length_append, u8s_len]; omega)) only [go_sem, ↓reduceIte, true_and, Nat.reduceLeDiff, Nat.reduceEqDiff, Nat.reduceAdd, Nat.reduceBEq, Int.reduceEq, t4, hO.get0, hw.disc, hw.same]
      refine (cdoc_ok H hw (by rw [fls_len]; omega) _).mono ?_
      rintro _ hc ⟨rfl, rfl⟩
      have hoc := hO.live ho'
      rw [contK_some]; simp (disch := first | omega | (simp only [List.length_cons, List.length_nil, List.length_append, u8s_len]; omega)) only [go_sem, ↓reduceIte, true_and, Nat.reduceLeDiff, Nat.reduceEqDiff, Nat.reduceAdd, Nat.reduceBEq, Int.reduceEq, t0, t3, iad, hoc, hlen1, cc, ct, hset]
      refine hN _ ?_; clear hN N
      simp (disch := first | omega | (simp only [List.length_cons, List.length_nil, List.length_append, u8s_len]; omega)) only [go_sem, ↓reduceIte, true_and, Nat.reduceLeDiff, Nat.reduceEqDiff, Nat.reduceAdd, Nat.reduceBEq, Int.reduceEq, t9, nat_add]
      refine ⟨es.length - (i + 1), by omega, i + 1, rfl, by omega, by simp [upd_at, t0], by simp [upd_at, t7], by simp [upd_at, t8], by simp [upd_at], fun x hx => ?_, ?_⟩
      · have : x ≠ o := fun e => hx (by rw [e]; exact ho)
        have h2 := hO.keep x (by rw [hk x hx]; exact hx)
        simp only [if_neg this]
        rw [h2, hk x hx]
      · rw [htk, List.map_append, List.flatten_append]
        simp
    · obtain rfl : i = es.length := by omega
      (refine W_seq_gen fun N hN => ?_); simp (disch := first | omega | (simp only [List.length_cons, List.length_nil, List.length_append, u8s_len]; omega)) only [go_sem, ↓reduceIte, true_and, Nat.reduceLeDiff, Nat.reduceEqDiff, Nat.reduceAdd, Nat.reduceBEq, Int.reduceEq, t8, t9, Nat.lt_irrefl]
      refine hN _ ?_; clear hN N
      (refine W_seq_gen fun N hN => ?_); simp (disch := first | omega | (simp only [List.length_cons, List.length_nil, List.length_append, u8s_len]; omega)) only [go_sem, ↓reduceIte, true_and, Nat.reduceLeDiff, Nat.reduceEqDiff, Nat.reduceAdd, Nat.reduceBEq, Int.reduceEq]
      refine hM _ ?_; clear hN N hM M
      refine A_seq_gen fun N hN => W_sound ?_
      simp (disch := first | omega | (simp only [List.length_cons, List.length_nil, List.length_append, u8s_len]; omega)) only [go_sem, ↓reduceIte, true_and, Nat.reduceLeDiff, Nat.reduceEqDiff, Nat.reduceAdd, Nat.reduceBEq, Int.reduceEq, t0]
      refine hN _ ?_; clear hN N
      rw [List.take_length, List.drop_length] at ho'
      have gl : (es.map docO).flatten.length = es.length * 2 := by have := flen es.length (Nat.le_refl _); rwa [List.take_length] at this
      have hcl : 0 + es.length * 2 ≤ ((es.map docO).flatten ++ ([] : List (List AV)).flatten ++ z).length := by rw [List.length_append, List.length_append, gl]; omega
      have hch : chunks 2 es.length ((((es.map docO).flatten ++ ([] : List (List AV)).flatten ++ z).drop 0).map AV.disc) = es.map docD := by
        have hD : GE 2 (es.map docD) := fun x hx => by
          obtain ⟨e, he, rfl⟩ := List.mem_map.1 hx
          refine ⟨by rw [docD, List.length_map]; exact gO e he, ?_⟩
          rw [docD, List.map_map]
          congr 1
          funext a
          cases a <;> rfl
        have hf : (es.map docO).flatten.map AV.disc = (es.map docD).flatten := by
          rw [List.map_flatten, List.map_map]; rfl
        have := hD.chunks (z.map AV.disc)
        rw [List.length_map] at this
        rw [List.drop_zero, List.flatten_nil, List.append_nil, List.map_append, hf, this]
      refine .ghost (.slot (i := 2) (o := o) (c := 0) (sz := 2) (n := es.length) (lim := some cap) false (by simp [upd_at]) ho' hcl (fun q => by cases q)) ?_
      rw [hch]
      refine .ghost (.lim (i := 2) (own := false) (sz := 2) (es := es.map docD) (lim := some cap) (by simp [upd_at])) (W_sound ?_)
      simp (disch := first | omega | (simp only [List.length_cons, List.length_nil, List.length_append, u8s_len]; omega)) only [go_sem, ↓reduceIte, true_and, Nat.reduceLeDiff, Nat.reduceEqDiff, Nat.reduceAdd, Nat.reduceBEq, Int.reduceEq]
      refine ⟨rfl, fun x hx => ?_⟩
      have : x ≠ o := fun e => hx (by rw [e]; exact ho)
      simp only [if_neg this]
      exact hk x hx
theorem news_ok {v : AV} {es : List (List AV)} {l : List (Int × ByteArray × Bool × List Fl)} (hv : SF 4 v es) (hL : RR chR es l) (hl : l.length ≤ 2 ^ 20) (hs : ∀ x ∈ l, (x.2.2.2).length ≤ 2 ^ 30) (h : Heap) : AWF P ann 0 21 [v] h fun r h' => r = ownV newD v ∧ h' = h := by
  refine AWF.fnPureA H.f0_21 rfl ?_
  have e1 := hL.len
  have hg : GE 4 es := fun e he => by
    obtain ⟨i, hi, rfl⟩ := List.getElem_of_mem he
    obtain ⟨e', h1, w, h2, hw⟩ := hL.lt (i := i) (by omega)
    rw [List.getElem?_eq_getElem hi] at h1
    cases h1
    rw [h2]
    exact ⟨rfl, by simp only [List.map_cons, List.map_nil, disc_sc, hw.disc]⟩
  have hO := OB.nil (h := h)
  refine A_seq_gen fun N hN => W_sound ?_
  simp (disch := first | omega | (simp only [List.length_cons, List.length_nil, List.length_append, u8s_len]; omega)) only [go_sem, ↓reduceIte, true_and, Nat.reduceLeDiff, Nat.reduceEqDiff, Nat.reduceAdd, Nat.reduceBEq, Int.reduceEq]
  refine hN _ ?_; clear hN N
  refine A_seq_gen fun N hN => W_sound ?_
  refine W_forget (fun t => t 0 = v ∧ True) (by simp [upd_at, *] <;> (first | rfl | exact ⟨rfl, rfl⟩ | exact ⟨rfl, rfl, rfl⟩ | exact ⟨rfl, rfl, rfl, rfl⟩ | exact ⟨rfl, rfl, rfl, rfl, rfl⟩)) ?_; rintro t ⟨t0, -⟩
  simp (disch := first | omega | (simp only [List.length_cons, List.length_nil, List.length_append, u8s_len]; omega)) only [go_sem, ↓reduceIte, true_and, Nat.reduceLeDiff, Nat.reduceEqDiff, Nat.reduceAdd, Nat.reduceBEq, Int.reduceEq, t0, hv.same, hv.disc]
  refine (clone38_ok H hv hg (by omega) _).mono ?_
  have d0 : decide ((0 : Nat) < 0) = false := rfl
  rintro r h1 (⟨rfl, rfl, rfl, rfl⟩ | ⟨⟨lim, rfl⟩, rfl, rfl, rfl⟩ | ⟨lim, rfl, o, cap, z, ho, rfl, hle, rfl⟩)
  · rw [contK_some]; simp (disch := first | omega | (simp only [List.length_cons, List.length_nil, List.length_append, u8s_len]; omega)) only [go_sem, ↓reduceIte, true_and, Nat.reduceLeDiff, Nat.reduceEqDiff, Nat.reduceAdd, Nat.reduceBEq, Int.reduceEq]
    refine hN _ ?_; clear hN N
    refine A_seq_gen fun M hM => W_sound ?_
    refine W_forget (fun t => t 0 = .sc (.slice none 0 0) ∧ True) (by simp [upd_at, *] <;> (first | rfl | exact ⟨rfl, rfl⟩ | exact ⟨rfl, rfl, rfl⟩ | exact ⟨rfl, rfl, rfl, rfl⟩ | exact ⟨rfl, rfl, rfl, rfl, rfl⟩)) ?_; rintro t ⟨t0, -⟩
    have nl : ∀ (t : Nat → AV) (h : Heap), aexLen 0 t h (.sc (.slice none 0 0)) = some (.val (.sc (.int .i64 ((0 : Nat) : Int))) t h) := fun t h => rfl
    simp (disch := first | omega | (simp only [List.length_cons, List.length_nil, List.length_append, u8s_len]; omega)) only [go_sem, ↓reduceIte, true_and, Nat.reduceLeDiff, Nat.reduceEqDiff, Nat.reduceAdd, Nat.reduceBEq, Int.reduceEq, t0, nl]
    refine AW_loopN (fun m t h' => h' = h1 ∧ t 0 = .sc (.slice none 0 0) ∧ t 8 = .sc (.int .i64 ((0 : Nat) : Int)) ∧ t 9 = .sc (.int .i64 ((0 : Nat) : Int))) (n := 0) ⟨rfl, by simp [upd_at, t0], by simp [upd_at], by simp [upd_at]⟩ ?_
    clear t0 t
    rintro m t h' ⟨rfl, t0, t8, t9⟩
    (refine W_seq_gen fun N hN => ?_); simp (disch := first | omega | (simp only [List.length_cons, List.length_nil, List.length_append, u8s_len]; omega)) only [go_sem, ↓reduceIte, true_and, Nat.reduceLeDiff, Nat.reduceEqDiff, Nat.reduceAdd, Nat.reduceBEq, Int.reduceEq, t8, t9]
    refine hN _ ?_; clear hN N
    (refine W_seq_gen fun N hN => ?_); simp (disch := first | omega | (simp only [List.length_cons, List.length_nil, List.length_append, u8s_len]; omega)) only [go_sem, ↓reduceIte, true_and, Nat.reduceLeDiff, Nat.reduceEqDiff, Nat.reduceAdd, Nat.reduceBEq, Int.reduceEq, d0]
    refine hM _ ?_; clear hN N hM M
    refine A_seq_gen fun N hN => W_sound ?_
    simp (disch := first | omega | (simp only [List.length_cons, List.length_nil, List.length_append, u8s_len]; omega)) only [go_sem, ↓reduceIte, true_and, Nat.reduceLeDiff, Nat.reduceEqDiff, Nat.reduceAdd, Nat.reduceBEq, Int.reduceEq, t0]
    refine hN _ ?_; clear hN N
    refine W_sound ?_
    simp (disch := first | omega | (simp only [List.length_cons, List.length_nil, List.length_append, u8s_len]; omega)) only [go_sem, ↓reduceIte, true_and, Nat.reduceLeDiff, Nat.reduceEqDiff, Nat.reduceAdd, Nat.reduceBEq, Int.reduceEq]
    first | exact rfl | exact ⟨rfl, hO.keep⟩
  · rw [contK_some]; simp (disch := first | omega | (simp only [List.length_cons, List.length_nil, List.length_append, u8s_len]; omega)) only [go_sem, ↓reduceIte, true_and, Nat.reduceLeDiff, Nat.reduceEqDiff, Nat.reduceAdd, Nat.reduceBEq, Int.reduceEq]
    refine hN _ ?_; clear hN N
    refine A_seq_gen fun M hM => W_sound ?_
    refine W_forget (fun t => t 0 = .bs true 4 [] (some 0) ∧ True) (by simp [upd_at, *] <;> (first | rfl | exact ⟨rfl, rfl⟩ | exact ⟨rfl, rfl, rfl⟩ | exact ⟨rfl, rfl, rfl, rfl⟩ | exact ⟨rfl, rfl, rfl, rfl, rfl⟩)) ?_; rintro t ⟨t0, -⟩
    have nl : ∀ (t : Nat → AV) (h : Heap), aexLen 0 t h (.bs false 4 [] (some 0)) = some (.val (.sc (.int .i64 ((0 : Nat) : Int))) t h) := fun t h => rfl
    simp (disch := first | omega | (simp only [List.length_cons, List.length_nil, List.length_append, u8s_len]; omega)) only [go_sem, ↓reduceIte, true_and, Nat.reduceLeDiff, Nat.reduceEqDiff, Nat.reduceAdd, Nat.reduceBEq, Int.reduceEq, t0, nl]
    refine AW_loopN (fun m t h' => h' = h1 ∧ t 0 = .bs true 4 [] (some 0) ∧ t 8 = .sc (.int .i64 ((0 : Nat) : Int)) ∧ t 9 = .sc (.int .i64 ((0 : Nat) : Int))) (n := 0) ⟨rfl, by simp [upd_at, t0], by simp [upd_at], by simp [upd_at]⟩ ?_
    clear t0 t
    rintro m t h' ⟨rfl, t0, t8, t9⟩
    (refine W_seq_gen fun N hN => ?_); simp (disch := first | omega | (simp only [List.length_cons, List.length_nil, List.length_append, u8s_len]; omega)) only [go_sem, ↓reduceIte, true_and, Nat.reduceLeDiff, Nat.reduceEqDiff, Nat.reduceAdd, Nat.reduceBEq, Int.reduceEq, t8, t9]
    refine hN _ ?_; clear hN N
    (refine W_seq_gen fun N hN => ?_); simp (disch := first | omega | (simp only [List.length_cons, List.length_nil, List.length_append, u8s_len]; omega)) only [go_sem, ↓reduceIte, true_and, Nat.reduceLeDiff, Nat.reduceEqDiff, Nat.reduceAdd, Nat.reduceBEq, Int.reduceEq, d0]
    refine hM _ ?_; clear hN N hM M
    refine A_seq_gen fun N hN => W_sound ?_
    simp (disch := first | omega | (simp only [List.length_cons, List.length_nil, List.length_append, u8s_len]; omega)) only [go_sem, ↓reduceIte, true_and, Nat.reduceLeDiff, Nat.reduceEqDiff, Nat.reduceAdd, Nat.reduceBEq, Int.reduceEq, t0]
    refine hN _ ?_; clear hN N
    refine .ghost (.lim (i := 2) (own := true) (sz := 4) (es := []) (lim := some 0) (by simp [upd_at])) (W_sound ?_)
    simp (disch := first | omega | (simp only [List.length_cons, List.length_nil, List.length_append, u8s_len]; omega)) only [go_sem, ↓reduceIte, true_and, Nat.reduceLeDiff, Nat.reduceEqDiff, Nat.reduceAdd, Nat.reduceBEq, Int.reduceEq]
    first | exact rfl | exact ⟨rfl, hO.keep⟩
  · have hO := hO.new ho (X := .arr (es.flatten ++ z))
    rw [contK_some]; simp (disch := first | omega | (simp only [List.length_cons, List.length_nil, List.length_append, u8s_len]; omega)) only [go_sem, ↓reduceIte, true_and, Nat.reduceLeDiff, Nat.reduceEqDiff, Nat.reduceAdd, Nat.reduceBEq, Int.reduceEq]
    refine hN _ ?_; clear hN N
    refine A_seq_gen fun M hM => W_sound ?_
    refine W_forget (fun t => t 0 = .rs o 0 4 es.length (some cap) ∧ True) (by simp [upd_at, *] <;> (first | rfl | exact ⟨rfl, rfl⟩ | exact ⟨rfl, rfl, rfl⟩ | exact ⟨rfl, rfl, rfl, rfl⟩ | exact ⟨rfl, rfl, rfl, rfl, rfl⟩)) ?_; rintro t ⟨t0, -⟩
    have nl : ∀ (t : Nat → AV) (h : Heap), aexLen 0 t h (.rs o 0 4 es.length (some cap)) = some (.val (.sc (.int .i64 (es.length : Nat))) t h) := fun t h => rfl
    simp (disch := first | omega | (simp only [List.length_cons, List.length_nil, List.length_append, u8s_len]; omega)) only [go_sem, ↓reduceIte, true_and, Nat.reduceLeDiff, Nat.reduceEqDiff, Nat.reduceAdd, Nat.reduceBEq, Int.reduceEq, t0, nl]
    have gO : ∀ e ∈ es, (newO e).length = 4 := fun e he => by
      obtain ⟨i, hi, rfl⟩ := List.getElem_of_mem he
      obtain ⟨e', h1, w, h2, hw⟩ := hL.lt (i := i) (by omega)
      rw [List.getElem?_eq_getElem hi] at h1
      cases h1
      rw [h2]
      rfl
    have flen : ∀ i, i ≤ es.length → ((es.take i).map newO).flatten.length = i * 4 := fun i hi => by
      have : ∀ q : List (List AV), (∀ e ∈ q, (newO e).length = 4) → (q.map newO).flatten.length = q.length * 4 := fun q hq => by
        induction q with
        | nil => rfl
        | cons e q ih => rw [List.map_cons, List.flatten_cons, List.length_append, ih (fun x hx => hq x (by simp [hx])), hq e (by simp), List.length_cons]; omega
      rw [this _ (fun e he => gO e (List.mem_of_mem_take he)), List.length_take, Nat.min_eq_left hi]
    refine AW_loopN (fun m t h' => ∃ i, m = es.length - i ∧ i ≤ es.length ∧ t 0 = .rs o 0 4 es.length (some cap) ∧ t 7 = .rs o 0 4 es.length (some cap) ∧ t 8 = .sc (.int .i64 (es.length : Nat)) ∧ t 9 = .sc (.int .i64 (i : Nat)) ∧
        (∀ x, h x ≠ none → h' x = h x) ∧ h' o = some (.arr (((es.take i).map newO).flatten ++ (es.drop i).flatten ++ z))) (n := es.length)
      ⟨0, rfl, Nat.zero_le _, by simp [upd_at, t0], by simp [upd_at, t0], by simp [upd_at], by simp [upd_at], hO.keep, by simp [upd]⟩ ?_
    clear t0 t hO
    rintro m t h' ⟨i, rfl, hi, t0, t7, t8, t9, hk, ho'⟩
    rcases Nat.lt_or_ge i es.length with hlt | hge
    · obtain ⟨e, g0, w, he, hw⟩ := hL.lt (i := i) (by omega)
      have hge : es[i] = e := by rw [List.getElem?_eq_getElem hlt] at g0; exact Option.some.inj g0
      have hdr : es.drop i = e :: es.drop (i + 1) := by rw [List.drop_eq_getElem_cons hlt, hge]
      have htk : es.take (i + 1) = es.take i ++ [e] := by rw [List.take_add_one, g0]; rfl
      have fl := flen i (by omega)
      rw [hdr] at ho'
      have iad : ∀ t (h : Heap), aexIad 4 ((i : Nat) : Int) t h (.rs o 0 4 es.length (some cap)) = some (.val (.op o (i * 4)) t h) := fun t h => by
        have : (4 = 4 ∧ (0 : Int) ≤ (i : Int) ∧ (i : Int) < es.length) := ⟨rfl, by omega, by omega⟩
        simp only [aexIad, this, and_self, if_true, Int.toNat_natCast, Nat.zero_add]
      have el : e.length = 4 := by rw [he]; rfl
      have hat := rows_at (z := z) (B := es.drop (i + 1)) fl el
      have hset := rows_set (z := z) (B := es.drop (i + 1)) (k := 3) (x := clo w) (e' := newO e) fl (by rw [el]; decide) (by rw [he]; rfl)
      have hlen : i * 4 + 4 ≤ (((es.take i).map newO).flatten ++ (e :: es.drop (i + 1)).flatten ++ z).length := by
        rw [List.length_append, List.length_append, fl, List.flatten_cons, List.length_append, el]; omega
      have hlen1 : i * 4 + 3 + 1 ≤ (((es.take i).map newO).flatten ++ (e :: es.drop (i + 1)).flatten ++ z).length := by omega
      generalize ((es.take i).map newO).flatten ++ (e :: es.drop (i + 1)).flatten ++ z = cs at ho' hat hset hlen hlen1
      rw [he] at hat
      have hcl := clo_ok hw
      have cc : (clo w).cellsD = [clo w] := by rcases hcl with ⟨q, _⟩ | ⟨_, _, q⟩ <;> rw [q] <;> rfl
      have ct : (clo w).isTu = false := by rcases hcl with ⟨q, _⟩ | ⟨_, _, q⟩ <;> rw [q] <;> rfl
      have hbw := hs _ (List.getElem_mem (show i < l.length by omega))
      (refine W_seq_gen fun N hN => ?_); simp (disch := first | omega | (simp only [List.length_cons, List.length_nil, List.length_append, u8s_len]; omega)) only [go_sem, ↓reduceIte, true_and, Nat.reduceLeDiff, Nat.reduceEqDiff, Nat.reduceAdd, Nat.reduceBEq, Int.reduceEq, t8, t9, hlt]
      refine hN _ ?_; clear hN N
      (refine W_seq_gen fun N hN => ?_); simp (disch := first | omega | (simp only [List.length_cons, List.length_nil, List.length_append, u8s_len]; omega)) only [go_sem, ↓reduceIte, true_and, Nat.reduceLeDiff, Nat.reduceEqDiff, Nat.reduceAdd, Nat.reduceBEq, Int.reduceEq]
      refine hN _ ?_; clear hN N
      (refine W_seq_gen fun N hN => ?_)
      rw [W_block]
      (refine W_seq_gen fun N hN => ?_); simp (disch := first | omega | (simp only [List.length_cons, List.length_nil, List.length_append, u8s_len]; omega)) only [go_sem, ↓reduceIte, true_and, Nat.reduceLeDiff, Nat.reduceEqDiff, Nat.reduceAdd, Nat.reduceBEq, Int.reduceEq, t7, t9, iad, ho', hlen, hat, hw.disc, hw.same]
      intro o4 h4
      have hO := OB.nil (h := h')
      refine hN _ ?_; clear hN N; refine W_ob (hO.new h4) fun hc hO => ?_
      refine W_forget (fun t => t 0 = .rs o 0 4 es.length (some cap) ∧ t 3 = .sc (.int .i64 (i : Nat)) ∧ t 4 = .op o4 0 ∧ t 7 = .rs o 0 4 es.length (some cap) ∧ t 8 = .sc (.int .i64 (es.length : Nat)) ∧ t 9 = .sc (.int .i64 (i : Nat)) ∧ True) (by simp [upd_at, *] <;> (first | rfl | exact ⟨rfl, rfl⟩ | exact ⟨rfl, rfl, rfl⟩ | exact ⟨rfl, rfl, rfl, rfl⟩ | exact ⟨rfl, rfl, rfl, rfl, rfl⟩)) ?_; rintro t ⟨t0, t3, t4, t7, t8, t9, -⟩
      simp (disch := first | omega | (simp only [List.length_cons, List.length_nil, List.length_append, u8s_len]; omega)) only [go_sem, ↓reduceIte, true_and, Nat.reduceLeDiff, Nat.reduceEqDiff, Nat.reduceAdd, Nat.reduceBEq, Int.reduceEq, t4, hO.get0, hw.disc, hw.same]
      refine (cdoc_ok H hw (by rw [fls_len]; omega) _).mono ?_
      rintro _ hc ⟨rfl, rfl⟩
      have hoc := hO.live ho'
      rw [contK_some]; simp (disch := first | omega | (simp only [List.length_cons, List.length_nil, List.length_append, u8s_len]; omega)) only [go_sem, ↓reduceIte, true_and, Nat.reduceLeDiff, Nat.reduceEqDiff, Nat.reduceAdd, Nat.reduceBEq, Int.reduceEq, t0, t3, iad, hoc, hlen1, cc, ct, hset]
      refine hN _ ?_; clear hN N
      simp (disch := first | omega | (simp only [List.length_cons, List.length_nil, List.length_append, u8s_len]; omega)) only [go_sem, ↓reduceIte, true_and, Nat.reduceLeDiff, Nat.reduceEqDiff, Nat.reduceAdd, Nat.reduceBEq, Int.reduceEq, t9, nat_add]
      refine ⟨es.length - (i + 1), by omega, i + 1, rfl, by omega, by simp [upd_at, t0], by simp [upd_at, t7], by simp [upd_at, t8], by simp [upd_at], fun x hx => ?_, ?_⟩
      · have : x ≠ o := fun e => hx (by rw [e]; exact ho)
        have h2 := hO.keep x (by rw [hk x hx]; exact hx)
        simp only [if_neg this]
        rw [h2, hk x hx]
      · rw [htk, List.map_append, List.flatten_append]
        simp
    · obtain rfl : i = es.length := by omega
      (refine W_seq_gen fun N hN => ?_); simp (disch := first | omega | (simp only [List.length_cons, List.length_nil, List.length_append, u8s_len]; omega)) only [go_sem, ↓reduceIte, true_and, Nat.reduceLeDiff, Nat.reduceEqDiff, Nat.reduceAdd, Nat.reduceBEq, Int.reduceEq, t8, t9, Nat.lt_irrefl]
      refine hN _ ?_; clear hN N
      (refine W_seq_gen fun N hN => ?_); simp (disch := first | omega | (simp only [List.length_cons, List.length_nil, List.length_append, u8s_len]; omega)) only [go_sem, ↓reduceIte, true_and, Nat.reduceLeDiff, Nat.reduceEqDiff, Nat.reduceAdd, Nat.reduceBEq, Int.reduceEq]
      refine hM _ ?_; clear hN N hM M
      refine A_seq_gen fun N hN => W_sound ?_
      simp (disch := first | omega | (simp only [List.length_cons, List.length_nil, List.length_append, u8s_len]; omega)) only [go_sem, ↓reduceIte, true_and, Nat.reduceLeDiff, Nat.reduceEqDiff, Nat.reduceAdd, Nat.reduceBEq, Int.reduceEq, t0]
      refine hN _ ?_; clear hN N
      rw [List.take_length, List.drop_length] at ho'
      have gl : (es.map newO).flatten.length = es.length * 4 := by have := flen es.length (Nat.le_refl _); rwa [List.take_length] at this
      have hcl : 0 + es.length * 4 ≤ ((es.map newO).flatten ++ ([] : List (List AV)).flatten ++ z).length := by rw [List.length_append, List.length_append, gl]; omega
      have hch : chunks 4 es.length ((((es.map newO).flatten ++ ([] : List (List AV)).flatten ++ z).drop 0).map AV.disc) = es.map newD := by
        have hD : GE 4 (es.map newD) := fun x hx => by
          obtain ⟨e, he, rfl⟩ := List.mem_map.1 hx
          refine ⟨by rw [newD, List.length_map]; exact gO e he, ?_⟩
          rw [newD, List.map_map]
          congr 1
          funext a
          cases a <;> rfl
        have hf : (es.map newO).flatten.map AV.disc = (es.map newD).flatten := by
          rw [List.map_flatten, List.map_map]; rfl
        have := hD.chunks (z.map AV.disc)
        rw [List.length_map] at this
        rw [List.drop_zero, List.flatten_nil, List.append_nil, List.map_append, hf, this]
      refine .ghost (.slot (i := 2) (o := o) (c := 0) (sz := 4) (n := es.length) (lim := some cap) false (by simp [upd_at]) ho' hcl (fun q => by cases q)) ?_
      rw [hch]
      refine .ghost (.lim (i := 2) (own := false) (sz := 4) (es := es.map newD) (lim := some cap) (by simp [upd_at])) (W_sound ?_)
      simp (disch := first | omega | (simp only [List.length_cons, List.length_nil, List.length_append, u8s_len]; omega)) only [go_sem, ↓reduceIte, true_and, Nat.reduceLeDiff, Nat.reduceEqDiff, Nat.reduceAdd, Nat.reduceBEq, Int.reduceEq]
      refine ⟨rfl, fun x hx => ?_⟩
      have : x ≠ o := fun e => hx (by rw [e]; exact ho)
      simp only [if_neg this]
      exact hk x hx
end Go.Proofs.Ytnohkfjifdjnnaa
