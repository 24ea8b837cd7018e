/- The reference: places, which ethers, light ones. -/
import Derived.Test.YtomfknocpijmbaaEtherM1
section
set_option linter.unusedVariables false
set_option linter.unusedSimpArgs false
namespace Go.Proofs.Ytomfknocpijmbaa
open Go.Am
def mt (a b : Int) (c : Int × Int) : Bool := (c.1 == a && c.2 == b) || (c.1 == b && c.2 == a)
def optI : Option Nat → Int
  | none => -1
  | some i => (i : Nat)
def cutI (l : List (Int × Int)) (a b : Int) : Option Nat := l.findIdx? (mt a b)
def bagI (l : List (Int × Int)) (p : Int × Int) : Option Nat := l.findIdx? (fun c => c.1 == p.1 && c.2 == p.2)
theorem find_at {α : Type} {f : α → Bool} {l : List α} {i : Nat} (hi : i < l.length) (h : f l[i] = true) (hn : ∀ j (hj : j < l.length), j < i → f l[j] = false) : l.findIdx? f = some i := by
  rw [List.findIdx?_eq_some_iff_getElem]
  exact ⟨hi, h, fun j hj => by simp [hn j (by omega) hj]⟩
theorem find_no {α : Type} {f : α → Bool} {l : List α} (hn : ∀ j (hj : j < l.length), j < l.length → f l[j] = false) : l.findIdx? f = none := by
  rw [List.findIdx?_eq_none_iff]
  intro x hx
  obtain ⟨j, hj, rfl⟩ := List.getElem_of_mem hx
  exact hn j hj hj
theorem emod_rem {a : Int} {n : Nat} (h0 : 0 < n) : (if a.tmod (n : Int) < 0 then a.tmod (n : Int) + (n : Int) else a.tmod (n : Int)) = a % (n : Int) := by
  rw [Int.tmod_eq_emod]
  have h1 := Int.emod_nonneg a (show (n : Int) ≠ 0 by omega)
  have h2 := Int.emod_lt_of_pos a (show (0 : Int) < n by omega)
  by_cases h : 0 ≤ a ∨ (n : Int) ∣ a
  · rw [if_pos h]
    rw [if_neg (by omega)]
    try omega
  · rw [if_neg h]
    have h3 : a % (n : Int) ≠ 0 := fun e => h (.inr (Int.dvd_of_emod_eq_zero e))
    have : ((n : Int).natAbs : Int) = n := by omega
    rw [this, if_pos (by omega)]
    omega
def cntE (E : Eth) : Nat := (E.bags.map fun b => b.l.length).sum
theorem cnt_succ {l : List Bg} {i : Nat} (h : i < l.length) : ((l.take (i + 1)).map fun b => b.l.length).sum = ((l.take i).map fun b => b.l.length).sum + l[i].l.length := by
  rw [List.take_add_one, List.getElem?_eq_getElem h, List.map_append, List.sum_append]
  simp only [Option.toList_some, List.map_cons, List.map_nil, List.sum_cons, List.sum_nil, Nat.add_zero]
variable {P : Program} (H : Has P)
include H
theorem Cut_ok {bv cv : AV} {l : List (Int × Int)} {es : List (List AV)} (hb : bv.disc = bv) (hv : SF 2 cv es) (hC : RR CK es l) (hl : l.length < 2 ^ 40) (a b : Int) (h : Heap) :
    AWF P ann 0 33 [.ag [bv, cv], .sc (.int .i64 a), .sc (.int .i64 b)] h fun r h' => r = .sc (.int .i64 (optI (cutI l a b))) ∧ h' = h := by
  refine AWF.fnPurec H.f0_33 rfl ?_
  have e1 := hC.len
  (refine W_seq_gen fun N hN => ?_); simp (disch := omega) only [go_sem, ↓reduceIte, true_and, Nat.reduceLeDiff, Nat.reduceEqDiff, Nat.reduceAdd, Nat.reduceBEq, Int.reduceEq, hb, hv.disc]
  intro o ho
  have hO := OB.nil (h := h)
  refine hN _ ?_; clear hN N; refine W_ob (hO.new ho) fun hc hO => ?_
  have ho1 := hO.get0
  have hk := hO.keep
  refine W_forget (fun t => t 1 = .sc (.int .i64 a) ∧ t 2 = .sc (.int .i64 b) ∧ t 3 = .op o 0 ∧ True) (by simp [upd_at, *] <;> and_intros <;> rfl) ?_; rintro t ⟨t1, t2, t3, -⟩
  clear hO
  (refine W_seq_gen fun M hM => ?_)
  (refine W_seq_gen fun N hN => ?_); simp (disch := omega) only [go_sem, ↓reduceIte, true_and, Nat.reduceLeDiff, Nat.reduceEqDiff, Nat.reduceAdd, Nat.reduceBEq, Int.reduceEq]
  refine hN _ ?_; clear hN N
  simp (disch := omega) only [go_sem, ↓reduceIte, true_and, Nat.reduceLeDiff, Nat.reduceEqDiff, Nat.reduceAdd, Nat.reduceBEq, Int.reduceEq]
  refine AW_loopN (fun m t h' => (∀ x, ¬ h x = none → h' x = h x) ∧ h' o = some (.arr [bv, cv]) ∧ ∃ i, m = l.length - i ∧ i ≤ l.length ∧ t 1 = .sc (.int .i64 a) ∧ t 2 = .sc (.int .i64 b) ∧ t 3 = .op o 0 ∧ t 7 = .sc (.int .i64 (i : Nat)) ∧ ∀ j (hj : j < l.length), j < i → mt a b l[j] = false)
    (n := l.length) ⟨hk, ho1, 0, rfl, Nat.zero_le _, by simp [upd_at, t1], by simp [upd_at, t2], by simp [upd_at, t3], by simp [upd_at], fun j _ hj => by omega⟩ ?_
  clear t1 t2 t3 t hk ho1 hc ho
  rintro m t h' ⟨hk, ho1, i, rfl, hi, t1, t2, t3, t7, hno⟩
  rcases Nat.lt_or_ge i l.length with hlt | hge
  · obtain ⟨e, g0, rfl⟩ := hC.lt hlt
    have d0 : decide (i < l.length) = true := by simpa using hlt
    (refine W_seq_gen fun N hN => ?_); simp (disch := omega) only [go_sem, ↓reduceIte, true_and, Nat.reduceLeDiff, Nat.reduceEqDiff, Nat.reduceAdd, Nat.reduceBEq, Int.reduceEq, t3, t7, ho1, hv.same, hv.disc, hv.sl.len, e1, d0]
    refine hN _ ?_; clear hN N
    (refine W_seq_gen fun R hR => ?_)
    rw [W_block]
    (refine W_seq_gen fun N hN => ?_); simp (disch := omega) only [go_sem, ↓reduceIte, true_and, Nat.reduceLeDiff, Nat.reduceEqDiff, Nat.reduceAdd, Nat.reduceBEq, Int.reduceEq, t3, t7, ho1, hv.same, hv.disc, hv.sl.ia, g0]
    intro o8 h8
    have hO := OB.nil (h := h')
    refine hN _ ?_; clear hN N; refine W_ob (hO.new h8) fun hc hO => ?_
    have hoc := hO.live ho1
    have ho8 := hO.get0
    have hk2 : ∀ x, ¬ h x = none → hc x = h x := fun x hx => (hO.keep x (by rw [hk x hx]; exact hx)).trans (hk x hx)
    clear hO h8
    refine W_forget (fun t => t 1 = .sc (.int .i64 a) ∧ t 2 = .sc (.int .i64 b) ∧ t 3 = .op o 0 ∧ t 7 = .sc (.int .i64 (i : Nat)) ∧ t 8 = .op o8 0 ∧ True) (by simp [upd_at, *] <;> and_intros <;> rfl) ?_; rintro t ⟨t1, t2, t3, t7, t8, -⟩
    have key : ∀ q, mt a b l[i] = q → q = false → ∀ j (hj : j < l.length), j < i + 1 → mt a b l[j] = false := fun q hq hf j hj hlt' => by
      rcases Nat.lt_or_ge j i with w | w
      · exact hno j hj w
      · obtain rfl : j = i := by omega
        exact hq.trans hf
    have um : mt a b l[i] = (l[i].1 == a && l[i].2 == b || l[i].1 == b && l[i].2 == a) := rfl
    have yes : mt a b l[i] = true → cutI l a b = some i := fun q => find_at hlt q hno
    cases c1 : (l[i].1 == a) <;> cases c2 : (l[i].2 == b) <;> cases c3 : (l[i].1 == b) <;> cases c4 : (l[i].2 == a) <;> rw [c1, c2, c3, c4] at um <;>
      (simp (disch := omega) only [go_sem, ↓reduceIte, true_and, Nat.reduceLeDiff, Nat.reduceEqDiff, Nat.reduceAdd, Nat.reduceBEq, Int.reduceEq, t1, t2, t7, t8, ho8, c1, c2, c3, c4]; first | (rw [yes um]; exact ⟨rfl, hk2⟩) | (refine hR _ ?_; clear hR R; simp (disch := omega) only [go_sem, ↓reduceIte, true_and, Nat.reduceLeDiff, Nat.reduceEqDiff, Nat.reduceAdd, Nat.reduceBEq, Int.reduceEq, t7, nat_add]; exact ⟨l.length - (i + 1), by omega, hk2, hoc, i + 1, rfl, by omega, t1, t2, t3, rfl, key _ um rfl⟩))
  · obtain rfl : i = l.length := by omega
    (refine W_seq_gen fun N hN => ?_); simp (disch := omega) only [go_sem, ↓reduceIte, true_and, Nat.reduceLeDiff, Nat.reduceEqDiff, Nat.reduceAdd, Nat.reduceBEq, Int.reduceEq, t3, t7, ho1, hv.same, hv.disc, hv.sl.len, e1, Nat.lt_irrefl]
    refine hM _ ?_; clear hN N hM M
    simp (disch := omega) only [go_sem, ↓reduceIte, true_and, Nat.reduceLeDiff, Nat.reduceEqDiff, Nat.reduceAdd, Nat.reduceBEq, Int.reduceEq]
    rw [cutI, find_no hno]
    exact ⟨rfl, hk⟩
theorem Bag_ok {bv cv : AV} {l : List (Int × Int)} {es : List (List AV)} (hb : cv.disc = cv) (hv : SF 3 bv es) (hB : RR BK es l) (hl : l.length < 2 ^ 40) (p : Int × Int) (h : Heap) :
    AWF P ann 0 20 [.ag [bv, cv], .sc (.int .i64 p.1), .sc (.int .i64 p.2)] h fun r h' => r = .sc (.int .i64 (optI (bagI l p))) ∧ h' = h := by
  refine AWF.fnPurec H.f0_20 rfl ?_
  have e1 := hB.len
  (refine W_seq_gen fun N hN => ?_); simp (disch := omega) only [go_sem, ↓reduceIte, true_and, Nat.reduceLeDiff, Nat.reduceEqDiff, Nat.reduceAdd, Nat.reduceBEq, Int.reduceEq, hb, hv.disc]
  intro o ho
  have hO := OB.nil (h := h)
  refine hN _ ?_; clear hN N; refine W_ob (hO.new ho) fun hc hO => ?_
  have ho1 := hO.get0
  have hk := hO.keep
  refine W_forget (fun t => t 1 = .sc (.int .i64 p.1) ∧ t 2 = .sc (.int .i64 p.2) ∧ t 3 = .op o 0 ∧ True) (by simp [upd_at, *] <;> and_intros <;> rfl) ?_; rintro t ⟨t1, t2, t3, -⟩
  clear hO
  (refine W_seq_gen fun M hM => ?_)
  (refine W_seq_gen fun N hN => ?_); simp (disch := omega) only [go_sem, ↓reduceIte, true_and, Nat.reduceLeDiff, Nat.reduceEqDiff, Nat.reduceAdd, Nat.reduceBEq, Int.reduceEq]
  refine hN _ ?_; clear hN N
  simp (disch := omega) only [go_sem, ↓reduceIte, true_and, Nat.reduceLeDiff, Nat.reduceEqDiff, Nat.reduceAdd, Nat.reduceBEq, Int.reduceEq]
  refine AW_loopN (fun m t h' => h' = hc ∧ ∃ i, m = l.length - i ∧ i ≤ l.length ∧ t 1 = .sc (.int .i64 p.1) ∧ t 2 = .sc (.int .i64 p.2) ∧ t 3 = .op o 0 ∧ t 7 = .sc (.int .i64 (i : Nat)) ∧ ∀ j (hj : j < l.length), j < i → (l[j].1 == p.1 && l[j].2 == p.2) = false)
    (n := l.length) ⟨rfl, 0, rfl, Nat.zero_le _, by simp [upd_at, t1], by simp [upd_at, t2], by simp [upd_at, t3], by simp [upd_at], fun j _ hj => by omega⟩ ?_
  clear t1 t2 t3 t ho
  rintro m t h' ⟨rfl, i, rfl, hi, t1, t2, t3, t7, hno⟩
  rcases Nat.lt_or_ge i l.length with hlt | hge
  · obtain ⟨e, g0, lv, rfl, hlv⟩ := hB.lt hlt
    have d0 : decide (i < l.length) = true := by simpa using hlt
    (refine W_seq_gen fun N hN => ?_); simp (disch := omega) only [go_sem, ↓reduceIte, true_and, Nat.reduceLeDiff, Nat.reduceEqDiff, Nat.reduceAdd, Nat.reduceBEq, Int.reduceEq, t3, t7, ho1, hv.same, hv.disc, hv.sl.len, e1, d0]
    refine hN _ ?_; clear hN N
    (refine W_seq_gen fun R hR => ?_)
    rw [W_block]
    have key : ∀ q, (l[i].1 == p.1 && l[i].2 == p.2) = q → q = false → ∀ j (hj : j < l.length), j < i + 1 → (l[j].1 == p.1 && l[j].2 == p.2) = false := fun q hq hf j hj hlt' => by
      rcases Nat.lt_or_ge j i with w | w
      · exact hno j hj w
      · obtain rfl : j = i := by omega
        exact hq.trans hf
    have um : (l[i].1 == p.1 && l[i].2 == p.2) = (l[i].1 == p.1 && l[i].2 == p.2) := rfl
    have yes : (l[i].1 == p.1 && l[i].2 == p.2) = true → bagI l p = some i := fun q => find_at hlt q hno
    cases c1 : (l[i].1 == p.1) <;> cases c2 : (l[i].2 == p.2) <;> rw [c1, c2] at yes key <;>
      (simp (disch := omega) only [go_sem, ↓reduceIte, true_and, Nat.reduceLeDiff, Nat.reduceEqDiff, Nat.reduceAdd, Nat.reduceBEq, Int.reduceEq, t1, t2, t3, t7, ho1, hv.same, hv.disc, hv.sl.ia, g0, c1, c2]; first | (rw [yes rfl]; exact ⟨rfl, hk⟩) | (refine hR _ ?_; clear hR R; simp (disch := omega) only [go_sem, ↓reduceIte, true_and, Nat.reduceLeDiff, Nat.reduceEqDiff, Nat.reduceAdd, Nat.reduceBEq, Int.reduceEq, t7, nat_add]; exact ⟨l.length - (i + 1), by omega, i + 1, rfl, by omega, t1, t2, t3, rfl, key _ rfl rfl⟩))
  · obtain rfl : i = l.length := by omega
    (refine W_seq_gen fun N hN => ?_); simp (disch := omega) only [go_sem, ↓reduceIte, true_and, Nat.reduceLeDiff, Nat.reduceEqDiff, Nat.reduceAdd, Nat.reduceBEq, Int.reduceEq, t3, t7, ho1, hv.same, hv.disc, hv.sl.len, e1, Nat.lt_irrefl]
    refine hM _ ?_; clear hN N hM M
    simp (disch := omega) only [go_sem, ↓reduceIte, true_and, Nat.reduceLeDiff, Nat.reduceEqDiff, Nat.reduceAdd, Nat.reduceBEq, Int.reduceEq]
    rw [bagI, find_no hno]
    exact ⟨rfl, hk⟩
end Go.Proofs.Ytomfknocpijmbaa
end
section
set_option linter.unusedVariables false
set_option linter.unusedSimpArgs false
namespace Go.Proofs.Ytomfknocpijmbaa
open Go.Am
def mayBag (E : Eth) (i : Nat) : Bool := match E.bags[i]? with
  | none => false
  | some b => two b.k.1 b.k.2 && (!decide (b.l.length < 1) && (!decide (b.l.length > 64) && (!(cutI E.cuts b.k.1 b.k.2).isSome && (!decide (0 < i) || ahd ((ks E).getD (i - 1) (0, 0)) b.k))))
def mayB (E : Eth) : Bool := cutsOk E.cuts && ((List.range E.bags.length).all (mayBag E) && decide (E.bags.length ≤ 1024))
theorem optI_ge {x : Option Nat} : decide (optI x ≥ ((0 : Nat) : Int)) = x.isSome := by
  cases x with
  | none => rfl
  | some i => simp [optI]
variable {P : Program} (H : Has P)
include H
set_option maxHeartbeats 1000000 in
theorem may_ok {bv cv : AV} {E : Eth} {bes ces : List (List AV)} (hbv : SF 3 bv bes) (hB : RR BgR bes E.bags) (hcv : SF 2 cv ces) (hC : RR CK ces E.cuts) (hl1 : E.bags.length < 2 ^ 40) (hl2 : E.cuts.length < 2 ^ 40) (h : Heap) :
    AWF P ann 0 12 [.ag [bv, cv]] h fun r h' => r = .sc (.bool (mayB E)) ∧ h' = h := by
  refine AWF.fnPurec H.f0_12 rfl ?_
  have e1 := hC.len
  have e2 := hB.len
  (refine W_seq_gen fun N hN => ?_); simp (disch := omega) only [go_sem, ↓reduceIte, true_and, Nat.reduceLeDiff, Nat.reduceEqDiff, Nat.reduceAdd, Nat.reduceBEq, Int.reduceEq, hbv.disc, hcv.disc]
  intro o ho
  have hO := OB.nil (h := h)
  refine hN _ ?_; clear hN N; refine W_ob (hO.new ho) fun hc hO => ?_
  have ho1 := hO.get0
  have hk := hO.keep
  refine W_forget (fun t => t 1 = .op o 0 ∧ True) (by simp [upd_at, *] <;> and_intros <;> rfl) ?_; rintro t ⟨t1, -⟩
  clear hO
  (refine W_seq_gen fun M hM => ?_)
  (refine W_seq_gen fun N hN => ?_); simp (disch := omega) only [go_sem, ↓reduceIte, true_and, Nat.reduceLeDiff, Nat.reduceEqDiff, Nat.reduceAdd, Nat.reduceBEq, Int.reduceEq]
  refine hN _ ?_; clear hN N
  simp (disch := omega) only [go_sem, ↓reduceIte, true_and, Nat.reduceLeDiff, Nat.reduceEqDiff, Nat.reduceAdd, Nat.reduceBEq, Int.reduceEq]
  refine AW_loopN (fun m t h' => (∀ x, ¬ h x = none → h' x = h x) ∧ h' o = some (.arr [bv, cv]) ∧ ∃ i, m = E.cuts.length - i ∧ i ≤ E.cuts.length ∧ t 1 = .op o 0 ∧ t 3 = .sc (.int .i64 (i : Nat)) ∧ ∀ j, j < i → cutOk E.cuts j = true)
    (n := E.cuts.length) ⟨hk, ho1, 0, rfl, Nat.zero_le _, by simp [upd_at, t1], by simp [upd_at], fun j hj => by omega⟩ ?_
  clear t1 t hk ho1 hc ho
  rintro m t h' ⟨hk, ho1, i, rfl, hi, t1, t3, hgood⟩
  rcases Nat.lt_or_ge i E.cuts.length with hlt | hge
  · obtain ⟨e, g0, rfl⟩ := hC.lt hlt
    have gd : E.cuts.getD i (0, 0) = E.cuts[i] := by simp [hlt]
    have d0 : decide (i < E.cuts.length) = true := by simpa using hlt
    have bad : cutOk E.cuts i = false → mayB E = false := fun q => by
      unfold mayB cutsOk
      rw [all_no hlt q]
      rfl
    (refine W_seq_gen fun N hN => ?_); simp (disch := omega) only [go_sem, ↓reduceIte, true_and, Nat.reduceLeDiff, Nat.reduceEqDiff, Nat.reduceAdd, Nat.reduceBEq, Int.reduceEq, t1, t3, ho1, hcv.same, hcv.disc, hcv.sl.len, e1, d0]
    refine hN _ ?_; clear hN N
    (refine W_seq_gen fun R hR => ?_)
    rw [W_block]
    (refine W_seq_gen fun N hN => ?_); simp (disch := omega) only [go_sem, ↓reduceIte, true_and, Nat.reduceLeDiff, Nat.reduceEqDiff, Nat.reduceAdd, Nat.reduceBEq, Int.reduceEq, t1, t3, ho1, hcv.same, hcv.disc, hcv.sl.ia, g0]
    intro o4 h4
    have hO := OB.nil (h := h')
    refine hN _ ?_; clear hN N; refine W_ob (hO.new h4) fun hc hO => ?_
    have hoc := hO.live ho1
    have ho4 := hO.get0
    have hk2 : ∀ x, ¬ h x = none → hc x = h x := fun x hx => (hO.keep x (by rw [hk x hx]; exact hx)).trans (hk x hx)
    clear hO h4
    refine W_forget (fun t => t 1 = .op o 0 ∧ t 3 = .sc (.int .i64 (i : Nat)) ∧ t 4 = .op o4 0 ∧ True) (by simp [upd_at, *] <;> and_intros <;> rfl) ?_; rintro t ⟨t1, t3, t4, -⟩
    have hg : cutOk E.cuts i = true → ∀ j, j < i + 1 → cutOk E.cuts j = true := fun q j hj => by
      rcases Nat.lt_or_ge j i with w | w
      · exact hgood j w
      · obtain rfl : j = i := by omega
        exact q
    have unf : cutOk E.cuts i = (two E.cuts[i].1 E.cuts[i].2 && (!decide (E.cuts[i].1 > E.cuts[i].2) && (!decide (0 < i) || ahd (E.cuts.getD (i - 1) (0, 0)) E.cuts[i]))) := by unfold cutOk; rw [gd]
    cases b1 : two E.cuts[i].1 E.cuts[i].2 with
    | false =>
      rw [b1, Bool.false_and] at unf
      simp (disch := omega) only [go_sem, ↓reduceIte, true_and, Nat.reduceLeDiff, Nat.reduceEqDiff, Nat.reduceAdd, Nat.reduceBEq, Int.reduceEq, t4, ho4]
      refine ⟨_, Two_ok H _ _ _, ?_⟩
      rw [contK_some]; simp (disch := omega) only [go_sem, ↓reduceIte, true_and, Nat.reduceLeDiff, Nat.reduceEqDiff, Nat.reduceAdd, Nat.reduceBEq, Int.reduceEq, b1, t4, ho4]
      rw [bad unf]
      exact ⟨rfl, hk2⟩
    | true =>
      cases b2 : decide (E.cuts[i].1 > E.cuts[i].2) with
      | true =>
        rw [b1, b2] at unf
        simp (disch := omega) only [go_sem, ↓reduceIte, true_and, Nat.reduceLeDiff, Nat.reduceEqDiff, Nat.reduceAdd, Nat.reduceBEq, Int.reduceEq, t4, ho4]
        refine ⟨_, Two_ok H _ _ _, ?_⟩
        rw [contK_some]; simp (disch := omega) only [go_sem, ↓reduceIte, true_and, Nat.reduceLeDiff, Nat.reduceEqDiff, Nat.reduceAdd, Nat.reduceBEq, Int.reduceEq, b1, b2, t4, ho4]
        rw [bad unf]
        exact ⟨rfl, hk2⟩
      | false =>
        rw [b1, b2] at unf
        by_cases b3 : i = 0
        · have d3 : decide (0 < i) = false := by simp [b3]
          rw [d3] at unf
          simp (disch := omega) only [go_sem, ↓reduceIte, true_and, Nat.reduceLeDiff, Nat.reduceEqDiff, Nat.reduceAdd, Nat.reduceBEq, Int.reduceEq, t4, t3, ho4]
          refine ⟨_, Two_ok H _ _ _, ?_⟩
          rw [contK_some]; simp (disch := omega) only [go_sem, ↓reduceIte, true_and, Nat.reduceLeDiff, Nat.reduceEqDiff, Nat.reduceAdd, Nat.reduceBEq, Int.reduceEq, b1, b2, d3, t3, t4, ho4]
          refine hR _ ?_; clear hR R
          simp (disch := omega) only [go_sem, ↓reduceIte, true_and, Nat.reduceLeDiff, Nat.reduceEqDiff, Nat.reduceAdd, Nat.reduceBEq, Int.reduceEq, t3, nat_add]
          exact ⟨E.cuts.length - (i + 1), by omega, hk2, hoc, i + 1, rfl, by omega, t1, rfl, hg unf⟩
        · have d3 : decide (0 < i) = true := by simp; omega
          rw [d3] at unf
          obtain ⟨e', g1, rfl⟩ := hC.lt (i := i - 1) (by omega)
          have gd1 : E.cuts.getD (i - 1) (0, 0) = E.cuts[i - 1] := by
            rw [List.getD_eq_getElem?_getD, List.getElem?_eq_getElem (by omega)]
            rfl
          rw [gd1] at unf
          have hs1 : ((i : Nat) : Int) - ((1 : Nat) : Int) = ((i - 1 : Nat) : Int) := by omega
          simp (disch := omega) only [go_sem, ↓reduceIte, true_and, Nat.reduceLeDiff, Nat.reduceEqDiff, Nat.reduceAdd, Nat.reduceBEq, Int.reduceEq, t4, t3, ho4]
          refine ⟨_, Two_ok H _ _ _, ?_⟩
          rw [contK_some]; simp (disch := omega) only [go_sem, ↓reduceIte, true_and, Nat.reduceLeDiff, Nat.reduceEqDiff, Nat.reduceAdd, Nat.reduceBEq, Int.reduceEq, b1, b2, d3, t1, t3, t4, ho4, hoc, hcv.same, hcv.disc, hs1, hcv.sl.ia, g1]
          refine ⟨_, ahead_ok H _ _ _ _ _, ?_⟩
          have q : ahd (E.cuts[i - 1].1, E.cuts[i - 1].2) (E.cuts[i].1, E.cuts[i].2) = ahd E.cuts[i - 1] E.cuts[i] := rfl
          cases b4 : ahd E.cuts[i - 1] E.cuts[i] with
          | false =>
            rw [b4] at unf q
            rw [contK_some]; simp (disch := omega) only [go_sem, ↓reduceIte, true_and, Nat.reduceLeDiff, Nat.reduceEqDiff, Nat.reduceAdd, Nat.reduceBEq, Int.reduceEq, q]
            rw [bad unf]
            exact ⟨rfl, hk2⟩
          | true =>
            rw [b4] at unf q
            rw [contK_some]; simp (disch := omega) only [go_sem, ↓reduceIte, true_and, Nat.reduceLeDiff, Nat.reduceEqDiff, Nat.reduceAdd, Nat.reduceBEq, Int.reduceEq, q]
            refine hR _ ?_; clear hR R
            simp (disch := omega) only [go_sem, ↓reduceIte, true_and, Nat.reduceLeDiff, Nat.reduceEqDiff, Nat.reduceAdd, Nat.reduceBEq, Int.reduceEq, t3, nat_add]
            exact ⟨E.cuts.length - (i + 1), by omega, hk2, hoc, i + 1, rfl, by omega, t1, rfl, hg unf⟩
  · obtain rfl : i = E.cuts.length := by omega
    have hcok : cutsOk E.cuts = true := all_lt hgood
    (refine W_seq_gen fun N hN => ?_); simp (disch := omega) only [go_sem, ↓reduceIte, true_and, Nat.reduceLeDiff, Nat.reduceEqDiff, Nat.reduceAdd, Nat.reduceBEq, Int.reduceEq, t1, t3, ho1, hcv.same, hcv.disc, hcv.sl.len, e1, Nat.lt_irrefl]
    refine hM _ ?_; clear hN N hM M
    refine W_forget (fun t => t 1 = .op o 0 ∧ True) (by simp [upd_at, *] <;> and_intros <;> rfl) ?_; rintro t ⟨t1, -⟩
    (refine W_seq_gen fun M hM => ?_)
    (refine W_seq_gen fun N hN => ?_); simp (disch := omega) only [go_sem, ↓reduceIte, true_and, Nat.reduceLeDiff, Nat.reduceEqDiff, Nat.reduceAdd, Nat.reduceBEq, Int.reduceEq]
    refine hN _ ?_; clear hN N
    simp (disch := omega) only [go_sem, ↓reduceIte, true_and, Nat.reduceLeDiff, Nat.reduceEqDiff, Nat.reduceAdd, Nat.reduceBEq, Int.reduceEq]
    refine AW_loopN (fun m t h' => (∀ x, ¬ h x = none → h' x = h x) ∧ h' o = some (.arr [bv, cv]) ∧ ∃ i, m = E.bags.length - i ∧ i ≤ E.bags.length ∧ t 1 = .op o 0 ∧ t 5 = .sc (.int .i64 (i : Nat)) ∧ ∀ j, j < i → mayBag E j = true)
      (n := E.bags.length) ⟨hk, ho1, 0, rfl, Nat.zero_le _, by simp [upd_at, t1], by simp [upd_at], fun j hj => by omega⟩ ?_
    clear t1 t hk ho1 hgood
    rintro m t h' ⟨hk, ho1, i, rfl, hi, t1, t5, hgood⟩
    rcases Nat.lt_or_ge i E.bags.length with hlt | hge
    · obtain ⟨e, g0, lv, xs, rfl, hlv, hxs⟩ := hB.lt hlt
      have e3 := hxs.len
      have gd : E.bags[i]? = some E.bags[i] := List.getElem?_eq_getElem hlt
      have d0 : decide (i < E.bags.length) = true := by simpa using hlt
      have bad : mayBag E i = false → mayB E = false := fun q => by
        unfold mayB
        rw [all_no hlt q, Bool.false_and, Bool.and_false]
      (refine W_seq_gen fun N hN => ?_); simp (disch := omega) only [go_sem, ↓reduceIte, true_and, Nat.reduceLeDiff, Nat.reduceEqDiff, Nat.reduceAdd, Nat.reduceBEq, Int.reduceEq, t1, t5, ho1, hbv.same, hbv.disc, hbv.sl.len, e2, d0]
      refine hN _ ?_; clear hN N
      (refine W_seq_gen fun R hR => ?_)
      rw [W_block]
      (refine W_seq_gen fun N hN => ?_); simp (disch := omega) only [go_sem, ↓reduceIte, true_and, Nat.reduceLeDiff, Nat.reduceEqDiff, Nat.reduceAdd, Nat.reduceBEq, Int.reduceEq, t1, t5, ho1, hbv.same, hbv.disc, hbv.sl.ia, g0, hlv.disc]
      intro o6 h6
      have hO := OB.nil (h := h')
      refine hN _ ?_; clear hN N; refine W_ob (hO.new h6) fun hc hO => ?_
      have hoc := hO.live ho1
      have ho6 := hO.get0
      have hk2 : ∀ x, ¬ h x = none → hc x = h x := fun x hx => (hO.keep x (by rw [hk x hx]; exact hx)).trans (hk x hx)
      clear hO h6
      refine W_forget (fun t => t 1 = .op o 0 ∧ t 5 = .sc (.int .i64 (i : Nat)) ∧ t 6 = .op o6 0 ∧ True) (by simp [upd_at, *] <;> and_intros <;> rfl) ?_; rintro t ⟨t1, t5, t6, -⟩
      have hg : mayBag E i = true → ∀ j, j < i + 1 → mayBag E j = true := fun q j hj => by
        rcases Nat.lt_or_ge j i with w | w
        · exact hgood j w
        · obtain rfl : j = i := by omega
          exact q
      have unf : mayBag E i = (two E.bags[i].k.1 E.bags[i].k.2 && (!decide (E.bags[i].l.length < 1) && (!decide (E.bags[i].l.length > 64) && (!(cutI E.cuts E.bags[i].k.1 E.bags[i].k.2).isSome && (!decide (0 < i) || ahd ((ks E).getD (i - 1) (0, 0)) E.bags[i].k))))) := by unfold mayBag; rw [gd]
      have og := optI_ge (x := cutI E.cuts E.bags[i].k.1 E.bags[i].k.2)
      cases b1 : two E.bags[i].k.1 E.bags[i].k.2 with
      | false =>
        rw [b1] at unf
        simp (disch := omega) only [go_sem, ↓reduceIte, true_and, Nat.reduceLeDiff, Nat.reduceEqDiff, Nat.reduceAdd, Nat.reduceBEq, Int.reduceEq, t5, t6, ho6]
        refine ⟨_, Two_ok H _ _ _, ?_⟩
        rw [contK_some]; simp (disch := omega) only [go_sem, ↓reduceIte, true_and, Nat.reduceLeDiff, Nat.reduceEqDiff, Nat.reduceAdd, Nat.reduceBEq, Int.reduceEq, b1, t5, t6, ho6]
        rw [bad unf]
        exact ⟨rfl, hk2⟩
      | true =>
        rw [b1] at unf
        cases b2 : decide (E.bags[i].l.length < 1) with
        | true =>
          rw [b2] at unf
          simp (disch := omega) only [go_sem, ↓reduceIte, true_and, Nat.reduceLeDiff, Nat.reduceEqDiff, Nat.reduceAdd, Nat.reduceBEq, Int.reduceEq, t5, t6, ho6]
          refine ⟨_, Two_ok H _ _ _, ?_⟩
          rw [contK_some]; simp (disch := omega) only [go_sem, ↓reduceIte, true_and, Nat.reduceLeDiff, Nat.reduceEqDiff, Nat.reduceAdd, Nat.reduceBEq, Int.reduceEq, b1, t5, t6, ho6, hlv.same, hlv.disc, hlv.sl.len, e3, b2]
          rw [bad unf]
          exact ⟨rfl, hk2⟩
        | false =>
          rw [b2] at unf
          cases b3 : decide (E.bags[i].l.length > 64) with
          | true =>
            have b3' : decide (64 < E.bags[i].l.length) = true := b3
            rw [b3] at unf
            simp (disch := omega) only [go_sem, ↓reduceIte, true_and, Nat.reduceLeDiff, Nat.reduceEqDiff, Nat.reduceAdd, Nat.reduceBEq, Int.reduceEq, t5, t6, ho6]
            refine ⟨_, Two_ok H _ _ _, ?_⟩
            rw [contK_some]; simp (disch := omega) only [go_sem, ↓reduceIte, true_and, Nat.reduceLeDiff, Nat.reduceEqDiff, Nat.reduceAdd, Nat.reduceBEq, Int.reduceEq, b1, t5, t6, ho6, hlv.same, hlv.disc, hlv.sl.len, e3, b2, b3']
            rw [bad unf]
            exact ⟨rfl, hk2⟩
          | false =>
            have b3' : decide (64 < E.bags[i].l.length) = false := b3
            rw [b3] at unf
            simp (disch := omega) only [go_sem, ↓reduceIte, true_and, Nat.reduceLeDiff, Nat.reduceEqDiff, Nat.reduceAdd, Nat.reduceBEq, Int.reduceEq, t5, t6, ho6]
            refine ⟨_, Two_ok H _ _ _, ?_⟩
            rw [contK_some]; simp (disch := omega) only [go_sem, ↓reduceIte, true_and, Nat.reduceLeDiff, Nat.reduceEqDiff, Nat.reduceAdd, Nat.reduceBEq, Int.reduceEq, b1, t1, t5, t6, ho6, hoc, hbv.same, hbv.disc, hcv.disc, hlv.same, hlv.disc, hlv.sl.len, e3, b2, b3']
            refine ⟨_, Cut_ok H hbv.disc hcv hC hl2 _ _ _, ?_⟩
            cases b5 : (cutI E.cuts E.bags[i].k.1 E.bags[i].k.2).isSome with
            | true =>
              rw [b5] at unf og
              rw [contK_some]; simp (disch := omega) only [go_sem, ↓reduceIte, true_and, Nat.reduceLeDiff, Nat.reduceEqDiff, Nat.reduceAdd, Nat.reduceBEq, Int.reduceEq, og, t5]
              rw [bad unf]
              exact ⟨rfl, hk2⟩
            | false =>
              rw [b5] at unf og
              by_cases b4 : i = 0
              · have d4 : decide (0 < i) = false := by simp [b4]
                rw [d4] at unf
                rw [contK_some]; simp (disch := omega) only [go_sem, ↓reduceIte, true_and, Nat.reduceLeDiff, Nat.reduceEqDiff, Nat.reduceAdd, Nat.reduceBEq, Int.reduceEq, og, t5, d4]
                refine hR _ ?_; clear hR R
                simp (disch := omega) only [go_sem, ↓reduceIte, true_and, Nat.reduceLeDiff, Nat.reduceEqDiff, Nat.reduceAdd, Nat.reduceBEq, Int.reduceEq, t5, nat_add]
                exact ⟨E.bags.length - (i + 1), by omega, hk2, hoc, i + 1, rfl, by omega, t1, rfl, hg unf⟩
              · have d4 : decide (0 < i) = true := by simp; omega
                rw [d4] at unf
                obtain ⟨e', g1, lv', xs', rfl, hlv', _⟩ := hB.lt (i := i - 1) (by omega)
                have gd1 : (ks E).getD (i - 1) (0, 0) = E.bags[i - 1].k := by
                  unfold ks
                  rw [List.getD_eq_getElem?_getD, List.getElem?_map, List.getElem?_eq_getElem (by omega)]
                  rfl
                rw [gd1] at unf
                have hs1 : ((i : Nat) : Int) - ((1 : Nat) : Int) = ((i - 1 : Nat) : Int) := by omega
                rw [contK_some]; simp (disch := omega) only [go_sem, ↓reduceIte, true_and, Nat.reduceLeDiff, Nat.reduceEqDiff, Nat.reduceAdd, Nat.reduceBEq, Int.reduceEq, og, t1, t5, t6, ho6, hoc, hbv.same, hbv.disc, d4, hs1, hbv.sl.ia, g1]
                refine ⟨_, ahead_ok H _ _ _ _ _, ?_⟩
                have q : ahd (E.bags[i - 1].k.1, E.bags[i - 1].k.2) (E.bags[i].k.1, E.bags[i].k.2) = ahd E.bags[i - 1].k E.bags[i].k := rfl
                cases b5 : ahd E.bags[i - 1].k E.bags[i].k with
                | false =>
                  rw [b5] at unf q
                  rw [contK_some]; simp (disch := omega) only [go_sem, ↓reduceIte, true_and, Nat.reduceLeDiff, Nat.reduceEqDiff, Nat.reduceAdd, Nat.reduceBEq, Int.reduceEq, q]
                  rw [bad unf]
                  exact ⟨rfl, hk2⟩
                | true =>
                  rw [b5] at unf q
                  rw [contK_some]; simp (disch := omega) only [go_sem, ↓reduceIte, true_and, Nat.reduceLeDiff, Nat.reduceEqDiff, Nat.reduceAdd, Nat.reduceBEq, Int.reduceEq, q]
                  refine hR _ ?_; clear hR R
                  simp (disch := omega) only [go_sem, ↓reduceIte, true_and, Nat.reduceLeDiff, Nat.reduceEqDiff, Nat.reduceAdd, Nat.reduceBEq, Int.reduceEq, t5, nat_add]
                  exact ⟨E.bags.length - (i + 1), by omega, hk2, hoc, i + 1, rfl, by omega, t1, rfl, hg unf⟩
    · obtain rfl : i = E.bags.length := by omega
      (refine W_seq_gen fun N hN => ?_); simp (disch := omega) only [go_sem, ↓reduceIte, true_and, Nat.reduceLeDiff, Nat.reduceEqDiff, Nat.reduceAdd, Nat.reduceBEq, Int.reduceEq, t1, t5, ho1, hbv.same, hbv.disc, hbv.sl.len, e2, Nat.lt_irrefl]
      refine hM _ ?_; clear hN N hM M
      simp (disch := omega) only [go_sem, ↓reduceIte, true_and, Nat.reduceLeDiff, Nat.reduceEqDiff, Nat.reduceAdd, Nat.reduceBEq, Int.reduceEq, t1, ho1, hbv.same, hbv.disc, hbv.sl.len, e2]
      have : mayB E = decide (E.bags.length ≤ 1024) := by unfold mayB; rw [hcok, all_lt hgood]; rfl
      rw [this]
      exact ⟨rfl, hk⟩
end Go.Proofs.Ytomfknocpijmbaa
end
section
set_option linter.unusedVariables false
set_option linter.unusedSimpArgs false
namespace Go.Proofs.Ytomfknocpijmbaa
open Go.Am
def LightB (b : Bg) : Prop := b.l.length ≤ 70 ∧ ∀ x ∈ b.l, x.1.length ≤ 5000
def LightP (E : Eth) : Prop := E.bags.length ≤ 40 ∧ E.cuts.length ≤ 60 ∧ ∀ b ∈ E.bags, LightB b
def LightR (r : AV) (E : Eth) : Prop := ∃ b, r = .sc (.bool b) ∧ (b = true → LightP E)
variable {P : Program} (H : Has P)
include H
set_option maxHeartbeats 1000000 in
theorem light_ok {bv cv : AV} {E : Eth} {bes ces : List (List AV)} (hbv : SF 3 bv bes) (hB : RR BgR bes E.bags) (hcv : SF 2 cv ces) (hC : RR CK ces E.cuts) (h : Heap) :
    AWF P ann 0 7 [.ag [bv, cv]] h fun r h' => LightR r E ∧ h' = h := by
  refine AWF.fnPurec H.f0_7 rfl ?_
  have e1 := hC.len
  have e2 := hB.len
  (refine W_seq_gen fun N hN => ?_); simp (disch := omega) only [go_sem, ↓reduceIte, true_and, Nat.reduceLeDiff, Nat.reduceEqDiff, Nat.reduceAdd, Nat.reduceBEq, Int.reduceEq, hbv.disc, hcv.disc]
  intro o ho
  have hO := OB.nil (h := h)
  refine hN _ ?_; clear hN N; refine W_ob (hO.new ho) fun hc hO => ?_
  have ho1 := hO.get0
  have hk := hO.keep
  refine W_forget (fun t => t 1 = .op o 0 ∧ True) (by simp [upd_at, *] <;> and_intros <;> rfl) ?_; rintro t ⟨t1, -⟩
  clear hO
  (refine W_seq_gen fun N hN => ?_); simp (disch := omega) only [go_sem, ↓reduceIte, true_and, Nat.reduceLeDiff, Nat.reduceEqDiff, Nat.reduceAdd, Nat.reduceBEq, Int.reduceEq]
  refine hN _ ?_; clear hN N
  refine W_forget (fun t => t 1 = .op o 0 ∧ t 3 = .sc (.int .i64 ((0 : Nat) : Int)) ∧ True) (by simp [upd_at, *] <;> and_intros <;> rfl) ?_; rintro t ⟨t1, t3, -⟩
  (refine W_seq_gen fun M hM => ?_)
  (refine W_seq_gen fun N hN => ?_); simp (disch := omega) only [go_sem, ↓reduceIte, true_and, Nat.reduceLeDiff, Nat.reduceEqDiff, Nat.reduceAdd, Nat.reduceBEq, Int.reduceEq]
  refine hN _ ?_; clear hN N
  simp (disch := omega) only [go_sem, ↓reduceIte, true_and, Nat.reduceLeDiff, Nat.reduceEqDiff, Nat.reduceAdd, Nat.reduceBEq, Int.reduceEq]
  refine AW_loopN (fun m t h' => h' = hc ∧ ∃ i n, m = E.bags.length - i ∧ i ≤ E.bags.length ∧ t 1 = .op o 0 ∧ t 3 = .sc (.int .i64 (n : Nat)) ∧ n ≤ 5000 ∧ t 4 = .sc (.int .i64 (i : Nat)) ∧ ∀ j (hj : j < E.bags.length), j < i → LightB E.bags[j])
    (n := E.bags.length) ⟨rfl, 0, 0, rfl, Nat.zero_le _, by simp [upd_at, t1], by simp [upd_at, t3], by omega, by simp [upd_at], fun j _ hj => by omega⟩ ?_
  clear t1 t3 t ho
  rintro m t h' ⟨rfl, i, n, rfl, hi, t1, t3, hn, t4, hgood⟩
  have fin : ¬ (i < E.bags.length ∧ i < 40) → i ≤ E.bags.length → (decide (E.bags.length ≤ 40) && decide (E.cuts.length ≤ 60)) = true → LightP E := by
    intro h1 h2 h3
    simp only [Bool.and_eq_true, decide_eq_true_eq] at h3
    refine ⟨h3.1, h3.2, fun b hb => ?_⟩
    obtain ⟨j, hj, rfl⟩ := List.getElem_of_mem hb
    exact hgood j hj (by omega)
  by_cases hc : i < E.bags.length ∧ i < 40
  · obtain ⟨hlt, h40⟩ := hc
    obtain ⟨e, g0, lv, xs, rfl, hlv, hxs⟩ := hB.lt hlt
    have e3 := hxs.len
    have d0 : decide (i < E.bags.length) = true := by simpa using hlt
    have d1 : decide (i < 40) = true := by simpa using h40
    (refine W_seq_gen fun N hN => ?_); simp (disch := omega) only [go_sem, ↓reduceIte, true_and, Nat.reduceLeDiff, Nat.reduceEqDiff, Nat.reduceAdd, Nat.reduceBEq, Int.reduceEq, t1, t4, ho1, hbv.same, hbv.disc, hbv.sl.len, e2, d0, d1]
    refine hN _ ?_; clear hN N
    (refine W_seq_gen fun R hR => ?_)
    rw [W_block]
    refine W_forget (fun t => t 1 = .op o 0 ∧ t 3 = .sc (.int .i64 (n : Nat)) ∧ t 4 = .sc (.int .i64 (i : Nat)) ∧ True) (by simp [upd_at, *] <;> and_intros <;> rfl) ?_; rintro t ⟨t1, t3, t4, -⟩
    by_cases c70 : E.bags[i].l.length ≤ 70
    · have d70 : decide (70 < E.bags[i].l.length) = false := by simp; omega
      (refine W_seq_gen fun N hN => ?_); simp (disch := omega) only [go_sem, ↓reduceIte, true_and, Nat.reduceLeDiff, Nat.reduceEqDiff, Nat.reduceAdd, Nat.reduceBEq, Int.reduceEq, t1, t4, ho1, hbv.same, hbv.disc, hbv.sl.ia, g0, hlv.same, hlv.disc, hlv.sl.len, e3, d70]
      refine hN _ ?_; clear hN N
      refine W_forget (fun t => t 1 = .op o 0 ∧ t 3 = .sc (.int .i64 (n : Nat)) ∧ t 4 = .sc (.int .i64 (i : Nat)) ∧ True) (by simp [upd_at, *] <;> and_intros <;> rfl) ?_; rintro t ⟨t1, t3, t4, -⟩
      (refine W_seq_gen fun N hN => ?_); simp (disch := omega) only [go_sem, ↓reduceIte, true_and, Nat.reduceLeDiff, Nat.reduceEqDiff, Nat.reduceAdd, Nat.reduceBEq, Int.reduceEq]
      refine hN _ ?_; clear hN N
      refine W_forget (fun t => t 1 = .op o 0 ∧ t 3 = .sc (.int .i64 (n : Nat)) ∧ t 4 = .sc (.int .i64 (i : Nat)) ∧ t 5 = .sc (.int .i64 ((0 : Nat) : Int)) ∧ True) (by simp [upd_at, *] <;> and_intros <;> rfl) ?_; rintro t ⟨t1, t3, t4, t5, -⟩
      simp (disch := omega) only [go_sem, ↓reduceIte, true_and, Nat.reduceLeDiff, Nat.reduceEqDiff, Nat.reduceAdd, Nat.reduceBEq, Int.reduceEq]
      refine AW_loopN (fun m t h2 => h2 = h' ∧ ∃ k n, m = E.bags[i].l.length - k ∧ k ≤ E.bags[i].l.length ∧ t 1 = .op o 0 ∧ t 3 = .sc (.int .i64 (n : Nat)) ∧ n ≤ 5000 ∧ t 4 = .sc (.int .i64 (i : Nat)) ∧ t 5 = .sc (.int .i64 (k : Nat)) ∧ ∀ j (hj : j < E.bags[i].l.length), j < k → (E.bags[i].l[j]).1.length ≤ 5000)
        (n := E.bags[i].l.length) ⟨rfl, 0, n, rfl, Nat.zero_le _, t1, t3, hn, t4, t5, fun j _ hj => by omega⟩ ?_
      clear t1 t3 t4 t5 t hn
      rintro m t h2 ⟨rfl, k, n, rfl, hk2, t1, t3, hn, t4, t5, hg2⟩
      rcases Nat.lt_or_ge k E.bags[i].l.length with hkl | hkg
      · obtain ⟨f, g1, w, rfl, hw⟩ := hxs.lt hkl
        have dk : decide (k < E.bags[i].l.length) = true := by simpa using hkl
        have hs1 : ((5000 : Nat) : Int) - ((n : Nat) : Int) = ((5000 - n : Nat) : Int) := by omega
        have ew := @u8s_len (E.bags[i].l[k]).1
        (refine W_seq_gen fun N hN => ?_); simp (disch := omega) only [go_sem, ↓reduceIte, true_and, Nat.reduceLeDiff, Nat.reduceEqDiff, Nat.reduceAdd, Nat.reduceBEq, Int.reduceEq, t1, t4, t5, ho1, hbv.same, hbv.disc, hbv.sl.ia, g0, hlv.same, hlv.disc, hlv.sl.len, e3, dk]
        refine hN _ ?_; clear hN N
        (refine W_seq_gen fun R2 hR2 => ?_)
        rw [W_block]
        by_cases cb : (E.bags[i].l[k]).1.length ≤ 5000 - n
        · have db : decide (5000 - n < (E.bags[i].l[k]).1.length) = false := by simp; omega
          (refine W_seq_gen fun N hN => ?_); simp (disch := omega) only [go_sem, ↓reduceIte, true_and, Nat.reduceLeDiff, Nat.reduceEqDiff, Nat.reduceAdd, Nat.reduceBEq, Int.reduceEq, t1, t3, t4, t5, ho1, hbv.same, hbv.disc, hbv.sl.ia, g0, hlv.same, hlv.disc, hlv.sl.ia, g1, hw.same, hw.disc, hw.sl.len, ew, hs1, db]
          refine hN _ ?_; clear hN N
          simp (disch := omega) only [go_sem, ↓reduceIte, true_and, Nat.reduceLeDiff, Nat.reduceEqDiff, Nat.reduceAdd, Nat.reduceBEq, Int.reduceEq, t1, t3, t4, t5, ho1, hbv.same, hbv.disc, hbv.sl.ia, g0, hlv.same, hlv.disc, hlv.sl.ia, g1, hw.same, hw.disc, hw.sl.len, ew, nat_add]
          refine hR2 _ ?_; clear hR2 R2
          simp (disch := omega) only [go_sem, ↓reduceIte, true_and, Nat.reduceLeDiff, Nat.reduceEqDiff, Nat.reduceAdd, Nat.reduceBEq, Int.reduceEq, t5, nat_add]
          exact ⟨E.bags[i].l.length - (k + 1), by omega, k + 1, n + (E.bags[i].l[k]).1.length, rfl, by omega, t1, rfl, by omega, t4, rfl, fun j hj hjk => by
            rcases Nat.lt_or_ge j k with w | w
            · exact hg2 j hj w
            · obtain rfl : j = k := by omega
              omega⟩
        · have db : decide (5000 - n < (E.bags[i].l[k]).1.length) = true := by simp; omega
          simp (disch := omega) only [go_sem, ↓reduceIte, true_and, Nat.reduceLeDiff, Nat.reduceEqDiff, Nat.reduceAdd, Nat.reduceBEq, Int.reduceEq, t1, t3, t4, t5, ho1, hbv.same, hbv.disc, hbv.sl.ia, g0, hlv.same, hlv.disc, hlv.sl.ia, g1, hw.same, hw.disc, hw.sl.len, ew, hs1, db]
          exact ⟨⟨false, rfl, fun h => by cases h⟩, hk⟩
      · obtain rfl : k = E.bags[i].l.length := by omega
        (refine W_seq_gen fun N hN => ?_); simp (disch := omega) only [go_sem, ↓reduceIte, true_and, Nat.reduceLeDiff, Nat.reduceEqDiff, Nat.reduceAdd, Nat.reduceBEq, Int.reduceEq, t1, t4, t5, ho1, hbv.same, hbv.disc, hbv.sl.ia, g0, hlv.same, hlv.disc, hlv.sl.len, e3, Nat.lt_irrefl]
        refine hR _ ?_; clear hN N hR R
        simp (disch := omega) only [go_sem, ↓reduceIte, true_and, Nat.reduceLeDiff, Nat.reduceEqDiff, Nat.reduceAdd, Nat.reduceBEq, Int.reduceEq, t4, nat_add]
        exact ⟨E.bags.length - (i + 1), by omega, i + 1, n, rfl, by omega, t1, t3, hn, rfl, fun j hj hji => by
          rcases Nat.lt_or_ge j i with w | w
          · exact hgood j hj w
          · obtain rfl : j = i := by omega
            refine ⟨c70, fun x hx => ?_⟩
            obtain ⟨q, hq, rfl⟩ := List.getElem_of_mem hx
            exact hg2 q hq hq⟩
    · have d70 : decide (70 < E.bags[i].l.length) = true := by simp; omega
      simp (disch := omega) only [go_sem, ↓reduceIte, true_and, Nat.reduceLeDiff, Nat.reduceEqDiff, Nat.reduceAdd, Nat.reduceBEq, Int.reduceEq, t1, t4, ho1, hbv.same, hbv.disc, hbv.sl.ia, g0, hlv.same, hlv.disc, hlv.sl.len, e3, d70]
      exact ⟨⟨false, rfl, fun h => by cases h⟩, hk⟩
  · by_cases hlt : i < E.bags.length
    · have d0 : decide (i < E.bags.length) = true := by simpa using hlt
      have d1 : decide (i < 40) = false := by simp; omega
      (refine W_seq_gen fun N hN => ?_); simp (disch := omega) only [go_sem, ↓reduceIte, true_and, Nat.reduceLeDiff, Nat.reduceEqDiff, Nat.reduceAdd, Nat.reduceBEq, Int.reduceEq, t1, t4, ho1, hbv.same, hbv.disc, hbv.sl.len, e2, d0, d1]
      refine hM _ ?_; clear hN N hM M
      cases q1 : decide (E.bags.length ≤ 40) with
      | true =>
        simp (disch := omega) only [go_sem, ↓reduceIte, true_and, Nat.reduceLeDiff, Nat.reduceEqDiff, Nat.reduceAdd, Nat.reduceBEq, Int.reduceEq, t1, ho1, hbv.same, hbv.disc, hbv.sl.len, e2, q1, hcv.same, hcv.disc, hcv.sl.len, e1]
        exact ⟨⟨_, rfl, fun h => fin hc hi (by rw [q1, h]; rfl)⟩, hk⟩
      | false =>
        simp (disch := omega) only [go_sem, ↓reduceIte, true_and, Nat.reduceLeDiff, Nat.reduceEqDiff, Nat.reduceAdd, Nat.reduceBEq, Int.reduceEq, t1, ho1, hbv.same, hbv.disc, hbv.sl.len, e2, q1, hcv.same, hcv.disc, hcv.sl.len, e1]
        exact ⟨⟨false, rfl, fun h => by cases h⟩, hk⟩
    · have d0 : decide (i < E.bags.length) = false := by simpa using hlt
      (refine W_seq_gen fun N hN => ?_); simp (disch := omega) only [go_sem, ↓reduceIte, true_and, Nat.reduceLeDiff, Nat.reduceEqDiff, Nat.reduceAdd, Nat.reduceBEq, Int.reduceEq, t1, t4, ho1, hbv.same, hbv.disc, hbv.sl.len, e2, d0]
      refine hM _ ?_; clear hN N hM M
      cases q1 : decide (E.bags.length ≤ 40) with
      | true =>
        simp (disch := omega) only [go_sem, ↓reduceIte, true_and, Nat.reduceLeDiff, Nat.reduceEqDiff, Nat.reduceAdd, Nat.reduceBEq, Int.reduceEq, t1, ho1, hbv.same, hbv.disc, hbv.sl.len, e2, q1, hcv.same, hcv.disc, hcv.sl.len, e1]
        exact ⟨⟨_, rfl, fun h => fin hc hi (by rw [q1, h]; rfl)⟩, hk⟩
      | false =>
        simp (disch := omega) only [go_sem, ↓reduceIte, true_and, Nat.reduceLeDiff, Nat.reduceEqDiff, Nat.reduceAdd, Nat.reduceBEq, Int.reduceEq, t1, ho1, hbv.same, hbv.disc, hbv.sl.len, e2, q1, hcv.same, hcv.disc, hcv.sl.len, e1]
        exact ⟨⟨false, rfl, fun h => by cases h⟩, hk⟩
end Go.Proofs.Ytomfknocpijmbaa
end
