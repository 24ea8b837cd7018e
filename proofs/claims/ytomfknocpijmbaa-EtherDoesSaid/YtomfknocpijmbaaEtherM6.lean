/- Good ethers; the reference sets a bag, puts a parcel; the number. -/
import Derived.Test.YtomfknocpijmbaaEtherM5
import Derived.Test.YtomfknocpijmbaaEtherM1
section
set_option linter.unusedVariables false
set_option linter.unusedSimpArgs false
namespace Go.Proofs.Ytomfknocpijmbaa
open Go.Am
theorem srt_iff {l : List (Int × Int)} : Srt l ↔ l.Pairwise fun a b => ahd a b = true := by
 rw [List.pairwise_iff_getElem]
 exact ⟨fun h i j hi hj hij => h i j hi hj hij, fun h i j hi hj hij => h i j hi hj hij⟩
theorem ix_get {l : List (Int × Int)} {p : Int × Int} (hs : Srt l) {n : Nat} (hn : l[n]? = some p) : ix l p = n := by
 obtain ⟨hl, rfl⟩ := List.getElem?_eq_some_iff.1 hn
 exact ix_spec (by omega) (fun j hj hjn => hs j n hj hl hjn) fun _ => ahd_irr _
theorem at_mem {l : List (Int × Int)} {p : Int × Int} (hs : Srt l) : l[ix l p]? = some p ↔ p ∈ l := by
 constructor
 ·exact List.mem_of_getElem?
 ·intro h
  obtain ⟨n, hn⟩ := List.mem_iff_getElem?.1 h
  rw [ix_get hs hn]
  exact hn
theorem mem_tw {α : Type} {f : α → Bool} {a : α} : ∀ {l : List α}, a ∈ l.takeWhile f → f a = true
 | [], h => by simp at h
 | b :: l, h => by
  by_cases c : f b = true
  ·rw [List.takeWhile_cons, if_pos c] at h
   rcases List.mem_cons.1 h with rfl | h
   ·exact c
   ·exact mem_tw h
  ·rw [List.takeWhile_cons, if_neg c] at h
   simp at h
theorem ix_before {l : List (Int × Int)} {p : Int × Int} {j : Nat} (hj : j < l.length) (h : j < ix l p) : ahd l[j] p = true := by
 have h1 : l[j] ∈ l.takeWhile (ahd · p) := by
  have hp : l.takeWhile (ahd · p) <+: l := List.takeWhile_prefix _
  have := hp.getElem (i := j) h
  rw [← this]
  exact List.getElem_mem h
 exact mem_tw (f := fun x => ahd x p) h1
theorem ix_at {l : List (Int × Int)} {p : Int × Int} (h : ix l p < l.length) : ahd l[ix l p] p = false := by
 unfold ix at *
 induction l with
 | nil => simp at h
 | cons a l ih =>
  by_cases c : ahd a p = true
  ·simp only [List.takeWhile_cons, c, if_true, List.length_cons, List.getElem_cons_succ] at h ⊢
   exact ih (by omega)
  ·simp only [List.takeWhile_cons, c, Bool.false_eq_true, if_false, List.length_nil, List.getElem_cons_zero]
theorem ix_behind {l : List (Int × Int)} {p : Int × Int} (hs : Srt l) (hp : p ∉ l) {j : Nat} (hj : j < l.length) (h : ix l p ≤ j) : ahd p l[j] = true := by
 have h0 : ix l p < l.length := by omega
 have h1 := ix_at h0
 have h2 : ahd p l[ix l p] = true := by
  cases q : ahd p l[ix l p] with
  | true => rfl
  | false => exact absurd (by rw [← ahd_total h1 q]; exact List.getElem_mem h0) hp
 rcases Nat.lt_or_ge (ix l p) j with w | w
 ·exact ahd_trans h2 (hs _ _ h0 hj w)
 ·have : j = ix l p := by omega
  subst this
  exact h2
theorem srt_ins {l : List (Int × Int)} {p : Int × Int} (hs : Srt l) (hp : p ∉ l) : Srt (l.take (ix l p) ++ p :: l.drop (ix l p)) := by
 have hp2 := srt_iff.1 hs
 rw [srt_iff, List.pairwise_append]
 refine ⟨hp2.sublist (List.take_sublist _ _), List.pairwise_cons.2 ⟨fun b hb => ?_, hp2.sublist (List.drop_sublist _ _)⟩, fun a ha b hb => ?_⟩
 ·obtain ⟨i, hi, rfl⟩ := List.mem_iff_getElem.1 hb
  rw [List.getElem_drop]
  exact ix_behind hs hp _ (by omega)
 ·have hap : ahd a p = true := by
   obtain ⟨i, hi, rfl⟩ := List.mem_iff_getElem.1 ha
   rw [List.getElem_take]
   rw [List.length_take] at hi
   exact ix_before _ (by omega)
  rcases List.mem_cons.1 hb with rfl | hb
  ·exact hap
  ·obtain ⟨i, hi, rfl⟩ := List.mem_iff_getElem.1 hb
   rw [List.getElem_drop]
   exact ahd_trans hap (ix_behind hs hp _ (by omega))
structure Good (E : Eth) : Prop where
 cs : Srt E.cuts
 cb : ∀ c ∈ E.cuts, two c.1 c.2 = true ∧ c.1 ≤ c.2
 bs : Srt (ks E)
 bb : ∀ b ∈ E.bags, two b.k.1 b.k.2 = true ∧ mm b.k ∉ E.cuts ∧ 1 ≤ b.l.length ∧ b.l.length ≤ 64
 n : E.bags.length ≤ 1024
theorem cut_mem {l : List (Int × Int)} {p : Int × Int} (hs : Srt l) : cutAt l p = decide (p ∈ l) := by
 unfold cutAt
 rw [decide_eq_decide]
 exact at_mem hs
theorem cuts_ok {l : List (Int × Int)} : cutsOk l = true ↔ Srt l ∧ ∀ c ∈ l, two c.1 c.2 = true ∧ c.1 ≤ c.2 := by
 constructor
 ·intro h
  refine ⟨srt_cuts h, fun c hc => ?_⟩
  obtain ⟨i, hi, rfl⟩ := List.mem_iff_getElem.1 hc
  have := List.all_eq_true.1 h i (List.mem_range.2 hi)
  unfold cutOk at this
  simp only [List.getD_eq_getElem?_getD, List.getElem?_eq_getElem hi, Option.getD_some, Bool.and_eq_true, Bool.not_eq_true', decide_eq_false_iff_not] at this
  exact ⟨this.1, by have := this.2.1; omega⟩
 ·rintro ⟨hs, hb⟩
  refine all_lt fun i hi => ?_
  have hc := hb _ (List.getElem_mem hi)
  unfold cutOk
  simp only [List.getD_eq_getElem?_getD, List.getElem?_eq_getElem hi, Option.getD_some, Bool.and_eq_true, Bool.not_eq_true', decide_eq_false_iff_not, Bool.or_eq_true]
  refine ⟨hc.1, by have := hc.2; omega, ?_⟩
  by_cases h0 : 0 < i
  ·right
   rw [List.getElem?_eq_getElem (show i - 1 < l.length by omega)]
   exact hs _ _ _ hi (by omega)
  ·left; exact h0
theorem ks_get {E : Eth} {i : Nat} (hi : i < E.bags.length) : (ks E)[i]? = some E.bags[i].k := by
 unfold ks
 rw [List.getElem?_map, List.getElem?_eq_getElem hi]
 rfl
theorem check_good {E : Eth} : checkB E = true ↔ Good E := by
 constructor
 ·intro h
  obtain ⟨c1, c2⟩ := cuts_ok.1 (cuts_of h)
  refine ⟨c1, c2, srt_bags h, fun b hb => ?_, le_1024 h⟩
  obtain ⟨i, hi, rfl⟩ := List.mem_iff_getElem.1 hb
  obtain ⟨_, a2, a3, a4, a5, _⟩ := bag_of2 h hi
  rw [cut_mem c1] at a3
  exact ⟨a2, of_decide_eq_false a3, by omega, by omega⟩
 ·intro G
  unfold checkB
  rw [Bool.and_eq_true]
  refine ⟨cuts_ok.2 ⟨G.cs, G.cb⟩, all_lt fun i hi => ?_⟩
  obtain ⟨a1, a2, a3, a4⟩ := G.bb _ (List.getElem_mem hi)
  have hn := G.n
  unfold bagOk
  rw [List.getElem?_eq_getElem hi]
  simp only [cut_mem G.cs, decide_eq_false a2, Bool.and_eq_true, Bool.or_eq_true, Bool.not_eq_true', decide_eq_false_iff_not, Bool.not_false, true_and]
  refine ⟨by omega, a1, by omega, by omega, ?_⟩
  by_cases h0 : 0 < i
  ·right
   have := G.bs (i - 1) i (by rw [ks_len]; omega) (by rw [ks_len]; exact hi) (by omega)
   rw [List.getD_eq_getElem?_getD, List.getElem?_eq_getElem (show i - 1 < (ks E).length by rw [ks_len]; omega)]
   have e : (ks E)[i]'(by rw [ks_len]; exact hi) = E.bags[i].k := by
    have := ks_get hi
    rw [List.getElem?_eq_getElem (show i < (ks E).length by rw [ks_len]; exact hi)] at this
    exact Option.some.inj this
   rw [e] at this
   exact this
  ·left; exact h0
theorem mt_iff {a b : Int} {c : Int × Int} (hc : c.1 ≤ c.2) : mt a b c = decide (c = mm (a, b)) := by
 obtain ⟨c1, c2⟩ := c
 unfold mt mm
 simp only at hc ⊢
 rw [Bool.eq_iff_iff]
 simp only [Bool.or_eq_true, Bool.and_eq_true, beq_iff_eq, decide_eq_true_eq, Prod.mk.injEq]
 omega
theorem cutI_some {l : List (Int × Int)} {a b : Int} (hs : Srt l) (hb : ∀ c ∈ l, two c.1 c.2 = true ∧ c.1 ≤ c.2) : cutI l a b = if mm (a, b) ∈ l then some (ix l (mm (a, b))) else none := by
 by_cases h : mm (a, b) ∈ l
 ·rw [if_pos h]
  have h1 := (at_mem hs).2 h
  obtain ⟨hl, he⟩ := List.getElem?_eq_some_iff.1 h1
  refine find_at hl ?_ fun j hj hji => ?_
  ·rw [mt_iff (hb _ (List.getElem_mem hl)).2, he]
   simp
  ·rw [mt_iff (hb _ (List.getElem_mem hj)).2, decide_eq_false]
   intro q
   have := hs j _ hj hl hji
   rw [he, q, ahd_irr] at this
   cases this
 ·rw [if_neg h]
  refine find_no fun j hj _ => ?_
  rw [mt_iff (hb _ (List.getElem_mem hj)).2, decide_eq_false]
  intro q
  exact h (by rw [← q]; exact List.getElem_mem hj)
theorem bagI_some {l : List (Int × Int)} {p : Int × Int} (hs : Srt l) : bagI l p = if p ∈ l then some (ix l p) else none := by
 have key : ∀ c : Int × Int, (c.1 == p.1 && c.2 == p.2) = decide (c = p) := fun c => by
  obtain ⟨c1, c2⟩ := c
  obtain ⟨p1, p2⟩ := p
  rw [Bool.eq_iff_iff]
  simp
 by_cases h : p ∈ l
 ·rw [if_pos h]
  have h1 := (at_mem hs).2 h
  obtain ⟨hl, he⟩ := List.getElem?_eq_some_iff.1 h1
  refine find_at hl ?_ fun j hj hji => ?_
  ·rw [key, he]; simp
  ·rw [key, decide_eq_false]
   intro q
   have := hs j _ hj hl hji
   rw [he, q, ahd_irr] at this
   cases this
 ·rw [if_neg h]
  refine find_no fun j hj _ => ?_
  rw [key, decide_eq_false]
  intro q
  exact h (by rw [← q]; exact List.getElem_mem hj)
theorem may_good {E : Eth} : mayB E = true ↔ Good E := by
 constructor
 ·intro h
  unfold mayB at h
  rw [Bool.and_eq_true, Bool.and_eq_true] at h
  obtain ⟨h1, h2, h3⟩ := h
  obtain ⟨c1, c2⟩ := cuts_ok.1 h1
  have key : ∀ i (hi : i < E.bags.length), two E.bags[i].k.1 E.bags[i].k.2 = true ∧ ¬ E.bags[i].l.length < 1 ∧ ¬ E.bags[i].l.length > 64 ∧ mm E.bags[i].k ∉ E.cuts ∧ (0 < i → ahd ((ks E).getD (i - 1) (0, 0)) E.bags[i].k = true) := fun i hi => by
   have := List.all_eq_true.1 h2 i (List.mem_range.2 hi)
   unfold mayBag at this
   rw [List.getElem?_eq_getElem hi] at this
   simp only [Bool.and_eq_true, Bool.or_eq_true, Bool.not_eq_true', decide_eq_false_iff_not] at this
   obtain ⟨a1, a2, a3, a4, a5⟩ := this
   refine ⟨a1, a2, a3, fun q => ?_, fun h0 => ?_⟩
   ·rw [cutI_some c1 c2, if_pos q] at a4
    cases a4
   ·rcases a5 with a5 | a5
    ·exact absurd h0 a5
    ·exact a5
  refine ⟨c1, c2, srt_of fun i h0 hi => ?_, fun b hb => ?_, of_decide_eq_true h3⟩
  ·rw [ks_len] at hi
   have := (key i hi).2.2.2.2 h0
   rw [List.getD_eq_getElem?_getD (l := ks E) (i := i), ks_get hi]
   exact this
  ·obtain ⟨i, hi, rfl⟩ := List.mem_iff_getElem.1 hb
   obtain ⟨a1, a2, a3, a4, _⟩ := key i hi
   exact ⟨a1, a4, by omega, by omega⟩
 ·intro G
  unfold mayB
  rw [Bool.and_eq_true, Bool.and_eq_true]
  refine ⟨cuts_ok.2 ⟨G.cs, G.cb⟩, all_lt fun i hi => ?_, decide_eq_true G.n⟩
  obtain ⟨a1, a2, a3, a4⟩ := G.bb _ (List.getElem_mem hi)
  unfold mayBag
  rw [List.getElem?_eq_getElem hi]
  have e : cutI E.cuts E.bags[i].k.1 E.bags[i].k.2 = none := by rw [cutI_some G.cs G.cb, if_neg a2]
  simp only [e, Option.isSome_none, Bool.and_eq_true, Bool.or_eq_true, Bool.not_eq_true', decide_eq_false_iff_not, Bool.not_false, true_and]
  refine ⟨a1, by omega, by omega, ?_⟩
  by_cases h0 : 0 < i
  ·right
   have := G.bs (i - 1) i (by rw [ks_len]; omega) (by rw [ks_len]; exact hi) (by omega)
   rw [List.getD_eq_getElem?_getD, List.getElem?_eq_getElem (show i - 1 < (ks E).length by rw [ks_len]; omega)]
   have e : (ks E)[i]'(by rw [ks_len]; exact hi) = E.bags[i].k := by
    have := ks_get hi
    rw [List.getElem?_eq_getElem (show i < (ks E).length by rw [ks_len]; exact hi)] at this
    exact Option.some.inj this
   rw [e] at this
   exact this
  ·left; exact h0
theorem may_check {E : Eth} : mayB E = checkB E := by
 rw [Bool.eq_iff_iff, may_good, check_good]
theorem ks_modL {E : Eth} {j : Nat} {f : List Pcl → List Pcl} : ks (modL E j f) = ks E := by
 unfold ks modL
 apply List.ext_getElem?
 intro i
 simp only [List.getElem?_map, List.getElem?_modify]
 cases E.bags[i]? with
 | none => rfl
 | some b => by_cases c : j = i <;> simp [c]
theorem mem_modL {E : Eth} {j : Nat} {f : List Pcl → List Pcl} {b : Bg} (h : b ∈ (modL E j f).bags) : b ∈ E.bags ∨ ∃ c, E.bags[j]? = some c ∧ b = ⟨c.k, f c.l⟩ := by
 obtain ⟨i, hi⟩ := List.mem_iff_getElem?.1 h
 unfold modL at hi
 simp only [List.getElem?_modify] at hi
 cases hq : E.bags[i]? with
 | none => rw [hq] at hi; cases hi
 | some c =>
  rw [hq] at hi
  by_cases w : j = i
  ·subst w
   simp only [if_true, Option.map_eq_map, Option.map_some, Option.some.injEq] at hi
   exact .inr ⟨c, hq, hi.symm⟩
  ·have : b = c := by simpa [w] using hi.symm
   subst this
   exact .inl (List.mem_of_getElem? hq)
theorem good_mod {E : Eth} {j : Nat} {f : List Pcl → List Pcl} (G : Good E) (hf : ∀ b, E.bags[j]? = some b → 1 ≤ (f b.l).length ∧ (f b.l).length ≤ 64) : Good (modL E j f) where
 cs := G.cs
 cb := G.cb
 bs := by rw [ks_modL]; exact G.bs
 bb := fun b hb => by
  rcases mem_modL hb with q | ⟨c, hc, rfl⟩
  ·exact G.bb b q
  ·obtain ⟨a1, a2, _, _⟩ := G.bb c (List.mem_of_getElem? hc)
   obtain ⟨b1, b2⟩ := hf c hc
   exact ⟨a1, a2, b1, b2⟩
 n := by
  have := G.n
  simpa [modL] using this
theorem good_sub {E E' : Eth} (G : Good E) (h1 : E'.bags.Sublist E.bags) (h2 : E'.cuts.Sublist E.cuts) : Good E' where
 cs := srt_iff.2 ((srt_iff.1 G.cs).sublist h2)
 cb := fun c hc => G.cb c (h2.subset hc)
 bs := srt_iff.2 ((srt_iff.1 G.bs).sublist (h1.map _))
 bb := fun b hb => by
  obtain ⟨a1, a2, a3, a4⟩ := G.bb b (h1.subset hb)
  exact ⟨a1, fun q => a2 (h2.subset q), a3, a4⟩
 n := Nat.le_trans h1.length_le G.n
theorem btw_mm {a b : Int} {k : Int × Int} : btw a b k = decide (mm k = mm (a, b)) := by
 obtain ⟨k1, k2⟩ := k
 unfold btw mm
 rw [Bool.eq_iff_iff]
 simp only [Bool.or_eq_true, Bool.and_eq_true, beq_iff_eq, decide_eq_true_eq, Prod.mk.injEq]
 omega
theorem good_cut {E : Eth} {a b : Int} (G : Good E) (ht : two a b = true) : Good (dropP (if cutAt E.cuts (mm (a, b)) then E else insCut E (mm (a, b))) a b) := by
 have sub : (E.bags.filter fun x => !btw a b x.k).Sublist E.bags := List.filter_sublist
 rw [cut_mem G.cs]
 by_cases hc : mm (a, b) ∈ E.cuts
 ·rw [if_pos (by simpa using hc)]
  exact good_sub G sub (List.Sublist.refl _)
 ·rw [if_neg (by simpa using hc)]
  refine ⟨srt_ins G.cs hc, fun c hcm => ?_, srt_iff.2 ((srt_iff.1 G.bs).sublist (sub.map _)), fun x hx => ?_, Nat.le_trans sub.length_le G.n⟩
  ·rcases List.mem_append.1 hcm with q | q
   ·exact G.cb c (List.mem_of_mem_take q)
   ·rcases List.mem_cons.1 q with rfl | q
    ·unfold mm two at *
     simp only [Bool.and_eq_true, decide_eq_true_eq, bne_iff_ne] at ht ⊢
     omega
    ·exact G.cb c (List.mem_of_mem_drop q)
  ·obtain ⟨h1, h2⟩ := List.mem_filter.1 hx
   obtain ⟨a1, a2, a3, a4⟩ := G.bb x h1
   refine ⟨a1, fun q => ?_, a3, a4⟩
   rcases List.mem_append.1 q with q | q
   ·exact a2 (List.mem_of_mem_take q)
   ·rcases List.mem_cons.1 q with q | q
    ·rw [btw_mm, decide_eq_true q] at h2
     cases h2
    ·exact a2 (List.mem_of_mem_drop q)
theorem good_take {E : Eth} {j k : Nat} (G : Good E) (hk : k < (lAt E j).length) : Good (takeP E j k) := by
 unfold takeP
 by_cases h1 : (lAt E j).length = 1
 ·rw [if_pos h1]
  exact good_sub G (List.eraseIdx_sublist ..) (List.Sublist.refl _)
 ·rw [if_neg h1]
  refine good_mod G fun b hb => ?_
  have e : lAt E j = b.l := by unfold lAt; rw [hb]
  rw [e] at h1 hk
  obtain ⟨_, _, _, a4⟩ := G.bb b (List.mem_of_getElem? hb)
  rw [List.length_eraseIdx, if_pos hk]
  omega
theorem plc_lt {x : Act} {l : List Pcl} (h : 0 < l.length) : plc x l < l.length := by
 unfold plc
 have := Int.emod_lt_of_pos x.n (show (0 : Int) < ((l.length : Nat) : Int) by omega)
 have := Int.emod_nonneg x.n (show ((l.length : Nat) : Int) ≠ 0 by omega)
 omega
theorem there_at {E : Eth} {p : Int × Int} (h : there E p = true) : ∃ b, E.bags[ix (ks E) p]? = some b ∧ b.k = p := by
 have hi := there_lt h
 refine ⟨_, List.getElem?_eq_getElem hi, ?_⟩
 have := of_decide_eq_true h
 rw [ks_get hi] at this
 exact Option.some.inj this
theorem good_do {E : Eth} {x : Act} (G : Good E) : Good (doP E x).1 := by
 unfold doP
 by_cases h1 : isCutAct x = true
 ·rw [if_pos h1]
  unfold isCutAct at h1
  rw [Bool.and_eq_true] at h1
  exact good_cut G h1.2
 rw [if_neg h1]
 by_cases h2 : isMend x = true
 ·rw [if_pos h2]
  show Good (if cutAt E.cuts (mm x.p) then delCut E (mm x.p) else E)
  split
  ·exact good_sub G (List.Sublist.refl _) (List.eraseIdx_sublist ..)
  ·exact G
 rw [if_neg h2]
 by_cases h3 : noAct E x = true
 ·rw [if_pos h3]; exact G
 rw [if_neg h3]
 have hth : there E x.p = true := by
  cases hth : there E x.p with
  | true => rfl
  | false => unfold noAct at h3; rw [hth] at h3; simp at h3
 obtain ⟨b, hb, hbk⟩ := there_at hth
 obtain ⟨a1, a2, a3, a4⟩ := G.bb b (List.mem_of_getElem? hb)
 have el : lAt E (ix (ks E) x.p) = b.l := by unfold lAt; rw [hb]
 have hpl : plc x (lAt E (ix (ks E) x.p)) < (lAt E (ix (ks E) x.p)).length := plc_lt (by rw [el]; omega)
 unfold parP
 generalize pclAt (lAt E (ix (ks E) x.p)) (plc x (lAt E (ix (ks E) x.p))) = q
 generalize plc x (lAt E (ix (ks E) x.p)) = k at hpl
 by_cases h4 : isBend x q = true
 ·rw [if_pos h4]
  dsimp only
  refine good_mod G fun c hc => ?_
  rw [hb] at hc; cases hc
  simp only [List.length_set]
  exact ⟨a3, a4⟩
 rw [if_neg h4]
 by_cases h5 : isTwice x (lAt E (ix (ks E) x.p)) = true
 ·rw [if_pos h5]
  unfold isTwice at h5
  rw [Bool.and_eq_true, el] at h5
  have := of_decide_eq_true h5.2
  dsimp only
  refine good_mod G fun c hc => ?_
  rw [hb] at hc; cases hc
  simp
  omega
 rw [if_neg h5]
 by_cases h6 : isTake x = true
 ·rw [if_pos h6]
  exact good_take G hpl
 ·rw [if_neg h6]
  exact G
end Go.Proofs.Ytomfknocpijmbaa
end
section
set_option linter.unusedVariables false
set_option linter.unusedSimpArgs false
namespace Go.Proofs.Ytomfknocpijmbaa
open Go.Am
def setF (p : Int × Int) (nw : List AV) : List (List AV) → List (Int × Int) → Bool → List (List AV)
 | e :: es, k :: ks, put => (if !put && !ahd k p then [nw] else []) ++ ((if k ≠ p then [e] else []) ++ setF p nw es ks (put || !ahd k p))
 | _, _, put => if put then [] else [nw]
def setG (p : Int × Int) (l : List Pcl) : List Bg → Bool → List Bg
 | b :: bs, put => (if !put && !ahd b.k p then [⟨p, l⟩] else []) ++ ((if b.k ≠ p then [b] else []) ++ setG p l bs (put || !ahd b.k p))
 | [], put => if put then [] else [⟨p, l⟩]
def setP (E : Eth) (p : Int × Int) (l : List Pcl) : Eth := ⟨setG p l E.bags (decide (l.length = 0)), E.cuts⟩
theorem setF_rr {p : Int × Int} {lv : AV} {ys : List (List AV)} {l : List Pcl} (sl : SF 2 lv ys) (rl : RR PcR ys l) : ∀ {es : List (List AV)} {L : List Bg} {put : Bool}, RR BgR es L → RR BgR (setF p [.sc (.int .i64 p.1), .sc (.int .i64 p.2), lv] es (L.map (·.k)) put) (setG p l L put)
 | [], [], put, _ => by
  unfold setF setG
  cases put with
  | true => trivial
  | false => exact ⟨⟨lv, ys, rfl, sl, rl⟩, trivial⟩
 | e :: es, b :: L, put, ⟨h1, h2⟩ => by
  have ih := setF_rr sl rl (p := p) (put := put || !ahd b.k p) h2
  simp only [List.map_cons, setF, setG]
  refine RR.append ?_ (RR.append ?_ ih)
  ·split
   ·exact ⟨⟨lv, ys, rfl, sl, rl⟩, trivial⟩
   ·trivial
  ·split
   ·exact ⟨h1, trivial⟩
   ·trivial
 | [], _ :: _, _, h => h.elim
 | _ :: _, [], _, h => h.elim
theorem cat_bs {sz : Nat} {es ys : List (List AV)} {lim : Option Nat} : ∃ lim', catV sz ys (.bs true sz es lim) = .bs true sz (es ++ ys) lim' := by
 unfold catV
 by_cases c : ys.length = 0
 ·obtain rfl : ys = [] := List.eq_nil_of_length_eq_zero c
  exact ⟨lim, by simp⟩
 ·exact ⟨_, if_neg c⟩
variable {P : Program} (H : Has P)
include H
set_option maxHeartbeats 2000000 in
theorem set_ok {bv cv lv : AV} {bes ys : List (List AV)} {K : List (Int × Int)} (hbv : SF 3 bv bes) (hK : RR BK bes K) (hcd : cv.disc = cv) (hlv : SL 2 lv ys) (hl : K.length ≤ 2 ^ 20) (p : Int × Int) (h : Heap) :
  AWF P ann 0 34 [.ag [bv, cv], .sc (.int .i64 p.1), .sc (.int .i64 p.2), lv] h fun r h' => r = .ag [.bs false 3 (setF p [.sc (.int .i64 p.1), .sc (.int .i64 p.2), lv.dis] bes K (decide (ys.length = 0))) none, cv] ∧ h' = h := by
 have hcl : lv.dis.cells = [lv.dis] := hlv.dis.cells
 have htu : lv.dis.isTu = false := by rcases hlv with ⟨rfl, _⟩ | ⟨_, _, rfl⟩ <;> rfl
 have setR2 : ∀ (a b c x : AV), setRange [a, b, c] 2 [x] = [a, b, x] := fun _ _ _ _ => rfl
 refine AWF.fnPureA H.f0_34 rfl ?_
 have e1 := hK.len
 refine A_seq_gen fun N hN => W_sound ?_
 simp (disch := omega) only [go_sem, ↓reduceIte, Nat.reduceEqDiff, Nat.reduceLeDiff, hbv.disc, hcd]
 intro o4 ho4 o8 ho8
 obtain ⟨h2, hh, f1, f2, f3⟩ := box2 ho4 ho8 (Y := some (.arr [.sc (.slice none 0 0), .sc (.slice none 0 0)]))
 have n48 : o4 ≠ o8 := fun e => by subst e; simp at ho8
 have no4 : h o4 = none := ho4
 have no8 : h o8 = none := by
  simpa [n48.symm] using ho8
 refine hN _ ?_; clear hN N
 rw [hh]
 clear hh ho4 ho8
 refine A_seq_gen fun N hN => W_sound ?_
 refine W_f (fun t => t 1 = .sc (.int .i64 p.1) ∧ t 2 = .sc (.int .i64 p.2) ∧ t 3 = lv ∧ t 4 = .op o4 0 ∧ t 8 = .op o8 0 ∧ True) ?_; rintro t ⟨t1, t2, t3, t4, t8, -⟩
 simp (disch := omega) only [go_sem, ↓reduceIte, Nat.reduceEqDiff, Nat.reduceLeDiff]
 refine hN _ ?_; clear hN N
 refine A_seq_gen fun N hN => W_sound ?_
 refine W_f (fun t => t 1 = .sc (.int .i64 p.1) ∧ t 2 = .sc (.int .i64 p.2) ∧ t 3 = lv ∧ t 4 = .op o4 0 ∧ t 8 = .op o8 0 ∧ t 9 = .bs true 3 [] (some 0) ∧ True) ?_; rintro t ⟨t1, t2, t3, t4, t8, t9, -⟩
 simp (disch := omega) only [go_sem, ↓reduceIte, Nat.reduceEqDiff, Nat.reduceLeDiff, t3, hlv.disc, hlv.dd, hlv.df.sl.len]
 refine hN _ ?_; clear hN N
 refine A_seq_gen fun M hM => W_sound ?_
 have k8 : h2 o8 = some (.arr [.sc (.slice none 0 0), .sc (.slice none 0 0)]) := f2
 refine W_f (fun t => t 1 = .sc (.int .i64 p.1) ∧ t 2 = .sc (.int .i64 p.2) ∧ t 3 = lv ∧ t 4 = .op o4 0 ∧ t 8 = .op o8 0 ∧ t 9 = .bs true 3 [] (some 0) ∧ t 10 = .sc (.bool (decide (ys.length = 0))) ∧ True) ?_; rintro t ⟨t1, t2, t3, t4, t8, t9, t10, -⟩
 simp (disch := omega) only [go_sem, ↓reduceIte, Nat.reduceEqDiff, Nat.reduceLeDiff]
 refine AW_loopN (fun m t h' => ∃ (i : Nat) (out : List (List AV)) (lim : Option Nat) (put : Bool), m = K.length - i ∧ i ≤ K.length ∧ out.length ≤ 2 * i ∧ h' o4 = some (.arr [bv, cv]) ∧ h' o8 = some (.arr [.sc (.slice none 0 0), .sc (.slice none 0 0)]) ∧ (∀ x, h x ≠ none → h' x = h x) ∧ t 1 = .sc (.int .i64 p.1) ∧ t 2 = .sc (.int .i64 p.2) ∧ t 3 = lv ∧ t 4 = .op o4 0 ∧ t 8 = .op o8 0 ∧ t 9 = .bs true 3 out lim ∧ t 10 = .sc (.bool put) ∧ t 11 = .sc (.int .i64 (i : Nat)) ∧
   setF p [.sc (.int .i64 p.1), .sc (.int .i64 p.2), lv.dis] bes K (decide (ys.length = 0)) = out ++ setF p [.sc (.int .i64 p.1), .sc (.int .i64 p.2), lv.dis] (bes.drop i) (K.drop i) put)
  (n := K.length) ⟨0, [], some 0, decide (ys.length = 0), rfl, Nat.zero_le _, by simp, f1, k8, f3, by simp [upd_at, t1], by simp [upd_at, t2], by simp [upd_at, t3], by simp [upd_at, t4], by simp [upd_at, t8], by simp [upd_at, t9], by simp [upd_at, t10], by simp [upd_at], rfl⟩ ?_
 clear t1 t2 t3 t4 t8 t9 t10 f1 k8 f3 t
 rintro m t h' ⟨i, out, lim, put, rfl, hi, hol, f1, f2, f3, t1, t2, t3, t4, t8, t9, t10, t11, heq⟩
 rcases Nat.lt_or_ge i K.length with hlt | hge
 ·obtain ⟨e, g0, w, rfl, hw⟩ := hK.lt hlt
  have hd1 : bes.drop i = [.sc (.int .i64 K[i].1), .sc (.int .i64 K[i].2), w] :: bes.drop (i + 1) := by
   obtain ⟨q1, q2⟩ := List.getElem?_eq_some_iff.1 g0
   rw [List.drop_eq_getElem_cons q1, q2]
  have hd2 : K.drop i = K[i] :: K.drop (i + 1) := List.drop_eq_getElem_cons hlt
  rw [hd1, hd2, setF] at heq
  generalize K[i] = k at *
  (refine W_seq_gen fun N hN => ?_); simp (disch := omega) only [go_sem, ↓reduceIte, Nat.reduceEqDiff, Nat.reduceLeDiff, t4, t11, f1, hbv.same, hbv.disc, hbv.sl.len, e1, hlt]
  refine hN _ ?_; clear hN N
  (refine W_seq_gen fun R hR => ?_)
  rw [W_block]
  (refine W_seq_gen fun N hN => ?_); simp (disch := omega) only [go_sem, ↓reduceIte, Nat.reduceEqDiff, Nat.reduceLeDiff, t4, t11, f1, hbv.same, hbv.disc, hbv.sl.ia, g0, hw]
  intro o12 ho12
  have m12 : (upd h' o12 (some (.arr [.sc (.int .i64 k.1), .sc (.int .i64 k.2), w]))) o12 = some (.arr [.sc (.int .i64 k.1), .sc (.int .i64 k.2), w]) := upd_same ..
  have mk : ∀ y X, h' y = some X → (upd h' o12 (some (.arr [.sc (.int .i64 k.1), .sc (.int .i64 k.2), w]))) y = some X := fun y X hX => by rw [upd_ne _ _ (fun e => by rw [e, ho12] at hX; cases hX)]; exact hX
  have m1 := mk o4 _ f1
  have m2 := mk o8 _ f2
  have m3 : ∀ x, h x ≠ none → (upd h' o12 (some (.arr [.sc (.int .i64 k.1), .sc (.int .i64 k.2), w]))) x = h x := fun x hx => by
   cases hX : h x with
   | none => exact absurd hX hx
   | some X => exact mk x X (by rw [f3 x hx, hX])
  generalize upd h' o12 (some (.arr [.sc (.int .i64 k.1), .sc (.int .i64 k.2), w])) = h7 at m12 m1 m2 m3
  clear mk f1 f2 f3 ho12
  refine hN _ ?_; clear hN N
  refine W_f (fun t => t 1 = .sc (.int .i64 p.1) ∧ t 2 = .sc (.int .i64 p.2) ∧ t 3 = lv ∧ t 4 = .op o4 0 ∧ t 8 = .op o8 0 ∧ t 9 = .bs true 3 out lim ∧ t 10 = .sc (.bool put) ∧ t 11 = .sc (.int .i64 (i : Nat)) ∧ t 12 = .op o12 0 ∧ True) ?_; rintro t ⟨t1, t2, t3, t4, t8, t9, t10, t11, t12, -⟩
  (refine W_seq_gen fun K1 hK1 => ?_)
  have g1 : ∀ (t : Nat → AV) (out1 : List (List AV)) (lim1 : Option Nat), out1.length ≤ 2 * i + 1 → t 1 = .sc (.int .i64 p.1) → t 2 = .sc (.int .i64 p.2) → t 3 = lv → t 4 = .op o4 0 → t 8 = .op o8 0 → t 9 = .bs true 3 out1 lim1 → t 10 = .sc (.bool (put || !ahd k p)) → t 11 = .sc (.int .i64 (i : Nat)) → t 12 = .op o12 0 →
    setF p [.sc (.int .i64 p.1), .sc (.int .i64 p.2), lv.dis] bes K (decide (ys.length = 0)) = out1 ++ ((if k ≠ p then [[.sc (.int .i64 k.1), .sc (.int .i64 k.2), w]] else []) ++ setF p [.sc (.int .i64 p.1), .sc (.int .i64 p.2), lv.dis] (bes.drop (i + 1)) (K.drop (i + 1)) (put || !ahd k p)) → K1 ⟨t, h7⟩ := by
   clear t1 t2 t3 t4 t8 t9 t10 t11 t12 t
   intro t out1 lim1 hol1 t1 t2 t3 t4 t8 t9 t10 t11 t12 heq1
   refine hK1 _ ?_
   obtain ⟨l2, hl2⟩ := cat_bs (sz := 3) (es := out1) (ys := [[.sc (.int .i64 k.1), .sc (.int .i64 k.2), w]]) (lim := lim1)
   have happ := fun (t : Nat → AV) (h : Heap) => (show SG 3 (.bs true 3 out1 lim1) out1 from .inr ⟨lim1, rfl⟩).app (t := t) (h := h) (ys := [[.sc (.int .i64 k.1), .sc (.int .i64 k.2), w]]) (bytes := 40) (by simp; omega)
   rw [hl2] at happ
   have gE : ∀ t : Nat → AV, k ≠ p → t 1 = .sc (.int .i64 p.1) → t 2 = .sc (.int .i64 p.2) → t 3 = lv → t 4 = .op o4 0 → t 8 = .op o8 0 → t 10 = .sc (.bool (put || !ahd k p)) → t 11 = .sc (.int .i64 (i : Nat)) → t 9 = .bs true 3 (out1 ++ [[.sc (.int .i64 k.1), .sc (.int .i64 k.2), w]]) l2 → R ⟨t, h7⟩ := by
    clear t1 t2 t3 t4 t8 t9 t10 t11 t12 t
    intro t hkp t1 t2 t3 t4 t8 t10 t11 t9
    rw [if_pos hkp] at heq1
    refine hR _ ?_
    simp (disch := omega) only [go_sem, ↓reduceIte, Nat.reduceEqDiff, Nat.reduceLeDiff, t11, nat_add]
    exact ⟨K.length - (i + 1), by omega, i + 1, out1 ++ [[.sc (.int .i64 k.1), .sc (.int .i64 k.2), w]], l2, put || !ahd k p, rfl, by omega, by simp; omega, m1, m2, m3, by simp [upd_at, t1], by simp [upd_at, t2], by simp [upd_at, t3], by simp [upd_at, t4], by simp [upd_at, t8], by simp [upd_at, t9], by simp [upd_at, t10], by simp [upd_at], by rw [heq1, List.append_assoc]⟩
   by_cases c1 : k.1 = p.1
   ·have d1 : (k.1 != p.1) = false := by simp [c1]
    by_cases c2 : k.2 = p.2
    ·have d2 : (k.2 != p.2) = false := by simp [c2]
     have hkp : ¬ k ≠ p := fun q => q (Prod.ext c1 c2)
     rw [if_neg hkp, List.nil_append] at heq1
     simp (disch := omega) only [go_sem, ↓reduceIte, Nat.reduceEqDiff, Nat.reduceLeDiff, t1, t2, t12, m12, d1, d2]
     refine hR _ ?_
     simp (disch := omega) only [go_sem, ↓reduceIte, Nat.reduceEqDiff, Nat.reduceLeDiff, t11, nat_add]
     exact ⟨K.length - (i + 1), by omega, i + 1, out1, lim1, put || !ahd k p, rfl, by omega, by omega, m1, m2, m3, by simp [upd_at, t1], by simp [upd_at, t2], by simp [upd_at, t3], by simp [upd_at, t4], by simp [upd_at, t8], by simp [upd_at, t9], by simp [upd_at, t10], by simp [upd_at], heq1⟩
    ·have d2 : (k.2 != p.2) = true := by simp [c2]
     simp (disch := omega) only [go_sem, ↓reduceIte, Nat.reduceEqDiff, Nat.reduceLeDiff, t1, t2, t9, t12, m12, d1, d2, hw, happ]
     exact gE _ (fun q => c2 (by rw [q])) (by simp [upd_at, t1]) (by simp [upd_at, t2]) (by simp [upd_at, t3]) (by simp [upd_at, t4]) (by simp [upd_at, t8]) (by simp [upd_at, t10]) (by simp [upd_at, t11]) (by simp [upd_at])
   ·have d1 : (k.1 != p.1) = true := by simp [c1]
    simp (disch := omega) only [go_sem, ↓reduceIte, Nat.reduceEqDiff, Nat.reduceLeDiff, t1, t2, t9, t12, m12, d1, hw, happ]
    exact gE _ (fun q => c1 (by rw [q])) (by simp [upd_at, t1]) (by simp [upd_at, t2]) (by simp [upd_at, t3]) (by simp [upd_at, t4]) (by simp [upd_at, t8]) (by simp [upd_at, t10]) (by simp [upd_at, t11]) (by simp [upd_at])
  cases put with
  | true =>
   simp (disch := omega) only [go_sem, ↓reduceIte, Nat.reduceEqDiff, Nat.reduceLeDiff, t10]
   simp only [Bool.not_true, Bool.false_and, Bool.false_eq_true, if_false, List.nil_append, Bool.true_or] at heq g1
   exact g1 _ out lim (by omega) (by simp [upd_at, t1]) (by simp [upd_at, t2]) (by simp [upd_at, t3]) (by simp [upd_at, t4]) (by simp [upd_at, t8]) (by simp [upd_at, t9]) (by simp [upd_at, t10]) (by simp [upd_at, t11]) (by simp [upd_at, t12]) heq
  | false =>
   simp (disch := omega) only [go_sem, ↓reduceIte, Nat.reduceEqDiff, Nat.reduceLeDiff, t1, t2, t10, t12, m12]
   refine (ahead_ok H k.1 k.2 p.1 p.2 _).to ?_
   cases hah : ahd k p with
   | true =>
    rw [contK_some]; simp (disch := omega) only [go_sem, ↓reduceIte, Nat.reduceEqDiff, Nat.reduceLeDiff, hah]
    simp only [hah, Bool.not_true, Bool.and_false, Bool.not_false, Bool.false_eq_true, if_false, List.nil_append, Bool.or_false] at heq g1
    exact g1 _ out lim (by omega) (by simp [upd_at, t1]) (by simp [upd_at, t2]) (by simp [upd_at, t3]) (by simp [upd_at, t4]) (by simp [upd_at, t8]) (by simp [upd_at, t9]) (by simp [upd_at, t10]) (by simp [upd_at, t11]) (by simp [upd_at, t12]) heq
   | false =>
    simp only [hah, Bool.not_false, Bool.and_true, if_true, Bool.or_true] at heq g1
    obtain ⟨l2, hl2⟩ := cat_bs (sz := 3) (es := out) (ys := [[.sc (.int .i64 p.1), .sc (.int .i64 p.2), lv.dis]]) (lim := lim)
    have happ := fun (t : Nat → AV) (h : Heap) => (show SG 3 (.bs true 3 out lim) out from .inr ⟨lim, rfl⟩).app (t := t) (h := h) (ys := [[.sc (.int .i64 p.1), .sc (.int .i64 p.2), lv.dis]]) (bytes := 40) (by simp; omega)
    rw [hl2] at happ
    rw [contK_some]; simp (disch := omega) only [go_sem, ↓reduceIte, Nat.reduceEqDiff, Nat.reduceLeDiff, hah, t1, t2, t3, t9, happ, hlv.disc, hlv.dd, hlv.ddisc, hcl, htu, setR2]
    exact g1 _ (out ++ [[.sc (.int .i64 p.1), .sc (.int .i64 p.2), lv.dis]]) l2 (by simp; omega) (by simp [upd_at, t1]) (by simp [upd_at, t2]) (by simp [upd_at, t3]) (by simp [upd_at, t4]) (by simp [upd_at, t8]) (by simp [upd_at, t9]) (by simp [upd_at, t10]) (by simp [upd_at, t11]) (by simp [upd_at, t12]) (by rw [heq, List.append_assoc])
 ·obtain rfl : i = K.length := by omega
  have hd1 : bes.drop K.length = [] := List.drop_eq_nil_of_le (by omega)
  have hd2 : K.drop K.length = [] := List.drop_eq_nil_of_le (Nat.le_refl _)
  rw [hd1, hd2] at heq
  have s0 : ∀ nw put, setF p nw [] [] put = if put = true then [] else [nw] := fun _ _ => rfl
  (refine W_seq_gen fun N hN => ?_); simp (disch := omega) only [go_sem, ↓reduceIte, Nat.reduceEqDiff, Nat.reduceLeDiff, t4, t11, f1, hbv.same, hbv.disc, hbv.sl.len, e1, Nat.lt_irrefl]
  refine hM _ ?_; clear hN N hM M
  refine A_seq_gen fun N hN => W_sound ?_
  have fin : ∀ (t : Nat → AV) (out1 : List (List AV)) (lim1 : Option Nat), t 4 = .op o4 0 → t 8 = .op o8 0 → t 9 = .bs true 3 out1 lim1 → setF p [.sc (.int .i64 p.1), .sc (.int .i64 p.2), lv.dis] bes K (decide (ys.length = 0)) = out1 → N ⟨t, h'⟩ := by
   clear t1 t2 t3 t4 t8 t9 t10 t11 t
   intro t out1 lim1 t4 t8 t9 heq1
   refine hN _ ?_
   clear hN N
   refine .ghost (.lim (i := 9) (own := true) (sz := 3) (es := out1) (lim := lim1) t9) ?_
   refine A_seq_gen fun N hN => W_sound ?_
   have u4 : upd t 9 (.bs false 3 out1 none) 4 = .op o4 0 := by simp [upd_at, t4]
   have u8 : upd t 9 (.bs false 3 out1 none) 8 = .op o8 0 := by simp [upd_at, t8]
   have u9 : upd t 9 (.bs false 3 out1 none) 9 = .bs false 3 out1 none := by simp [upd_at]
   generalize upd t 9 (.bs false 3 out1 none) = t' at u4 u8 u9
   have cd : ∀ es : List (List AV), (AV.bs false 3 es none).cellsD = [.bs false 3 es none] := fun _ => rfl
   have ct : ∀ es : List (List AV), (AV.bs false 3 es none).isTu = false := fun _ => rfl
   have cx : ∀ es : List (List AV), (AV.bs false 3 es none).disc = .bs false 3 es none := fun _ => rfl
   have setR1 : ∀ (a b x : AV), setRange [a, b] 0 [x] = [x, b] := fun _ _ _ => rfl
   simp (disch := omega) only [go_sem, ↓reduceIte, Nat.reduceEqDiff, Nat.reduceLeDiff, u4, u8, u9, f1, cd, ct, cx, setR1]
   refine hN _ ?_; clear hN N
   have w4 : (upd h' o4 (some (.arr [.bs false 3 out1 none, cv]))) o4 = some (.arr [.bs false 3 out1 none, cv]) := upd_same ..
   have w8 : (upd h' o4 (some (.arr [.bs false 3 out1 none, cv]))) o8 = some (.arr [.sc (.slice none 0 0), .sc (.slice none 0 0)]) := by rw [upd_ne _ _ n48.symm]; exact f2
   have wk : ∀ x, h x ≠ none → (upd h' o4 (some (.arr [.bs false 3 out1 none, cv]))) x = h x := fun x hx => by rw [upd_ne _ _ (fun e => hx (by rw [e]; exact no4))]; exact f3 x hx
   generalize upd h' o4 (some (.arr [.bs false 3 out1 none, cv])) = h9 at w4 w8 wk
   have v4 : (upd (upd (upd t' 71 (AV.bs false 3 out1 none)) 72 (AV.op o4 0)) 71 (AV.bs false 3 out1 none)) 4 = .op o4 0 := by simp [upd_at, u4]
   have v8 : (upd (upd (upd t' 71 (AV.bs false 3 out1 none)) 72 (AV.op o4 0)) 71 (AV.bs false 3 out1 none)) 8 = .op o8 0 := by simp [upd_at, u8]
   generalize upd (upd (upd t' 71 (AV.bs false 3 out1 none)) 72 (AV.op o4 0)) 71 (AV.bs false 3 out1 none) = t9' at v4 v8
   have setR0 : ∀ (a b x y : AV), setRange [a, b] 0 [x, y] = [x, y] := fun _ _ _ _ => rfl
   refine W_sound ?_
   simp (disch := omega) only [go_sem, ↓reduceIte, Nat.reduceEqDiff, Nat.reduceLeDiff, v4, v8, w4, w8, cx, hcd, setR0]
   exact ⟨by rw [heq1], fun x hx => by rw [if_neg (fun e => hx (by rw [e]; exact no8))]; exact wk x hx⟩
  cases put with
  | true =>
   rw [s0, if_pos rfl, List.append_nil] at heq
   simp (disch := omega) only [go_sem, ↓reduceIte, Nat.reduceEqDiff, Nat.reduceLeDiff, t10]
   exact fin _ out lim (by simp [upd_at, t4]) (by simp [upd_at, t8]) (by simp [upd_at, t9]) heq
  | false =>
   rw [s0, if_neg Bool.false_ne_true] at heq
   obtain ⟨l2, hl2⟩ := cat_bs (sz := 3) (es := out) (ys := [[.sc (.int .i64 p.1), .sc (.int .i64 p.2), lv.dis]]) (lim := lim)
   have happ := fun (t : Nat → AV) (h : Heap) => (show SG 3 (.bs true 3 out lim) out from .inr ⟨lim, rfl⟩).app (t := t) (h := h) (ys := [[.sc (.int .i64 p.1), .sc (.int .i64 p.2), lv.dis]]) (bytes := 40) (by simp; omega)
   rw [hl2] at happ
   simp (disch := omega) only [go_sem, ↓reduceIte, Nat.reduceEqDiff, Nat.reduceLeDiff, t1, t2, t3, t9, t10, happ, hlv.disc, hlv.dd, hlv.ddisc, hcl, htu, setR2]
   exact fin _ _ l2 (by simp [upd_at, t4]) (by simp [upd_at, t8]) (by simp [upd_at]) heq
end Go.Proofs.Ytomfknocpijmbaa
end
section
set_option linter.unusedVariables false
set_option linter.unusedSimpArgs false
namespace Go.Proofs.Ytomfknocpijmbaa
open Go.Am
theorem bagI_lt {l : List (Int × Int)} {p : Int × Int} {i : Nat} (h : bagI l p = some i) : i < l.length := by
 unfold bagI at h
 exact (List.findIdx?_eq_some_iff_getElem.1 h).1
theorem optI_lt {x : Option Nat} : decide (optI x < ((0 : Nat) : Int)) = !x.isSome := by
 cases x with
 | none => rfl
 | some i => exact decide_eq_false (show ¬ ((i : Nat) : Int) < ((0 : Nat) : Int) by omega)
variable {P : Program} (H : Has P)
include H
end Go.Proofs.Ytomfknocpijmbaa
end
section
set_option linter.unusedVariables false
set_option linter.unusedSimpArgs false
namespace Go.Proofs.Ytomfknocpijmbaa
open Go.Am
theorem ix_cons {k p : Int × Int} {l : List (Int × Int)} : ix (k :: l) p = if ahd k p then ix l p + 1 else 0 := by
 unfold ix
 rw [List.takeWhile_cons]
 cases ahd k p <;> rfl
theorem setG_t {p : Int × Int} {l : List Pcl} : ∀ {bs : List Bg}, setG p l bs true = bs.filter fun b => decide (b.k ≠ p)
 | [] => rfl
 | b :: bs => by
  rw [setG, List.filter_cons]
  have ih := setG_t (p := p) (l := l) (bs := bs)
  by_cases c : b.k = p <;> simp [c, ih]
theorem setG_f {p : Int × Int} {l : List Pcl} : ∀ {bs : List Bg}, setG p l bs false = bs.take (ix (bs.map (·.k)) p) ++ ⟨p, l⟩ :: (bs.drop (ix (bs.map (·.k)) p)).filter fun b => decide (b.k ≠ p)
 | [] => rfl
 | b :: bs => by
  have ih := setG_f (p := p) (l := l) (bs := bs)
  rw [setG, List.map_cons, ix_cons]
  cases c : ahd b.k p with
  | true =>
   have : b.k ≠ p := fun q => by rw [q, ahd_irr] at c; cases c
   simp [this, ih]
  | false =>
   simp only [Bool.not_false, Bool.and_self, if_true, Bool.or_true, Bool.false_eq_true, if_false, List.take_zero, List.drop_zero, List.nil_append, List.singleton_append]
   rw [setG_t, List.filter_cons]
   by_cases q : b.k = p <;> simp [q]
theorem mod_mid {α : Type} {f : α → α} {x : α} : ∀ {A B : List α}, (A ++ x :: B).modify A.length f = A ++ f x :: B
 | [], _ => rfl
 | a :: A, B => by
  show a :: (A ++ x :: B).modify A.length f = _
  rw [mod_mid]
  rfl
theorem mod_at {α : Type} {f : α → α} {l : List α} {j : Nat} {x : α} (h : l[j]? = some x) : l.modify j f = l.take j ++ f x :: l.drop (j + 1) := by
 obtain ⟨hl, rfl⟩ := List.getElem?_eq_some_iff.1 h
 have e : l = l.take j ++ l[j] :: l.drop (j + 1) := by rw [← List.drop_eq_getElem_cons hl, List.take_append_drop]
 have el : (l.take j).length = j := by rw [List.length_take]; omega
 have := mod_mid (f := f) (x := l[j]) (A := l.take j) (B := l.drop (j + 1))
 rw [el, ← e] at this
 exact this
theorem there_mem {E : Eth} {p : Int × Int} (G : Good E) : there E p = decide (p ∈ ks E) := by
 unfold there
 exact decide_eq_decide.2 (at_mem G.bs)
theorem set_good {E : Eth} {p : Int × Int} {l : List Pcl} (G : Good E) : setG p l E.bags false = (modL (if there E p then E else insBag E p) (ix (ks E) p) fun _ => l).bags := by
 rw [setG_f]
 show E.bags.take (ix (ks E) p) ++ _ = _
 show _ ++ _ :: (E.bags.drop (ix (ks E) p)).filter _ = _
 cases hth : there E p with
 | true =>
  obtain ⟨b, hb, hk⟩ := there_at hth
  have hl := (List.getElem?_eq_some_iff.1 hb).1
  show _ = E.bags.modify _ _
  rw [mod_at hb, ← hk]
  have e : E.bags[ix (ks E) b.k]? = some b := by rw [hk]; exact hb
  obtain ⟨hl2, e2⟩ := List.getElem?_eq_some_iff.1 e
  rw [List.drop_eq_getElem_cons hl2, e2, List.filter_cons, if_neg (by simp)]
  congr 2
  refine List.filter_eq_self.2 fun c hc => ?_
  obtain ⟨n, hn, rfl⟩ := List.getElem_of_mem hc
  rw [List.getElem_drop]
  have hn' : ix (ks E) b.k + 1 + n < E.bags.length := by rw [List.length_drop] at hn; omega
  have kl : (ks E).length = E.bags.length := by simp [ks]
  have := G.bs (ix (ks E) b.k) (ix (ks E) b.k + 1 + n) (by omega) (by omega) (by omega)
  simp only [ks, List.getElem_map] at this
  simp only [ks] at e2
  rw [e2] at this
  simp only [decide_eq_true_eq]
  intro q
  rw [show E.bags[ix (E.bags.map (·.k)) b.k + 1 + n].k = b.k from q, ahd_irr] at this
  cases this
 | false =>
  have hn : p ∉ ks E := by
   rw [there_mem G] at hth
   simpa using hth
  have hf : (E.bags.drop (ix (ks E) p)).filter (fun b => decide (b.k ≠ p)) = E.bags.drop (ix (ks E) p) := by
   refine List.filter_eq_self.2 fun c hc => ?_
   simp only [decide_eq_true_eq]
   intro q
   exact hn (by rw [← q]; exact List.mem_map_of_mem (List.mem_of_mem_drop hc))
  rw [hf]
  have el : (E.bags.take (ix (ks E) p)).length = ix (ks E) p := by
   have := ix_le (ks E) p
   simp only [ks, List.length_map] at this
   rw [List.length_take]
   simp only [ks]
   omega
  have := mod_mid (f := fun b : Bg => (⟨b.k, l⟩ : Bg)) (x := (⟨p, []⟩ : Bg)) (A := E.bags.take (ix (ks E) p)) (B := E.bags.drop (ix (ks E) p))
  rw [el] at this
  exact this.symm
theorem modL_at {E : Eth} {j : Nat} {f g : List Pcl → List Pcl} {b : Bg} (h : E.bags[j]? = some b) (e : f b.l = g b.l) : modL E j f = modL E j g := by
 unfold modL
 rw [mod_at h, mod_at h, e]
end Go.Proofs.Ytomfknocpijmbaa
end
section
set_option linter.unusedVariables false
set_option linter.unusedSimpArgs false
namespace Go.Proofs.Ytomfknocpijmbaa
open Go.Am
end Go.Proofs.Ytomfknocpijmbaa
end
section
set_option linter.unusedVariables false
set_option linter.unusedSimpArgs false
namespace Go.Proofs.Ytomfknocpijmbaa
open Go.Am
structure Sm (E : Eth) (c : Nat) : Prop where
 g : Good E
 c : E.cuts.length ≤ c
 b : ∀ b ∈ E.bags, ∀ x ∈ b.l, x.1.length ≤ 5000
theorem Sm.szd {E : Eth} {c : Nat} (S : Sm E c) (hc : c ≤ 2 ^ 20) : Szd E := ⟨Nat.le_trans S.g.n (by omega), Nat.le_trans S.c hc, fun b hb => ⟨Nat.le_trans (S.g.bb b hb).2.2.2 (by omega), fun x hx => Nat.le_trans (S.b b hb x hx) (by omega)⟩⟩
theorem pcl_mem {l : List Pcl} {k : Nat} (hk : k < l.length) : pclAt l k ∈ l := by
 unfold pclAt
 simp [hk]
theorem by_do {E : Eth} {x : Act} {n : Nat} (G : Good E) (hb : ∀ b ∈ E.bags, ∀ y ∈ b.l, y.1.length ≤ n) : ∀ b ∈ (doP E x).1.bags, ∀ y ∈ b.l, y.1.length ≤ n := by
 unfold doP
 by_cases h1 : isCutAct x = true
 ·rw [if_pos h1]
  intro b hm
  have : ∀ E1 : Eth, E1.bags = E.bags → b ∈ (dropP E1 x.a x.b).bags → b ∈ E.bags := fun E1 e h => by
   unfold dropP at h
   rw [e] at h
   exact (List.mem_filter.1 h).1
  exact hb b (this _ (by split <;> rfl) hm)
 rw [if_neg h1]
 by_cases h2 : isMend x = true
 ·rw [if_pos h2]
  intro b hm
  have : (if cutAt E.cuts (mm x.p) = true then delCut E (mm x.p) else E).bags = E.bags := by split <;> rfl
  exact hb b (by rw [← this]; exact hm)
 rw [if_neg h2]
 by_cases h3 : noAct E x = true
 ·rw [if_pos h3]; exact hb
 rw [if_neg h3]
 unfold parP
 generalize hL : lAt E (ix (ks E) x.p) = L
 have hc : ∀ c, E.bags[ix (ks E) x.p]? = some c → c.l = L ∧ pclAt L (plc x L) ∈ c.l := fun c hc => by
  have e : c.l = L := by rw [← hL]; unfold lAt; rw [hc]
  have := (G.bb c (List.mem_of_getElem? hc)).2.2.1
  exact ⟨e, by rw [e]; exact pcl_mem (plc_lt (by rw [← e]; omega))⟩
 generalize pclAt L (plc x L) = q at *
 generalize plc x L = k at *
 by_cases h4 : isBend x q = true
 ·rw [if_pos h4]
  intro b hm y hy
  rcases mem_modL hm with h | ⟨c, hcc, rfl⟩
  ·exact hb b h y hy
  ·obtain ⟨e, hq⟩ := hc c hcc
   have hcb := hb c (List.mem_of_getElem? hcc)
   rcases List.mem_or_eq_of_mem_set hy with h | rfl
   ·exact hcb y h
   ·rw [bendB_len]; exact hcb q hq
 rw [if_neg h4]
 by_cases h5 : isTwice x L = true
 ·rw [if_pos h5]
  intro b hm y hy
  rcases mem_modL hm with h | ⟨c, hcc, rfl⟩
  ·exact hb b h y hy
  ·obtain ⟨e, hq⟩ := hc c hcc
   have hcb := hb c (List.mem_of_getElem? hcc)
   rcases List.mem_append.1 hy with h | h
   ·exact hcb y h
   ·rw [List.mem_singleton] at h
    subst h
    exact hcb y hq
 rw [if_neg h5]
 by_cases h6 : isTake x = true
 ·rw [if_pos h6]
  intro b hm y hy
  unfold takeP at hm
  by_cases h7 : (lAt E (ix (ks E) x.p)).length = 1
  ·rw [if_pos h7] at hm
   exact hb b (List.mem_of_mem_eraseIdx hm) y hy
  ·rw [if_neg h7] at hm
   rcases mem_modL hm with h | ⟨c, hcc, rfl⟩
   ·exact hb b h y hy
   ·exact hb c (List.mem_of_getElem? hcc) y (List.mem_of_mem_eraseIdx hy)
 ·rw [if_neg h6]; exact hb
theorem sm_do {E : Eth} {x : Act} {c : Nat} (S : Sm E c) : Sm (doP E x).1 (c + 1) := by
 refine ⟨good_do S.g, ?_, ?_⟩
 ·have hc := S.c
  unfold doP
  split
  ·split
   ·show E.cuts.length ≤ _
    omega
   ·simp only [dropP, insCut, List.length_append, List.length_take, List.length_cons, List.length_drop]
    omega
  split
  ·split
   ·simp only [delCut]
    rw [List.length_eraseIdx]
    split <;> omega
   ·show E.cuts.length ≤ _
    omega
  split
  ·show E.cuts.length ≤ _
   omega
  ·unfold parP takeP modL
   dsimp only
   split
   ·dsimp only; omega
   split
   ·dsimp only; omega
   split
   ·dsimp only
    split <;> (dsimp only; omega)
   ·dsimp only; omega
 ·exact by_do S.g S.b
theorem cntB_good {E : Eth} (G : Good E) : cntB E = cntE E := by unfold cntB; rw [check_good.2 G]; rfl
variable {P : Program} (H : Has P)
include H
end Go.Proofs.Ytomfknocpijmbaa
end
