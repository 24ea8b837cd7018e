/- The ethers that there may be; how the number turns; the law. -/
import Derived.Test.YtomfknocpijmbaaEtherM5
import Derived.Test.YtomfknocpijmbaaEtherM2
section
set_option linter.unusedVariables false
set_option linter.unusedSimpArgs false
namespace Go.Proofs.Ytomfknocpijmbaa
open Go.Am
theorem srt_iff {l : List (Int × Int)} : Srt l ↔ l.Pairwise fun a b => ahd a b = true := by
  rw [List.pairwise_iff_getElem]
  exact ⟨fun h i j hi hj hij => h i j hi hj hij, fun h i j hi hj hij => h i j hi hj hij⟩
theorem ix_get {l : List (Int × Int)} {p : Int × Int} (hs : Srt l) {n : Nat} (hn : l[n]? = some p) : ix l p = n := by
  obtain ⟨hl, rfl⟩ := List.getElem?_eq_some_iff.1 hn
  exact ix_spec (by omega) (fun j hj hjn => hs j n hj hl hjn) fun _ => ahd_irr _
theorem at_mem {l : List (Int × Int)} {p : Int × Int} (hs : Srt l) : l[ix l p]? = some p ↔ p ∈ l := by
  constructor
  · exact List.mem_of_getElem?
  · intro h
    obtain ⟨n, hn⟩ := List.mem_iff_getElem?.1 h
    rw [ix_get hs hn]
    exact hn
theorem mem_tw {α : Type} {f : α → Bool} {a : α} : ∀ {l : List α}, a ∈ l.takeWhile f → f a = true
  | [], h => by simp at h
  | b :: l, h => by
    by_cases c : f b = true
    · rw [List.takeWhile_cons, if_pos c] at h
      rcases List.mem_cons.1 h with rfl | h
      · exact c
      · exact mem_tw h
    · rw [List.takeWhile_cons, if_neg c] at h
      simp at h
theorem ix_before {l : List (Int × Int)} {p : Int × Int} {j : Nat} (hj : j < l.length) (h : j < ix l p) : ahd l[j] p = true := by
  have h1 : l[j] ∈ l.takeWhile (ahd · p) := by
    have hp : l.takeWhile (ahd · p) <+: l := List.takeWhile_prefix _
    have := hp.getElem (i := j) h
    rw [← this]
    exact List.getElem_mem h
  exact mem_tw (f := fun x => ahd x p) h1
theorem ix_at {l : List (Int × Int)} {p : Int × Int} (h : ix l p < l.length) : ahd l[ix l p] p = false := by
  unfold ix at *
  induction l with
  | nil => simp at h
  | cons a l ih =>
    by_cases c : ahd a p = true
    · simp only [List.takeWhile_cons, c, if_true, List.length_cons, List.getElem_cons_succ] at h ⊢
      exact ih (by omega)
    · simp only [List.takeWhile_cons, c, Bool.false_eq_true, if_false, List.length_nil, List.getElem_cons_zero]
theorem ix_behind {l : List (Int × Int)} {p : Int × Int} (hs : Srt l) (hp : p ∉ l) {j : Nat} (hj : j < l.length) (h : ix l p ≤ j) : ahd p l[j] = true := by
  have h0 : ix l p < l.length := by omega
  have h1 := ix_at h0
  have h2 : ahd p l[ix l p] = true := by
    cases q : ahd p l[ix l p] with
    | true => rfl
    | false => exact absurd (by rw [← ahd_total h1 q]; exact List.getElem_mem h0) hp
  rcases Nat.lt_or_ge (ix l p) j with w | w
  · exact ahd_trans h2 (hs _ _ h0 hj w)
  · have : j = ix l p := by omega
    subst this
    exact h2
theorem srt_ins {l : List (Int × Int)} {p : Int × Int} (hs : Srt l) (hp : p ∉ l) : Srt (l.take (ix l p) ++ p :: l.drop (ix l p)) := by
  have hp2 := srt_iff.1 hs
  rw [srt_iff, List.pairwise_append]
  refine ⟨hp2.sublist (List.take_sublist _ _), List.pairwise_cons.2 ⟨fun b hb => ?_, hp2.sublist (List.drop_sublist _ _)⟩, fun a ha b hb => ?_⟩
  · obtain ⟨i, hi, rfl⟩ := List.mem_iff_getElem.1 hb
    rw [List.getElem_drop]
    exact ix_behind hs hp _ (by omega)
  · have hap : ahd a p = true := by
      obtain ⟨i, hi, rfl⟩ := List.mem_iff_getElem.1 ha
      rw [List.getElem_take]
      rw [List.length_take] at hi
      exact ix_before _ (by omega)
    rcases List.mem_cons.1 hb with rfl | hb
    · exact hap
    · obtain ⟨i, hi, rfl⟩ := List.mem_iff_getElem.1 hb
      rw [List.getElem_drop]
      exact ahd_trans hap (ix_behind hs hp _ (by omega))
structure Good (E : Eth) : Prop where
  cs : Srt E.cuts
  cb : ∀ c ∈ E.cuts, two c.1 c.2 = true ∧ c.1 ≤ c.2
  bs : Srt (ks E)
  bb : ∀ b ∈ E.bags, two b.k.1 b.k.2 = true ∧ mm b.k ∉ E.cuts ∧ 1 ≤ b.l.length ∧ b.l.length ≤ 64
  n : E.bags.length ≤ 1024
theorem cut_mem {l : List (Int × Int)} {p : Int × Int} (hs : Srt l) : cutAt l p = decide (p ∈ l) := by
  unfold cutAt
  rw [decide_eq_decide]
  exact at_mem hs
theorem cuts_ok {l : List (Int × Int)} : cutsOk l = true ↔ Srt l ∧ ∀ c ∈ l, two c.1 c.2 = true ∧ c.1 ≤ c.2 := by
  constructor
  · intro h
    refine ⟨srt_cuts h, fun c hc => ?_⟩
    obtain ⟨i, hi, rfl⟩ := List.mem_iff_getElem.1 hc
    have := List.all_eq_true.1 h i (List.mem_range.2 hi)
    unfold cutOk at this
    simp only [List.getD_eq_getElem?_getD, List.getElem?_eq_getElem hi, Option.getD_some, Bool.and_eq_true, Bool.not_eq_true', decide_eq_false_iff_not] at this
    exact ⟨this.1, by have := this.2.1; omega⟩
  · rintro ⟨hs, hb⟩
    refine all_lt fun i hi => ?_
    have hc := hb _ (List.getElem_mem hi)
    unfold cutOk
    simp only [List.getD_eq_getElem?_getD, List.getElem?_eq_getElem hi, Option.getD_some, Bool.and_eq_true, Bool.not_eq_true', decide_eq_false_iff_not, Bool.or_eq_true]
    refine ⟨hc.1, by have := hc.2; omega, ?_⟩
    by_cases h0 : 0 < i
    · right
      rw [List.getElem?_eq_getElem (show i - 1 < l.length by omega)]
      exact hs _ _ _ hi (by omega)
    · left; exact h0
theorem ks_get {E : Eth} {i : Nat} (hi : i < E.bags.length) : (ks E)[i]? = some E.bags[i].k := by
  unfold ks
  rw [List.getElem?_map, List.getElem?_eq_getElem hi]
  rfl
theorem check_good {E : Eth} : checkB E = true ↔ Good E := by
  constructor
  · intro h
    obtain ⟨c1, c2⟩ := cuts_ok.1 (cuts_of h)
    refine ⟨c1, c2, srt_bags h, fun b hb => ?_, le_1024 h⟩
    obtain ⟨i, hi, rfl⟩ := List.mem_iff_getElem.1 hb
    obtain ⟨_, a2, a3, a4, a5, _⟩ := bag_of2 h hi
    rw [cut_mem c1] at a3
    exact ⟨a2, of_decide_eq_false a3, by omega, by omega⟩
  · intro G
    unfold checkB
    rw [Bool.and_eq_true]
    refine ⟨cuts_ok.2 ⟨G.cs, G.cb⟩, all_lt fun i hi => ?_⟩
    obtain ⟨a1, a2, a3, a4⟩ := G.bb _ (List.getElem_mem hi)
    have hn := G.n
    unfold bagOk
    rw [List.getElem?_eq_getElem hi]
    simp only [cut_mem G.cs, decide_eq_false a2, Bool.and_eq_true, Bool.or_eq_true, Bool.not_eq_true', decide_eq_false_iff_not, Bool.not_false, true_and]
    refine ⟨by omega, a1, by omega, by omega, ?_⟩
    by_cases h0 : 0 < i
    · right
      have := G.bs (i - 1) i (by rw [ks_len]; omega) (by rw [ks_len]; exact hi) (by omega)
      rw [List.getD_eq_getElem?_getD, List.getElem?_eq_getElem (show i - 1 < (ks E).length by rw [ks_len]; omega)]
      have e : (ks E)[i]'(by rw [ks_len]; exact hi) = E.bags[i].k := by
        have := ks_get hi
        rw [List.getElem?_eq_getElem (show i < (ks E).length by rw [ks_len]; exact hi)] at this
        exact Option.some.inj this
      rw [e] at this
      exact this
    · left; exact h0
theorem mt_iff {a b : Int} {c : Int × Int} (hc : c.1 ≤ c.2) : mt a b c = decide (c = mm (a, b)) := by
  obtain ⟨c1, c2⟩ := c
  unfold mt mm
  simp only at hc ⊢
  rw [Bool.eq_iff_iff]
  simp only [Bool.or_eq_true, Bool.and_eq_true, beq_iff_eq, decide_eq_true_eq, Prod.mk.injEq]
  omega
theorem cutI_some {l : List (Int × Int)} {a b : Int} (hs : Srt l) (hb : ∀ c ∈ l, two c.1 c.2 = true ∧ c.1 ≤ c.2) : cutI l a b = if mm (a, b) ∈ l then some (ix l (mm (a, b))) else none := by
  by_cases h : mm (a, b) ∈ l
  · rw [if_pos h]
    have h1 := (at_mem hs).2 h
    obtain ⟨hl, he⟩ := List.getElem?_eq_some_iff.1 h1
    refine find_at hl ?_ fun j hj hji => ?_
    · rw [mt_iff (hb _ (List.getElem_mem hl)).2, he]
      simp
    · rw [mt_iff (hb _ (List.getElem_mem hj)).2, decide_eq_false]
      intro q
      have := hs j _ hj hl hji
      rw [he, q, ahd_irr] at this
      cases this
  · rw [if_neg h]
    refine find_no fun j hj _ => ?_
    rw [mt_iff (hb _ (List.getElem_mem hj)).2, decide_eq_false]
    intro q
    exact h (by rw [← q]; exact List.getElem_mem hj)
theorem bagI_some {l : List (Int × Int)} {p : Int × Int} (hs : Srt l) : bagI l p = if p ∈ l then some (ix l p) else none := by
  have key : ∀ c : Int × Int, (c.1 == p.1 && c.2 == p.2) = decide (c = p) := fun c => by
    obtain ⟨c1, c2⟩ := c
    obtain ⟨p1, p2⟩ := p
    rw [Bool.eq_iff_iff]
    simp
  by_cases h : p ∈ l
  · rw [if_pos h]
    have h1 := (at_mem hs).2 h
    obtain ⟨hl, he⟩ := List.getElem?_eq_some_iff.1 h1
    refine find_at hl ?_ fun j hj hji => ?_
    · rw [key, he]; simp
    · rw [key, decide_eq_false]
      intro q
      have := hs j _ hj hl hji
      rw [he, q, ahd_irr] at this
      cases this
  · rw [if_neg h]
    refine find_no fun j hj _ => ?_
    rw [key, decide_eq_false]
    intro q
    exact h (by rw [← q]; exact List.getElem_mem hj)
theorem may_good {E : Eth} : mayB E = true ↔ Good E := by
  constructor
  · intro h
    unfold mayB at h
    rw [Bool.and_eq_true, Bool.and_eq_true] at h
    obtain ⟨h1, h2, h3⟩ := h
    obtain ⟨c1, c2⟩ := cuts_ok.1 h1
    have key : ∀ i (hi : i < E.bags.length), two E.bags[i].k.1 E.bags[i].k.2 = true ∧ ¬ E.bags[i].l.length < 1 ∧ ¬ E.bags[i].l.length > 64 ∧ mm E.bags[i].k ∉ E.cuts ∧ (0 < i → ahd ((ks E).getD (i - 1) (0, 0)) E.bags[i].k = true) := fun i hi => by
      have := List.all_eq_true.1 h2 i (List.mem_range.2 hi)
      unfold mayBag at this
      rw [List.getElem?_eq_getElem hi] at this
      simp only [Bool.and_eq_true, Bool.or_eq_true, Bool.not_eq_true', decide_eq_false_iff_not] at this
      obtain ⟨a1, a2, a3, a4, a5⟩ := this
      refine ⟨a1, a2, a3, fun q => ?_, fun h0 => ?_⟩
      · rw [cutI_some c1 c2, if_pos q] at a4
        cases a4
      · rcases a5 with a5 | a5
        · exact absurd h0 a5
        · exact a5
    refine ⟨c1, c2, srt_of fun i h0 hi => ?_, fun b hb => ?_, of_decide_eq_true h3⟩
    · rw [ks_len] at hi
      have := (key i hi).2.2.2.2 h0
      rw [List.getD_eq_getElem?_getD (l := ks E) (i := i), ks_get hi]
      exact this
    · obtain ⟨i, hi, rfl⟩ := List.mem_iff_getElem.1 hb
      obtain ⟨a1, a2, a3, a4, _⟩ := key i hi
      exact ⟨a1, a4, by omega, by omega⟩
  · intro G
    unfold mayB
    rw [Bool.and_eq_true, Bool.and_eq_true]
    refine ⟨cuts_ok.2 ⟨G.cs, G.cb⟩, all_lt fun i hi => ?_, decide_eq_true G.n⟩
    obtain ⟨a1, a2, a3, a4⟩ := G.bb _ (List.getElem_mem hi)
    unfold mayBag
    rw [List.getElem?_eq_getElem hi]
    have e : cutI E.cuts E.bags[i].k.1 E.bags[i].k.2 = none := by rw [cutI_some G.cs G.cb, if_neg a2]
    simp only [e, Option.isSome_none, Bool.and_eq_true, Bool.or_eq_true, Bool.not_eq_true', decide_eq_false_iff_not, Bool.not_false, true_and]
    refine ⟨a1, by omega, by omega, ?_⟩
    by_cases h0 : 0 < i
    · right
      have := G.bs (i - 1) i (by rw [ks_len]; omega) (by rw [ks_len]; exact hi) (by omega)
      rw [List.getD_eq_getElem?_getD, List.getElem?_eq_getElem (show i - 1 < (ks E).length by rw [ks_len]; omega)]
      have e : (ks E)[i]'(by rw [ks_len]; exact hi) = E.bags[i].k := by
        have := ks_get hi
        rw [List.getElem?_eq_getElem (show i < (ks E).length by rw [ks_len]; exact hi)] at this
        exact Option.some.inj this
      rw [e] at this
      exact this
    · left; exact h0
theorem may_check {E : Eth} : mayB E = checkB E := by
  rw [Bool.eq_iff_iff, may_good, check_good]
theorem ks_modL {E : Eth} {j : Nat} {f : List Pcl → List Pcl} : ks (modL E j f) = ks E := by
  unfold ks modL
  apply List.ext_getElem?
  intro i
  simp only [List.getElem?_map, List.getElem?_modify]
  cases E.bags[i]? with
  | none => rfl
  | some b => by_cases c : j = i <;> simp [c]
theorem mem_modL {E : Eth} {j : Nat} {f : List Pcl → List Pcl} {b : Bg} (h : b ∈ (modL E j f).bags) : b ∈ E.bags ∨ ∃ c, E.bags[j]? = some c ∧ b = ⟨c.k, f c.l⟩ := by
  obtain ⟨i, hi⟩ := List.mem_iff_getElem?.1 h
  unfold modL at hi
  simp only [List.getElem?_modify] at hi
  cases hq : E.bags[i]? with
  | none => rw [hq] at hi; cases hi
  | some c =>
    rw [hq] at hi
    by_cases w : j = i
    · subst w
      simp only [if_true, Option.map_eq_map, Option.map_some, Option.some.injEq] at hi
      exact .inr ⟨c, hq, hi.symm⟩
    · have : b = c := by simpa [w] using hi.symm
      subst this
      exact .inl (List.mem_of_getElem? hq)
theorem good_mod {E : Eth} {j : Nat} {f : List Pcl → List Pcl} (G : Good E) (hf : ∀ b, E.bags[j]? = some b → 1 ≤ (f b.l).length ∧ (f b.l).length ≤ 64) : Good (modL E j f) where
  cs := G.cs
  cb := G.cb
  bs := by rw [ks_modL]; exact G.bs
  bb := fun b hb => by
    rcases mem_modL hb with q | ⟨c, hc, rfl⟩
    · exact G.bb b q
    · obtain ⟨a1, a2, _, _⟩ := G.bb c (List.mem_of_getElem? hc)
      obtain ⟨b1, b2⟩ := hf c hc
      exact ⟨a1, a2, b1, b2⟩
  n := by
    have := G.n
    simpa [modL] using this
theorem good_sub {E E' : Eth} (G : Good E) (h1 : E'.bags.Sublist E.bags) (h2 : E'.cuts.Sublist E.cuts) : Good E' where
  cs := srt_iff.2 ((srt_iff.1 G.cs).sublist h2)
  cb := fun c hc => G.cb c (h2.subset hc)
  bs := srt_iff.2 ((srt_iff.1 G.bs).sublist (h1.map _))
  bb := fun b hb => by
    obtain ⟨a1, a2, a3, a4⟩ := G.bb b (h1.subset hb)
    exact ⟨a1, fun q => a2 (h2.subset q), a3, a4⟩
  n := Nat.le_trans h1.length_le G.n
theorem btw_mm {a b : Int} {k : Int × Int} : btw a b k = decide (mm k = mm (a, b)) := by
  obtain ⟨k1, k2⟩ := k
  unfold btw mm
  rw [Bool.eq_iff_iff]
  simp only [Bool.or_eq_true, Bool.and_eq_true, beq_iff_eq, decide_eq_true_eq, Prod.mk.injEq]
  omega
theorem good_cut {E : Eth} {a b : Int} (G : Good E) (ht : two a b = true) : Good (dropP (if cutAt E.cuts (mm (a, b)) then E else insCut E (mm (a, b))) a b) := by
  have sub : (E.bags.filter fun x => !btw a b x.k).Sublist E.bags := List.filter_sublist
  rw [cut_mem G.cs]
  by_cases hc : mm (a, b) ∈ E.cuts
  · rw [if_pos (by simpa using hc)]
    exact good_sub G sub (List.Sublist.refl _)
  · rw [if_neg (by simpa using hc)]
    refine ⟨srt_ins G.cs hc, fun c hcm => ?_, srt_iff.2 ((srt_iff.1 G.bs).sublist (sub.map _)), fun x hx => ?_, Nat.le_trans sub.length_le G.n⟩
    · rcases List.mem_append.1 hcm with q | q
      · exact G.cb c (List.mem_of_mem_take q)
      · rcases List.mem_cons.1 q with rfl | q
        · unfold mm two at *
          simp only [Bool.and_eq_true, decide_eq_true_eq, bne_iff_ne] at ht ⊢
          omega
        · exact G.cb c (List.mem_of_mem_drop q)
    · obtain ⟨h1, h2⟩ := List.mem_filter.1 hx
      obtain ⟨a1, a2, a3, a4⟩ := G.bb x h1
      refine ⟨a1, fun q => ?_, a3, a4⟩
      rcases List.mem_append.1 q with q | q
      · exact a2 (List.mem_of_mem_take q)
      · rcases List.mem_cons.1 q with q | q
        · rw [btw_mm, decide_eq_true q] at h2
          cases h2
        · exact a2 (List.mem_of_mem_drop q)
theorem good_take {E : Eth} {j k : Nat} (G : Good E) (hk : k < (lAt E j).length) : Good (takeP E j k) := by
  unfold takeP
  by_cases h1 : (lAt E j).length = 1
  · rw [if_pos h1]
    exact good_sub G (List.eraseIdx_sublist ..) (List.Sublist.refl _)
  · rw [if_neg h1]
    refine good_mod G fun b hb => ?_
    have e : lAt E j = b.l := by unfold lAt; rw [hb]
    rw [e] at h1 hk
    obtain ⟨_, _, _, a4⟩ := G.bb b (List.mem_of_getElem? hb)
    rw [List.length_eraseIdx, if_pos hk]
    omega
theorem plc_lt {x : Act} {l : List Pcl} (h : 0 < l.length) : plc x l < l.length := by
  unfold plc
  have := Int.emod_lt_of_pos x.n (show (0 : Int) < ((l.length : Nat) : Int) by omega)
  have := Int.emod_nonneg x.n (show ((l.length : Nat) : Int) ≠ 0 by omega)
  omega
theorem there_at {E : Eth} {p : Int × Int} (h : there E p = true) : ∃ b, E.bags[ix (ks E) p]? = some b ∧ b.k = p := by
  have hi := there_lt h
  refine ⟨_, List.getElem?_eq_getElem hi, ?_⟩
  have := of_decide_eq_true h
  rw [ks_get hi] at this
  exact Option.some.inj this
theorem good_do {E : Eth} {x : Act} (G : Good E) : Good (doP E x).1 := by
  unfold doP
  by_cases h1 : isCutAct x = true
  · rw [if_pos h1]
    unfold isCutAct at h1
    rw [Bool.and_eq_true] at h1
    exact good_cut G h1.2
  rw [if_neg h1]
  by_cases h2 : isMend x = true
  · rw [if_pos h2]
    show Good (if cutAt E.cuts (mm x.p) then delCut E (mm x.p) else E)
    split
    · exact good_sub G (List.Sublist.refl _) (List.eraseIdx_sublist ..)
    · exact G
  rw [if_neg h2]
  by_cases h3 : noAct E x = true
  · rw [if_pos h3]; exact G
  rw [if_neg h3]
  have hth : there E x.p = true := by
    cases hth : there E x.p with
    | true => rfl
    | false => unfold noAct at h3; rw [hth] at h3; simp at h3
  obtain ⟨b, hb, hbk⟩ := there_at hth
  obtain ⟨a1, a2, a3, a4⟩ := G.bb b (List.mem_of_getElem? hb)
  have el : lAt E (ix (ks E) x.p) = b.l := by unfold lAt; rw [hb]
  have hpl : plc x (lAt E (ix (ks E) x.p)) < (lAt E (ix (ks E) x.p)).length := plc_lt (by rw [el]; omega)
  unfold parP
  generalize pclAt (lAt E (ix (ks E) x.p)) (plc x (lAt E (ix (ks E) x.p))) = q
  generalize plc x (lAt E (ix (ks E) x.p)) = k at hpl
  by_cases h4 : isBend x q = true
  · rw [if_pos h4]
    dsimp only
    refine good_mod G fun c hc => ?_
    rw [hb] at hc; cases hc
    simp only [List.length_set]
    exact ⟨a3, a4⟩
  rw [if_neg h4]
  by_cases h5 : isTwice x (lAt E (ix (ks E) x.p)) = true
  · rw [if_pos h5]
    unfold isTwice at h5
    rw [Bool.and_eq_true, el] at h5
    have := of_decide_eq_true h5.2
    dsimp only
    refine good_mod G fun c hc => ?_
    rw [hb] at hc; cases hc
    simp
    omega
  rw [if_neg h5]
  by_cases h6 : isTake x = true
  · rw [if_pos h6]
    exact good_take G hpl
  · rw [if_neg h6]
    exact G
end Go.Proofs.Ytomfknocpijmbaa
end
section
set_option linter.unusedVariables false
set_option linter.unusedSimpArgs false
namespace Go.Proofs.Ytomfknocpijmbaa
open Go.Am
def SB (l : List Bg) : Nat := (l.map fun b => b.l.length).sum
theorem SB_cons {a : Bg} {l : List Bg} : SB (a :: l) = a.l.length + SB l := by simp [SB]
theorem SB_mod {g : Bg → Bg} : ∀ {l : List Bg} {j : Nat} {b : Bg}, l[j]? = some b → SB (l.modify j g) + b.l.length = SB l + (g b).l.length
  | [], j, b, h => by simp at h
  | a :: l, 0, b, h => by
    simp at h
    subst h
    rw [List.modify_zero_cons, SB_cons, SB_cons]
    omega
  | a :: l, j + 1, b, h => by
    have := SB_mod (g := g) (l := l) (j := j) (b := b) (by simpa using h)
    rw [List.modify_succ_cons, SB_cons, SB_cons]
    omega
theorem SB_erase : ∀ {l : List Bg} {j : Nat} {b : Bg}, l[j]? = some b → SB (l.eraseIdx j) + b.l.length = SB l
  | [], j, b, h => by simp at h
  | a :: l, 0, b, h => by
    simp at h
    subst h
    rw [List.eraseIdx_cons_zero, SB_cons]
    omega
  | a :: l, j + 1, b, h => by
    have := SB_erase (l := l) (j := j) (b := b) (by simpa using h)
    rw [List.eraseIdx_cons_succ, SB_cons, SB_cons]
    omega
theorem SB_filter {f : Bg → Bool} : ∀ {l : List Bg}, SB (l.filter fun b => !f b) + SB (l.filter f) = SB l
  | [] => rfl
  | a :: l => by
    have := SB_filter (f := f) (l := l)
    simp only [List.filter_cons]
    cases f a with
    | true => simp only [Bool.not_true, Bool.false_eq_true, if_false, if_true, SB_cons]; omega
    | false => simp only [Bool.not_false, Bool.false_eq_true, if_false, if_true, SB_cons]; omega
theorem SB_or {f g : Bg → Bool} (hd : ∀ b, f b = true → g b = false) : ∀ {l : List Bg}, SB (l.filter fun b => f b || g b) = SB (l.filter f) + SB (l.filter g)
  | [] => rfl
  | a :: l => by
    have := SB_or hd (l := l)
    have h := hd a
    simp only [List.filter_cons]
    cases hf : f a with
    | true => simp only [h hf, Bool.or_false, Bool.false_eq_true, if_false, if_true, SB_cons]; omega
    | false =>
      cases hg : g a with
      | true => simp only [Bool.or_true, Bool.false_eq_true, if_false, if_true, SB_cons]; omega
      | false => simp only [Bool.or_false, Bool.false_eq_true, if_false]; omega
theorem SB_none {p : Int × Int} {l : List Bg} (h : ∀ b ∈ l, b.k ≠ p) : SB (l.filter fun b => decide (b.k = p)) = 0 := by
  rw [List.filter_eq_nil_iff.2 fun b hb => by simp [h b hb]]
  rfl
theorem SB_key {p : Int × Int} : ∀ {l : List Bg} {j : Nat} {b : Bg}, (l.map (·.k)).Pairwise (fun a b => ahd a b = true) → l[j]? = some b → b.k = p → SB (l.filter fun b => decide (b.k = p)) = b.l.length
  | [], j, b, _, h, _ => by simp at h
  | a :: l, 0, b, hp, h, hk => by
    simp at h
    subst h
    rw [List.map_cons, List.pairwise_cons] at hp
    rw [List.filter_cons, if_pos (by simpa using hk), SB_cons, SB_none fun c hc e => by
      have := hp.1 c.k (List.mem_map_of_mem hc)
      rw [e, hk, ahd_irr] at this
      cases this]
    rfl
  | a :: l, j + 1, b, hp, h, hk => by
    rw [List.map_cons, List.pairwise_cons] at hp
    have hb : l[j]? = some b := by simpa using h
    have : a.k ≠ p := fun e => by
      have := hp.1 b.k (List.mem_map_of_mem (List.mem_of_getElem? hb))
      rw [e, hk, ahd_irr] at this
      cases this
    rw [List.filter_cons, if_neg (by simpa using this)]
    exact SB_key hp.2 hb hk
def onE (E : Eth) (p : Int × Int) : Nat := if there E p then (lAt E (ix (ks E) p)).length else 0
theorem on_key {E : Eth} {p : Int × Int} (G : Good E) : SB (E.bags.filter fun b => decide (b.k = p)) = onE E p := by
  unfold onE
  cases hth : there E p with
  | true =>
    obtain ⟨b, hb, hk⟩ := there_at hth
    rw [SB_key (srt_iff.1 G.bs) hb hk]
    unfold lAt
    rw [hb]
    rfl
  | false =>
    rw [SB_none fun b hb e => by
      have : p ∈ ks E := by rw [← e]; exact List.mem_map_of_mem hb
      have h2 := (at_mem G.bs).2 this
      unfold there at hth
      rw [decide_eq_true h2] at hth
      cases hth]
    rfl
theorem on_two {E : Eth} {p : Int × Int} (G : Good E) (ht : two p.1 p.2 = false) : onE E p = 0 := by
  unfold onE
  cases hth : there E p with
  | false => rfl
  | true =>
    obtain ⟨b, hb, hk⟩ := there_at hth
    have := (G.bb b (List.mem_of_getElem? hb)).1
    rw [hk, ht] at this
    cases this
theorem two_sym {a b : Int} : two a b = two b a := by
  unfold two
  rw [Bool.eq_iff_iff]
  simp only [Bool.and_eq_true, decide_eq_true_eq, bne_iff_ne]
  omega
theorem cnt_drop {E : Eth} {a b : Int} (G : Good E) (ht : two a b = true) : SB (E.bags.filter fun x => !btw a b x.k) + onE E (a, b) + onE E (b, a) = SB E.bags := by
  have h1 : SB (E.bags.filter fun x => !btw a b x.k) + SB (E.bags.filter fun x => btw a b x.k) = SB E.bags := SB_filter
  have e : (fun x : Bg => btw a b x.k) = fun x => decide (x.k = (a, b)) || decide (x.k = (b, a)) := by
    funext x
    obtain ⟨⟨k1, k2⟩, l⟩ := x
    unfold btw
    rw [Bool.eq_iff_iff]
    simp
  have hne : a ≠ b := by
    unfold two at ht
    simp only [Bool.and_eq_true, decide_eq_true_eq, bne_iff_ne] at ht
    exact ht.2
  have h2 : SB (E.bags.filter fun x => btw a b x.k) = SB (E.bags.filter fun x => decide (x.k = (a, b))) + SB (E.bags.filter fun x => decide (x.k = (b, a))) := by
    rw [e]
    exact SB_or (f := fun x => decide (x.k = (a, b))) (g := fun x => decide (x.k = (b, a))) (fun x hx => by
    have h1 := of_decide_eq_true hx
    rw [h1]
    simp
    omega) (l := E.bags)
  rw [on_key G, on_key G] at h2
  omega
theorem SB_cnt {E : Eth} : cntE E = SB E.bags := rfl
theorem cnt_modL {E : Eth} {j : Nat} {f : List Pcl → List Pcl} {b : Bg} (hb : E.bags[j]? = some b) : cntE (modL E j f) + b.l.length = cntE E + (f b.l).length := SB_mod (g := fun b => ⟨b.k, f b.l⟩) hb
theorem cnt_take {E : Eth} {j k : Nat} {b : Bg} (hb : E.bags[j]? = some b) (hk : k < b.l.length) : cntE (takeP E j k) + 1 = cntE E := by
  have el : lAt E j = b.l := by unfold lAt; rw [hb]
  unfold takeP
  by_cases h1 : (lAt E j).length = 1
  · rw [if_pos h1]
    have := SB_erase hb
    rw [el] at h1
    rw [SB_cnt, SB_cnt]
    dsimp only
    omega
  · rw [if_neg h1]
    have := cnt_modL (f := (·.eraseIdx k)) hb
    rw [List.length_eraseIdx, if_pos hk] at this
    omega
theorem cnt_do {E : Eth} {x : Act} (G : Good E) :
    (x.kd = 5 → cntE (doP E x).1 + onE E (x.a, x.b) + onE E (x.b, x.a) = cntE E) ∧
    (x.kd ≠ 5 → 0 < onE E (x.a, x.b) → (x.kd = 1 ∨ x.kd = 2) → cntE (doP E x).1 + 1 = cntE E) ∧
    (x.kd ≠ 5 → ¬ (0 < onE E (x.a, x.b) ∧ (x.kd = 1 ∨ x.kd = 2)) → 0 < onE E (x.a, x.b) → onE E (x.a, x.b) < 64 → x.kd = 3 → cntE (doP E x).1 = cntE E + 1) ∧
    (x.kd ≠ 5 → ¬ (0 < onE E (x.a, x.b) ∧ (x.kd = 1 ∨ x.kd = 2)) → ¬ (0 < onE E (x.a, x.b) ∧ onE E (x.a, x.b) < 64 ∧ x.kd = 3) → cntE (doP E x).1 = cntE E) ∧
    (doP E x).2.2 = (decide (0 < onE E (x.a, x.b)) && decide (x.kd = 1)) := by
  unfold doP
  by_cases h1 : isCutAct x = true
  · rw [if_pos h1]
    unfold isCutAct at h1
    rw [Bool.and_eq_true] at h1
    have h5 : x.kd = 5 := by simpa using h1.1
    have := cnt_drop G h1.2
    have e : ∀ E1 : Eth, E1.bags = E.bags → cntE (dropP E1 x.a x.b) = SB (E.bags.filter fun y => !btw x.a x.b y.k) := fun E1 h => by unfold dropP; rw [h]; rfl
    refine ⟨fun _ => ?_, fun q => absurd h5 q, fun q => absurd h5 q, fun q => absurd h5 q, ?_⟩
    · dsimp only
      rw [e _ (by split <;> rfl)]
      exact this
    · rw [h5]
      simp
  rw [if_neg h1]
  have two5 : x.kd = 5 → onE E (x.a, x.b) = 0 ∧ onE E (x.b, x.a) = 0 := fun h5 => by
    have ht : two x.a x.b = false := by
      unfold isCutAct at h1
      rw [h5] at h1
      simpa using h1
    exact ⟨on_two G ht, on_two G (by rw [two_sym]; exact ht)⟩
  by_cases h2 : isMend x = true
  · rw [if_pos h2]
    have h6 : x.kd = 6 := by unfold isMend at h2; simpa using h2
    have e : cntE (if cutAt E.cuts (mm x.p) = true then delCut E (mm x.p) else E) = cntE E := by split <;> rfl
    dsimp only
    rw [e, h6]
    refine ⟨fun q => ?_, fun _ _ q => ?_, fun _ _ _ _ q => ?_, fun _ _ _ => rfl, ?_⟩
    · omega
    · omega
    · omega
    · simp
  rw [if_neg h2]
  by_cases h3 : noAct E x = true
  · rw [if_pos h3]
    dsimp only
    have h30 : there E (x.a, x.b) = false ∨ x.kd < 1 ∨ 4 < x.kd := by
      unfold noAct at h3
      simpa [Act.p] using h3
    have ho : there E (x.a, x.b) = false → onE E (x.a, x.b) = 0 := fun h => by unfold onE; rw [h]; rfl
    refine ⟨fun q => ?_, fun _ q1 q2 => ?_, fun _ _ q1 _ q2 => ?_, fun _ _ _ => rfl, ?_⟩
    · have := two5 q
      omega
    · rcases h30 with h | h
      · have := ho h; omega
      · omega
    · rcases h30 with h | h
      · have := ho h; omega
      · omega
    · rcases h30 with h | h
      · rw [ho h]; simp
      · have : ¬ x.kd = 1 := by omega
        simp [this]
  rw [if_neg h3]
  have hth : there E x.p = true := by
    cases hth : there E x.p with
    | true => rfl
    | false => unfold noAct at h3; rw [hth] at h3; simp at h3
  have hkd : 1 ≤ x.kd ∧ x.kd ≤ 4 := by
    unfold noAct at h3
    rw [hth] at h3
    simp at h3
    omega
  obtain ⟨b, hb, hbk⟩ := there_at hth
  obtain ⟨a1, a2, a3, a4⟩ := G.bb b (List.mem_of_getElem? hb)
  have el : lAt E (ix (ks E) x.p) = b.l := by unfold lAt; rw [hb]
  have hon : onE E (x.a, x.b) = b.l.length := by
    unfold onE
    rw [show ((x.a, x.b) : Int × Int) = x.p from rfl, hth, if_pos rfl, el]
  have hpl : plc x (lAt E (ix (ks E) x.p)) < (lAt E (ix (ks E) x.p)).length := plc_lt (by rw [el]; omega)
  unfold parP
  rw [el] at hpl ⊢
  rw [hon]
  generalize pclAt b.l (plc x b.l) = q
  generalize plc x b.l = k at hpl
  by_cases h4 : isBend x q = true
  · rw [if_pos h4]
    dsimp only
    unfold isBend at h4
    have h40 : x.kd = 4 := by simp at h4; exact h4.1
    have := cnt_modL (f := (·.set k (bendB q.1 x.w, true))) hb
    rw [List.length_set] at this
    refine ⟨fun q => ?_, fun _ q1 q2 => ?_, fun _ _ q1 _ q2 => ?_, fun _ _ _ => ?_, ?_⟩
    · omega
    · omega
    · omega
    · omega
    · simp [h40]
  rw [if_neg h4]
  by_cases h5 : isTwice x b.l = true
  · rw [if_pos h5]
    dsimp only
    unfold isTwice at h5
    have h50 : x.kd = 3 ∧ b.l.length < 64 := by simpa using h5
    have := cnt_modL (f := (· ++ [q])) hb
    simp only [List.length_append, List.length_singleton] at this
    refine ⟨fun q => ?_, fun _ q1 q2 => ?_, fun _ _ q1 _ q2 => ?_, fun _ _ _ => ?_, ?_⟩
    · omega
    · omega
    · omega
    · omega
    · simp [h50.1]
  rw [if_neg h5]
  have h50 : ¬ (x.kd = 3 ∧ b.l.length < 64) := fun q => h5 (by unfold isTwice; simp [q.1, q.2])
  by_cases h6 : isTake x = true
  · rw [if_pos h6]
    dsimp only
    have h60 : x.kd = 1 ∨ x.kd = 2 := by unfold isTake at h6; simpa using h6
    have := cnt_take hb hpl
    refine ⟨fun q => ?_, fun _ q1 q2 => ?_, fun _ _ q1 _ q2 => ?_, fun _ _ _ => ?_, ?_⟩
    · omega
    · omega
    · omega
    · omega
    · rw [Bool.eq_iff_iff]
      simp
      omega
  · rw [if_neg h6]
    dsimp only
    have h60 : ¬ (x.kd = 1 ∨ x.kd = 2) := fun q => h6 (by unfold isTake; simpa using q)
    refine ⟨fun q => ?_, fun _ q1 q2 => ?_, fun _ _ q1 _ q2 => ?_, fun _ _ _ => rfl, ?_⟩
    · omega
    · omega
    · omega
    · have : ¬ x.kd = 1 := by omega
      simp [this]
end Go.Proofs.Ytomfknocpijmbaa
end
section
set_option linter.unusedVariables false
set_option linter.unusedSimpArgs false
namespace Go.Proofs.Ytomfknocpijmbaa
open Go.Am
def AcR (e : List AV) (x : Act) : Prop := e = [.sc (.int .i64 x.kd), .sc (.int .i64 x.a), .sc (.int .i64 x.b), .sc (.int .i64 x.n), .sc (.int .i64 x.w)]
structure Sm (E : Eth) (c : Nat) : Prop where
  g : Good E
  c : E.cuts.length ≤ c
  b : ∀ b ∈ E.bags, ∀ x ∈ b.l, x.1.length ≤ 5000
theorem Sm.szd {E : Eth} {c : Nat} (S : Sm E c) (hc : c ≤ 2 ^ 20) : Szd E := ⟨Nat.le_trans S.g.n (by omega), Nat.le_trans S.c hc, fun b hb => ⟨Nat.le_trans (S.g.bb b hb).2.2.2 (by omega), fun x hx => Nat.le_trans (S.b b hb x hx) (by omega)⟩⟩
theorem pcl_mem {l : List Pcl} {k : Nat} (hk : k < l.length) : pclAt l k ∈ l := by
  unfold pclAt
  simp [hk]
theorem by_do {E : Eth} {x : Act} {n : Nat} (G : Good E) (hb : ∀ b ∈ E.bags, ∀ y ∈ b.l, y.1.length ≤ n) : ∀ b ∈ (doP E x).1.bags, ∀ y ∈ b.l, y.1.length ≤ n := by
  unfold doP
  by_cases h1 : isCutAct x = true
  · rw [if_pos h1]
    intro b hm
    have : ∀ E1 : Eth, E1.bags = E.bags → b ∈ (dropP E1 x.a x.b).bags → b ∈ E.bags := fun E1 e h => by
      unfold dropP at h
      rw [e] at h
      exact (List.mem_filter.1 h).1
    exact hb b (this _ (by split <;> rfl) hm)
  rw [if_neg h1]
  by_cases h2 : isMend x = true
  · rw [if_pos h2]
    intro b hm
    have : (if cutAt E.cuts (mm x.p) = true then delCut E (mm x.p) else E).bags = E.bags := by split <;> rfl
    exact hb b (by rw [← this]; exact hm)
  rw [if_neg h2]
  by_cases h3 : noAct E x = true
  · rw [if_pos h3]; exact hb
  rw [if_neg h3]
  unfold parP
  generalize hL : lAt E (ix (ks E) x.p) = L
  have hc : ∀ c, E.bags[ix (ks E) x.p]? = some c → c.l = L ∧ pclAt L (plc x L) ∈ c.l := fun c hc => by
    have e : c.l = L := by rw [← hL]; unfold lAt; rw [hc]
    have := (G.bb c (List.mem_of_getElem? hc)).2.2.1
    exact ⟨e, by rw [e]; exact pcl_mem (plc_lt (by rw [← e]; omega))⟩
  generalize pclAt L (plc x L) = q at *
  generalize plc x L = k at *
  by_cases h4 : isBend x q = true
  · rw [if_pos h4]
    intro b hm y hy
    rcases mem_modL hm with h | ⟨c, hcc, rfl⟩
    · exact hb b h y hy
    · obtain ⟨e, hq⟩ := hc c hcc
      have hcb := hb c (List.mem_of_getElem? hcc)
      rcases List.mem_or_eq_of_mem_set hy with h | rfl
      · exact hcb y h
      · rw [bendB_len]; exact hcb q hq
  rw [if_neg h4]
  by_cases h5 : isTwice x L = true
  · rw [if_pos h5]
    intro b hm y hy
    rcases mem_modL hm with h | ⟨c, hcc, rfl⟩
    · exact hb b h y hy
    · obtain ⟨e, hq⟩ := hc c hcc
      have hcb := hb c (List.mem_of_getElem? hcc)
      rcases List.mem_append.1 hy with h | h
      · exact hcb y h
      · rw [List.mem_singleton] at h
        subst h
        exact hcb y hq
  rw [if_neg h5]
  by_cases h6 : isTake x = true
  · rw [if_pos h6]
    intro b hm y hy
    unfold takeP at hm
    by_cases h7 : (lAt E (ix (ks E) x.p)).length = 1
    · rw [if_pos h7] at hm
      exact hb b (List.mem_of_mem_eraseIdx hm) y hy
    · rw [if_neg h7] at hm
      rcases mem_modL hm with h | ⟨c, hcc, rfl⟩
      · exact hb b h y hy
      · exact hb c (List.mem_of_getElem? hcc) y (List.mem_of_mem_eraseIdx hy)
  · rw [if_neg h6]; exact hb
theorem sm_do {E : Eth} {x : Act} {c : Nat} (S : Sm E c) : Sm (doP E x).1 (c + 1) := by
  refine ⟨good_do S.g, ?_, ?_⟩
  · have hc := S.c
    unfold doP
    split
    · split
      · show E.cuts.length ≤ _
        omega
      · simp only [dropP, insCut, List.length_append, List.length_take, List.length_cons, List.length_drop]
        omega
    split
    · split
      · simp only [delCut]
        rw [List.length_eraseIdx]
        split <;> omega
      · show E.cuts.length ≤ _
        omega
    split
    · show E.cuts.length ≤ _
      omega
    · unfold parP takeP modL
      dsimp only
      split
      · dsimp only; omega
      split
      · dsimp only; omega
      split
      · dsimp only
        split <;> (dsimp only; omega)
      · dsimp only; omega
  · exact by_do S.g S.b
theorem bagI_there {E : Eth} {p : Int × Int} (G : Good E) : bagI (ks E) p = if there E p then some (ix (ks E) p) else none := by
  rw [bagI_some G.bs]
  unfold there
  by_cases h : p ∈ ks E
  · rw [if_pos h, decide_eq_true ((at_mem G.bs).2 h), if_pos rfl]
  · rw [if_neg h, decide_eq_false (fun q => h ((at_mem G.bs).1 q))]
    rfl
theorem cnt_le {E : Eth} (G : Good E) : cntE E ≤ 1024 * 64 := by
  have key : ∀ l : List Bg, (∀ b ∈ l, b.l.length ≤ 64) → SB l ≤ l.length * 64 := by
    intro l
    induction l with
    | nil => intro _; simp [SB]
    | cons a l ih =>
      intro h
      have h1 := h a (by simp)
      have h2 := ih fun b hb => h b (by simp [hb])
      rw [SB_cons, List.length_cons]
      omega
  have h1 := key E.bags fun b hb => (G.bb b hb).2.2.2
  have h2 := G.n
  rw [SB_cnt]
  have := Nat.mul_le_mul_right 64 h2
  omega
theorem cntB_good {E : Eth} (G : Good E) : cntB E = cntE E := by unfold cntB; rw [check_good.2 G]; rfl
variable {P : Program} (H : Has P)
include H
set_option maxHeartbeats 4000000 in
theorem counts_law (hQ : ∀ p q : Bool, scalarBin P .neq 4 (.bool p) (.bool q) = some (.bool (p != q)))
    (hE : ∀ {f : Nat}, f = 55 ∨ f = 57 → ∀ {o1 c1 s1 n1 o2 c2 s2 n2 : Nat} {l1 l2 : Option Nat} {cs1 cs2 : List AV} {h : Heap}, h o1 = some (.arr cs1) → h o2 = some (.arr cs2) → o1 ≠ o2 → cs2 ≠ [] → AWF P ann 0 f [.rs o1 c1 s1 n1 l1, .rs o2 c2 s2 n2 l2] h fun v h' => v = .sc (.bool false) ∧ h' = h)
    {bv cv lv : AV} {E : Eth} {bes ces aes : List (List AV)} {acts : List Act} (hbv : SF 3 bv bes) (hB : RR BgR bes E.bags) (hcv : SF 2 cv ces) (hC : RR CK ces E.cuts) (hlv : SF 5 lv aes) (hA : RR AcR aes acts) (h : Heap) :
    AWF P ann 0 5 [.ag [bv, cv], lv] h fun r h' => r = .sc (.bool true) := by
  refine AWF.fnc H.f0_5 rfl ?_
  (refine W_seq_gen fun N hN => ?_); simp (disch := omega) only [go_sem, ↓reduceIte, true_and, Nat.reduceLeDiff, Nat.reduceEqDiff, Nat.reduceAdd, Nat.reduceBEq, Int.reduceEq, hbv.disc, hcv.disc]
  intro o ho
  have ho1 : (upd h o (some (.arr [bv, cv]))) o = some (.arr [bv, cv]) := upd_same ..
  generalize upd h o (some (.arr [bv, cv])) = h1 at ho1
  refine hN _ ?_; clear hN N
  refine W_forget (fun t => t 1 = lv ∧ t 2 = .op o 0 ∧ True) (by simp [upd_at, *] <;> and_intros <;> rfl) ?_; rintro t ⟨t1, t2, -⟩
  (refine W_seq_gen fun M hM => ?_)
  simp (disch := omega) only [go_sem, ↓reduceIte, true_and, Nat.reduceLeDiff, Nat.reduceEqDiff, Nat.reduceAdd, Nat.reduceBEq, Int.reduceEq, t2, ho1, hbv.disc, hcv.disc]
  refine (light_ok H hbv hB hcv hC _).mono ?_
  rintro _ hx9 ⟨⟨b, rfl, hL⟩, hh9⟩; rw [hh9]; clear hh9 hx9
  cases b with
  | false =>
    rw [contK_some]; simp (disch := omega) only [go_sem, ↓reduceIte, true_and, Nat.reduceLeDiff, Nat.reduceEqDiff, Nat.reduceAdd, Nat.reduceBEq, Int.reduceEq]
    refine (awake_ok H hE _).mono ?_
    rintro _ hx9 ⟨rfl, hh9⟩; rw [hh9]; clear hh9 hx9
    rw [contK_some]; simp (disch := omega) only [go_sem, ↓reduceIte, true_and, Nat.reduceLeDiff, Nat.reduceEqDiff, Nat.reduceAdd, Nat.reduceBEq, Int.reduceEq]
  | true =>
    obtain ⟨l1, l2, l3⟩ := hL rfl
    rw [contK_some]; simp (disch := omega) only [go_sem, ↓reduceIte, true_and, Nat.reduceLeDiff, Nat.reduceEqDiff, Nat.reduceAdd, Nat.reduceBEq, Int.reduceEq, t2, ho1, hbv.disc, hcv.disc]
    refine (may_ok H hbv hB hcv hC (by omega) (by omega) _).mono ?_
    rintro _ hx9 ⟨rfl, hh9⟩; rw [hh9]; clear hh9 hx9
    cases hm : mayB E with
    | false =>
      rw [contK_some]; simp (disch := omega) only [go_sem, ↓reduceIte, true_and, Nat.reduceLeDiff, Nat.reduceEqDiff, Nat.reduceAdd, Nat.reduceBEq, Int.reduceEq]
      refine (awake_ok H hE _).mono ?_
      rintro _ hx9 ⟨rfl, hh9⟩; rw [hh9]; clear hh9 hx9
      rw [contK_some]; simp (disch := omega) only [go_sem, ↓reduceIte, true_and, Nat.reduceLeDiff, Nat.reduceEqDiff, Nat.reduceAdd, Nat.reduceBEq, Int.reduceEq]
    | true =>
      rw [contK_some]; simp (disch := omega) only [go_sem, ↓reduceIte, true_and, Nat.reduceLeDiff, Nat.reduceEqDiff, Nat.reduceAdd, Nat.reduceBEq, Int.reduceEq]
      refine hM _ ?_; clear hM M
      have S0 : Sm E 60 := ⟨may_good.1 hm, l2, fun b hb => (l3 b hb).2⟩
      clear hm hL l1 l2 l3
      refine W_forget (fun t => t 1 = lv ∧ t 2 = .op o 0 ∧ True) (by simp [upd_at, *] <;> and_intros <;> rfl) ?_; rintro t ⟨t1, t2, -⟩
      (refine W_seq_gen fun M hM => ?_)
      (refine W_seq_gen fun N hN => ?_); simp (disch := omega) only [go_sem, ↓reduceIte, true_and, Nat.reduceLeDiff, Nat.reduceEqDiff, Nat.reduceAdd, Nat.reduceBEq, Int.reduceEq]
      refine hN _ ?_; clear hN N
      simp (disch := omega) only [go_sem, ↓reduceIte, true_and, Nat.reduceLeDiff, Nat.reduceEqDiff, Nat.reduceAdd, Nat.reduceBEq, Int.reduceEq]
      have e1 := hA.len
      refine AW_loopN (fun m t h' => ∃ (i : Nat) (E : Eth) (bv cv : AV) (bes ces : List (List AV)), m = 40 - i ∧ i ≤ 40 ∧ i ≤ acts.length ∧ Sm E (60 + i) ∧ SF 3 bv bes ∧ RR BgR bes E.bags ∧ SF 2 cv ces ∧ RR CK ces E.cuts ∧ h' o = some (.arr [bv, cv]) ∧ t 1 = lv ∧ t 2 = .op o 0 ∧ t 5 = .sc (.int .i64 (i : Nat)))
        (n := 40) ⟨0, E, bv, cv, bes, ces, rfl, by omega, by omega, S0, hbv, hB, hcv, hC, ho1, by simp [upd_at, t1], by simp [upd_at, t2], by simp [upd_at]⟩ ?_
      clear t1 t2 t S0 hbv hB hcv hC ho1 E bv cv bes ces
      rintro m t h' ⟨i, E, bv, cv, bes, ces, rfl, hi, hia, S, hbv, hB, hcv, hC, ho1, t1, t2, t5⟩
      by_cases c1 : i < acts.length ∧ i < 40
      · obtain ⟨c1, c2⟩ := c1
        obtain ⟨e, g0, rfl⟩ := hA.lt c1
        generalize hx : acts[i] = x at g0
        (refine W_seq_gen fun N hN => ?_); simp (disch := omega) only [go_sem, ↓reduceIte, true_and, Nat.reduceLeDiff, Nat.reduceEqDiff, Nat.reduceAdd, Nat.reduceBEq, Int.reduceEq, t1, t5, hlv.same, hlv.disc, hlv.sl.len, e1, c1, c2]
        refine hN _ ?_; clear hN N
        (refine W_seq_gen fun R hR => ?_)
        rw [W_block]
        (refine W_seq_gen fun N hN => ?_); simp (disch := omega) only [go_sem, ↓reduceIte, true_and, Nat.reduceLeDiff, Nat.reduceEqDiff, Nat.reduceAdd, Nat.reduceBEq, Int.reduceEq, t1, t5, hlv.same, hlv.disc, hlv.sl.ia, g0]
        intro o6 ho6
        have n6 : (upd h' o6 (some (.arr [.sc (.int .i64 x.kd), .sc (.int .i64 x.a), .sc (.int .i64 x.b), .sc (.int .i64 x.n), .sc (.int .i64 x.w)]))) o6 = some (.arr [.sc (.int .i64 x.kd), .sc (.int .i64 x.a), .sc (.int .i64 x.b), .sc (.int .i64 x.n), .sc (.int .i64 x.w)]) := upd_same ..
        have n2 : (upd h' o6 (some (.arr [.sc (.int .i64 x.kd), .sc (.int .i64 x.a), .sc (.int .i64 x.b), .sc (.int .i64 x.n), .sc (.int .i64 x.w)]))) o = some (.arr [bv, cv]) := by rw [upd_ne _ _ (fun e => by rw [e, ho6] at ho1; cases ho1)]; exact ho1
        have n26 : o6 ≠ o := fun e => by rw [e, ho1] at ho6; cases ho6
        generalize upd h' o6 (some (.arr [.sc (.int .i64 x.kd), .sc (.int .i64 x.a), .sc (.int .i64 x.b), .sc (.int .i64 x.n), .sc (.int .i64 x.w)])) = h2 at n6 n2
        have hz := S.szd (by omega)
        obtain ⟨z1, z2, z3⟩ := hz
        have hcB := check_good.2 S.g
        have hcl := cnt_le S.g
        refine hN _ ?_; clear hN N
        refine W_forget (fun t => t 1 = lv ∧ t 2 = .op o 0 ∧ t 5 = .sc (.int .i64 (i : Nat)) ∧ t 6 = .op o6 0 ∧ True) (by simp [upd_at, *] <;> and_intros <;> rfl) ?_; rintro t ⟨t1, t2, t5, t6, -⟩
        (refine W_seq_gen fun N hN => ?_); simp (disch := omega) only [go_sem, ↓reduceIte, true_and, Nat.reduceLeDiff, Nat.reduceEqDiff, Nat.reduceAdd, Nat.reduceBEq, Int.reduceEq, t2, n2, hbv.disc, hcv.disc]
        refine (count_ok H hbv hB hcv hC z1 z2 (fun b hb => (z3 b hb).1) _).mono ?_
        rintro _ hx9 ⟨rfl, hh9⟩; rw [hh9]; clear hh9 hx9
        rw [cntB_good S.g]
        rw [contK_some]; simp (disch := omega) only [go_sem, ↓reduceIte, true_and, Nat.reduceLeDiff, Nat.reduceEqDiff, Nat.reduceAdd, Nat.reduceBEq, Int.reduceEq]
        refine hN _ ?_; clear hN N
        refine W_forget (fun t => t 1 = lv ∧ t 2 = .op o 0 ∧ t 5 = .sc (.int .i64 (i : Nat)) ∧ t 6 = .op o6 0 ∧ t 7 = .sc (.int .i64 (cntE E : Nat)) ∧ True) (by simp [upd_at, *] <;> and_intros <;> rfl) ?_; rintro t ⟨t1, t2, t5, t6, t7, -⟩
        (refine W_seq_gen fun N hN => ?_); simp (disch := omega) only [go_sem, ↓reduceIte, true_and, Nat.reduceLeDiff, Nat.reduceEqDiff, Nat.reduceAdd, Nat.reduceBEq, Int.reduceEq]
        refine hN _ ?_; clear hN N
        refine W_forget (fun t => t 1 = lv ∧ t 2 = .op o 0 ∧ t 5 = .sc (.int .i64 (i : Nat)) ∧ t 6 = .op o6 0 ∧ t 7 = .sc (.int .i64 (cntE E : Nat)) ∧ t 8 = .sc (.int .i64 ((0 : Nat) : Int)) ∧ t 9 = .sc (.int .i64 ((0 : Nat) : Int)) ∧ True) (by simp [upd_at, *] <;> and_intros <;> rfl) ?_; rintro t ⟨t1, t2, t5, t6, t7, t8, t9, -⟩
        have rBK : RR BK bes (ks E) := bk_of hB
        have bag : ∀ q : Int × Int, ∃ N : Nat, True := fun _ => ⟨0, trivial⟩
        have hon : ∀ q, onE E q ≤ 64 := fun q => by
          unfold onE
          split
          · rename_i hth
            obtain ⟨b, hb, _⟩ := there_at hth
            unfold lAt
            rw [hb]
            exact (S.g.bb b (List.mem_of_getElem? hb)).2.2.2
          · omega
        (refine W_seq_gen fun K hK => ?_)
        have k8 : ∀ t : Nat → AV, t 1 = lv → t 2 = .op o 0 → t 5 = .sc (.int .i64 (i : Nat)) → t 6 = .op o6 0 → t 7 = .sc (.int .i64 (cntE E : Nat)) → t 8 = .sc (.int .i64 (onE E (x.a, x.b) : Nat)) → t 9 = .sc (.int .i64 ((0 : Nat) : Int)) → K ⟨t, h2⟩ := by
          clear t1 t2 t5 t6 t7 t8 t9 t
          intro t t1 t2 t5 t6 t7 t8 t9
          refine hK _ ?_
          (refine W_seq_gen fun J hJ => ?_)
          have k9 : ∀ t : Nat → AV, t 1 = lv → t 2 = .op o 0 → t 5 = .sc (.int .i64 (i : Nat)) → t 6 = .op o6 0 → t 7 = .sc (.int .i64 (cntE E : Nat)) → t 8 = .sc (.int .i64 (onE E (x.a, x.b) : Nat)) → t 9 = .sc (.int .i64 (onE E (x.b, x.a) : Nat)) → J ⟨t, h2⟩ := by
            clear t1 t2 t5 t6 t7 t8 t9 t
            intro t t1 t2 t5 t6 t7 t8 t9
            refine hJ _ ?_
            (refine W_seq_gen fun N hN => ?_); simp (disch := omega) only [go_sem, ↓reduceIte, true_and, Nat.reduceLeDiff, Nat.reduceEqDiff, Nat.reduceAdd, Nat.reduceBEq, Int.reduceEq, t2, t6, n2, n6, hbv.disc, hcv.disc]
            refine (do_ok H (x := x) hbv hB hcv hC ⟨z1, z2, z3⟩ (fun {_ _ _ _ _ _ _ _ _ _ _ _ _} => hE (.inr rfl)) _).mono ?_
            rintro _ hx9 ⟨⟨v2, w2, rfl, hv2, hw2⟩, hh9⟩; rw [hh9]; clear hh9 hx9
            rw [hcB] at hv2 hw2 ⊢
            obtain ⟨bv2, cv2, bes2, ces2, rfl, sb2, rb2, sc2, rc2⟩ := hv2
            simp only [if_true] at rb2 rc2 hw2
            have S2 : Sm (doP E x).1 (60 + i + 1) := sm_do S
            have hcd := cnt_do (x := x) S.g
            have o1 := hon (x.a, x.b)
            have o2 := hon (x.b, x.a)
            generalize onE E (x.a, x.b) = na at *
            generalize onE E (x.b, x.a) = nb at *
            obtain ⟨y1, y2, y3, y4, y5⟩ := hcd
            generalize doP E x = D at *
            obtain ⟨D1, D2, D3⟩ := D
            dsimp only at *
            subst y5
            have hcl2 := cnt_le S2.g
            have hz2 := S2.szd (by omega)
            rw [contK_some]; simp (disch := omega) only [go_sem, ↓reduceIte, true_and, Nat.reduceLeDiff, Nat.reduceEqDiff, Nat.reduceAdd, Nat.reduceBEq, Int.reduceEq, sb2.disc, sc2.disc, hw2.same, hw2.disc]
            intro o12 ho12
            have m12 : (upd h2 o12 (some (.arr [bv2, cv2]))) o12 = some (.arr [bv2, cv2]) := upd_same ..
            have mk : ∀ y X, h2 y = some X → (upd h2 o12 (some (.arr [bv2, cv2]))) y = some X := fun y X hX => by rw [upd_ne _ _ (fun e => by rw [e, ho12] at hX; cases hX)]; exact hX
            have m2 := mk o _ n2
            have m6 := mk o6 _ n6
            have n122 : o12 ≠ o := fun e => by rw [e, n2] at ho12; cases ho12
            generalize (upd h2 o12 (some (.arr [bv2, cv2]))) = h3 at m12 m2 m6
            clear mk
            refine hN _ ?_; clear hN N
            refine W_forget (fun t => t 1 = lv ∧ t 2 = .op o 0 ∧ t 5 = .sc (.int .i64 (i : Nat)) ∧ t 6 = .op o6 0 ∧ t 7 = .sc (.int .i64 (cntE E : Nat)) ∧ t 8 = .sc (.int .i64 (na : Nat)) ∧ t 9 = .sc (.int .i64 (nb : Nat)) ∧ t 12 = .op o12 0 ∧ t 14 = .sc (.bool (decide (0 < na) && decide (x.kd = 1))) ∧ t 15 = .sc (.int .i64 ((0 : Nat) : Int)) ∧ True) (by simp [upd_at, *] <;> and_intros <;> rfl) ?_; rintro t ⟨t1, t2, t5, t6, t7, t8, t9, t12, t14, t15, -⟩
            (refine W_seq_gen fun N hN => ?_); simp (disch := omega) only [go_sem, ↓reduceIte, true_and, Nat.reduceLeDiff, Nat.reduceEqDiff, Nat.reduceAdd, Nat.reduceBEq, Int.reduceEq, t15]
            refine hN _ ?_; clear hN N
            refine W_forget (fun t => t 1 = lv ∧ t 2 = .op o 0 ∧ t 5 = .sc (.int .i64 (i : Nat)) ∧ t 6 = .op o6 0 ∧ t 7 = .sc (.int .i64 (cntE E : Nat)) ∧ t 8 = .sc (.int .i64 (na : Nat)) ∧ t 9 = .sc (.int .i64 (nb : Nat)) ∧ t 12 = .op o12 0 ∧ t 14 = .sc (.bool (decide (0 < na) && decide (x.kd = 1))) ∧ True) (by simp [upd_at, *] <;> and_intros <;> rfl) ?_; rintro t ⟨t1, t2, t5, t6, t7, t8, t9, t12, t14, -⟩
            (refine W_seq_gen fun N hN => ?_); simp (disch := omega) only [go_sem, ↓reduceIte, true_and, Nat.reduceLeDiff, Nat.reduceEqDiff, Nat.reduceAdd, Nat.reduceBEq, Int.reduceEq, t7]
            refine hN _ ?_; clear hN N
            refine W_forget (fun t => t 1 = lv ∧ t 2 = .op o 0 ∧ t 5 = .sc (.int .i64 (i : Nat)) ∧ t 6 = .op o6 0 ∧ t 7 = .sc (.int .i64 (cntE E : Nat)) ∧ t 8 = .sc (.int .i64 (na : Nat)) ∧ t 9 = .sc (.int .i64 (nb : Nat)) ∧ t 12 = .op o12 0 ∧ t 14 = .sc (.bool (decide (0 < na) && decide (x.kd = 1))) ∧ t 16 = .sc (.int .i64 (cntE E : Nat)) ∧ True) (by simp [upd_at, *] <;> and_intros <;> rfl) ?_; rintro t ⟨t1, t2, t5, t6, t7, t8, t9, t12, t14, t16, -⟩
            (refine W_seq_gen fun L hL => ?_)
            have done : ∀ t : Nat → AV, t 1 = lv → t 2 = .op o 0 → t 5 = .sc (.int .i64 (i : Nat)) → t 6 = .op o6 0 → t 8 = .sc (.int .i64 (na : Nat)) → t 12 = .op o12 0 → t 14 = .sc (.bool (decide (0 < na) && decide (x.kd = 1))) → t 16 = .sc (.int .i64 (cntE D1 : Nat)) → L ⟨t, h3⟩ := by
              clear t1 t2 t5 t6 t7 t8 t9 t12 t14 t16 t
              intro t t1 t2 t5 t6 t8 t12 t14 t16
              refine hL _ ?_
              (refine W_seq_gen fun L2 hL2 => ?_)
              have done2 : ∀ t : Nat → AV, t 1 = lv → t 2 = .op o 0 → t 5 = .sc (.int .i64 (i : Nat)) → t 12 = .op o12 0 → L2 ⟨t, h3⟩ := by
                clear t1 t2 t5 t6 t8 t12 t14 t16 t
                intro t t1 t2 t5 t12
                refine hL2 _ ?_
                simp (disch := omega) only [go_sem, ↓reduceIte, true_and, Nat.reduceLeDiff, Nat.reduceEqDiff, Nat.reduceAdd, Nat.reduceBEq, Int.reduceEq, t2, t12, m12, m2, sb2.disc, sc2.disc, setRA2]
                refine hR _ ?_
                simp (disch := omega) only [go_sem, ↓reduceIte, true_and, Nat.reduceLeDiff, Nat.reduceEqDiff, Nat.reduceAdd, Nat.reduceBEq, Int.reduceEq, t5, nat_add]
                exact ⟨40 - (i + 1), by omega, i + 1, D1, bv2, cv2, bes2, ces2, rfl, by omega, by omega, S2, sb2, rb2, sc2, rc2, by simp [upd], by simp [upd_at, t1], by simp [upd_at, t2], by simp [upd_at]⟩
              simp (disch := omega) only [go_sem, ↓reduceIte, true_and, Nat.reduceLeDiff, Nat.reduceEqDiff, Nat.reduceAdd, Nat.reduceBEq, Int.reduceEq, t12, m12, sb2.disc, sc2.disc]
              refine (count_ok H sb2 rb2 sc2 rc2 hz2.1 hz2.2.1 (fun b hb => (hz2.2.2 b hb).1) _).mono ?_
              rintro _ hx9 ⟨rfl, hh9⟩; rw [hh9]; clear hh9 hx9
              rw [cntB_good S2.g]
              have l9 : (((cntE D1 : Nat) : Int) != ((cntE D1 : Nat) : Int)) = false := by simp
              have bt : (true != true) = false := rfl
              have bf : (false != false) = false := rfl
              by_cases p1 : 0 < na
              · have dA : decide (0 < na) = true := decide_eq_true p1
                have dB : decide (na > 0) = true := decide_eq_true p1
                by_cases p2 : x.kd = 1
                · have q2 : decide (x.kd = 1) = true := decide_eq_true p2
                  have e1 : (x.kd == ((1 : Nat) : Int)) = true := by simpa using p2
                  rw [dA, q2] at t14
                  rw [contK_some]; simp (disch := omega) only [go_sem, ↓reduceIte, true_and, Nat.reduceLeDiff, Nat.reduceEqDiff, Nat.reduceAdd, Nat.reduceBEq, Int.reduceEq, l9, t6, t8, t14, t16, m6, dA, dB, e1, hQ, bt, bf]
                  exact done2 _ (by simp [upd_at, t1]) (by simp [upd_at, t2]) (by simp [upd_at, t5]) (by simp [upd_at, t12])
                · have q2 : decide (x.kd = 1) = false := decide_eq_false p2
                  have e1 : (x.kd == ((1 : Nat) : Int)) = false := by simpa using p2
                  rw [dA, q2] at t14
                  rw [contK_some]; simp (disch := omega) only [go_sem, ↓reduceIte, true_and, Nat.reduceLeDiff, Nat.reduceEqDiff, Nat.reduceAdd, Nat.reduceBEq, Int.reduceEq, l9, t6, t8, t14, t16, m6, dA, dB, e1, hQ, bt, bf]
                  exact done2 _ (by simp [upd_at, t1]) (by simp [upd_at, t2]) (by simp [upd_at, t5]) (by simp [upd_at, t12])
              · have dA : decide (0 < na) = false := decide_eq_false p1
                have dB : decide (na > 0) = false := decide_eq_false p1
                rw [dA] at t14
                rw [contK_some]; simp (disch := omega) only [go_sem, ↓reduceIte, true_and, Nat.reduceLeDiff, Nat.reduceEqDiff, Nat.reduceAdd, Nat.reduceBEq, Int.reduceEq, l9, t6, t8, t14, t16, m6, dA, dB, hQ, bt, bf]
                exact done2 _ (by simp [upd_at, t1]) (by simp [upd_at, t2]) (by simp [upd_at, t5]) (by simp [upd_at, t12])
            rw [W_block]
            by_cases p5 : x.kd = 5
            · have e5 : (x.kd == ((5 : Nat) : Int)) = true := by simpa using p5
              have y := y1 p5
              have s1 : ((cntE E : Nat) : Int) - ((na : Nat) : Int) = ((cntE E - na : Nat) : Int) := by omega
              have s2 : ((cntE E - na : Nat) : Int) - ((nb : Nat) : Int) = ((cntE D1 : Nat) : Int) := by omega
              simp (disch := omega) only [go_sem, ↓reduceIte, true_and, Nat.reduceLeDiff, Nat.reduceEqDiff, Nat.reduceAdd, Nat.reduceBEq, Int.reduceEq, t6, t7, t8, t9, m6, e5, s1, s2]
              exact done _ (by simp [upd_at, t1]) (by simp [upd_at, t2]) (by simp [upd_at, t5]) (by simp [upd_at, t6]) (by simp [upd_at, t8]) (by simp [upd_at, t12]) (by simp [upd_at, t14]) (by simp [upd_at])
            · have e5 : (x.kd == ((5 : Nat) : Int)) = false := by simpa using p5
              by_cases p1 : 0 < na
              · have dA : decide (0 < na) = true := decide_eq_true p1
                have dB : decide (na > 0) = true := decide_eq_true p1
                have s1 : x.kd = 1 ∨ x.kd = 2 → ((cntE E : Nat) : Int) - ((1 : Nat) : Int) = ((cntE D1 : Nat) : Int) := fun q => by
                  have := y2 p5 p1 q
                  omega
                by_cases p2 : x.kd = 1
                · have e1 : (x.kd == ((1 : Nat) : Int)) = true := by simpa using p2
                  have s1 := s1 (.inl p2)
                  simp (disch := omega) only [go_sem, ↓reduceIte, true_and, Nat.reduceLeDiff, Nat.reduceEqDiff, Nat.reduceAdd, Nat.reduceBEq, Int.reduceEq, t6, t7, t8, m6, e5, dA, dB, e1, s1]
                  exact done _ (by simp [upd_at, t1]) (by simp [upd_at, t2]) (by simp [upd_at, t5]) (by simp [upd_at, t6]) (by simp [upd_at, t8]) (by simp [upd_at, t12]) (by simp [upd_at, t14]) (by simp [upd_at])
                · have e1 : (x.kd == ((1 : Nat) : Int)) = false := by simpa using p2
                  by_cases p3 : x.kd = 2
                  · have e2 : (x.kd == ((2 : Nat) : Int)) = true := by simpa using p3
                    have s1 := s1 (.inr p3)
                    simp (disch := omega) only [go_sem, ↓reduceIte, true_and, Nat.reduceLeDiff, Nat.reduceEqDiff, Nat.reduceAdd, Nat.reduceBEq, Int.reduceEq, t6, t7, t8, m6, e5, dA, dB, e1, e2, s1]
                    exact done _ (by simp [upd_at, t1]) (by simp [upd_at, t2]) (by simp [upd_at, t5]) (by simp [upd_at, t6]) (by simp [upd_at, t8]) (by simp [upd_at, t12]) (by simp [upd_at, t14]) (by simp [upd_at])
                  · have e2 : (x.kd == ((2 : Nat) : Int)) = false := by simpa using p3
                    have no12 : ¬ (0 < na ∧ (x.kd = 1 ∨ x.kd = 2)) := by omega
                    by_cases p4 : na < 64
                    · have dC : decide (na < 64) = true := decide_eq_true p4
                      by_cases p6 : x.kd = 3
                      · have e3 : (x.kd == ((3 : Nat) : Int)) = true := by simpa using p6
                        have y := y3 p5 no12 p1 p4 p6
                        have s1 : ((cntE E : Nat) : Int) + ((1 : Nat) : Int) = ((cntE D1 : Nat) : Int) := by omega
                        simp (disch := omega) only [go_sem, ↓reduceIte, true_and, Nat.reduceLeDiff, Nat.reduceEqDiff, Nat.reduceAdd, Nat.reduceBEq, Int.reduceEq, t6, t7, t8, m6, e5, dA, dB, dC, e1, e2, e3, s1]
                        exact done _ (by simp [upd_at, t1]) (by simp [upd_at, t2]) (by simp [upd_at, t5]) (by simp [upd_at, t6]) (by simp [upd_at, t8]) (by simp [upd_at, t12]) (by simp [upd_at, t14]) (by simp [upd_at])
                      · have e3 : (x.kd == ((3 : Nat) : Int)) = false := by simpa using p6
                        have y := y4 p5 no12 (by omega)
                        simp (disch := omega) only [go_sem, ↓reduceIte, true_and, Nat.reduceLeDiff, Nat.reduceEqDiff, Nat.reduceAdd, Nat.reduceBEq, Int.reduceEq, t6, t7, t8, m6, e5, dA, dB, dC, e1, e2, e3]
                        exact done _ (by simp [upd_at, t1]) (by simp [upd_at, t2]) (by simp [upd_at, t5]) (by simp [upd_at, t6]) (by simp [upd_at, t8]) (by simp [upd_at, t12]) (by simp [upd_at, t14]) (by simp [upd_at, t16, y])
                    · have dC : decide (na < 64) = false := decide_eq_false p4
                      have y := y4 p5 no12 (by omega)
                      simp (disch := omega) only [go_sem, ↓reduceIte, true_and, Nat.reduceLeDiff, Nat.reduceEqDiff, Nat.reduceAdd, Nat.reduceBEq, Int.reduceEq, t6, t7, t8, m6, e5, dA, dB, dC, e1, e2]
                      exact done _ (by simp [upd_at, t1]) (by simp [upd_at, t2]) (by simp [upd_at, t5]) (by simp [upd_at, t6]) (by simp [upd_at, t8]) (by simp [upd_at, t12]) (by simp [upd_at, t14]) (by simp [upd_at, t16, y])
              · have dA : decide (0 < na) = false := decide_eq_false p1
                have dB : decide (na > 0) = false := decide_eq_false p1
                have y := y4 p5 (by omega) (by omega)
                simp (disch := omega) only [go_sem, ↓reduceIte, true_and, Nat.reduceLeDiff, Nat.reduceEqDiff, Nat.reduceAdd, Nat.reduceBEq, Int.reduceEq, t6, t7, t8, m6, e5, dA, dB]
                exact done _ (by simp [upd_at, t1]) (by simp [upd_at, t2]) (by simp [upd_at, t5]) (by simp [upd_at, t6]) (by simp [upd_at, t8]) (by simp [upd_at, t12]) (by simp [upd_at, t14]) (by simp [upd_at, t16, y])
          simp (disch := omega) only [go_sem, ↓reduceIte, true_and, Nat.reduceLeDiff, Nat.reduceEqDiff, Nat.reduceAdd, Nat.reduceBEq, Int.reduceEq, t2, t6, n2, n6, hbv.disc, hcv.disc]
          refine (Bag_ok H hcv.disc hbv rBK (by rw [ks_len]; omega) (x.b, x.a) _).mono ?_
          rintro _ hx9 ⟨rfl, hh9⟩; rw [hh9]; clear hh9 hx9
          rw [bagI_there S.g]
          cases hth : there E (x.b, x.a) with
          | false =>
            have e0 : onE E (x.b, x.a) = 0 := by unfold onE; rw [hth]; rfl
            have e1 : decide (optI none ≥ ((0 : Nat) : Int)) = false := by decide
            simp only [Bool.false_eq_true, if_false]
            rw [contK_some]; simp (disch := omega) only [go_sem, ↓reduceIte, true_and, Nat.reduceLeDiff, Nat.reduceEqDiff, Nat.reduceAdd, Nat.reduceBEq, Int.reduceEq, e1]
            exact k9 _ (by simp [upd_at, t1]) (by simp [upd_at, t2]) (by simp [upd_at, t5]) (by simp [upd_at, t6]) (by simp [upd_at, t7]) (by simp [upd_at, t8]) (by simp [upd_at, t9, e0])
          | true =>
            have hi := there_lt hth
            obtain ⟨e, g1, lw, xs, rfl, sl, rl⟩ := hB.lt hi
            have ll := rl.len
            have e0 : onE E (x.b, x.a) = E.bags[ix (ks E) (x.b, x.a)].l.length := by unfold onE lAt; rw [hth, List.getElem?_eq_getElem hi]; rfl
            have e1 : decide (optI (some (ix (ks E) (x.b, x.a))) ≥ ((0 : Nat) : Int)) = true := by simp [optI]
            have e2 : optI (some (ix (ks E) (x.b, x.a))) = ((ix (ks E) (x.b, x.a) : Nat) : Int) := rfl
            simp only [if_true]
            rw [e2]
            have e1 : decide (0 ≤ ix (ks E) (x.b, x.a)) = true := by simp
            rw [contK_some]; simp (disch := omega) only [go_sem, ↓reduceIte, true_and, Nat.reduceLeDiff, Nat.reduceEqDiff, Nat.reduceAdd, Nat.reduceBEq, Int.reduceEq, e1, t2, n2, hbv.same, hbv.disc, hbv.sl.ia, g1, sl.same, sl.disc, sl.sl.len, ll]
            exact k9 _ (by simp [upd_at, t1]) (by simp [upd_at, t2]) (by simp [upd_at, t5]) (by simp [upd_at, t6]) (by simp [upd_at, t7]) (by simp [upd_at, t8]) (by simp [upd_at, e0])
        simp (disch := omega) only [go_sem, ↓reduceIte, true_and, Nat.reduceLeDiff, Nat.reduceEqDiff, Nat.reduceAdd, Nat.reduceBEq, Int.reduceEq, t2, t6, n2, n6, hbv.disc, hcv.disc]
        refine (Bag_ok H hcv.disc hbv rBK (by rw [ks_len]; omega) (x.a, x.b) _).mono ?_
        rintro _ hx9 ⟨rfl, hh9⟩; rw [hh9]; clear hh9 hx9
        rw [bagI_there S.g]
        cases hth : there E (x.a, x.b) with
        | false =>
          have e0 : onE E (x.a, x.b) = 0 := by unfold onE; rw [hth]; rfl
          have e1 : decide (optI none ≥ ((0 : Nat) : Int)) = false := by decide
          simp only [Bool.false_eq_true, if_false]
          rw [contK_some]; simp (disch := omega) only [go_sem, ↓reduceIte, true_and, Nat.reduceLeDiff, Nat.reduceEqDiff, Nat.reduceAdd, Nat.reduceBEq, Int.reduceEq, e1]
          exact k8 _ (by simp [upd_at, t1]) (by simp [upd_at, t2]) (by simp [upd_at, t5]) (by simp [upd_at, t6]) (by simp [upd_at, t7]) (by simp [upd_at, t8, e0]) (by simp [upd_at, t9])
        | true =>
          have hi := there_lt hth
          obtain ⟨e, g1, lw, xs, rfl, sl, rl⟩ := hB.lt hi
          have ll := rl.len
          have e0 : onE E (x.a, x.b) = E.bags[ix (ks E) (x.a, x.b)].l.length := by unfold onE lAt; rw [hth, List.getElem?_eq_getElem hi]; rfl
          have e1 : decide (optI (some (ix (ks E) (x.a, x.b))) ≥ ((0 : Nat) : Int)) = true := by simp [optI]
          have e2 : optI (some (ix (ks E) (x.a, x.b))) = ((ix (ks E) (x.a, x.b) : Nat) : Int) := rfl
          simp only [if_true]
          rw [e2]
          have e1 : decide (0 ≤ ix (ks E) (x.a, x.b)) = true := by simp
          rw [contK_some]; simp (disch := omega) only [go_sem, ↓reduceIte, true_and, Nat.reduceLeDiff, Nat.reduceEqDiff, Nat.reduceAdd, Nat.reduceBEq, Int.reduceEq, e1, t2, n2, hbv.same, hbv.disc, hbv.sl.ia, g1, sl.same, sl.disc, sl.sl.len, ll]
          exact k8 _ (by simp [upd_at, t1]) (by simp [upd_at, t2]) (by simp [upd_at, t5]) (by simp [upd_at, t6]) (by simp [upd_at, t7]) (by simp [upd_at, e0]) (by simp [upd_at, t9])
      · have fin : ∀ t : Nat → AV, M ⟨t, h'⟩ := fun t => by
          refine hM _ ?_
          simp (disch := omega) only [go_sem, ↓reduceIte, true_and, Nat.reduceLeDiff, Nat.reduceEqDiff, Nat.reduceAdd, Nat.reduceBEq, Int.reduceEq]
          refine (awake_ok H hE _).mono ?_
          rintro _ hx9 ⟨rfl, hh9⟩; rw [hh9]; clear hh9 hx9
          rw [contK_some]; simp (disch := omega) only [go_sem, ↓reduceIte, true_and, Nat.reduceLeDiff, Nat.reduceEqDiff, Nat.reduceAdd, Nat.reduceBEq, Int.reduceEq]
        by_cases c3 : i < acts.length
        · have c2 : ¬ i < 40 := fun q => c1 ⟨c3, q⟩
          (refine W_seq_gen fun N hN => ?_); simp (disch := omega) only [go_sem, ↓reduceIte, true_and, Nat.reduceLeDiff, Nat.reduceEqDiff, Nat.reduceAdd, Nat.reduceBEq, Int.reduceEq, t1, t5, hlv.same, hlv.disc, hlv.sl.len, e1, c3, c2]
          exact fin _
        · (refine W_seq_gen fun N hN => ?_); simp (disch := omega) only [go_sem, ↓reduceIte, true_and, Nat.reduceLeDiff, Nat.reduceEqDiff, Nat.reduceAdd, Nat.reduceBEq, Int.reduceEq, t1, t5, hlv.same, hlv.disc, hlv.sl.len, e1, c3]
          exact fin _
end Go.Proofs.Ytomfknocpijmbaa
end
