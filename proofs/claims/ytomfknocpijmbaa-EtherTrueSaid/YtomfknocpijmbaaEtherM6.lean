/- Good ethers; how they turn. -/
import Derived.Test.YtomfknocpijmbaaEtherM5
import Derived.Test.YtomfknocpijmbaaEtherM1
section
set_option linter.unusedVariables false
set_option linter.unusedSimpArgs false
namespace Go.Proofs.Ytomfknocpijmbaa
open Go.Am
theorem srt_iff {l : List (Int × Int)} : Srt l ↔ l.Pairwise fun a b => ahd a b = true := by
 rw [List.pairwise_iff_getElem]
 exact ⟨fun h i j hi hj hij => h i j hi hj hij, fun h i j hi hj hij => h i j hi hj hij⟩
theorem ix_get {l : List (Int × Int)} {p : Int × Int} (hs : Srt l) {n : Nat} (hn : l[n]? = some p) : ix l p = n := by
 obtain ⟨hl, rfl⟩ := List.getElem?_eq_some_iff.1 hn
 exact ix_spec (by omega) (fun j hj hjn => hs j n hj hl hjn) fun _ => ahd_irr _
theorem at_mem {l : List (Int × Int)} {p : Int × Int} (hs : Srt l) : l[ix l p]? = some p ↔ p ∈ l := by
 constructor
 ·exact List.mem_of_getElem?
 ·intro h
  obtain ⟨n, hn⟩ := List.mem_iff_getElem?.1 h
  rw [ix_get hs hn]
  exact hn
theorem mem_tw {α : Type} {f : α → Bool} {a : α} : ∀ {l : List α}, a ∈ l.takeWhile f → f a = true
 | [], h => by simp at h
 | b :: l, h => by
  by_cases c : f b = true
  ·rw [List.takeWhile_cons, if_pos c] at h
   rcases List.mem_cons.1 h with rfl | h
   ·exact c
   ·exact mem_tw h
  ·rw [List.takeWhile_cons, if_neg c] at h
   simp at h
theorem ix_before {l : List (Int × Int)} {p : Int × Int} {j : Nat} (hj : j < l.length) (h : j < ix l p) : ahd l[j] p = true := by
 have h1 : l[j] ∈ l.takeWhile (ahd · p) := by
  have hp : l.takeWhile (ahd · p) <+: l := List.takeWhile_prefix _
  have := hp.getElem (i := j) h
  rw [← this]
  exact List.getElem_mem h
 exact mem_tw (f := fun x => ahd x p) h1
theorem ix_at {l : List (Int × Int)} {p : Int × Int} (h : ix l p < l.length) : ahd l[ix l p] p = false := by
 unfold ix at *
 induction l with
 | nil => simp at h
 | cons a l ih =>
  by_cases c : ahd a p = true
  ·simp only [List.takeWhile_cons, c, if_true, List.length_cons, List.getElem_cons_succ] at h ⊢
   exact ih (by omega)
  ·simp only [List.takeWhile_cons, c, Bool.false_eq_true, if_false, List.length_nil, List.getElem_cons_zero]
theorem ix_behind {l : List (Int × Int)} {p : Int × Int} (hs : Srt l) (hp : p ∉ l) {j : Nat} (hj : j < l.length) (h : ix l p ≤ j) : ahd p l[j] = true := by
 have h0 : ix l p < l.length := by omega
 have h1 := ix_at h0
 have h2 : ahd p l[ix l p] = true := by
  cases q : ahd p l[ix l p] with
  | true => rfl
  | false => exact absurd (by rw [← ahd_total h1 q]; exact List.getElem_mem h0) hp
 rcases Nat.lt_or_ge (ix l p) j with w | w
 ·exact ahd_trans h2 (hs _ _ h0 hj w)
 ·have : j = ix l p := by omega
  subst this
  exact h2
theorem srt_ins {l : List (Int × Int)} {p : Int × Int} (hs : Srt l) (hp : p ∉ l) : Srt (l.take (ix l p) ++ p :: l.drop (ix l p)) := by
 have hp2 := srt_iff.1 hs
 rw [srt_iff, List.pairwise_append]
 refine ⟨hp2.sublist (List.take_sublist _ _), List.pairwise_cons.2 ⟨fun b hb => ?_, hp2.sublist (List.drop_sublist _ _)⟩, fun a ha b hb => ?_⟩
 ·obtain ⟨i, hi, rfl⟩ := List.mem_iff_getElem.1 hb
  rw [List.getElem_drop]
  exact ix_behind hs hp _ (by omega)
 ·have hap : ahd a p = true := by
   obtain ⟨i, hi, rfl⟩ := List.mem_iff_getElem.1 ha
   rw [List.getElem_take]
   rw [List.length_take] at hi
   exact ix_before _ (by omega)
  rcases List.mem_cons.1 hb with rfl | hb
  ·exact hap
  ·obtain ⟨i, hi, rfl⟩ := List.mem_iff_getElem.1 hb
   rw [List.getElem_drop]
   exact ahd_trans hap (ix_behind hs hp _ (by omega))
structure Good (E : Eth) : Prop where
 cs : Srt E.cuts
 cb : ∀ c ∈ E.cuts, two c.1 c.2 = true ∧ c.1 ≤ c.2
 bs : Srt (ks E)
 bb : ∀ b ∈ E.bags, two b.k.1 b.k.2 = true ∧ mm b.k ∉ E.cuts ∧ 1 ≤ b.l.length ∧ b.l.length ≤ 64
 n : E.bags.length ≤ 1024
theorem cut_mem {l : List (Int × Int)} {p : Int × Int} (hs : Srt l) : cutAt l p = decide (p ∈ l) := by
 unfold cutAt
 rw [decide_eq_decide]
 exact at_mem hs
theorem cuts_ok {l : List (Int × Int)} : cutsOk l = true ↔ Srt l ∧ ∀ c ∈ l, two c.1 c.2 = true ∧ c.1 ≤ c.2 := by
 constructor
 ·intro h
  refine ⟨srt_cuts h, fun c hc => ?_⟩
  obtain ⟨i, hi, rfl⟩ := List.mem_iff_getElem.1 hc
  have := List.all_eq_true.1 h i (List.mem_range.2 hi)
  unfold cutOk at this
  simp only [List.getD_eq_getElem?_getD, List.getElem?_eq_getElem hi, Option.getD_some, Bool.and_eq_true, Bool.not_eq_true', decide_eq_false_iff_not] at this
  exact ⟨this.1, by have := this.2.1; omega⟩
 ·rintro ⟨hs, hb⟩
  refine all_lt fun i hi => ?_
  have hc := hb _ (List.getElem_mem hi)
  unfold cutOk
  simp only [List.getD_eq_getElem?_getD, List.getElem?_eq_getElem hi, Option.getD_some, Bool.and_eq_true, Bool.not_eq_true', decide_eq_false_iff_not, Bool.or_eq_true]
  refine ⟨hc.1, by have := hc.2; omega, ?_⟩
  by_cases h0 : 0 < i
  ·right
   rw [List.getElem?_eq_getElem (show i - 1 < l.length by omega)]
   exact hs _ _ _ hi (by omega)
  ·left; exact h0
theorem ks_get {E : Eth} {i : Nat} (hi : i < E.bags.length) : (ks E)[i]? = some E.bags[i].k := by
 unfold ks
 rw [List.getElem?_map, List.getElem?_eq_getElem hi]
 rfl
theorem check_good {E : Eth} : checkB E = true ↔ Good E := by
 constructor
 ·intro h
  obtain ⟨c1, c2⟩ := cuts_ok.1 (cuts_of h)
  refine ⟨c1, c2, srt_bags h, fun b hb => ?_, le_1024 h⟩
  obtain ⟨i, hi, rfl⟩ := List.mem_iff_getElem.1 hb
  obtain ⟨_, a2, a3, a4, a5, _⟩ := bag_of2 h hi
  rw [cut_mem c1] at a3
  exact ⟨a2, of_decide_eq_false a3, by omega, by omega⟩
 ·intro G
  unfold checkB
  rw [Bool.and_eq_true]
  refine ⟨cuts_ok.2 ⟨G.cs, G.cb⟩, all_lt fun i hi => ?_⟩
  obtain ⟨a1, a2, a3, a4⟩ := G.bb _ (List.getElem_mem hi)
  have hn := G.n
  unfold bagOk
  rw [List.getElem?_eq_getElem hi]
  simp only [cut_mem G.cs, decide_eq_false a2, Bool.and_eq_true, Bool.or_eq_true, Bool.not_eq_true', decide_eq_false_iff_not, Bool.not_false, true_and]
  refine ⟨by omega, a1, by omega, by omega, ?_⟩
  by_cases h0 : 0 < i
  ·right
   have := G.bs (i - 1) i (by rw [ks_len]; omega) (by rw [ks_len]; exact hi) (by omega)
   rw [List.getD_eq_getElem?_getD, List.getElem?_eq_getElem (show i - 1 < (ks E).length by rw [ks_len]; omega)]
   have e : (ks E)[i]'(by rw [ks_len]; exact hi) = E.bags[i].k := by
    have := ks_get hi
    rw [List.getElem?_eq_getElem (show i < (ks E).length by rw [ks_len]; exact hi)] at this
    exact Option.some.inj this
   rw [e] at this
   exact this
  ·left; exact h0
theorem ks_modL {E : Eth} {j : Nat} {f : List Pcl → List Pcl} : ks (modL E j f) = ks E := by
 unfold ks modL
 apply List.ext_getElem?
 intro i
 simp only [List.getElem?_map, List.getElem?_modify]
 cases E.bags[i]? with
 | none => rfl
 | some b => by_cases c : j = i <;> simp [c]
theorem mem_modL {E : Eth} {j : Nat} {f : List Pcl → List Pcl} {b : Bg} (h : b ∈ (modL E j f).bags) : b ∈ E.bags ∨ ∃ c, E.bags[j]? = some c ∧ b = ⟨c.k, f c.l⟩ := by
 obtain ⟨i, hi⟩ := List.mem_iff_getElem?.1 h
 unfold modL at hi
 simp only [List.getElem?_modify] at hi
 cases hq : E.bags[i]? with
 | none => rw [hq] at hi; cases hi
 | some c =>
  rw [hq] at hi
  by_cases w : j = i
  ·subst w
   simp only [if_true, Option.map_eq_map, Option.map_some, Option.some.injEq] at hi
   exact .inr ⟨c, hq, hi.symm⟩
  ·have : b = c := by simpa [w] using hi.symm
   subst this
   exact .inl (List.mem_of_getElem? hq)
theorem good_mod {E : Eth} {j : Nat} {f : List Pcl → List Pcl} (G : Good E) (hf : ∀ b, E.bags[j]? = some b → 1 ≤ (f b.l).length ∧ (f b.l).length ≤ 64) : Good (modL E j f) where
 cs := G.cs
 cb := G.cb
 bs := by rw [ks_modL]; exact G.bs
 bb := fun b hb => by
  rcases mem_modL hb with q | ⟨c, hc, rfl⟩
  ·exact G.bb b q
  ·obtain ⟨a1, a2, _, _⟩ := G.bb c (List.mem_of_getElem? hc)
   obtain ⟨b1, b2⟩ := hf c hc
   exact ⟨a1, a2, b1, b2⟩
 n := by
  have := G.n
  simpa [modL] using this
theorem good_sub {E E' : Eth} (G : Good E) (h1 : E'.bags.Sublist E.bags) (h2 : E'.cuts.Sublist E.cuts) : Good E' where
 cs := srt_iff.2 ((srt_iff.1 G.cs).sublist h2)
 cb := fun c hc => G.cb c (h2.subset hc)
 bs := srt_iff.2 ((srt_iff.1 G.bs).sublist (h1.map _))
 bb := fun b hb => by
  obtain ⟨a1, a2, a3, a4⟩ := G.bb b (h1.subset hb)
  exact ⟨a1, fun q => a2 (h2.subset q), a3, a4⟩
 n := Nat.le_trans h1.length_le G.n
theorem btw_mm {a b : Int} {k : Int × Int} : btw a b k = decide (mm k = mm (a, b)) := by
 obtain ⟨k1, k2⟩ := k
 unfold btw mm
 rw [Bool.eq_iff_iff]
 simp only [Bool.or_eq_true, Bool.and_eq_true, beq_iff_eq, decide_eq_true_eq, Prod.mk.injEq]
 omega
theorem good_cut {E : Eth} {a b : Int} (G : Good E) (ht : two a b = true) : Good (dropP (if cutAt E.cuts (mm (a, b)) then E else insCut E (mm (a, b))) a b) := by
 have sub : (E.bags.filter fun x => !btw a b x.k).Sublist E.bags := List.filter_sublist
 rw [cut_mem G.cs]
 by_cases hc : mm (a, b) ∈ E.cuts
 ·rw [if_pos (by simpa using hc)]
  exact good_sub G sub (List.Sublist.refl _)
 ·rw [if_neg (by simpa using hc)]
  refine ⟨srt_ins G.cs hc, fun c hcm => ?_, srt_iff.2 ((srt_iff.1 G.bs).sublist (sub.map _)), fun x hx => ?_, Nat.le_trans sub.length_le G.n⟩
  ·rcases List.mem_append.1 hcm with q | q
   ·exact G.cb c (List.mem_of_mem_take q)
   ·rcases List.mem_cons.1 q with rfl | q
    ·unfold mm two at *
     simp only [Bool.and_eq_true, decide_eq_true_eq, bne_iff_ne] at ht ⊢
     omega
    ·exact G.cb c (List.mem_of_mem_drop q)
  ·obtain ⟨h1, h2⟩ := List.mem_filter.1 hx
   obtain ⟨a1, a2, a3, a4⟩ := G.bb x h1
   refine ⟨a1, fun q => ?_, a3, a4⟩
   rcases List.mem_append.1 q with q | q
   ·exact a2 (List.mem_of_mem_take q)
   ·rcases List.mem_cons.1 q with q | q
    ·rw [btw_mm, decide_eq_true q] at h2
     cases h2
    ·exact a2 (List.mem_of_mem_drop q)
theorem good_take {E : Eth} {j k : Nat} (G : Good E) (hk : k < (lAt E j).length) : Good (takeP E j k) := by
 unfold takeP
 by_cases h1 : (lAt E j).length = 1
 ·rw [if_pos h1]
  exact good_sub G (List.eraseIdx_sublist ..) (List.Sublist.refl _)
 ·rw [if_neg h1]
  refine good_mod G fun b hb => ?_
  have e : lAt E j = b.l := by unfold lAt; rw [hb]
  rw [e] at h1 hk
  obtain ⟨_, _, _, a4⟩ := G.bb b (List.mem_of_getElem? hb)
  rw [List.length_eraseIdx, if_pos hk]
  omega
theorem plc_lt {x : Act} {l : List Pcl} (h : 0 < l.length) : plc x l < l.length := by
 unfold plc
 have := Int.emod_lt_of_pos x.n (show (0 : Int) < ((l.length : Nat) : Int) by omega)
 have := Int.emod_nonneg x.n (show ((l.length : Nat) : Int) ≠ 0 by omega)
 omega
theorem there_at {E : Eth} {p : Int × Int} (h : there E p = true) : ∃ b, E.bags[ix (ks E) p]? = some b ∧ b.k = p := by
 have hi := there_lt h
 refine ⟨_, List.getElem?_eq_getElem hi, ?_⟩
 have := of_decide_eq_true h
 rw [ks_get hi] at this
 exact Option.some.inj this
theorem good_do {E : Eth} {x : Act} (G : Good E) : Good (doP E x).1 := by
 unfold doP
 by_cases h1 : isCutAct x = true
 ·rw [if_pos h1]
  unfold isCutAct at h1
  rw [Bool.and_eq_true] at h1
  exact good_cut G h1.2
 rw [if_neg h1]
 by_cases h2 : isMend x = true
 ·rw [if_pos h2]
  show Good (if cutAt E.cuts (mm x.p) then delCut E (mm x.p) else E)
  split
  ·exact good_sub G (List.Sublist.refl _) (List.eraseIdx_sublist ..)
  ·exact G
 rw [if_neg h2]
 by_cases h3 : noAct E x = true
 ·rw [if_pos h3]; exact G
 rw [if_neg h3]
 have hth : there E x.p = true := by
  cases hth : there E x.p with
  | true => rfl
  | false => unfold noAct at h3; rw [hth] at h3; simp at h3
 obtain ⟨b, hb, hbk⟩ := there_at hth
 obtain ⟨a1, a2, a3, a4⟩ := G.bb b (List.mem_of_getElem? hb)
 have el : lAt E (ix (ks E) x.p) = b.l := by unfold lAt; rw [hb]
 have hpl : plc x (lAt E (ix (ks E) x.p)) < (lAt E (ix (ks E) x.p)).length := plc_lt (by rw [el]; omega)
 unfold parP
 generalize pclAt (lAt E (ix (ks E) x.p)) (plc x (lAt E (ix (ks E) x.p))) = q
 generalize plc x (lAt E (ix (ks E) x.p)) = k at hpl
 by_cases h4 : isBend x q = true
 ·rw [if_pos h4]
  dsimp only
  refine good_mod G fun c hc => ?_
  rw [hb] at hc; cases hc
  simp only [List.length_set]
  exact ⟨a3, a4⟩
 rw [if_neg h4]
 by_cases h5 : isTwice x (lAt E (ix (ks E) x.p)) = true
 ·rw [if_pos h5]
  unfold isTwice at h5
  rw [Bool.and_eq_true, el] at h5
  have := of_decide_eq_true h5.2
  dsimp only
  refine good_mod G fun c hc => ?_
  rw [hb] at hc; cases hc
  simp
  omega
 rw [if_neg h5]
 by_cases h6 : isTake x = true
 ·rw [if_pos h6]
  exact good_take G hpl
 ·rw [if_neg h6]
  exact G
end Go.Proofs.Ytomfknocpijmbaa
end
section
set_option linter.unusedVariables false
set_option linter.unusedSimpArgs false
namespace Go.Proofs.Ytomfknocpijmbaa
open Go.Am
theorem cat_bs {sz : Nat} {es ys : List (List AV)} {lim : Option Nat} : ∃ lim', catV sz ys (.bs true sz es lim) = .bs true sz (es ++ ys) lim' := by
 unfold catV
 by_cases c : ys.length = 0
 ·obtain rfl : ys = [] := List.eq_nil_of_length_eq_zero c
  exact ⟨lim, by simp⟩
 ·exact ⟨_, if_neg c⟩
variable {P : Program} (H : Has P)
include H
end Go.Proofs.Ytomfknocpijmbaa
end
section
set_option linter.unusedVariables false
set_option linter.unusedSimpArgs false
namespace Go.Proofs.Ytomfknocpijmbaa
open Go.Am
variable {P : Program} (H : Has P)
include H
end Go.Proofs.Ytomfknocpijmbaa
end
section
set_option linter.unusedVariables false
set_option linter.unusedSimpArgs false
namespace Go.Proofs.Ytomfknocpijmbaa
open Go.Am
theorem mod_mid {α : Type} {f : α → α} {x : α} : ∀ {A B : List α}, (A ++ x :: B).modify A.length f = A ++ f x :: B
 | [], _ => rfl
 | a :: A, B => by
  show a :: (A ++ x :: B).modify A.length f = _
  rw [mod_mid]
  rfl
theorem there_mem {E : Eth} {p : Int × Int} (G : Good E) : there E p = decide (p ∈ ks E) := by
 unfold there
 exact decide_eq_decide.2 (at_mem G.bs)
end Go.Proofs.Ytomfknocpijmbaa
end
section
set_option linter.unusedVariables false
set_option linter.unusedSimpArgs false
namespace Go.Proofs.Ytomfknocpijmbaa
open Go.Am
end Go.Proofs.Ytomfknocpijmbaa
end
section
set_option linter.unusedVariables false
set_option linter.unusedSimpArgs false
namespace Go.Proofs.Ytomfknocpijmbaa
open Go.Am
def AcR (e : List AV) (x : Act) : Prop := e = [.sc (.int .i64 x.kd), .sc (.int .i64 x.a), .sc (.int .i64 x.b), .sc (.int .i64 x.n), .sc (.int .i64 x.w)]
structure Sm (E : Eth) (c : Nat) : Prop where
 g : Good E
 c : E.cuts.length ≤ c
 b : ∀ b ∈ E.bags, ∀ x ∈ b.l, x.1.length ≤ 5000
theorem Sm.szd {E : Eth} {c : Nat} (S : Sm E c) (hc : c ≤ 2 ^ 20) : Szd E := ⟨Nat.le_trans S.g.n (by omega), Nat.le_trans S.c hc, fun b hb => ⟨Nat.le_trans (S.g.bb b hb).2.2.2 (by omega), fun x hx => Nat.le_trans (S.b b hb x hx) (by omega)⟩⟩
theorem pcl_mem {l : List Pcl} {k : Nat} (hk : k < l.length) : pclAt l k ∈ l := by
 unfold pclAt
 simp [hk]
theorem by_do {E : Eth} {x : Act} {n : Nat} (G : Good E) (hb : ∀ b ∈ E.bags, ∀ y ∈ b.l, y.1.length ≤ n) : ∀ b ∈ (doP E x).1.bags, ∀ y ∈ b.l, y.1.length ≤ n := by
 unfold doP
 by_cases h1 : isCutAct x = true
 ·rw [if_pos h1]
  intro b hm
  have : ∀ E1 : Eth, E1.bags = E.bags → b ∈ (dropP E1 x.a x.b).bags → b ∈ E.bags := fun E1 e h => by
   unfold dropP at h
   rw [e] at h
   exact (List.mem_filter.1 h).1
  exact hb b (this _ (by split <;> rfl) hm)
 rw [if_neg h1]
 by_cases h2 : isMend x = true
 ·rw [if_pos h2]
  intro b hm
  have : (if cutAt E.cuts (mm x.p) = true then delCut E (mm x.p) else E).bags = E.bags := by split <;> rfl
  exact hb b (by rw [← this]; exact hm)
 rw [if_neg h2]
 by_cases h3 : noAct E x = true
 ·rw [if_pos h3]; exact hb
 rw [if_neg h3]
 unfold parP
 generalize hL : lAt E (ix (ks E) x.p) = L
 have hc : ∀ c, E.bags[ix (ks E) x.p]? = some c → c.l = L ∧ pclAt L (plc x L) ∈ c.l := fun c hc => by
  have e : c.l = L := by rw [← hL]; unfold lAt; rw [hc]
  have := (G.bb c (List.mem_of_getElem? hc)).2.2.1
  exact ⟨e, by rw [e]; exact pcl_mem (plc_lt (by rw [← e]; omega))⟩
 generalize pclAt L (plc x L) = q at *
 generalize plc x L = k at *
 by_cases h4 : isBend x q = true
 ·rw [if_pos h4]
  intro b hm y hy
  rcases mem_modL hm with h | ⟨c, hcc, rfl⟩
  ·exact hb b h y hy
  ·obtain ⟨e, hq⟩ := hc c hcc
   have hcb := hb c (List.mem_of_getElem? hcc)
   rcases List.mem_or_eq_of_mem_set hy with h | rfl
   ·exact hcb y h
   ·rw [bendB_len]; exact hcb q hq
 rw [if_neg h4]
 by_cases h5 : isTwice x L = true
 ·rw [if_pos h5]
  intro b hm y hy
  rcases mem_modL hm with h | ⟨c, hcc, rfl⟩
  ·exact hb b h y hy
  ·obtain ⟨e, hq⟩ := hc c hcc
   have hcb := hb c (List.mem_of_getElem? hcc)
   rcases List.mem_append.1 hy with h | h
   ·exact hcb y h
   ·rw [List.mem_singleton] at h
    subst h
    exact hcb y hq
 rw [if_neg h5]
 by_cases h6 : isTake x = true
 ·rw [if_pos h6]
  intro b hm y hy
  unfold takeP at hm
  by_cases h7 : (lAt E (ix (ks E) x.p)).length = 1
  ·rw [if_pos h7] at hm
   exact hb b (List.mem_of_mem_eraseIdx hm) y hy
  ·rw [if_neg h7] at hm
   rcases mem_modL hm with h | ⟨c, hcc, rfl⟩
   ·exact hb b h y hy
   ·exact hb c (List.mem_of_getElem? hcc) y (List.mem_of_mem_eraseIdx hy)
 ·rw [if_neg h6]; exact hb
theorem sm_do {E : Eth} {x : Act} {c : Nat} (S : Sm E c) : Sm (doP E x).1 (c + 1) := by
 refine ⟨good_do S.g, ?_, ?_⟩
 ·have hc := S.c
  unfold doP
  split
  ·split
   ·show E.cuts.length ≤ _
    omega
   ·simp only [dropP, insCut, List.length_append, List.length_take, List.length_cons, List.length_drop]
    omega
  split
  ·split
   ·simp only [delCut]
    rw [List.length_eraseIdx]
    split <;> omega
   ·show E.cuts.length ≤ _
    omega
  split
  ·show E.cuts.length ≤ _
   omega
  ·unfold parP takeP modL
   dsimp only
   split
   ·dsimp only; omega
   split
   ·dsimp only; omega
   split
   ·dsimp only
    split <;> (dsimp only; omega)
   ·dsimp only; omega
 ·exact by_do S.g S.b
variable {P : Program} (H : Has P)
include H
end Go.Proofs.Ytomfknocpijmbaa
end
