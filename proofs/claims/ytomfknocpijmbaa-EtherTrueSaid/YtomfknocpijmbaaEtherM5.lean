/- What any act does; how many parcels. -/
import Derived.Test.YtomfknocpijmbaaEtherM4
section
set_option linter.unusedVariables false
set_option linter.unusedSimpArgs false
namespace Go.Proofs.Ytomfknocpijmbaa
open Go.Am
structure Act where
 kd : Int
 a : Int
 b : Int
 n : Int
 w : Int
def Act.av (x : Act) : AV := .ag [.sc (.int .i64 x.kd), .sc (.int .i64 x.a), .sc (.int .i64 x.b), .sc (.int .i64 x.n), .sc (.int .i64 x.w)]
def Act.p (x : Act) : Int × Int := (x.a, x.b)
def insCut (E : Eth) (p : Int × Int) : Eth := ⟨E.bags, E.cuts.take (ix E.cuts p) ++ p :: E.cuts.drop (ix E.cuts p)⟩
def delCut (E : Eth) (p : Int × Int) : Eth := ⟨E.bags, E.cuts.eraseIdx (ix E.cuts p)⟩
def dropP (E : Eth) (a b : Int) : Eth := ⟨E.bags.filter fun x => !btw a b x.k, E.cuts⟩
def isCutAct (x : Act) : Bool := x.kd == ((5 : Nat) : Int) && two x.a x.b
def isMend (x : Act) : Bool := x.kd == ((6 : Nat) : Int)
def noAct (E : Eth) (x : Act) : Bool := !there E x.p || (decide (x.kd < ((1 : Nat) : Int)) || decide (x.kd > ((4 : Nat) : Int)))
def pclAt (l : List Pcl) (k : Nat) : Pcl := l.getD k ([], false)
def plc (x : Act) (l : List Pcl) : Nat := (x.n % ((l.length : Nat) : Int)).toNat
def isBend (x : Act) (q : Pcl) : Bool := x.kd == ((4 : Nat) : Int) && !q.2
def isTwice (x : Act) (l : List Pcl) : Bool := x.kd == ((3 : Nat) : Int) && decide (l.length < 64)
def isTake (x : Act) : Bool := x.kd == ((1 : Nat) : Int) || x.kd == ((2 : Nat) : Int)
def takeP (E : Eth) (j k : Nat) : Eth := if (lAt E j).length = 1 then ⟨E.bags.eraseIdx j, E.cuts⟩ else modL E j (·.eraseIdx k)
def parP (E : Eth) (x : Act) (j : Nat) (l : List Pcl) (k : Nat) (q : Pcl) : Eth × List UInt8 × Bool :=
 if isBend x q then (modL E j (·.set k (bendB q.1 x.w, true)), [], false)
 else if isTwice x l then (modL E j (· ++ [q]), [], false)
 else if isTake x then (takeP E j k, if x.kd == ((1 : Nat) : Int) then q.1 else [], x.kd == ((1 : Nat) : Int))
 else (E, [], false)
def doP (E : Eth) (x : Act) : Eth × List UInt8 × Bool :=
 if isCutAct x then (dropP (if cutAt E.cuts (mm x.p) then E else insCut E (mm x.p)) x.a x.b, [], false)
 else if isMend x then (if cutAt E.cuts (mm x.p) then delCut E (mm x.p) else E, [], false)
 else if noAct E x then (E, [], false)
 else parP E x (ix (ks E) x.p) (lAt E (ix (ks E) x.p)) (plc x (lAt E (ix (ks E) x.p))) (pclAt (lAt E (ix (ks E) x.p)) (plc x (lAt E (ix (ks E) x.p))))
def DoR (ok : Bool) (r : AV) (D : Eth × List UInt8 × Bool) : Prop :=
 ∃ v w, r = .tu [v, w, .sc (.bool (ok && D.2.2)), .sc (.int .i64 ((if ok then 0 else 1 : Nat) : Int))] ∧ EthV v (if ok then D.1 else ⟨[], []⟩) ∧ SF 1 w (u8s (if ok then D.2.1 else []))
def liveJ (E : Eth) (x : Act) : Nat := if isCutAct x || (isMend x || noAct E x) then E.bags.length else ix (ks E) x.p
theorem box3 {h : Heap} {o3 o4 o5 : Nat} {X Y Z : AObj} (h3 : h o3 = none) (h4 : upd h o3 (some X) o4 = none) (h5 : upd (upd h o3 (some X)) o4 (some Y) o5 = none) :
  ∃ h2, upd (upd (upd h o3 (some X)) o4 (some Y)) o5 (some Z) = h2 ∧ h2 o3 = some X ∧ h2 o4 = some Y ∧ h2 o5 = some Z ∧ (∀ x, h x ≠ none → h2 x = h x) ∧ (h o4 = none ∧ h o5 = none) ∧ (o3 ≠ o4 ∧ o3 ≠ o5 ∧ o4 ≠ o5) := by
 have n34 : o3 ≠ o4 := fun e => by rw [← e, upd_same] at h4; cases h4
 have n45 : o4 ≠ o5 := fun e => by rw [← e, upd_same] at h5; cases h5
 have n35 : o3 ≠ o5 := fun e => by rw [← e, upd_ne _ _ n34, upd_same] at h5; cases h5
 rw [upd_ne _ _ n34.symm] at h4
 rw [upd_ne _ _ n45.symm, upd_ne _ _ n35.symm] at h5
 refine ⟨_, rfl, ?_, ?_, upd_same .., fun x hx => ?_, ⟨h4, h5⟩, n34, n35, n45⟩
 ·rw [upd_ne _ _ n35, upd_ne _ _ n34, upd_same]
 ·rw [upd_ne _ _ n45, upd_same]
 ·rw [upd_ne _ _ (fun e => hx (by rw [e]; exact h5)), upd_ne _ _ (fun e => hx (by rw [e]; exact h4)), upd_ne _ _ (fun e => hx (by rw [e]; exact h3))]
theorem rr_ins {α : Type} {R : List AV → α → Prop} {es : List (List AV)} {l : List α} {i : Nat} {e : List AV} {x : α} (h : RR R es l) (he : R e x) (hi : i ≤ l.length) : RR R (es.take i ++ e :: es.drop i) (l.take i ++ x :: l.drop i) := by
 have hl := h.len
 refine rr_mk (by simp [hl]) fun k e' x' h1 h2 => ?_
 rw [ins_get (by omega)] at h1
 rw [ins_get hi] at h2
 by_cases c1 : k < i
 ·rw [if_pos c1] at h1 h2
  obtain ⟨e2, g, r⟩ := h.get h2
  rw [g] at h1; cases h1; exact r
 ·rw [if_neg c1] at h1 h2
  by_cases c2 : k = i
  ·rw [if_pos c2] at h1 h2
   cases h1; cases h2; exact he
  ·rw [if_neg c2] at h1 h2
   obtain ⟨e2, g, r⟩ := h.get h2
   rw [g] at h1; cases h1; exact r
theorem rr_set {α : Type} {R : List AV → α → Prop} {es : List (List AV)} {l : List α} {i : Nat} {e : List AV} {x : α} (h : RR R es l) (he : R e x) : RR R (es.set i e) (l.set i x) := by
 have hl := h.len
 refine rr_mk (by simp [hl]) fun k e' x' h1 h2 => ?_
 rw [List.getElem?_set] at h1 h2
 by_cases c : i = k
 ·rw [if_pos c] at h1 h2
  split at h2
  ·rw [if_pos (by omega)] at h1
   cases h1; cases h2; exact he
  ·cases h2
 ·rw [if_neg c] at h1 h2
  obtain ⟨e2, g, r⟩ := h.get h2
  rw [g] at h1; cases h1; exact r
theorem rr_erase {α : Type} {R : List AV → α → Prop} {es : List (List AV)} {l : List α} {i : Nat} (h : RR R es l) : RR R (es.eraseIdx i) (l.eraseIdx i) := by
 have hl := h.len
 refine rr_mk (by simp [List.length_eraseIdx, hl]) fun k e' x' h1 h2 => ?_
 rw [List.getElem?_eraseIdx] at h1 h2
 by_cases c1 : k < i
 ·rw [if_pos c1] at h1 h2
  obtain ⟨e2, g, r⟩ := h.get h2
  rw [g] at h1; cases h1; exact r
 ·rw [if_neg c1] at h1 h2
  obtain ⟨e2, g, r⟩ := h.get h2
  rw [g] at h1; cases h1; exact r
theorem iad2 {o n i : Nat} {lim : Option Nat} {t : Nat → AV} {h : Heap} (hi : i < n) : aexIad 2 ((i : Nat) : Int) t h (.rs o 0 2 n lim) = some (.val (.op o (i * 2)) t h) := by
 have : (2 = 2 ∧ (0 : Int) ≤ (i : Int) ∧ (i : Int) < (n : Int)) := ⟨rfl, by omega, by omega⟩
 simp only [aexIad, this, and_self, if_true, Int.toNat_natCast, Nat.zero_add]
theorem len_rs {o c sz n : Nat} {lim : Option Nat} {t : Nat → AV} {h : Heap} : aexLen 0 t h (.rs o c sz n lim) = some (.val (.sc (.int .i64 (n : Nat))) t h) := rfl
theorem erase_rr {h1 h : Heap} {L : List Bg} {j : Nat} {es : List (List AV)} {e : List AV} (hb : Bags h1 h L j es) (hl : es.length = L.length) (hj : j < L.length) : RR BgR ((es.set j e).eraseIdx j) (L.eraseIdx j) := by
 refine rr_mk (by simp [List.length_eraseIdx, hl]) fun i e' b h1 h2 => ?_
 rw [List.getElem?_eraseIdx] at h1 h2
 have key : ∀ m : Nat, m ≠ j → L[m]? = some b → (es.set j e)[m]? = some e' → BgR e' b := fun m hm q1 q2 => by
  rw [List.getElem?_set, if_neg (fun q => hm q.symm)] at q2
  have hi : m < es.length := by
   rcases Nat.lt_or_ge m es.length with w | w
   ·exact w
   ·rw [List.getElem?_eq_none w] at q2; cases q2
  obtain ⟨lw, g2, ys, hp2, hrow2⟩ := hb m b q1 hi
  rw [g2] at q2
  cases q2
  have : decide (m = j) = false := decide_eq_false hm
  simp only [this, Bool.false_eq_true, if_false] at hrow2
  exact ⟨lw, ys, rfl, hrow2, hp2⟩
 by_cases c : i < j
 ·rw [if_pos c] at h1 h2
  exact key i (by omega) h2 h1
 ·rw [if_neg c] at h1 h2
  exact key (i + 1) (by omega) h2 h1
theorem set_row {sz k : Nat} {ys : List (List AV)} {z e : List AV} (hg : GE sz ys) (hk : k < ys.length) (he : e.length = sz) : setRange (ys.flatten ++ z) (k * sz) e = (ys.set k e).flatten ++ z := by
 have h1 : (ys.flatten ++ z).take (k * sz) = (ys.take k).flatten := by
  rw [fl_split k, List.take_left' (fl_len hg (by omega))]
 have h2 : (ys.flatten ++ z).drop (k * sz + e.length) = (ys.drop (k + 1)).flatten ++ z := by
  rw [he, show k * sz + sz = (k + 1) * sz by rw [Nat.succ_mul], fl_drop hg (by omega)]
 unfold setRange
 rw [h1, h2, List.set_eq_take_append_cons_drop, if_pos hk]
 simp
theorem ownS_grow {h0 h1 h h' : Heap} {j : Nat} {B C : AV} {E : Eth} (S : OwnS h0 h1 h j B C E) (hk : ∀ y, h y ≠ none → h' y = h y) : OwnS h0 h1 h' j B C E := by
 obtain ⟨es, xs, oB, oC, ock, odj, oB1, oC1, olen, oge, obag⟩ := S
 exact ⟨es, xs, row_other oB fun o ho => hk o (row_live oB o ho), row_other oC fun o ho => hk o (row_live oC o ho), ock, odj, oB1, oC1, olen, oge, bags_mono obag fun o X _ hX => by rw [hk o (by rw [hX]; simp)]; exact hX⟩
theorem ownS_keep {h0 h1 h h' : Heap} {j o4 : Nat} {B C : AV} {E : Eth} (S : OwnS h0 h1 h j B C E) (h04 : h0 o4 ≠ none) (h14 : h1 o4 ≠ none) (hk : ∀ y, y ≠ o4 → h' y = h y) : OwnS h0 h1 h' j B C E := by
 obtain ⟨es, xs, oB, oC, ock, odj, oB1, oC1, olen, oge, obag⟩ := S
 exact ⟨es, xs, row_other oB fun o ho => hk o (fun e => h04 (by rw [← e]; exact row_fresh oB o ho)), row_other oC fun o ho => hk o (fun e => h04 (by rw [← e]; exact row_fresh oC o ho)), ock, odj, oB1, oC1, olen, oge, bags_mono obag fun o X ho hX => by rw [hk o (fun e => h14 (by rw [← e]; exact ho))]; exact hX⟩
theorem ownS_mod {h2 h3 h6 h8 : Heap} {j o cap : Nat} {z : List AV} {es xs : List (List AV)} {Cv : AV} {E : Eth} {x2 : AV} {ys : List (List AV)} {f : List Pcl → List Pcl} (hj : j < E.bags.length) (a1 : h2 o = none) (a2 : 0 < cap) (a3 : es.length ≤ cap) (a4 : z.length = (cap - es.length) * 3)
  (y : h8 o = some (.arr ((es.set j [.sc (.int .i64 E.bags[j].k.1), .sc (.int .i64 E.bags[j].k.2), x2]).flatten ++ z))) (oC : Row h2 h8 2 Cv xs) (ock : RR CK xs E.cuts) (odj : dj (.rs o 0 3 es.length (some cap)) Cv) (oB1 : h3 o ≠ none) (oC1 : ∀ o, oid Cv = some o → h3 o ≠ none)
  (olen : es.length = E.bags.length) (oge : GE 3 es) (obag : Bags h3 h6 E.bags j es) (x2d : x2.disc = x2) (hp : RR PcR ys (f E.bags[j].l)) (hrow : Row h3 h8 2 x2 ys) : OwnS h2 h3 h8 j (.rs o 0 3 es.length (some cap)) Cv (modL E j f) := by
 refine ⟨es.set j [.sc (.int .i64 E.bags[j].k.1), .sc (.int .i64 E.bags[j].k.2), x2], xs, .inr (.inr ⟨o, cap, z, a1, by rw [List.length_set], a2, by rw [List.length_set]; exact a3, by rw [List.length_set]; exact a4, y⟩), oC, ock, odj, fun o' ho' => (by cases ho'; exact oB1), oC1, by simp [modL, olen], fun e he => ?_, bags_upd (f := f) obag (List.getElem?_eq_getElem hj) (by omega) olen hp hrow⟩
 rcases List.mem_or_eq_of_mem_set he with q | rfl
 ·exact oge e q
 ·exact ⟨rfl, by rw [List.map_cons, List.map_cons, List.map_cons, x2d]; rfl⟩
theorem bags_rr {h1 h : Heap} {L : List Bg} {j : Nat} {es : List (List AV)} (hb : Bags h1 h L j es) (hl : es.length = L.length) (hj : L.length ≤ j) : RR BgR es L :=
 rr_mk hl fun i e b he hb' => by
  have hi : i < L.length := by
   rcases Nat.lt_or_ge i L.length with w | w
   ·exact w
   ·rw [List.getElem?_eq_none w] at hb'; cases hb'
  obtain ⟨lw, g2, ys, hp2, hrow2⟩ := hb i b hb' (by omega)
  rw [g2] at he
  cases he
  have : decide (i = j) = false := decide_eq_false (by omega)
  simp only [this, Bool.false_eq_true, if_false] at hrow2
  exact ⟨lw, ys, rfl, hrow2, hp2⟩
theorem rr_bags {h1 h : Heap} {L : List Bg} {es : List (List AV)} (hr : RR BgR es L) : Bags h1 h L L.length es := fun i b hb hi => by
 have hl : i < L.length := by
  rcases Nat.lt_or_ge i L.length with w | w
  ·exact w
  ·rw [List.getElem?_eq_none w] at hb; cases hb
 obtain ⟨e, g0, lv, ys, rfl, sl, rl⟩ := hr.lt hl
 rw [List.getElem?_eq_getElem hl] at hb
 cases hb
 have : decide (i = L.length) = false := decide_eq_false (by omega)
 rw [this]
 exact ⟨lv, g0, ys, rl, sl⟩
theorem flt_rr {f : Int × Int → Bool} : ∀ {es : List (List AV)} {L : List Bg}, RR BgR es L → RR BgR (fltE f es (L.map (·.k))) (L.filter fun b => !f b.k)
 | [], [], _ => trivial
 | e :: es, b :: L, ⟨h1, h2⟩ => by
  have := flt_rr (f := f) h2
  simp only [List.map_cons, fltE, List.filter_cons]
  cases f b.k with
  | true => simpa using this
  | false => exact ⟨h1, this⟩
 | [], _ :: _, h => h.elim
 | _ :: _, [], h => h.elim
variable {P : Program} (H : Has P)
include H
set_option maxHeartbeats 8000000 in
theorem do_ok {bv cv : AV} {E : Eth} {bes ces : List (List AV)} {x : Act} (hbv : SF 3 bv bes) (hB : RR BgR bes E.bags) (hcv : SF 2 cv ces) (hC : RR CK ces E.cuts) (hz : Szd E)
  (hE : ∀ {o1 c1 s1 n1 o2 c2 s2 n2 : Nat} {l1 l2 : Option Nat} {cs1 cs2 : List AV} {h : Heap}, h o1 = some (.arr cs1) → h o2 = some (.arr cs2) → o1 ≠ o2 → cs2 ≠ [] → AWF P ann 0 57 [.rs o1 c1 s1 n1 l1, .rs o2 c2 s2 n2 l2] h fun v h' => v = .sc (.bool false) ∧ h' = h) (h : Heap) :
  AWF P ann 0 17 [.ag [bv, cv], x.av] h fun r h' => DoR (checkB E) r (doP E x) ∧ h' = h := by
 refine AWF.fnPureA H.f0_17 rfl ?_
 obtain ⟨z1, z2, z3⟩ := hz
 refine A_seq_gen fun N hN => W_sound ?_
 simp (disch := omega) only [go_sem, ↓reduceIte, Nat.reduceEqDiff, Nat.reduceLeDiff, Act.av, hbv.disc, hcv.disc]
 intro o2 ho2 o3 ho3 o4 ho4
 obtain ⟨h2, hh, f2, f3, f4, fk, ⟨no3, no4⟩, n23, n24, n34⟩ := box3 (Z := .arr [.sc (.slice none 0 0), .sc (.slice none 0 0)]) ho2 ho3 ho4
 have no2 : h o2 = none := ho2
 rw [hh]
 clear hh ho2 ho3 ho4
 refine hN _ ?_; clear hN N
 refine A_seq_gen fun N hN => W_sound ?_
 refine W_f (fun t => t 2 = .op o2 0 ∧ t 3 = .op o3 0 ∧ t 4 = .op o4 0 ∧ t 5 = .sc (.slice none 0 0) ∧ t 6 = .sc (.bool false) ∧ t 7 = .sc (.int .i64 ((0 : Nat) : Int)) ∧ True) ?_; rintro t ⟨t2, t3, t4, t5, t6, t7, -⟩
 simp (disch := omega) only [go_sem, ↓reduceIte, Nat.reduceEqDiff, Nat.reduceLeDiff, t2, f2, hbv.disc, hcv.disc]
 refine (check_ok H hbv hB hcv hC (by omega) (by omega) _).to ?_
 cases hcB : checkB E with
 | false =>
  rw [contK_some]; simp (disch := omega) only [go_sem, ↓reduceIte, Nat.reduceEqDiff, Nat.reduceLeDiff, t4, f4, setRA2]
  exact ⟨⟨_, _, rfl, ⟨_, _, [], [], rfl, .inl ⟨rfl, rfl⟩, trivial, .inl ⟨rfl, rfl⟩, trivial⟩, .inl ⟨rfl, rfl⟩⟩, fun y hy => by rw [if_neg (fun e => hy (by rw [e]; exact no4))]; exact fk y hy⟩
 | true =>
  rw [contK_some]; simp (disch := omega) only [go_sem, ↓reduceIte, Nat.reduceEqDiff, Nat.reduceLeDiff]
  refine hN _ ?_; clear hN N
  refine A_seq_gen fun N hN => W_sound ?_
  refine W_f (fun t => t 2 = .op o2 0 ∧ t 3 = .op o3 0 ∧ t 4 = .op o4 0 ∧ t 5 = .sc (.slice none 0 0) ∧ t 6 = .sc (.bool false) ∧ t 7 = .sc (.int .i64 ((0 : Nat) : Int)) ∧ True) ?_; rintro t ⟨t2, t3, t4, t5, t6, t7, -⟩
  simp (disch := omega) only [go_sem, ↓reduceIte, Nat.reduceEqDiff, Nat.reduceLeDiff, t2, f2, hbv.disc, hcv.disc]
  obtain ⟨j, hj⟩ : ∃ j, j = liveJ E x := ⟨_, rfl⟩
  refine (own_ok H hbv hB hcv hC (by omega) (by omega) z3 j _).mono ?_
  rintro r h5 ⟨Bv, Cv, rfl, h3, es, xs, ⟨hBd, hCd⟩, k35, k3, k5, oB, oC, ock, odj, oB1, oC1, olen, oge, obag⟩
  have g2 : h5 o2 = some (.arr [bv, cv]) := by rw [k5 o2 (by rw [f2]; simp), f2]
  rw [contK_some]; simp (disch := omega) only [go_sem, ↓reduceIte, Nat.reduceEqDiff, Nat.reduceLeDiff, hBd, hCd, t2, g2, setRA2]
  have q2 : (upd h5 o2 (some (.arr [Bv, Cv]))) o2 = some (.arr [Bv, Cv]) := upd_same ..
  have qk : ∀ x, x ≠ o2 → (upd h5 o2 (some (.arr [Bv, Cv]))) x = h5 x := fun x hx => upd_ne _ _ hx
  generalize upd h5 o2 (some (.arr [Bv, Cv])) = h6 at q2 qk
  have q3 : h6 o3 = some (.arr [.sc (.int .i64 x.kd), .sc (.int .i64 x.a), .sc (.int .i64 x.b), .sc (.int .i64 x.n), .sc (.int .i64 x.w)]) := by rw [qk o3 n23.symm, k5 o3 (by rw [f3]; simp), f3]
  have q4 : h6 o4 = some (.arr [.sc (.slice none 0 0), .sc (.slice none 0 0)]) := by rw [qk o4 n24.symm, k5 o4 (by rw [f4]; simp), f4]
  have S : OwnS h2 h3 h6 j Bv Cv E := ⟨es, xs, row_other oB (fun o ho => qk o (fun e => by have := row_fresh oB o ho; rw [e, f2] at this; cases this)), row_other oC (fun o ho => qk o (fun e => by have := row_fresh oC o ho; rw [e, f2] at this; cases this)), ock, odj, oB1, oC1, olen, oge, bags_mono obag fun o X ho hX => by rw [qk o (fun e => by rw [e, k3 o2 (by rw [f2]; simp), f2] at ho; cases ho)]; exact hX⟩
  have kh : ∀ x, h x ≠ none → h6 x = h x := fun x hx => by
   have c : x ≠ o2 := fun e => hx (by rw [e]; exact no2)
   rw [qk x c, k5 x (by rw [fk x hx]; exact hx), fk x hx]
  have h23 : ∀ x, h2 x ≠ none → h3 x ≠ none := fun x hx => by rw [k3 x hx]; exact hx
  have k36 : ∀ x, h3 x ≠ none → h6 x ≠ none := fun x hx => by
   by_cases c : x = o2
   ·rw [c, q2]; simp
   ·rw [qk x c]; exact k35 x hx
  clear g2 qk obag oB1 oC1 ock odj oge oB oC olen k5
  have hcS := srt_cuts (cuts_of hcB)
  have hbS := srt_bags hcB
  obtain ⟨es, xs, oB, oC, ock, odj, oB1, oC1, olen, oge, obag⟩ := id S
  have rdB := row_rd oB oge
  have rdC := row_rd oC (ck_ge ock)
  have sB := row_dis oB hBd
  have sC := row_dis oC hCd
  have rBK : RR BK es (ks E) := bags_bk obag olen oge
  have fin : ∀ (Q : Ex → St → Prop), (∀ s, ((∃ v, resA [.cell 4 true 2, .tmp 5, .tmp 6, .tmp 7] s = some v ∧ DoR (checkB E) v (doP E x)) ∧ ∀ o, ¬ h o = none → s.h o = h o) → Q .ret s) →
    ∀ (t : Nat → AV) (h9 h1 : Heap) (j : Nat) (B' C' : AV) (E' : Eth) (w : AV) (b : List UInt8) (c : Bool), OwnS h2 h1 h9 j B' C' E' → (∀ x, h2 x ≠ none → h1 x ≠ none) → h9 o4 = some (.arr [B', C']) → (∀ x, h x ≠ none → h9 x = h x) → t 4 = .op o4 0 → t 5 = w → t 6 = .sc (.bool c) → t 7 = .sc (.int .i64 ((0 : Nat) : Int)) → SF 1 w (u8s b) → doP E x = (E', b, c) → AW P ann .ret ⟨t, h9⟩ Q := by
   clear t2 t3 t4 t5 t6 t7 t
   intro Q hQ t h9 h1 j B' C' E' w b c S9 h21 n4 k9 t4 t5 t6 t7 sw hd
   refine A_own n4 (by rw [f4]; simp) h21 S9 fun h10 bv' cv' bes' ces' m1 m2 sb rb sc rc => ?_
   refine .ret (hQ _ ⟨⟨.tu [.ag [bv', cv'], w, .sc (.bool c), .sc (.int .i64 ((0 : Nat) : Int))], ?_, ?_⟩, fun y hy => ?_⟩)
   ·simp (disch := omega) only [go_sem, ↓reduceIte, Nat.reduceEqDiff, Nat.reduceLeDiff, t4, t5, t6, t7, m2, sb.disc, sc.disc, sw.disc, sw.same]
   ·rw [hd, hcB]
    exact ⟨_, _, rfl, ⟨bv', cv', bes', ces', rfl, sb, rb, sc, rc⟩, sw⟩
   ·show h10 y = h y
    rw [m1 y (fun e => hy (by rw [e]; exact no4)) (by rw [fk y hy]; exact hy), k9 y hy]
  refine hN _ ?_; clear hN N
  refine A_seq_gen fun N hN => W_sound ?_
  refine W_f (fun t => t 2 = .op o2 0 ∧ t 3 = .op o3 0 ∧ t 4 = .op o4 0 ∧ t 5 = .sc (.slice none 0 0) ∧ t 6 = .sc (.bool false) ∧ t 7 = .sc (.int .i64 ((0 : Nat) : Int)) ∧ True) ?_; rintro t ⟨t2, t3, t4, t5, t6, t7, -⟩
  simp (disch := omega) only [go_sem, ↓reduceIte, Nat.reduceEqDiff, Nat.reduceLeDiff, t2, t3, q2, q3, hBd, hCd]
  refine (bag_ok H rdB sB hBd hCd rBK hbS (by rw [ks_len]; omega) x.p).to ?_
  rw [show decide ((ks E)[ix (ks E) x.p]? = some x.p) = there E x.p from rfl]
  rw [contK_some]; simp (disch := omega) only [go_sem, ↓reduceIte, Nat.reduceEqDiff, Nat.reduceLeDiff]
  refine hN _ ?_; clear hN N
  refine A_seq_gen fun M hM => A_block ?_
  have hmin : (min x.a x.b, max x.a x.b) = mm x.p := rfl
  by_cases hca : isCutAct x = true
  ·
   have hca2 := hca
   unfold isCutAct at hca2
   rw [Bool.and_eq_true] at hca2
   obtain ⟨e5, htw⟩ := hca2
   have hjl : j = E.bags.length := by rw [hj]; unfold liveJ; rw [hca]; rfl
   have hrr : RR BgR es E.bags := bags_rr obag olen (by omega)
   have hdo : doP E x = (dropP (if cutAt E.cuts (mm x.p) then E else insCut E (mm x.p)) x.a x.b, [], false) := by unfold doP; rw [if_pos hca]
   refine A_seq_gen fun N hN => W_sound ?_
   refine W_f (fun t => t 2 = .op o2 0 ∧ t 3 = .op o3 0 ∧ t 4 = .op o4 0 ∧ t 5 = .sc (.slice none 0 0) ∧ t 6 = .sc (.bool false) ∧ t 7 = .sc (.int .i64 ((0 : Nat) : Int)) ∧ t 9 = .sc (.int .i64 (ix (ks E) x.p : Nat)) ∧ t 10 = .sc (.bool (there E x.p)) ∧ True) ?_; rintro t ⟨t2, t3, t4, t5, t6, t7, t9, t10, -⟩
   simp (disch := omega) only [go_sem, ↓reduceIte, Nat.reduceEqDiff, Nat.reduceLeDiff, t3, q3, e5]
   refine (two_ok H x.a x.b _).to ?_
   rw [htw]
   rw [contK_some]; simp (disch := omega) only [go_sem, ↓reduceIte, Nat.reduceEqDiff, Nat.reduceLeDiff]
   refine hN _ ?_; clear hN N
   refine AW.cond true (by simp [Opd.ev, upd_at]; rfl) (fun _ => ?_) (fun q => by cases q)
   refine A_seq_gen fun K hK => ?_
   have go : ∀ (t : Nat → AV) (h1 h7 : Heap) (C1 : AV) (xs1 : List (List AV)) (E1 : Eth), E1.bags = E.bags → Row h2 h7 3 Bv es → Row h2 h7 2 C1 xs1 → RR CK xs1 E1.cuts → dj Bv C1 → C1.disc = C1 → h7 o2 = some (.arr [Bv, C1]) → h7 o3 = some (.arr [.sc (.int .i64 x.kd), .sc (.int .i64 x.a), .sc (.int .i64 x.b), .sc (.int .i64 x.n), .sc (.int .i64 x.w)]) → h7 o4 = some (.arr [.sc (.slice none 0 0), .sc (.slice none 0 0)]) → (∀ x, h x ≠ none → h7 x = h x) → (∀ x, h2 x ≠ none → h7 x ≠ none) →
     E1 = (if cutAt E.cuts (mm x.p) then E else insCut E (mm x.p)) → t 2 = .op o2 0 → t 3 = .op o3 0 → t 4 = .op o4 0 → t 5 = .sc (.slice none 0 0) → t 6 = .sc (.bool false) → t 7 = .sc (.int .i64 ((0 : Nat) : Int)) → K ⟨t, h7⟩ := by
    clear t2 t3 t4 t5 t6 t7 t9 t10 t
    intro t h1 h7 C1 xs1 E1 hEb rB rC rck rdj hCd1 n2 n3 n4 k7 k27 hE1 t2 t3 t4 t5 t6 t7
    refine hK _ ?_
    refine A_seq_gen fun N hN => W_sound ?_
    refine W_f (fun t => t 2 = .op o2 0 ∧ t 3 = .op o3 0 ∧ t 4 = .op o4 0 ∧ t 5 = .sc (.slice none 0 0) ∧ t 6 = .sc (.bool false) ∧ t 7 = .sc (.int .i64 ((0 : Nat) : Int)) ∧ True) ?_; rintro t ⟨t2, t3, t4, t5, t6, t7, -⟩
    simp (disch := omega) only [go_sem, ↓reduceIte, Nat.reduceEqDiff, Nat.reduceLeDiff, t2, t3, n2, n3, hBd, hCd1]
    refine (dropb_ok H rB hBd hCd1 rBK oge (by rw [ks_len]; omega) k27).mono ?_
    rintro r h8 ⟨B', rfl, rB8, on8, od8, hBd8⟩
    have fB := row_fresh oB
    have w4 : h8 o4 = some (.arr [.sc (.slice none 0 0), .sc (.slice none 0 0)]) := by rw [on8 o4 (by rw [n4]; simp) (fun q => by have := fB _ q; rw [f4] at this; cases this), n4]
    rw [contK_some]; simp (disch := omega) only [go_sem, ↓reduceIte, Nat.reduceEqDiff, Nat.reduceLeDiff, hBd8, hCd1, t4, w4, setRA2]
    have y4 : (upd h8 o4 (some (.arr [B', C1]))) o4 = some (.arr [B', C1]) := upd_same ..
    have yk : ∀ x, x ≠ o4 → (upd h8 o4 (some (.arr [B', C1]))) x = h8 x := fun x hx => upd_ne _ _ hx
    generalize (upd h8 o4 (some (.arr [B', C1]))) = h9 at y4 yk
    refine hN _ ?_; clear hN N
    have nf4 : ∀ o', h2 o' = none → o' ≠ o4 := fun o' ho' e => by rw [e, f4] at ho'; cases ho'
    have lC := row_live rC
    have C9 : ∀ o', oid C1 = some o' → h9 o' = h7 o' := fun o' ho' => by
     rw [yk o' (nf4 o' (row_fresh rC o' ho')), on8 o' (lC o' ho') (fun q => rdj o' q ho')]
    have rB9 : Row h2 h9 3 B' (fltE (btw x.a x.b) es (ks E)) := row_other rB8 fun o' ho' => yk o' (nf4 o' (row_fresh rB8 o' ho'))
    have rC9 := row_other rC C9
    have hfr := flt_rr (f := btw x.a x.b) hrr
    have S9 : OwnS h2 h9 h9 (dropP E1 x.a x.b).bags.length B' C1 (dropP E1 x.a x.b) := by
     refine ⟨_, _, rB9, rC9, rck, fun o' ho' hc' => rdj o' (by rw [← od8]; exact ho') hc', row_live rB9, row_live rC9, ?_, fltE_ge oge, ?_⟩
     ·have := hfr.len
      unfold dropP
      rw [hEb]
      exact this
     ·unfold dropP
      rw [hEb]
      exact rr_bags hfr
    refine fin _ (fun s hs => ⟨.inl rfl, hs⟩) _ h9 h9 _ B' C1 (dropP E1 x.a x.b) (.sc (.slice none 0 0)) [] false S9 (fun y hy => ?_) y4 (fun y hy => ?_) (by simp [upd_at, t4]) (by simp [upd_at]) (by simp [upd_at]) (by simp [upd_at]) (.inl ⟨rfl, rfl⟩) (by rw [hdo, hE1])
    ·by_cases c : y = o4
     ·rw [c, y4]; simp
     ·rw [yk y c, on8 y (k27 y hy) (fun q => hy (fB _ q))]
      exact k27 y hy
    ·have c : y ≠ o4 := fun e => hy (by rw [e]; exact no4)
     rw [yk y c, on8 y (by rw [k7 y hy]; exact hy) (fun q => by have := fB _ q; rw [fk y hy] at this; exact hy this), k7 y hy]
   refine A_seq_gen fun N hN => W_sound ?_
   refine W_f (fun t => t 2 = .op o2 0 ∧ t 3 = .op o3 0 ∧ t 4 = .op o4 0 ∧ t 5 = .sc (.slice none 0 0) ∧ t 6 = .sc (.bool false) ∧ t 7 = .sc (.int .i64 ((0 : Nat) : Int)) ∧ True) ?_; rintro t ⟨t2, t3, t4, t5, t6, t7, -⟩
   simp (disch := omega) only [go_sem, ↓reduceIte, Nat.reduceEqDiff, Nat.reduceLeDiff, t2, t3, q2, q3, hBd, hCd]
   refine (isCut_ok H rdC sC hCd hBd ock hcS (by omega) x.a x.b).to ?_
   rw [show decide (E.cuts[ix E.cuts (min x.a x.b, max x.a x.b)]? = some (min x.a x.b, max x.a x.b)) = cutAt E.cuts (mm x.p) from rfl, hmin]
   rw [contK_some]; simp (disch := omega) only [go_sem, ↓reduceIte, Nat.reduceEqDiff, Nat.reduceLeDiff]
   refine hN _ ?_; clear hN N
   cases hcut : cutAt E.cuts (mm x.p) with
   | true =>
    refine W_sound ?_
    simp (disch := omega) only [go_sem, ↓reduceIte, Nat.reduceEqDiff, Nat.reduceLeDiff, upd_at]
    exact go _ h3 h6 Cv xs E rfl oB oC ock odj hCd q2 q3 q4 kh (fun y hy => k36 y (h23 y hy)) (by rw [hcut]; rfl) (by simp [upd_at, t2]) (by simp [upd_at, t3]) (by simp [upd_at, t4]) (by simp [upd_at, t5]) (by simp [upd_at, t6]) (by simp [upd_at, t7])
   | false =>
    refine W_sound ?_
    simp (disch := omega) only [go_sem, ↓reduceIte, Nat.reduceEqDiff, Nat.reduceLeDiff, t2, t3, q2, q3, hBd, hCd, sC, aexB2_minZ, aexB2_maxZ]
    intro oV hoV
    simp (disch := omega) only [go_sem, ↓reduceIte, Nat.reduceEqDiff, Nat.reduceLeDiff]
    have hv0 : setRange (List.replicate 1 [AV.sc (Value.int IntKind.i64 ((0 : Nat) : Int)), AV.sc (Value.int IntKind.i64 ((0 : Nat) : Int))]).flatten 0 [AV.sc (Value.int IntKind.i64 (min x.a x.b)), AV.sc (Value.int IntKind.i64 (max x.a x.b))] = [.sc (.int .i64 (min x.a x.b)), .sc (.int .i64 (max x.a x.b))] := rfl
    rw [hv0]
    have lB := row_live oB
    have lC := row_live oC
    have nCV : oid Cv ≠ some oV := fun q => lC _ q hoV
    have v6 : ∀ y, h6 y ≠ none → (upd h6 oV (some (.arr [.sc (.int .i64 (min x.a x.b)), .sc (.int .i64 (max x.a x.b))]))) y = h6 y := fun y hy => upd_ne _ _ fun e => hy (by rw [e]; exact hoV)
    have vV : (upd h6 oV (some (.arr [.sc (.int .i64 (min x.a x.b)), .sc (.int .i64 (max x.a x.b))]))) oV = some (.arr [.sc (.int .i64 (min x.a x.b)), .sc (.int .i64 (max x.a x.b))]) := upd_same ..
    generalize upd h6 oV (some (.arr [.sc (.int .i64 (min x.a x.b)), .sc (.int .i64 (max x.a x.b))])) = h7 at v6 vV
    have rC7 : Row h2 h7 2 Cv xs := row_other oC fun o ho => v6 o (lC o ho)
    have oCl := ock.len
    have ixl : ix E.cuts (mm x.p) ≤ xs.length := by have := ix_le E.cuts (mm x.p); omega
    refine (insC_ok H rC7 (fun y hy => by rw [v6 y (k36 y (h23 y hy))]; exact k36 y (h23 y hy)) (ck_ge ock) (e := [.sc (.int .i64 (min x.a x.b)), .sc (.int .i64 (max x.a x.b))]) ⟨rfl, rfl⟩ ixl (by omega) vV nCV hE).mono ?_
    rintro r h8 ⟨rr8, on8, od8⟩
    obtain ⟨r1, r2, rc, rt, o, r3, r4⟩ := row_ne rr8 (by simp)
    have fC := row_fresh oC
    have pass : ∀ y X, h6 y = some X → oid Cv ≠ some y → h8 y = some X := fun y X hy hn => by
     have c1 : h6 y ≠ none := by rw [hy]; simp
     rw [on8 y (by rw [v6 y c1]; exact c1) hn, v6 y c1, hy]
    have w2 := pass o2 _ q2 (fun q => by have := fC _ q; rw [f2] at this; cases this)
    have w3 := pass o3 _ q3 (fun q => by have := fC _ q; rw [f3] at this; cases this)
    have w4 := pass o4 _ q4 (fun q => by have := fC _ q; rw [f4] at this; cases this)
    have sr : setRange [Bv, Cv] 1 [r] = [Bv, r] := rfl
    rw [contK_some]; simp (disch := omega) only [go_sem, ↓reduceIte, Nat.reduceEqDiff, Nat.reduceLeDiff, r1, r2, rc, rt, t2, w2, sr]
    have y2 : (upd h8 o2 (some (.arr [Bv, r]))) o2 = some (.arr [Bv, r]) := upd_same ..
    have yk : ∀ y, y ≠ o2 → (upd h8 o2 (some (.arr [Bv, r]))) y = h8 y := fun y hy => upd_ne _ _ hy
    generalize (upd h8 o2 (some (.arr [Bv, r]))) = h9 at y2 yk
    have nf2 : ∀ o', h2 o' = none → o' ≠ o2 := fun o' ho' e => by rw [e, f2] at ho'; cases ho'
    have B9 : Row h2 h9 3 Bv es := row_other oB fun o' ho' => by
     cases hq : h6 o' with
     | none => exact absurd hq (lB o' ho')
     | some X => rw [yk o' (nf2 o' (row_fresh oB o' ho')), pass o' X hq (fun q => odj o' ho' q)]
    have C9 : Row h2 h9 2 r (xs.take (ix E.cuts (mm x.p)) ++ [.sc (.int .i64 (min x.a x.b)), .sc (.int .i64 (max x.a x.b))] :: xs.drop (ix E.cuts (mm x.p))) := row_other rr8 fun o' ho' => yk o' (nf2 o' (row_fresh rr8 o' ho'))
    refine go _ h3 h9 r _ (insCut E (mm x.p)) rfl B9 C9 (rr_ins ock rfl (ix_le _ _)) (fun o' ho' hc' => ?_) r1 y2 (by rw [yk o3 n23.symm, w3]) (by rw [yk o4 n24.symm, w4]) (fun y hy => ?_) (fun y hy => ?_) (by rw [hcut]; rfl) (by simp [upd_at, t2]) (by simp [upd_at, t3]) (by simp [upd_at, t4]) (by simp [upd_at, t5]) (by simp [upd_at, t6]) (by simp [upd_at, t7])
    ·rcases od8 with q | q
     ·exact odj o' ho' (by rw [← q]; exact hc')
     ·have c1 := lB o' ho'
      have := q o' hc'
      rw [v6 o' c1] at this
      exact c1 this
    ·cases hq : h y with
     | none => exact absurd hq hy
     | some X =>
      have := kh y hy
      rw [yk y (fun e => hy (by rw [e]; exact no2)), pass y X (by rw [this, hq]) (fun q => by have := fC _ q; rw [fk y hy] at this; exact hy this)]
    ·by_cases c : y = o2
     ·rw [c, y2]; simp
     ·cases hq : h6 y with
      | none => exact absurd hq (k36 y (h23 y hy))
      | some X =>
       rw [yk y c, pass y X hq (fun q => hy (fC _ q))]
       simp
  ·refine A_seq_gen fun N hN => W_sound ?_
   have g35 : ∀ t : Nat → AV, t 2 = .op o2 0 → t 3 = .op o3 0 → t 4 = .op o4 0 → t 5 = .sc (.slice none 0 0) → t 6 = .sc (.bool false) → t 7 = .sc (.int .i64 ((0 : Nat) : Int)) → t 9 = .sc (.int .i64 (ix (ks E) x.p : Nat)) → t 10 = .sc (.bool (there E x.p)) → t 35 = .sc (.bool false) → N ⟨t, h6⟩ := by
    clear t2 t3 t4 t5 t6 t7 t
    intro t t2 t3 t4 t5 t6 t7 t9 t10 t35
    refine hN _ ?_; clear hN N
    refine AW.cond false (by simp [Opd.ev, t35]; rfl) (fun q => by cases q) (fun _ => ?_)
    by_cases hme : isMend x = true
    ·have e6 : (x.kd == ((6 : Nat) : Int)) = true := hme
     have hjl : j = E.bags.length := by
      rw [hj]
      unfold liveJ
      rw [hme, Bool.true_or, Bool.or_true]
      rfl
     have hrr : RR BgR es E.bags := bags_rr obag olen (by omega)
     have hdo : doP E x = (if cutAt E.cuts (mm x.p) then delCut E (mm x.p) else E, [], false) := by unfold doP; rw [if_neg hca, if_pos hme]
     refine A_seq_gen fun N hN => W_sound ?_
     refine W_f (fun t => t 2 = .op o2 0 ∧ t 3 = .op o3 0 ∧ t 4 = .op o4 0 ∧ t 5 = .sc (.slice none 0 0) ∧ t 6 = .sc (.bool false) ∧ t 7 = .sc (.int .i64 ((0 : Nat) : Int)) ∧ t 9 = .sc (.int .i64 (ix (ks E) x.p : Nat)) ∧ t 10 = .sc (.bool (there E x.p)) ∧ True) ?_; rintro t ⟨t2, t3, t4, t5, t6, t7, t9, t10, -⟩
     simp (disch := omega) only [go_sem, ↓reduceIte, Nat.reduceEqDiff, Nat.reduceLeDiff, t3, q3, e6]
     refine hN _ ?_; clear hN N
     refine AW.cond true (by simp [Opd.ev, upd_at]; rfl) (fun _ => ?_) (fun q => by cases q)
     refine A_seq_gen fun K hK => ?_
     have go : ∀ (t : Nat → AV) (h7 : Heap) (C1 : AV) (xs1 : List (List AV)) (E1 : Eth), E1.bags = E.bags → Row h2 h7 3 Bv es → Row h2 h7 2 C1 xs1 → RR CK xs1 E1.cuts → dj Bv C1 → C1.disc = C1 → h7 o2 = some (.arr [Bv, C1]) → h7 o4 = some (.arr [.sc (.slice none 0 0), .sc (.slice none 0 0)]) → (∀ x, h x ≠ none → h7 x = h x) → (∀ x, h2 x ≠ none → h7 x ≠ none) →
       E1 = (if cutAt E.cuts (mm x.p) then delCut E (mm x.p) else E) → t 2 = .op o2 0 → t 3 = .op o3 0 → t 4 = .op o4 0 → t 5 = .sc (.slice none 0 0) → t 6 = .sc (.bool false) → t 7 = .sc (.int .i64 ((0 : Nat) : Int)) → K ⟨t, h7⟩ := by
      clear t2 t3 t4 t5 t6 t7 t9 t10 t
      intro t h7 C1 xs1 E1 hEb rB rC rck rdj hCd1 n2 n4 k7 k27 hE1 t2 t3 t4 t5 t6 t7
      refine hK _ ?_
      refine A_seq_gen fun N hN => W_sound ?_
      refine W_f (fun t => t 2 = .op o2 0 ∧ t 3 = .op o3 0 ∧ t 4 = .op o4 0 ∧ t 5 = .sc (.slice none 0 0) ∧ t 6 = .sc (.bool false) ∧ t 7 = .sc (.int .i64 ((0 : Nat) : Int)) ∧ True) ?_; rintro t ⟨t2, t3, t4, t5, t6, t7, -⟩
      simp (disch := omega) only [go_sem, ↓reduceIte, Nat.reduceEqDiff, Nat.reduceLeDiff, t2, t4, n2, n4, hBd, hCd1, setRA2]
      have y4 : (upd h7 o4 (some (.arr [Bv, C1]))) o4 = some (.arr [Bv, C1]) := upd_same ..
      have yk : ∀ x, x ≠ o4 → (upd h7 o4 (some (.arr [Bv, C1]))) x = h7 x := fun x hx => upd_ne _ _ hx
      generalize (upd h7 o4 (some (.arr [Bv, C1]))) = h9 at y4 yk
      refine hN _ ?_; clear hN N
      have nf4 : ∀ o', h2 o' = none → o' ≠ o4 := fun o' ho' e => by rw [e, f4] at ho'; cases ho'
      have rB9 := row_other rB fun o' ho' => yk o' (nf4 o' (row_fresh rB o' ho'))
      have rC9 := row_other rC fun o' ho' => yk o' (nf4 o' (row_fresh rC o' ho'))
      have S9 : OwnS h2 h9 h9 E1.bags.length Bv C1 E1 := ⟨_, _, rB9, rC9, rck, rdj, row_live rB9, row_live rC9, by rw [hEb]; exact olen, oge, by rw [hEb]; exact rr_bags hrr⟩
      refine fin _ (fun s hs => ⟨.inl rfl, hs⟩) _ h9 h9 _ Bv C1 E1 (.sc (.slice none 0 0)) [] false S9 (fun y hy => ?_) y4 (fun y hy => ?_) (by simp [upd_at, t4]) (by simp [upd_at]) (by simp [upd_at]) (by simp [upd_at]) (.inl ⟨rfl, rfl⟩) (by rw [hdo, hE1])
      ·by_cases c : y = o4
       ·rw [c, y4]; simp
       ·rw [yk y c]; exact k27 y hy
      ·rw [yk y (fun e => hy (by rw [e]; exact no4)), k7 y hy]
     refine A_seq_gen fun N hN => W_sound ?_
     refine W_f (fun t => t 2 = .op o2 0 ∧ t 3 = .op o3 0 ∧ t 4 = .op o4 0 ∧ t 5 = .sc (.slice none 0 0) ∧ t 6 = .sc (.bool false) ∧ t 7 = .sc (.int .i64 ((0 : Nat) : Int)) ∧ True) ?_; rintro t ⟨t2, t3, t4, t5, t6, t7, -⟩
     simp (disch := omega) only [go_sem, ↓reduceIte, Nat.reduceEqDiff, Nat.reduceLeDiff, t2, t3, q2, q3, hBd, hCd]
     refine (isCut_ok H rdC sC hCd hBd ock hcS (by omega) x.a x.b).to ?_
     rw [show decide (E.cuts[ix E.cuts (min x.a x.b, max x.a x.b)]? = some (min x.a x.b, max x.a x.b)) = cutAt E.cuts (mm x.p) from rfl, hmin]
     rw [contK_some]; simp (disch := omega) only [go_sem, ↓reduceIte, Nat.reduceEqDiff, Nat.reduceLeDiff]
     refine hN _ ?_; clear hN N
     cases hcut : cutAt E.cuts (mm x.p) with
     | false =>
      refine W_sound ?_
      simp (disch := omega) only [go_sem, ↓reduceIte, Nat.reduceEqDiff, Nat.reduceLeDiff]
      exact go _ h6 Cv xs E rfl oB oC ock odj hCd q2 q4 kh (fun y hy => k36 y (h23 y hy)) (by rw [hcut]; rfl) (by simp [upd_at, t2]) (by simp [upd_at, t3]) (by simp [upd_at, t4]) (by simp [upd_at, t5]) (by simp [upd_at, t6]) (by simp [upd_at, t7])
     | true =>
      have hlt : ix E.cuts (mm x.p) < xs.length := by
       have h1 := of_decide_eq_true hcut
       have oCl := ock.len
       rcases Nat.lt_or_ge (ix E.cuts (mm x.p)) E.cuts.length with q | q
       ·omega
       ·rw [List.getElem?_eq_none q] at h1; cases h1
      have hb20 : ix E.cuts (mm x.p) < 2 ^ 20 := by have := ock.len; omega
      refine W_sound ?_
      simp (disch := omega) only [go_sem, ↓reduceIte, Nat.reduceEqDiff, Nat.reduceLeDiff, t2, q2, hBd, hCd, sC, nat_add]
      refine AWF.mono (AWF.disR (Q := fun r h' => Row h2 h' 2 r (xs.eraseIdx (ix E.cuts (mm x.p))) ∧ Only h6 h' Cv ∧ (oid r = oid Cv) ∧ r.dis = r ∧ r.disc = r ∧ r.cellsD = [r] ∧ r.isTu = false) (delC_ok H oC (ck_ge ock) hlt (by have := ock.len; omega)) fun r h' ⟨w1, w2, w3⟩ => by
       obtain ⟨d1, d2, d3, d4, d5, d6⟩ := row_diss w1
       exact ⟨d1, w2, by rw [d2]; exact w3, d3, d4, d5, d6⟩) ?_
      rintro r h8 ⟨rr8, on8, od8, r2, r1, rc, rt⟩
      have lB := row_live oB
      have fC := row_fresh oC
      have pass : ∀ y X, h6 y = some X → oid Cv ≠ some y → h8 y = some X := fun y X hy hn => by
       rw [on8 y (by rw [hy]; simp) hn, hy]
      have w2 := pass o2 _ q2 (fun q => by have := fC _ q; rw [f2] at this; cases this)
      have w4 := pass o4 _ q4 (fun q => by have := fC _ q; rw [f4] at this; cases this)
      have sr : setRange [Bv, Cv] 1 [r] = [Bv, r] := rfl
      rw [contK_some]; simp (disch := omega) only [go_sem, ↓reduceIte, Nat.reduceEqDiff, Nat.reduceLeDiff, r1, r2, rc, rt, t2, w2, sr]
      have y2 : (upd h8 o2 (some (.arr [Bv, r]))) o2 = some (.arr [Bv, r]) := upd_same ..
      have yk : ∀ y, y ≠ o2 → (upd h8 o2 (some (.arr [Bv, r]))) y = h8 y := fun y hy => upd_ne _ _ hy
      generalize (upd h8 o2 (some (.arr [Bv, r]))) = h9 at y2 yk
      have nf2 : ∀ o', h2 o' = none → o' ≠ o2 := fun o' ho' e => by rw [e, f2] at ho'; cases ho'
      have B9 : Row h2 h9 3 Bv es := row_other oB fun o' ho' => by
       cases hq : h6 o' with
       | none => exact absurd hq (lB o' ho')
       | some X => rw [yk o' (nf2 o' (row_fresh oB o' ho')), pass o' X hq (fun q => odj o' ho' q)]
      have C9 := row_other rr8 fun o' ho' => yk o' (nf2 o' (row_fresh rr8 o' ho'))
      refine go _ h9 r _ (delCut E (mm x.p)) rfl B9 C9 (rr_erase ock) (fun o' ho' hc' => odj o' ho' (by rw [← od8]; exact hc')) r1 y2 (by rw [yk o4 n24.symm, w4]) (fun y hy => ?_) (fun y hy => ?_) (by rw [hcut]; rfl) (by simp [upd_at, t2]) (by simp [upd_at, t3]) (by simp [upd_at, t4]) (by simp [upd_at, t5]) (by simp [upd_at, t6]) (by simp [upd_at, t7])
      ·cases hq : h y with
       | none => exact absurd hq hy
       | some X =>
        have := kh y hy
        rw [yk y (fun e => hy (by rw [e]; exact no2)), pass y X (by rw [this, hq]) (fun q => by have := fC _ q; rw [fk y hy] at this; exact hy this)]
      ·by_cases c : y = o2
       ·rw [c, y2]; simp
       ·cases hq : h6 y with
        | none => exact absurd hq (k36 y (h23 y hy))
        | some X =>
         rw [yk y c, pass y X hq (fun q => hy (fC _ q))]
         simp
    ·have e6 : (x.kd == ((6 : Nat) : Int)) = false := by unfold isMend at hme; simpa using hme
     refine A_seq_gen fun N hN => W_sound ?_
     refine W_f (fun t => t 2 = .op o2 0 ∧ t 3 = .op o3 0 ∧ t 4 = .op o4 0 ∧ t 5 = .sc (.slice none 0 0) ∧ t 6 = .sc (.bool false) ∧ t 7 = .sc (.int .i64 ((0 : Nat) : Int)) ∧ t 9 = .sc (.int .i64 (ix (ks E) x.p : Nat)) ∧ t 10 = .sc (.bool (there E x.p)) ∧ True) ?_; rintro t ⟨t2, t3, t4, t5, t6, t7, t9, t10, -⟩
     simp (disch := omega) only [go_sem, ↓reduceIte, Nat.reduceEqDiff, Nat.reduceLeDiff, t3, q3, e6]
     refine hN _ ?_; clear hN N
     refine AW.cond false (by simp [Opd.ev, upd_at]; rfl) (fun q => by cases q) (fun _ => ?_)
     refine A_seq_gen fun N hN => W_sound ?_
     refine W_f (fun t => t 2 = .op o2 0 ∧ t 3 = .op o3 0 ∧ t 4 = .op o4 0 ∧ t 5 = .sc (.slice none 0 0) ∧ t 6 = .sc (.bool false) ∧ t 7 = .sc (.int .i64 ((0 : Nat) : Int)) ∧ t 9 = .sc (.int .i64 (ix (ks E) x.p : Nat)) ∧ t 10 = .sc (.bool (there E x.p)) ∧ True) ?_; rintro t ⟨t2, t3, t4, t5, t6, t7, t9, t10, -⟩
     by_cases hno : noAct E x = true
     ·have hjl : j = E.bags.length := by
       rw [hj]
       unfold liveJ
       rw [hno, Bool.or_true, Bool.or_true]
       rfl
      have hrr : RR BgR es E.bags := bags_rr obag olen (by omega)
      have hdo : doP E x = (E, [], false) := by unfold doP; rw [if_neg hca, if_neg hme, if_pos hno]
      have g102 : ∀ t : Nat → AV, t 2 = .op o2 0 → t 3 = .op o3 0 → t 4 = .op o4 0 → t 5 = .sc (.slice none 0 0) → t 6 = .sc (.bool false) → t 7 = .sc (.int .i64 ((0 : Nat) : Int)) → t 102 = .sc (.bool true) → N ⟨t, h6⟩ := by
       clear t2 t3 t4 t5 t6 t7 t9 t10 t
       intro t t2 t3 t4 t5 t6 t7 t102
       refine hN _ ?_; clear hN N
       refine AW.cond true (by simp [Opd.ev, t102]; rfl) (fun _ => ?_) (fun q => by cases q)
       refine A_seq_gen fun N hN => W_sound ?_
       refine W_f (fun t => t 2 = .op o2 0 ∧ t 3 = .op o3 0 ∧ t 4 = .op o4 0 ∧ t 5 = .sc (.slice none 0 0) ∧ t 6 = .sc (.bool false) ∧ t 7 = .sc (.int .i64 ((0 : Nat) : Int)) ∧ True) ?_; rintro t ⟨t2, t3, t4, t5, t6, t7, -⟩
       simp (disch := omega) only [go_sem, ↓reduceIte, Nat.reduceEqDiff, Nat.reduceLeDiff, t2, t4, q2, q4, hBd, hCd, setRA2]
       have y4 : (upd h6 o4 (some (.arr [Bv, Cv]))) o4 = some (.arr [Bv, Cv]) := upd_same ..
       have yk : ∀ x, x ≠ o4 → (upd h6 o4 (some (.arr [Bv, Cv]))) x = h6 x := fun x hx => upd_ne _ _ hx
       generalize (upd h6 o4 (some (.arr [Bv, Cv]))) = h9 at y4 yk
       refine hN _ ?_; clear hN N
       have nf4 : ∀ o', h2 o' = none → o' ≠ o4 := fun o' ho' e => by rw [e, f4] at ho'; cases ho'
       have rB9 := row_other oB fun o' ho' => yk o' (nf4 o' (row_fresh oB o' ho'))
       have rC9 := row_other oC fun o' ho' => yk o' (nf4 o' (row_fresh oC o' ho'))
       have S9 : OwnS h2 h9 h9 E.bags.length Bv Cv E := ⟨_, _, rB9, rC9, ock, odj, row_live rB9, row_live rC9, olen, oge, rr_bags hrr⟩
       refine fin _ (fun s hs => ⟨.inl rfl, hs⟩) _ h9 h9 _ Bv Cv E (.sc (.slice none 0 0)) [] false S9 (fun y hy => ?_) y4 (fun y hy => ?_) (by simp [upd_at, t4]) (by simp [upd_at]) (by simp [upd_at]) (by simp [upd_at]) (.inl ⟨rfl, rfl⟩) hdo
       ·by_cases c : y = o4
        ·rw [c, y4]; simp
        ·rw [yk y c]; exact k36 y (h23 y hy)
       ·rw [yk y (fun e => hy (by rw [e]; exact no4)), kh y hy]
      cases hth : there E x.p with
      | false =>
       rw [hth] at t10
       simp (disch := omega) only [go_sem, ↓reduceIte, Nat.reduceEqDiff, Nat.reduceLeDiff, t3, t10, q3]
       exact g102 _ (by simp [upd_at, t2]) (by simp [upd_at, t3]) (by simp [upd_at, t4]) (by simp [upd_at, t5]) (by simp [upd_at, t6]) (by simp [upd_at, t7]) (by simp [upd_at])
      | true =>
       rw [hth] at t10
       cases k1 : decide (x.kd < ((1 : Nat) : Int)) with
       | true =>
        simp (disch := omega) only [go_sem, ↓reduceIte, Nat.reduceEqDiff, Nat.reduceLeDiff, t3, t10, q3, k1]
        exact g102 _ (by simp [upd_at, t2]) (by simp [upd_at, t3]) (by simp [upd_at, t4]) (by simp [upd_at, t5]) (by simp [upd_at, t6]) (by simp [upd_at, t7]) (by simp [upd_at])
       | false =>
        have k4 : decide (x.kd > ((4 : Nat) : Int)) = true := by
         unfold noAct at hno
         rw [hth, k1] at hno
         simpa using hno
        simp (disch := omega) only [go_sem, ↓reduceIte, Nat.reduceEqDiff, Nat.reduceLeDiff, t3, t10, q3, k1, k4]
        exact g102 _ (by simp [upd_at, t2]) (by simp [upd_at, t3]) (by simp [upd_at, t4]) (by simp [upd_at, t5]) (by simp [upd_at, t6]) (by simp [upd_at, t7]) (by simp [upd_at])
     ·have hno2 : noAct E x = false := by simpa using hno
      have hth : there E x.p = true := by
       cases hth : there E x.p with
       | true => rfl
       | false => unfold noAct at hno2; rw [hth] at hno2; simp at hno2
      have k1 : decide (x.kd < ((1 : Nat) : Int)) = false := by
       unfold noAct at hno2
       simp only [Bool.or_eq_false_iff] at hno2
       exact hno2.2.1
      have k4 : decide (x.kd > ((4 : Nat) : Int)) = false := by
       unfold noAct at hno2
       simp only [Bool.or_eq_false_iff] at hno2
       exact hno2.2.2
      rw [hth] at t10
      simp (disch := omega) only [go_sem, ↓reduceIte, Nat.reduceEqDiff, Nat.reduceLeDiff, t3, t10, q3, k1, k4]
      refine hN _ ?_; clear hN N
      refine AW.cond false (by simp [Opd.ev, upd_at]; rfl) (fun q => by cases q) (fun _ => ?_)
      refine W_sound ?_
      simp (disch := omega) only [go_sem, ↓reduceIte, Nat.reduceEqDiff, Nat.reduceLeDiff]
      refine hM _ ?_; clear hM M
      have hjx : j = ix (ks E) x.p := by
       rw [hj]
       unfold liveJ
       rw [hno2, Bool.or_false]
       have a1 : isCutAct x = false := by simpa using hca
       have a2 : isMend x = false := by simpa using hme
       rw [a1, a2]
       rfl
      have hdo : doP E x = parP E x j (lAt E j) (plc x (lAt E j)) (pclAt (lAt E j) (plc x (lAt E j))) := by unfold doP; rw [if_neg hca, if_neg hme, if_neg hno, hjx]
      have hi : j < E.bags.length := by rw [hjx]; exact there_lt hth
      rw [← hjx] at t9
      clear e6 hno hno2 k1 k4 hth
      have gj : E.bags[j]? = some E.bags[j] := List.getElem?_eq_getElem hi
      have hlA : lAt E j = E.bags[j].l := by unfold lAt; rw [gj]
      rw [hlA] at hdo
      obtain ⟨_, _, _, hl1, hl64, _⟩ := bag_of2 hcB hi
      obtain ⟨L, hL⟩ : ∃ L, L = E.bags[j].l := ⟨_, rfl⟩
      rw [← hL] at hdo hl1 hl64
      obtain ⟨lv, gl, ys, hp, hrow⟩ := obag _ _ gj (by omega)
      simp only [decide_true, if_true] at hrow
      rw [← hL] at hp
      rcases id oB with ⟨rfl, rfl⟩ | ⟨⟨_, rfl⟩, rfl⟩ | ⟨o, cap, z, a1, rfl, a2, a3, a4, a5⟩
      ·rw [List.length_nil] at olen; omega
      ·rw [List.length_nil] at olen; omega
      have hyl := hp.len
      rcases id hrow with ⟨rfl, rfl⟩ | ⟨⟨_, rfl⟩, rfl⟩ | ⟨o5, cap5, z5, b1, rfl, b2, b3, b4, b5⟩
      ·rw [List.length_nil] at hyl; omega
      ·rw [List.length_nil] at hyl; omega
      have hat := fl_at z oge gl (k := 2) rfl (by omega)
      have hll : j * 3 + 2 + 1 ≤ (es.flatten ++ z).length := by
       obtain ⟨u1, _⟩ := List.getElem?_eq_some_iff.1 hat
       omega
      have hdt : ((es.flatten ++ z).drop (j * 3 + 2)).take 1 = [AV.rs o5 0 2 ys.length (some cap5)] := by
       obtain ⟨u1, u2⟩ := List.getElem?_eq_some_iff.1 hat
       rw [List.drop_eq_getElem_cons u1, u2]
       rfl
      have hiad := fun (t : Nat → AV) (h : Heap) => iad3 (o := o) (n := es.length) (lim := some cap) (t := t) (h := h) (show j < es.length by omega)
      have dB : (AV.rs o 0 3 es.length (some cap)).disc = .rs o 0 3 es.length (some cap) := rfl
      have dB2 : (AV.rs o 0 3 es.length (some cap)).dis = .rs o 0 3 es.length (some cap) := rfl
      have dL : (AV.rs o5 0 2 ys.length (some cap5)).disc = .rs o5 0 2 ys.length (some cap5) := rfl
      have dL2 : (AV.rs o5 0 2 ys.length (some cap5)).dis = .rs o5 0 2 ys.length (some cap5) := rfl
      have nf : ∀ o', h2 o' = none → o' ≠ o2 ∧ o' ≠ o3 ∧ o' ≠ o4 := fun o' ho' => ⟨fun e => (by rw [e, f2] at ho'; cases ho'), fun e => (by rw [e, f3] at ho'; cases ho'), fun e => (by rw [e, f4] at ho'; cases ho')⟩
      have no5 : h2 o5 = none := by
       cases hq : h2 o5 with
       | none => rfl
       | some X => exact absurd b1 (h23 o5 (by rw [hq]; simp))
      have n5o : o5 ≠ o := fun e => oB1 o rfl (by rw [← e]; exact b1)
      have h3k : ∀ y, h3 y ≠ none → y ≠ o5 := fun y hy e => hy (by rw [e]; exact b1)
      refine A_seq_gen fun N hN => W_sound ?_
      refine W_f (fun t => t 2 = .op o2 0 ∧ t 3 = .op o3 0 ∧ t 4 = .op o4 0 ∧ t 5 = .sc (.slice none 0 0) ∧ t 6 = .sc (.bool false) ∧ t 7 = .sc (.int .i64 ((0 : Nat) : Int)) ∧ t 9 = .sc (.int .i64 (j : Nat)) ∧ t 10 = .sc (.bool (true)) ∧ True) ?_; rintro t ⟨t2, t3, t4, t5, t6, t7, t9, t10, -⟩
      simp (disch := omega) only [go_sem, ↓reduceIte, Nat.reduceEqDiff, Nat.reduceLeDiff, t2, t9, q2, hiad, dB, dB2, a5, hll, hdt, single1, dL, dL2]
      refine hN _ ?_; clear hN N
      refine A_seq_gen fun N hN => W_sound ?_
      refine W_f (fun t => t 2 = .op o2 0 ∧ t 3 = .op o3 0 ∧ t 4 = .op o4 0 ∧ t 5 = .sc (.slice none 0 0) ∧ t 6 = .sc (.bool false) ∧ t 7 = .sc (.int .i64 ((0 : Nat) : Int)) ∧ t 9 = .sc (.int .i64 (j : Nat)) ∧ t 10 = .sc (.bool (true)) ∧ t 15 = .rs o5 0 2 ys.length (some cap5) ∧ True) ?_; rintro t ⟨t2, t3, t4, t5, t6, t7, t9, t10, t15, -⟩
      have lrd := row_rd hrow (pc_ge hp)
      have hne : ((L.length : Nat) : Int) ≠ 0 := by omega
      have htm := tmod2 (w := x.n) (n := L.length) (by omega) (by omega)
      obtain ⟨k, hk⟩ : ∃ k, k = plc x L := ⟨_, rfl⟩
      rw [show (x.n % ((L.length : Nat) : Int)).toNat = k from hk.symm] at htm
      have hkl : k < L.length := by
       have := Int.emod_lt_of_pos x.n (show (0 : Int) < ((L.length : Nat) : Int) by omega)
       rw [hk]
       unfold plc
       omega
      rw [← hk] at hdo
      rw [← hyl] at htm hne
      have hln := fun (t : Nat → AV) => lrd.len (t := t)
      simp (disch := omega) only [go_sem, ↓reduceIte, Nat.reduceEqDiff, Nat.reduceLeDiff, t3, t15, q3, dL, dL2, hln, sb_rem hne, htm]
      refine hN _ ?_; clear hN N
      refine A_seq_gen fun N hN => W_sound ?_
      refine W_f (fun t => t 2 = .op o2 0 ∧ t 3 = .op o3 0 ∧ t 4 = .op o4 0 ∧ t 5 = .sc (.slice none 0 0) ∧ t 6 = .sc (.bool false) ∧ t 7 = .sc (.int .i64 ((0 : Nat) : Int)) ∧ t 9 = .sc (.int .i64 (j : Nat)) ∧ t 10 = .sc (.bool (true)) ∧ t 15 = .rs o5 0 2 ys.length (some cap5) ∧ t 16 = .sc (.int .i64 (k : Nat)) ∧ True) ?_; rintro t ⟨t2, t3, t4, t5, t6, t7, t9, t10, t15, t16, -⟩
      obtain ⟨e, g0, w, rfl, sw⟩ := hp.lt hkl
      have hpq : pclAt L k = L[k] := by unfold pclAt; simp [hkl]
      rw [hpq] at hdo
      obtain ⟨p, p1, p2, p3⟩ := lrd.at g0 (by rw [List.map_cons, List.map_cons, sw.disc]; rfl) rfl
      simp (disch := omega) only [go_sem, ↓reduceIte, Nat.reduceEqDiff, Nat.reduceLeDiff, t15, t16, dL, dL2, p1, p2, p3, sw.disc, sw.same]
      intro o7 ho7
      have sr2 : setRange [AV.sc (.slice none 0 0), AV.sc (.bool false)] 0 [w, .sc (.bool L[k].2)] = [w, .sc (.bool L[k].2)] := rfl
      have v7 : (upd h6 o7 (some (.arr [w, .sc (.bool L[k].2)]))) o7 = some (.arr [w, .sc (.bool L[k].2)]) := upd_same ..
      have vk : ∀ y, h6 y ≠ none → (upd h6 o7 (some (.arr [w, .sc (.bool L[k].2)]))) y = h6 y := fun y hy => upd_ne _ _ fun e => hy (by rw [e]; exact ho7)
      generalize (upd h6 o7 (some (.arr [w, .sc (.bool L[k].2)]))) = h7 at v7 vk
      have n75 : o7 ≠ o5 := fun e => by rw [e, b5] at ho7; cases ho7
      have n7o : o7 ≠ o := fun e => by rw [e, a5] at ho7; cases ho7
      have n72 : o7 ≠ o2 := fun e => by rw [e, q2] at ho7; cases ho7
      have n74 : o7 ≠ o4 := fun e => by rw [e, q4] at ho7; cases ho7
      have r2 : h7 o2 = some (.arr [.rs o 0 3 es.length (some cap), Cv]) := by rw [vk o2 (by rw [q2]; simp), q2]
      have r3 : h7 o3 = some (.arr [.sc (.int .i64 x.kd), .sc (.int .i64 x.a), .sc (.int .i64 x.b), .sc (.int .i64 x.n), .sc (.int .i64 x.w)]) := by rw [vk o3 (by rw [q3]; simp), q3]
      have r4 : h7 o4 = some (.arr [.sc (.slice none 0 0), .sc (.slice none 0 0)]) := by rw [vk o4 (by rw [q4]; simp), q4]
      have ro : h7 o = some (.arr (es.flatten ++ z)) := by rw [vk o (by rw [a5]; simp), a5]
      have r5 : h7 o5 = some (.arr (ys.flatten ++ z5)) := by rw [vk o5 (by rw [b5]; simp), b5]
      have kh7 : ∀ y, h y ≠ none → h7 y = h y := fun y hy => by
       have := kh y hy
       rw [vk y (by rw [this]; exact hy), this]
      have k37 : ∀ y, h3 y ≠ none → h7 y ≠ none := fun y hy => by
       rw [vk y (k36 y hy)]; exact k36 y hy
      have S7 := ownS_grow S vk
      have oC7 : Row h2 h7 2 Cv xs := row_other oC fun o' ho' => vk o' (row_live oC o' ho')
      have hrow7 : Row h3 h7 2 (.rs o5 0 2 ys.length (some cap5)) ys := row_other hrow fun o' ho' => vk o' (row_live hrow o' ho')
      have hge2 := pc_ge hp
      have hiad2 := fun (t : Nat → AV) (h : Heap) => iad2 (o := o5) (n := ys.length) (lim := some cap5) (t := t) (h := h) (show k < ys.length by omega)
      have hll5 : k * 2 + 2 ≤ (ys.flatten ++ z5).length := by rw [List.length_append, hge2.len]; omega
      have bl : E.bags[j].l ∈ [E.bags[j].l] := by simp
      have hwl : L[k].1.length ≤ 2 ^ 30 := (z3 _ (List.getElem_mem hi)).2 _ (by rw [← hL]; exact List.getElem_mem hkl)
      have hyl2 : ys.length ≤ 64 := by omega
      refine hN _ ?_; clear hN N
      refine A_seq_gen fun M hM => A_block ?_
      have gofin : ∀ (t : Nat → AV) (h8 h1 : Heap) (j' : Nat) (B' : AV) (E' : Eth), OwnS h2 h1 h8 j' B' Cv E' → B'.disc = B' → (∀ x, h2 x ≠ none → h1 x ≠ none) → h8 o2 = some (.arr [B', Cv]) → h8 o4 = some (.arr [.sc (.slice none 0 0), .sc (.slice none 0 0)]) → (∀ x, h x ≠ none → h8 x = h x) → doP E x = (E', [], false) → t 2 = .op o2 0 → t 4 = .op o4 0 → M ⟨t, h8⟩ := by
       clear t2 t3 t4 t5 t6 t7 t9 t15 t16 t10 t
       intro t h8 h1 j' B' E' S8 hBd' h21 n2 n4 k8 hd t2 t4
       refine hM _ ?_
       refine A_seq_gen fun N hN => W_sound ?_
       refine W_f (fun t => t 2 = .op o2 0 ∧ t 4 = .op o4 0 ∧ True) ?_; rintro t ⟨t2, t4, -⟩
       simp (disch := omega) only [go_sem, ↓reduceIte, Nat.reduceEqDiff, Nat.reduceLeDiff, t2, t4, n2, n4, hBd', hCd, setRA2]
       have y4 : (upd h8 o4 (some (.arr [B', Cv]))) o4 = some (.arr [B', Cv]) := upd_same ..
       have yk : ∀ x, x ≠ o4 → (upd h8 o4 (some (.arr [B', Cv]))) x = h8 x := fun x hx => upd_ne _ _ hx
       generalize (upd h8 o4 (some (.arr [B', Cv]))) = h9 at y4 yk
       refine hN _ ?_; clear hN N
       exact fin _ (fun s hs => ⟨.inl rfl, hs⟩) _ h9 h1 j' B' Cv E' (.sc (.slice none 0 0)) [] false (ownS_keep S8 (by rw [f4]; simp) (h21 o4 (by rw [f4]; simp)) yk) h21 y4 (fun y hy => by rw [yk y (fun e => hy (by rw [e]; exact no4)), k8 y hy]) (by simp [upd_at, t4]) (by simp [upd_at]) (by simp [upd_at]) (by simp [upd_at]) (.inl ⟨rfl, rfl⟩) hd
      by_cases hbe : isBend x L[k] = true
      ·
       have hdo2 : doP E x = (modL E j (·.set k (bendB L[k].1 x.w, true)), [], false) := by rw [hdo]; unfold parP; rw [if_pos hbe]
       have hbe2 := hbe
       unfold isBend at hbe2
       rw [Bool.and_eq_true] at hbe2
       obtain ⟨e4, eb⟩ := hbe2
       have eb2 : L[k].2 = false := by simpa using eb
       refine A_seq_gen fun N hN => W_sound ?_
       refine W_f (fun t => t 2 = .op o2 0 ∧ t 3 = .op o3 0 ∧ t 4 = .op o4 0 ∧ t 5 = .sc (.slice none 0 0) ∧ t 6 = .sc (.bool false) ∧ t 7 = .sc (.int .i64 ((0 : Nat) : Int)) ∧ t 9 = .sc (.int .i64 (j : Nat)) ∧ t 15 = .rs o5 0 2 ys.length (some cap5) ∧ t 16 = .sc (.int .i64 (k : Nat)) ∧ t 17 = .op o7 0 ∧ True) ?_; rintro t ⟨t2, t3, t4, t5, t6, t7, t9, t15, t16, t17, -⟩
       simp (disch := omega) only [go_sem, ↓reduceIte, Nat.reduceEqDiff, Nat.reduceLeDiff, t3, t17, r3, v7, e4, eb2]
       refine hN _ ?_; clear hN N
       refine AW.cond true (by simp [Opd.ev, upd_at]; rfl) (fun _ => ?_) (fun q => by cases q)
       refine W_sound ?_
       refine W_f (fun t => t 2 = .op o2 0 ∧ t 3 = .op o3 0 ∧ t 4 = .op o4 0 ∧ t 5 = .sc (.slice none 0 0) ∧ t 6 = .sc (.bool false) ∧ t 7 = .sc (.int .i64 ((0 : Nat) : Int)) ∧ t 9 = .sc (.int .i64 (j : Nat)) ∧ t 15 = .rs o5 0 2 ys.length (some cap5) ∧ t 16 = .sc (.int .i64 (k : Nat)) ∧ t 17 = .op o7 0 ∧ True) ?_; rintro t ⟨t2, t3, t4, t5, t6, t7, t9, t15, t16, t17, -⟩
       simp (disch := omega) only [go_sem, ↓reduceIte, Nat.reduceEqDiff, Nat.reduceLeDiff, t3, t15, t16, t17, r3, v7, dL, dL2, sw.disc, sw.same, sw.sl.ddisc]
       refine (bend_ok H sw (by omega) x.w _).to ?_
       have bsf := bendV_sf (w := x.w) sw
       generalize bendV w L[k].1 x.w = bw at bsf
       have c1 : bw.cells = [bw] := by rcases bsf with ⟨h, _⟩ | ⟨_, h⟩ <;> rw [h] <;> rfl
       have c2 : bw.isTu = false := by rcases bsf with ⟨h, _⟩ | ⟨_, h⟩ <;> rw [h] <;> rfl
       have c3 : setRange [AV.sc (.slice none 0 0), AV.sc (.bool false)] 0 [bw] = [bw, .sc (.bool false)] := rfl
       have c4 : setRange [bw, AV.sc (.bool false)] 1 [.sc (.bool true)] = [bw, .sc (.bool true)] := rfl
       have hst : setRange (ys.flatten ++ z5) (k * 2) [bw, .sc (.bool true)] = (ys.set k [bw, .sc (.bool true)]).flatten ++ z5 := set_row hge2 (by omega) rfl
       rw [contK_some]; simp (disch := omega) only [go_sem, ↓reduceIte, Nat.reduceEqDiff, Nat.reduceLeDiff, bsf.same, bsf.disc, c1, c2, c3, c4, hiad2, r5, hll5, hst]
       have y5 : (upd h7 o5 (some (.arr ((ys.set k [bw, .sc (.bool true)]).flatten ++ z5)))) o5 = some (.arr ((ys.set k [bw, .sc (.bool true)]).flatten ++ z5)) := upd_same ..
       have yk : ∀ y, y ≠ o5 → (upd h7 o5 (some (.arr ((ys.set k [bw, .sc (.bool true)]).flatten ++ z5)))) y = h7 y := fun y hy => upd_ne _ _ hy
       generalize (upd h7 o5 (some (.arr ((ys.set k [bw, .sc (.bool true)]).flatten ++ z5)))) = h8 at y5 yk
       have S8 : OwnS h2 h3 h8 j (.rs o 0 3 es.length (some cap)) Cv (modL E j (·.set k (bendB L[k].1 x.w, true))) := by
        refine ownS_mod (f := (·.set k (bendB L[k].1 x.w, true))) hi a1 a2 a3 a4 ?_ (row_other oC7 fun o' ho' => yk o' (fun e => oC1 o' ho' (by rw [e]; exact b1))) ock odj (oB1 o rfl) oC1 olen oge obag dL ?_ (.inr (.inr ⟨o5, cap5, z5, b1, by rw [List.length_set], b2, by rw [List.length_set]; exact b3, by rw [List.length_set]; exact b4, y5⟩))
        ·rw [set_id gl, yk o n5o.symm, ro]
        ·rw [← hL]
         exact rr_set hp ⟨bw, rfl, bsf⟩
       exact gofin _ h8 h3 j _ _ S8 dB h23 (by rw [yk o2 (fun e => by rw [← e, f2] at no5; cases no5), r2]) (by rw [yk o4 (fun e => by rw [← e, f4] at no5; cases no5), r4]) (fun y hy => by rw [yk y (fun e => by rw [← e, fk y hy] at no5; exact hy no5), kh7 y hy]) hdo2 (by simp [upd_at, t2]) (by simp [upd_at, t4])
      ·have hbe2 : isBend x L[k] = false := by simpa using hbe
       refine A_seq_gen fun N hN => W_sound ?_
       have g137 : ∀ t : Nat → AV, t 2 = .op o2 0 → t 3 = .op o3 0 → t 4 = .op o4 0 → t 5 = .sc (.slice none 0 0) → t 6 = .sc (.bool false) → t 7 = .sc (.int .i64 ((0 : Nat) : Int)) → t 9 = .sc (.int .i64 (j : Nat)) → t 15 = .rs o5 0 2 ys.length (some cap5) → t 16 = .sc (.int .i64 (k : Nat)) → t 17 = .op o7 0 → t 137 = .sc (.bool false) → N ⟨t, h7⟩ := by
        clear t2 t3 t4 t5 t6 t7 t9 t15 t16 t10 t
        intro t t2 t3 t4 t5 t6 t7 t9 t15 t16 t17 t137
        refine hN _ ?_; clear hN N
        refine AW.cond false (by simp [Opd.ev, t137]; rfl) (fun q => by cases q) (fun _ => ?_)
        by_cases htw : isTwice x L = true
        ·have hdo2 : doP E x = (modL E j (· ++ [L[k]]), [], false) := by rw [hdo]; unfold parP; rw [if_neg hbe, if_pos htw]
         have htw2 := htw
         unfold isTwice at htw2
         rw [Bool.and_eq_true] at htw2
         obtain ⟨e3, el⟩ := htw2
         have d64 : decide (ys.length < 64) = true := by rw [hyl]; exact el
         refine A_seq_gen fun N hN => W_sound ?_
         refine W_f (fun t => t 2 = .op o2 0 ∧ t 3 = .op o3 0 ∧ t 4 = .op o4 0 ∧ t 5 = .sc (.slice none 0 0) ∧ t 6 = .sc (.bool false) ∧ t 7 = .sc (.int .i64 ((0 : Nat) : Int)) ∧ t 9 = .sc (.int .i64 (j : Nat)) ∧ t 15 = .rs o5 0 2 ys.length (some cap5) ∧ t 16 = .sc (.int .i64 (k : Nat)) ∧ t 17 = .op o7 0 ∧ True) ?_; rintro t ⟨t2, t3, t4, t5, t6, t7, t9, t15, t16, t17, -⟩
         simp (disch := omega) only [go_sem, ↓reduceIte, Nat.reduceEqDiff, Nat.reduceLeDiff, t3, t15, r3, e3, len_rs, dL, dL2, d64]
         refine hN _ ?_; clear hN N
         refine AW.cond true (by simp [Opd.ev, upd_at]; rfl) (fun _ => ?_) (fun q => by cases q)
         refine A_seq_gen fun N hN => W_sound ?_
         refine W_f (fun t => t 2 = .op o2 0 ∧ t 3 = .op o3 0 ∧ t 4 = .op o4 0 ∧ t 5 = .sc (.slice none 0 0) ∧ t 6 = .sc (.bool false) ∧ t 7 = .sc (.int .i64 ((0 : Nat) : Int)) ∧ t 9 = .sc (.int .i64 (j : Nat)) ∧ t 15 = .rs o5 0 2 ys.length (some cap5) ∧ t 16 = .sc (.int .i64 (k : Nat)) ∧ t 17 = .op o7 0 ∧ True) ?_; rintro t ⟨t2, t3, t4, t5, t6, t7, t9, t15, t16, t17, -⟩
         simp (disch := omega) only [go_sem, ↓reduceIte, Nat.reduceEqDiff, Nat.reduceLeDiff, t17, v7, sw.disc, sw.same, sw.sl.ddisc]
         refine (clonev_ok H sw (by rw [u8s_len]; omega) _).to ?_
         have fz := frz_sf sw
         generalize hfw : frz w = fw at fz
         have c1 : fw.cells = [fw] := by rcases fz with ⟨h, _⟩ | ⟨_, h⟩ <;> rw [h] <;> rfl
         have c5 : fw.cellsD = [fw] := by rcases fz with ⟨h, _⟩ | ⟨_, h⟩ <;> rw [h] <;> rfl
         have c2 : fw.isTu = false := by rcases fz with ⟨h, _⟩ | ⟨_, h⟩ <;> rw [h] <;> rfl
         have c3 : setRange [w, AV.sc (.bool L[k].2)] 0 [fw] = [fw, .sc (.bool L[k].2)] := rfl
         rw [contK_some]; simp (disch := omega) only [go_sem, ↓reduceIte, Nat.reduceEqDiff, Nat.reduceLeDiff, fz.same, fz.disc, c1, c5, c2, c3, t17, v7]
         have y7 : (upd h7 o7 (some (.arr [fw, .sc (.bool L[k].2)]))) o7 = some (.arr [fw, .sc (.bool L[k].2)]) := upd_same ..
         have yk : ∀ y, y ≠ o7 → (upd h7 o7 (some (.arr [fw, .sc (.bool L[k].2)]))) y = h7 y := fun y hy => upd_ne _ _ hy
         generalize (upd h7 o7 (some (.arr [fw, .sc (.bool L[k].2)]))) = h8 at y7 yk
         refine hN _ ?_; clear hN N
         refine W_sound ?_
         refine W_f (fun t => t 2 = .op o2 0 ∧ t 3 = .op o3 0 ∧ t 4 = .op o4 0 ∧ t 5 = .sc (.slice none 0 0) ∧ t 6 = .sc (.bool false) ∧ t 7 = .sc (.int .i64 ((0 : Nat) : Int)) ∧ t 9 = .sc (.int .i64 (j : Nat)) ∧ t 15 = .rs o5 0 2 ys.length (some cap5) ∧ t 16 = .sc (.int .i64 (k : Nat)) ∧ t 17 = .op o7 0 ∧ True) ?_; rintro t ⟨t2, t3, t4, t5, t6, t7, t9, t15, t16, t17, -⟩
         refine ln17_168 ?_
         have s2 : h8 o2 = some (.arr [.rs o 0 3 es.length (some cap), Cv]) := by rw [yk o2 n72.symm, r2]
         have so : h8 o = some (.arr (es.flatten ++ z)) := by rw [yk o n7o.symm, ro]
         simp (disch := omega) only [go_sem, ↓reduceIte, Nat.reduceEqDiff, Nat.reduceLeDiff, t2, t9, t15, t17, s2, y7, dB, dB2, dL, dL2, hCd, fz.same, fz.disc]
         have hyg : GE 2 [[fw, .sc (.bool L[k].2)]] := fun e he => by
          rw [List.mem_singleton] at he
          subst he
          exact ⟨rfl, by rw [List.map_cons, fz.disc]; rfl⟩
         have hrow8 : Row h3 h8 2 (.rs o5 0 2 ys.length (some cap5)) ys := row_other hrow7 fun o' ho' => yk o' (by cases ho'; exact n75.symm)
         refine row_app hrow8 (fun y hy => by rw [yk y (fun e => by rw [e] at hy; exact absurd (k36 o7 hy) (fun q => q ho7))]; exact k37 y hy) hge2 hyg (by simp) rfl (by simp; omega) fun x2 h9 r9 hon hoid => ?_
         obtain ⟨x2d, x2s, x2c, x2t, _, _, _⟩ := row_ne r9 (by simp)
         have uo : h9 o = some (.arr (es.flatten ++ z)) := by rw [hon o (by rw [so]; simp) (fun q => n5o (by cases q; rfl)), so]
         have hset : setRange (es.flatten ++ z) (j * 3 + 2) [x2] = (es.set j [.sc (.int .i64 E.bags[j].k.1), .sc (.int .i64 E.bags[j].k.2), x2]).flatten ++ z := by
          rw [set_one (by omega), fl_set (sz := 3) z oge gl (by omega)]
          rfl
         have u2 : h9 o2 = some (.arr [.rs o 0 3 es.length (some cap), Cv]) := by rw [hon o2 (by rw [s2]; simp) (fun q => (nf o5 no5).1 (by cases q; rfl)), s2]
         simp (disch := omega) only [go_sem, ↓reduceIte, Nat.reduceEqDiff, Nat.reduceLeDiff, hiad, x2d, x2s, x2c, x2t, uo, s2, u2, hll, hset, dB, dB2]
         have y9 : (upd h9 o (some (.arr ((es.set j [.sc (.int .i64 E.bags[j].k.1), .sc (.int .i64 E.bags[j].k.2), x2]).flatten ++ z)))) o = some (.arr ((es.set j [.sc (.int .i64 E.bags[j].k.1), .sc (.int .i64 E.bags[j].k.2), x2]).flatten ++ z)) := upd_same ..
         have yk9 : ∀ y, y ≠ o → (upd h9 o (some (.arr ((es.set j [.sc (.int .i64 E.bags[j].k.1), .sc (.int .i64 E.bags[j].k.2), x2]).flatten ++ z)))) y = h9 y := fun y hy => upd_ne _ _ hy
         generalize (upd h9 o (some (.arr ((es.set j [.sc (.int .i64 E.bags[j].k.1), .sc (.int .i64 E.bags[j].k.2), x2]).flatten ++ z)))) = h10 at y9 yk9
         have nlv : ∀ y, y ≠ o5 → oid (AV.rs o5 0 2 ys.length (some cap5)) ≠ some y := fun y hy q => hy (by cases q; rfl)
         have pass : ∀ y X, h8 y = some X → y ≠ o → y ≠ o5 → h10 y = some X := fun y X hX hy hy5 => by rw [yk9 y hy, hon y (by rw [hX]; simp) (nlv y hy5), hX]
         have S10 : OwnS h2 h3 h10 j (.rs o 0 3 es.length (some cap)) Cv (modL E j (· ++ [L[k]])) := by
          refine ownS_mod (f := (· ++ [L[k]])) hi a1 a2 a3 a4 y9 (row_other oC7 fun o' ho' => ?_) ock odj (oB1 o rfl) oC1 olen oge obag x2d ?_ (row_other r9 fun o' ho' => yk9 o' (fun e => oB1 o rfl (by rw [← e]; exact row_fresh r9 o' ho')))
          ·have q1 := row_live oC7 o' ho'
           have q2 : h8 o' = h7 o' := yk o' (fun e => by
            have := k36 o' (oC1 o' ho')
            rw [e] at this
            exact this ho7)
           cases hX : h7 o' with
           | none => exact absurd hX q1
           | some X => rw [pass o' X (by rw [q2, hX]) (fun e => odj o rfl (by rw [← e]; exact ho')) (fun e => oC1 o' ho' (by rw [e]; exact b1))]
          ·rw [← hL]
           exact RR.append (fs := [[fw, .sc (.bool L[k].2)]]) (ys := [L[k]]) hp ⟨⟨fw, rfl, fz⟩, trivial⟩
         refine gofin _ h10 h3 j _ _ S10 dB h23 (pass o2 _ s2 (nf o a1).1.symm (nf o5 no5).1.symm) (pass o4 _ (by rw [yk o4 n74.symm, r4]) (nf o a1).2.2.symm (nf o5 no5).2.2.symm) (fun y hy => ?_) hdo2 (by simp [upd_at, t2]) (by simp [upd_at, t4])
         have hy2 : h2 y ≠ none := by rw [fk y hy]; exact hy
         have hy7 : y ≠ o7 := fun e => by
          have := kh y hy
          rw [e, ho7] at this
          rw [e, ← this] at hy
          exact hy rfl
         cases hX : h y with
         | none => exact absurd hX hy
         | some X => rw [pass y X (by rw [yk y hy7, kh7 y hy, hX]) (fun e => hy2 (by rw [e]; exact a1)) (fun e => hy2 (by rw [e]; exact no5))]
        ·have htw2 : isTwice x L = false := by simpa using htw
         refine A_seq_gen fun N hN => W_sound ?_
         have g155 : ∀ t : Nat → AV, t 2 = .op o2 0 → t 3 = .op o3 0 → t 4 = .op o4 0 → t 5 = .sc (.slice none 0 0) → t 6 = .sc (.bool false) → t 7 = .sc (.int .i64 ((0 : Nat) : Int)) → t 9 = .sc (.int .i64 (j : Nat)) → t 15 = .rs o5 0 2 ys.length (some cap5) → t 16 = .sc (.int .i64 (k : Nat)) → t 17 = .op o7 0 → t 155 = .sc (.bool false) → N ⟨t, h7⟩ := by
          clear t2 t3 t4 t5 t6 t7 t9 t15 t16 t17 t137 t
          intro t t2 t3 t4 t5 t6 t7 t9 t15 t16 t17 t155
          refine hN _ ?_; clear hN N
          refine AW.cond false (by simp [Opd.ev, t155]; rfl) (fun q => by cases q) (fun _ => ?_)
          by_cases htk : isTake x = true
          ·have hdo2 : doP E x = (takeP E j k, if x.kd == ((1 : Nat) : Int) then L[k].1 else [], x.kd == ((1 : Nat) : Int)) := by rw [hdo]; unfold parP; rw [if_neg hbe, if_neg htw, if_pos htk]
           refine A_seq_gen fun N hN => W_sound ?_
           have g177 : ∀ t : Nat → AV, t 2 = .op o2 0 → t 3 = .op o3 0 → t 4 = .op o4 0 → t 5 = .sc (.slice none 0 0) → t 6 = .sc (.bool false) → t 7 = .sc (.int .i64 ((0 : Nat) : Int)) → t 9 = .sc (.int .i64 (j : Nat)) → t 15 = .rs o5 0 2 ys.length (some cap5) → t 16 = .sc (.int .i64 (k : Nat)) → t 17 = .op o7 0 → t 177 = .sc (.bool true) → N ⟨t, h7⟩ := by
            clear t2 t3 t4 t5 t6 t7 t9 t15 t16 t17 t155 t
            intro t t2 t3 t4 t5 t6 t7 t9 t15 t16 t17 t177
            refine hN _ ?_; clear hN N
            refine AW.cond true (by simp [Opd.ev, t177]; rfl) (fun _ => ?_) (fun q => by cases q)
            refine A_seq_gen fun N hN => W_sound ?_
            refine W_f (fun t => t 2 = .op o2 0 ∧ t 3 = .op o3 0 ∧ t 4 = .op o4 0 ∧ t 5 = .sc (.slice none 0 0) ∧ t 6 = .sc (.bool false) ∧ t 7 = .sc (.int .i64 ((0 : Nat) : Int)) ∧ t 9 = .sc (.int .i64 (j : Nat)) ∧ t 15 = .rs o5 0 2 ys.length (some cap5) ∧ t 16 = .sc (.int .i64 (k : Nat)) ∧ t 17 = .op o7 0 ∧ True) ?_; rintro t ⟨t2, t3, t4, t5, t6, t7, t9, t15, t16, t17, -⟩
            have hk20 : k < 2 ^ 20 := by omega
            refine ln17_186 ?_
            simp (disch := omega) only [go_sem, ↓reduceIte, Nat.reduceEqDiff, Nat.reduceLeDiff, t2, t9, t15, t16, r2, dB, dB2, dL, dL2, hCd, nat_add]
            refine AWF.mono (AWF.disR (Q := fun r h' => Row h3 h' 2 r (ys.eraseIdx k) ∧ Only h7 h' (.rs o5 0 2 ys.length (some cap5)) ∧ (oid r = some o5) ∧ r.dis = r ∧ r.disc = r ∧ r.cellsD = [r] ∧ r.isTu = false) (delP_ok H hrow7 hge2 (by omega) (by omega)) fun r h' ⟨w1, w2, w3⟩ => by
             obtain ⟨d1, d2, d3, d4, d5, d6⟩ := row_diss w1
             exact ⟨d1, w2, by rw [d2]; exact w3, d3, d4, d5, d6⟩) ?_
            rintro x2 h8 ⟨rr8, on8, od8, x2s, x2d, x2c, x2t⟩
            have nlv : ∀ y, y ≠ o5 → oid (AV.rs o5 0 2 ys.length (some cap5)) ≠ some y := fun y hy q => hy (by cases q; rfl)
            have uo : h8 o = some (.arr (es.flatten ++ z)) := by rw [on8 o (by rw [ro]; simp) (nlv o n5o.symm), ro]
            have hset : setRange (es.flatten ++ z) (j * 3 + 2) [x2] = (es.set j [.sc (.int .i64 E.bags[j].k.1), .sc (.int .i64 E.bags[j].k.2), x2]).flatten ++ z := by
             rw [set_one (by omega), fl_set (sz := 3) z oge gl (by omega)]
             rfl
            have u2 : h8 o2 = some (.arr [.rs o 0 3 es.length (some cap), Cv]) := by rw [on8 o2 (by rw [r2]; simp) (nlv o2 (nf o5 no5).1.symm), r2]
            rw [contK_some]; simp (disch := omega) only [go_sem, ↓reduceIte, Nat.reduceEqDiff, Nat.reduceLeDiff, hiad, x2d, x2s, x2c, x2t, uo, u2, r2, hll, hset, dB, dB2]
            have y9 : (upd h8 o (some (.arr ((es.set j [.sc (.int .i64 E.bags[j].k.1), .sc (.int .i64 E.bags[j].k.2), x2]).flatten ++ z)))) o = some (.arr ((es.set j [.sc (.int .i64 E.bags[j].k.1), .sc (.int .i64 E.bags[j].k.2), x2]).flatten ++ z)) := upd_same ..
            have yk9 : ∀ y, y ≠ o → (upd h8 o (some (.arr ((es.set j [.sc (.int .i64 E.bags[j].k.1), .sc (.int .i64 E.bags[j].k.2), x2]).flatten ++ z)))) y = h8 y := fun y hy => upd_ne _ _ hy
            generalize (upd h8 o (some (.arr ((es.set j [.sc (.int .i64 E.bags[j].k.1), .sc (.int .i64 E.bags[j].k.2), x2]).flatten ++ z)))) = h9 at y9 yk9
            have pass : ∀ y X, h7 y = some X → y ≠ o → y ≠ o5 → h9 y = some X := fun y X hX hy hy5 => by rw [yk9 y hy, on8 y (by rw [hX]; simp) (nlv y hy5), hX]
            have r9 : Row h3 h9 2 x2 (ys.eraseIdx k) := row_other rr8 fun o' ho' => yk9 o' (fun e => oB1 o rfl (by rw [← e]; exact row_fresh rr8 o' ho'))
            have oC9 : Row h2 h9 2 Cv xs := row_other oC7 fun o' ho' => by
             cases hX : h7 o' with
             | none => exact absurd hX (row_live oC7 o' ho')
             | some X => rw [pass o' X hX (fun e => odj o rfl (by rw [← e]; exact ho')) (fun e => oC1 o' ho' (by rw [e]; exact b1))]
            have hp9 : RR PcR (ys.eraseIdx k) (L.eraseIdx k) := rr_erase hp
            have S9 : OwnS h2 h3 h9 j (.rs o 0 3 es.length (some cap)) Cv (modL E j (·.eraseIdx k)) := ownS_mod (f := (·.eraseIdx k)) hi a1 a2 a3 a4 y9 oC9 ock odj (oB1 o rfl) oC1 olen oge obag x2d (by rw [← hL]; exact hp9) r9
            have s2 := pass o2 _ r2 (nf o a1).1.symm (nf o5 no5).1.symm
            have s3 := pass o3 _ r3 (nf o a1).2.1.symm (nf o5 no5).2.1.symm
            have s4 := pass o4 _ r4 (nf o a1).2.2.symm (nf o5 no5).2.2.symm
            have s7 := pass o7 _ v7 n7o n75
            have k9 : ∀ y, h y ≠ none → h9 y = h y := fun y hy => by
             have hy2 : h2 y ≠ none := by rw [fk y hy]; exact hy
             cases hX : h y with
             | none => exact absurd hX hy
             | some X => rw [pass y X (by rw [kh7 y hy, hX]) (fun e => hy2 (by rw [e]; exact a1)) (fun e => hy2 (by rw [e]; exact no5))]
            refine hN _ ?_; clear hN N
            refine A_seq_gen fun K hK => ?_
            have go3 : ∀ (t : Nat → AV) (h8 h1 : Heap) (j' : Nat) (B' : AV) (E' : Eth), OwnS h2 h1 h8 j' B' Cv E' → B'.disc = B' → (∀ x, h2 x ≠ none → h1 x ≠ none) → h8 o2 = some (.arr [B', Cv]) → h8 o3 = some (.arr [.sc (.int .i64 x.kd), .sc (.int .i64 x.a), .sc (.int .i64 x.b), .sc (.int .i64 x.n), .sc (.int .i64 x.w)]) → h8 o4 = some (.arr [.sc (.slice none 0 0), .sc (.slice none 0 0)]) → h8 o7 = some (.arr [w, .sc (.bool L[k].2)]) → (∀ x, h x ≠ none → h8 x = h x) → E' = takeP E j k → t 2 = .op o2 0 → t 3 = .op o3 0 → t 4 = .op o4 0 → t 17 = .op o7 0 → K ⟨t, h8⟩ := by
             clear t2 t3 t4 t5 t6 t7 t9 t15 t16 t17 t
             intro t h8 h1 j' B' E' S8 hBd' h21 n2 n3 n4 n7 k8 hE' t2 t3 t4 t17
             refine hK _ ?_
             cases k1 : (x.kd == ((1 : Nat) : Int)) with
             | true =>
              rw [k1] at hdo2
              refine A_seq_gen fun N hN => W_sound ?_
              refine W_f (fun t => t 2 = .op o2 0 ∧ t 3 = .op o3 0 ∧ t 4 = .op o4 0 ∧ t 17 = .op o7 0 ∧ True) ?_; rintro t ⟨t2, t3, t4, t17, -⟩
              simp (disch := omega) only [go_sem, ↓reduceIte, Nat.reduceEqDiff, Nat.reduceLeDiff, t3, n3, k1]
              refine hN _ ?_; clear hN N
              refine AW.cond true (by simp [Opd.ev, upd_at]; rfl) (fun _ => ?_) (fun q => by cases q)
              refine A_seq_gen fun N hN => W_sound ?_
              refine W_f (fun t => t 2 = .op o2 0 ∧ t 3 = .op o3 0 ∧ t 4 = .op o4 0 ∧ t 17 = .op o7 0 ∧ True) ?_; rintro t ⟨t2, t3, t4, t17, -⟩
              simp (disch := omega) only [go_sem, ↓reduceIte, Nat.reduceEqDiff, Nat.reduceLeDiff, t2, t4, t17, n2, n4, n7, hBd', hCd, setRA2, sw.disc, sw.same]
              refine ⟨n74.symm, ?_⟩
              have y4 : (upd h8 o4 (some (.arr [B', Cv]))) o4 = some (.arr [B', Cv]) := upd_same ..
              have yk : ∀ x, x ≠ o4 → (upd h8 o4 (some (.arr [B', Cv]))) x = h8 x := fun x hx => upd_ne _ _ hx
              generalize (upd h8 o4 (some (.arr [B', Cv]))) = h9 at y4 yk
              refine hN _ ?_; clear hN N
              exact fin _ (fun s hs => ⟨.inl rfl, hs⟩) _ h9 h1 j' B' Cv E' w L[k].1 true (ownS_keep S8 (by rw [f4]; simp) (h21 o4 (by rw [f4]; simp)) yk) h21 y4 (fun y hy => by rw [yk y (fun e => hy (by rw [e]; exact no4)), k8 y hy]) (by simp [upd_at, t4]) (by simp [upd_at]) (by simp [upd_at]) (by simp [upd_at]) sw (by rw [hdo2, hE']; rfl)
             | false =>
              rw [k1] at hdo2
              refine A_seq_gen fun N hN => W_sound ?_
              refine W_f (fun t => t 2 = .op o2 0 ∧ t 3 = .op o3 0 ∧ t 4 = .op o4 0 ∧ t 17 = .op o7 0 ∧ True) ?_; rintro t ⟨t2, t3, t4, t17, -⟩
              simp (disch := omega) only [go_sem, ↓reduceIte, Nat.reduceEqDiff, Nat.reduceLeDiff, t3, n3, k1]
              refine hN _ ?_; clear hN N
              refine AW.cond false (by simp [Opd.ev, upd_at]; rfl) (fun q => by cases q) (fun _ => ?_)
              refine W_sound ?_
              simp (disch := omega) only [go_sem, ↓reduceIte, Nat.reduceEqDiff, Nat.reduceLeDiff]
              exact gofin _ h8 h1 j' B' E' S8 hBd' h21 n2 n4 k8 (by rw [hdo2, hE']; rfl) (by simp [upd_at, t2]) (by simp [upd_at, t4])
            have gl9 : (es.set j [.sc (.int .i64 E.bags[j].k.1), .sc (.int .i64 E.bags[j].k.2), x2])[j]? = some [.sc (.int .i64 E.bags[j].k.1), .sc (.int .i64 E.bags[j].k.2), x2] := by rw [List.getElem?_set, if_pos rfl, if_pos (by omega)]
            have hge9 : GE 3 (es.set j [.sc (.int .i64 E.bags[j].k.1), .sc (.int .i64 E.bags[j].k.2), x2]) := fun e he => by
             rcases List.mem_or_eq_of_mem_set he with q | rfl
             ·exact oge e q
             ·exact ⟨rfl, by rw [List.map_cons, List.map_cons, List.map_cons, x2d]; rfl⟩
            have hat9 := fl_at z hge9 gl9 (k := 2) rfl (by omega)
            have hll9 : j * 3 + 2 + 1 ≤ ((es.set j [.sc (.int .i64 E.bags[j].k.1), .sc (.int .i64 E.bags[j].k.2), x2]).flatten ++ z).length := by
             obtain ⟨u1, _⟩ := List.getElem?_eq_some_iff.1 hat9
             omega
            have hdt9 : (((es.set j [.sc (.int .i64 E.bags[j].k.1), .sc (.int .i64 E.bags[j].k.2), x2]).flatten ++ z).drop (j * 3 + 2)).take 1 = [x2] := by
             obtain ⟨u1, u2⟩ := List.getElem?_eq_some_iff.1 hat9
             rw [List.drop_eq_getElem_cons u1, u2]
             rfl
            have rl9 := fun (t : Nat → AV) => (row_rd r9 (pc_ge hp9)).len (t := t)
            have el9 : (ys.eraseIdx k).length = ys.length - 1 := by rw [List.length_eraseIdx, if_pos (by omega)]
            rw [el9] at rl9
            refine W_sound ?_
            refine W_f (fun t => t 2 = .op o2 0 ∧ t 3 = .op o3 0 ∧ t 4 = .op o4 0 ∧ t 17 = .op o7 0 ∧ t 9 = .sc (.int .i64 (j : Nat)) ∧ True) ?_; rintro t ⟨t2, t3, t4, t17, t9, -⟩
            have hj20 : j < 2 ^ 20 := by omega
            by_cases hone : L.length = 1
            ·have d0 : decide (ys.length - 1 = 0) = true := decide_eq_true (by omega)
             simp (disch := omega) only [go_sem, ↓reduceIte, Nat.reduceEqDiff, Nat.reduceLeDiff, t2, t9, s2, hiad, dB, dB2, y9, hll9, hdt9, single1, x2s, rl9, d0, nat_add]
             have rB9 : Row h2 h9 3 (.rs o 0 3 es.length (some cap)) (es.set j [.sc (.int .i64 E.bags[j].k.1), .sc (.int .i64 E.bags[j].k.2), x2]) := .inr (.inr ⟨o, cap, z, a1, by rw [List.length_set], a2, by rw [List.length_set]; exact a3, by rw [List.length_set]; exact a4, y9⟩)
             refine AWF.mono (AWF.disR (Q := fun r h' => Row h2 h' 3 r ((es.set j [.sc (.int .i64 E.bags[j].k.1), .sc (.int .i64 E.bags[j].k.2), x2]).eraseIdx j) ∧ Only h9 h' (.rs o 0 3 es.length (some cap)) ∧ (oid r = some o) ∧ r.dis = r ∧ r.disc = r ∧ r.cellsD = [r] ∧ r.isTu = false) (delB_ok H rB9 hge9 (by rw [List.length_set]; omega) (by rw [List.length_set]; omega)) fun r h' ⟨w1, w2, w3⟩ => by
              obtain ⟨d1, d2, d3, d4, d5, d6⟩ := row_diss w1
              exact ⟨d1, w2, by rw [d2]; exact w3, d3, d4, d5, d6⟩) ?_
             rintro rb h10 ⟨rr10, on10, od10, rbs, rbd, rbc, rbt⟩
             have nlo : ∀ y, y ≠ o → oid (AV.rs o 0 3 es.length (some cap)) ≠ some y := fun y hy q => hy (by cases q; rfl)
             have pass10 : ∀ y X, h9 y = some X → y ≠ o → h10 y = some X := fun y X hX hy => by rw [on10 y (by rw [hX]; simp) (nlo y hy), hX]
             have v2 := pass10 o2 _ s2 (nf o a1).1.symm
             have sr0 : setRange [AV.rs o 0 3 es.length (some cap), Cv] 0 [rb] = [rb, Cv] := rfl
             rw [contK_some]; simp (disch := omega) only [go_sem, ↓reduceIte, Nat.reduceEqDiff, Nat.reduceLeDiff, t2, v2, rbs, rbd, rbc, rbt, sr0]
             have y11 : (upd h10 o2 (some (.arr [rb, Cv]))) o2 = some (.arr [rb, Cv]) := upd_same ..
             have yk11 : ∀ x, x ≠ o2 → (upd h10 o2 (some (.arr [rb, Cv]))) x = h10 x := fun x hx => upd_ne _ _ hx
             generalize (upd h10 o2 (some (.arr [rb, Cv]))) = h11 at y11 yk11
             have pass11 : ∀ y X, h9 y = some X → y ≠ o → y ≠ o2 → h11 y = some X := fun y X hX hy hy2 => by rw [yk11 y hy2, pass10 y X hX hy]
             have rB11 := row_other rr10 fun o' ho' => yk11 o' (nf o' (row_fresh rr10 o' ho')).1
             have rC11 : Row h2 h11 2 Cv xs := row_other oC9 fun o' ho' => by
              cases hX : h9 o' with
              | none => exact absurd hX (row_live oC9 o' ho')
              | some X => rw [pass11 o' X hX (fun e => odj o rfl (by rw [← e]; exact ho')) (nf o' (row_fresh oC9 o' ho')).1]
             have hfr := erase_rr (e := [.sc (.int .i64 E.bags[j].k.1), .sc (.int .i64 E.bags[j].k.2), x2]) obag olen hi
             have S11 : OwnS h2 h11 h11 (E.bags.eraseIdx j).length rb Cv ⟨E.bags.eraseIdx j, E.cuts⟩ := ⟨_, _, rB11, rC11, ock, fun o' ho' hc' => odj o' (by rw [od10] at ho'; exact ho') hc', row_live rB11, row_live rC11, hfr.len, fun e he => hge9 e (List.mem_of_mem_eraseIdx he), rr_bags hfr⟩
             have k11 : ∀ y, h2 y ≠ none → h9 y ≠ none → h11 y ≠ none := fun y hy hy9 => by
              by_cases c : y = o2
              ·rw [c, y11]; simp
              ·cases hX : h9 y with
               | none => exact absurd hX hy9
               | some X => rw [pass11 y X hX (fun e => hy (by rw [e]; exact a1)) c]; simp
             have k29 : ∀ y, h2 y ≠ none → h9 y ≠ none := fun y hy => by
              cases hX : h7 y with
              | none => exact absurd hX (k37 y (h23 y hy))
              | some X => rw [pass y X hX (fun e => hy (by rw [e]; exact a1)) (fun e => hy (by rw [e]; exact no5))]; simp
             refine go3 _ h11 h11 _ rb _ S11 rbd (fun y hy => k11 y hy (k29 y hy)) y11 (pass11 o3 _ s3 (nf o a1).2.1.symm n23.symm) (pass11 o4 _ s4 (nf o a1).2.2.symm n24.symm) (pass11 o7 _ s7 n7o n72) (fun y hy => ?_) (by unfold takeP; rw [hlA, ← hL, if_pos hone]) (by simp [upd_at, t2]) (by simp [upd_at, t3]) (by simp [upd_at, t4]) (by simp [upd_at, t17])
             have hy2 : h2 y ≠ none := by rw [fk y hy]; exact hy
             cases hX : h y with
             | none => exact absurd hX hy
             | some X => rw [pass11 y X (by rw [k9 y hy, hX]) (fun e => hy2 (by rw [e]; exact a1)) (fun e => hy (by rw [e]; exact no2))]
            ·have d0 : decide (ys.length - 1 = 0) = false := decide_eq_false (by omega)
             simp (disch := omega) only [go_sem, ↓reduceIte, Nat.reduceEqDiff, Nat.reduceLeDiff, t2, t9, s2, hiad, dB, dB2, y9, hll9, hdt9, single1, x2s, rl9, d0]
             exact go3 _ h9 h3 j _ _ S9 dB h23 s2 s3 s4 s7 k9 (by unfold takeP; rw [hlA, ← hL, if_neg hone]) (by simp [upd_at, t2]) (by simp [upd_at, t3]) (by simp [upd_at, t4]) (by simp [upd_at, t17])
           refine W_f (fun t => t 2 = .op o2 0 ∧ t 3 = .op o3 0 ∧ t 4 = .op o4 0 ∧ t 5 = .sc (.slice none 0 0) ∧ t 6 = .sc (.bool false) ∧ t 7 = .sc (.int .i64 ((0 : Nat) : Int)) ∧ t 9 = .sc (.int .i64 (j : Nat)) ∧ t 15 = .rs o5 0 2 ys.length (some cap5) ∧ t 16 = .sc (.int .i64 (k : Nat)) ∧ t 17 = .op o7 0 ∧ True) ?_; rintro t ⟨t2, t3, t4, t5, t6, t7, t9, t15, t16, t17, -⟩
           cases k1 : (x.kd == ((1 : Nat) : Int)) with
           | true =>
            simp (disch := omega) only [go_sem, ↓reduceIte, Nat.reduceEqDiff, Nat.reduceLeDiff, t3, r3, k1]
            exact g177 _ (by simp [upd_at, t2]) (by simp [upd_at, t3]) (by simp [upd_at, t4]) (by simp [upd_at, t5]) (by simp [upd_at, t6]) (by simp [upd_at, t7]) (by simp [upd_at, t9]) (by simp [upd_at, t15]) (by simp [upd_at, t16]) (by simp [upd_at, t17]) (by simp [upd_at])
           | false =>
            have k2 : (x.kd == ((2 : Nat) : Int)) = true := by unfold isTake at htk; rw [k1] at htk; simpa using htk
            simp (disch := omega) only [go_sem, ↓reduceIte, Nat.reduceEqDiff, Nat.reduceLeDiff, t3, r3, k1, k2]
            exact g177 _ (by simp [upd_at, t2]) (by simp [upd_at, t3]) (by simp [upd_at, t4]) (by simp [upd_at, t5]) (by simp [upd_at, t6]) (by simp [upd_at, t7]) (by simp [upd_at, t9]) (by simp [upd_at, t15]) (by simp [upd_at, t16]) (by simp [upd_at, t17]) (by simp [upd_at])
          ·have htk2 : isTake x = false := by simpa using htk
           have hdo2 : doP E x = (E, [], false) := by rw [hdo]; unfold parP; rw [if_neg hbe, if_neg htw, if_neg htk]
           unfold isTake at htk2
           rw [Bool.or_eq_false_iff] at htk2
           obtain ⟨k1, k2⟩ := htk2
           refine A_seq_gen fun N hN => W_sound ?_
           refine W_f (fun t => t 2 = .op o2 0 ∧ t 3 = .op o3 0 ∧ t 4 = .op o4 0 ∧ t 5 = .sc (.slice none 0 0) ∧ t 6 = .sc (.bool false) ∧ t 7 = .sc (.int .i64 ((0 : Nat) : Int)) ∧ t 9 = .sc (.int .i64 (j : Nat)) ∧ t 15 = .rs o5 0 2 ys.length (some cap5) ∧ t 16 = .sc (.int .i64 (k : Nat)) ∧ t 17 = .op o7 0 ∧ True) ?_; rintro t ⟨t2, t3, t4, t5, t6, t7, t9, t15, t16, t17, -⟩
           simp (disch := omega) only [go_sem, ↓reduceIte, Nat.reduceEqDiff, Nat.reduceLeDiff, t3, r3, k1, k2]
           refine hN _ ?_; clear hN N
           refine AW.cond false (by simp [Opd.ev, upd_at]; rfl) (fun q => by cases q) (fun _ => ?_)
           refine W_sound ?_
           simp (disch := omega) only [go_sem, ↓reduceIte, Nat.reduceEqDiff, Nat.reduceLeDiff]
           exact gofin _ h7 h3 j _ E S7 dB h23 r2 r4 kh7 hdo2 (by simp [upd_at, t2]) (by simp [upd_at, t4])
         refine W_f (fun t => t 2 = .op o2 0 ∧ t 3 = .op o3 0 ∧ t 4 = .op o4 0 ∧ t 5 = .sc (.slice none 0 0) ∧ t 6 = .sc (.bool false) ∧ t 7 = .sc (.int .i64 ((0 : Nat) : Int)) ∧ t 9 = .sc (.int .i64 (j : Nat)) ∧ t 15 = .rs o5 0 2 ys.length (some cap5) ∧ t 16 = .sc (.int .i64 (k : Nat)) ∧ t 17 = .op o7 0 ∧ True) ?_; rintro t ⟨t2, t3, t4, t5, t6, t7, t9, t15, t16, t17, -⟩
         cases e3 : (x.kd == ((3 : Nat) : Int)) with
         | false =>
          simp (disch := omega) only [go_sem, ↓reduceIte, Nat.reduceEqDiff, Nat.reduceLeDiff, t3, r3, e3]
          exact g155 _ (by simp [upd_at, t2]) (by simp [upd_at, t3]) (by simp [upd_at, t4]) (by simp [upd_at, t5]) (by simp [upd_at, t6]) (by simp [upd_at, t7]) (by simp [upd_at, t9]) (by simp [upd_at, t15]) (by simp [upd_at, t16]) (by simp [upd_at, t17]) (by simp [upd_at])
         | true =>
          have d64 : decide (ys.length < 64) = false := by unfold isTwice at htw2; rw [e3] at htw2; rw [hyl]; simpa using htw2
          simp (disch := omega) only [go_sem, ↓reduceIte, Nat.reduceEqDiff, Nat.reduceLeDiff, t3, t15, r3, e3, len_rs, dL, dL2, d64]
          exact g155 _ (by simp [upd_at, t2]) (by simp [upd_at, t3]) (by simp [upd_at, t4]) (by simp [upd_at, t5]) (by simp [upd_at, t6]) (by simp [upd_at, t7]) (by simp [upd_at, t9]) (by simp [upd_at, t15]) (by simp [upd_at, t16]) (by simp [upd_at, t17]) (by simp [upd_at])
       refine W_f (fun t => t 2 = .op o2 0 ∧ t 3 = .op o3 0 ∧ t 4 = .op o4 0 ∧ t 5 = .sc (.slice none 0 0) ∧ t 6 = .sc (.bool false) ∧ t 7 = .sc (.int .i64 ((0 : Nat) : Int)) ∧ t 9 = .sc (.int .i64 (j : Nat)) ∧ t 15 = .rs o5 0 2 ys.length (some cap5) ∧ t 16 = .sc (.int .i64 (k : Nat)) ∧ t 17 = .op o7 0 ∧ True) ?_; rintro t ⟨t2, t3, t4, t5, t6, t7, t9, t15, t16, t17, -⟩
       cases e4 : (x.kd == ((4 : Nat) : Int)) with
       | false =>
        simp (disch := omega) only [go_sem, ↓reduceIte, Nat.reduceEqDiff, Nat.reduceLeDiff, t3, t17, r3, v7, e4]
        exact g137 _ (by simp [upd_at, t2]) (by simp [upd_at, t3]) (by simp [upd_at, t4]) (by simp [upd_at, t5]) (by simp [upd_at, t6]) (by simp [upd_at, t7]) (by simp [upd_at, t9]) (by simp [upd_at, t15]) (by simp [upd_at, t16]) (by simp [upd_at, t17]) (by simp [upd_at])
       | true =>
        have eb2 : L[k].2 = true := by unfold isBend at hbe2; rw [e4] at hbe2; simpa using hbe2
        simp (disch := omega) only [go_sem, ↓reduceIte, Nat.reduceEqDiff, Nat.reduceLeDiff, t3, t17, r3, v7, e4, eb2]
        exact g137 _ (by simp [upd_at, t2]) (by simp [upd_at, t3]) (by simp [upd_at, t4]) (by simp [upd_at, t5]) (by simp [upd_at, t6]) (by simp [upd_at, t7]) (by simp [upd_at, t9]) (by simp [upd_at, t15]) (by simp [upd_at, t16]) (by simp [upd_at, t17]) (by simp [upd_at])
   refine W_f (fun t => t 2 = .op o2 0 ∧ t 3 = .op o3 0 ∧ t 4 = .op o4 0 ∧ t 5 = .sc (.slice none 0 0) ∧ t 6 = .sc (.bool false) ∧ t 7 = .sc (.int .i64 ((0 : Nat) : Int)) ∧ t 9 = .sc (.int .i64 (ix (ks E) x.p : Nat)) ∧ t 10 = .sc (.bool (there E x.p)) ∧ True) ?_; rintro t ⟨t2, t3, t4, t5, t6, t7, t9, t10, -⟩
   cases e5 : (x.kd == ((5 : Nat) : Int)) with
   | false =>
    simp (disch := omega) only [go_sem, ↓reduceIte, Nat.reduceEqDiff, Nat.reduceLeDiff, t3, q3, e5]
    exact g35 _ (by simp [upd_at, t2]) (by simp [upd_at, t3]) (by simp [upd_at, t4]) (by simp [upd_at, t5]) (by simp [upd_at, t6]) (by simp [upd_at, t7]) (by simp [upd_at, t9]) (by simp [upd_at, t10]) (by simp [upd_at])
   | true =>
    have htw : two x.a x.b = false := by unfold isCutAct at hca; rw [e5] at hca; simpa using hca
    simp (disch := omega) only [go_sem, ↓reduceIte, Nat.reduceEqDiff, Nat.reduceLeDiff, t3, q3, e5]
    refine (two_ok H x.a x.b _).to ?_
    rw [htw]
    rw [contK_some]; simp (disch := omega) only [go_sem, ↓reduceIte, Nat.reduceEqDiff, Nat.reduceLeDiff]
    exact g35 _ (by simp [upd_at, t2]) (by simp [upd_at, t3]) (by simp [upd_at, t4]) (by simp [upd_at, t5]) (by simp [upd_at, t6]) (by simp [upd_at, t7]) (by simp [upd_at, t9]) (by simp [upd_at, t10]) (by simp [upd_at])
end Go.Proofs.Ytomfknocpijmbaa
end
section
set_option linter.unusedVariables false
set_option linter.unusedSimpArgs false
namespace Go.Proofs.Ytomfknocpijmbaa
open Go.Am
def cntB (E : Eth) : Nat := if checkB E then cntE E else 0
theorem cnt_bnd {E : Eth} (hs : ∀ b ∈ E.bags, b.l.length ≤ 2 ^ 20) : ∀ i, i ≤ E.bags.length → ((E.bags.take i).map fun b => b.l.length).sum ≤ i * 2 ^ 20 := by
 intro i
 induction i with
 | zero => intro _; simp
 | succ i ih =>
  intro hi
  rw [cnt_succ (by omega)]
  have := hs _ (List.getElem_mem (show i < E.bags.length by omega))
  have := ih (by omega)
  omega
variable {P : Program} (H : Has P)
include H
set_option maxHeartbeats 1000000 in
theorem count_ok {bv cv : AV} {E : Eth} {bes ces : List (List AV)} (hbv : SF 3 bv bes) (hB : RR BgR bes E.bags) (hcv : SF 2 cv ces) (hC : RR CK ces E.cuts) (hl1 : E.bags.length ≤ 2 ^ 20) (hl2 : E.cuts.length ≤ 2 ^ 20) (hs : ∀ b ∈ E.bags, b.l.length ≤ 2 ^ 20) (h : Heap) :
  AWF P ann 0 19 [.ag [bv, cv]] h fun r h' => r = .sc (.int .i64 (cntB E : Nat)) ∧ h' = h := by
 refine AWF.fnPurec H.f0_19 rfl ?_
 have e1 := hB.len
 have bnd := cnt_bnd hs
 (refine W_seq_gen fun N hN => ?_); simp (disch := omega) only [go_sem, ↓reduceIte, Nat.reduceEqDiff, Nat.reduceLeDiff, hbv.disc, hcv.disc]
 intro o ho
 have hO := OB.nil (h := h)
 refine hN _ ?_; clear hN N; refine W_ob (hO.new ho) fun hc hO => ?_
 have ho1 := hO.get0
 have hk := hO.keep
 refine W_f (fun t => t 1 = .op o 0 ∧ t 2 = .sc (.int .i64 ((0 : Nat) : Int)) ∧ True) ?_; rintro t ⟨t1, t2, -⟩
 clear hO
 (refine W_seq_gen fun N hN => ?_); simp (disch := omega) only [go_sem, ↓reduceIte, Nat.reduceEqDiff, Nat.reduceLeDiff]
 refine hN _ ?_; clear hN N
 refine W_f (fun t => t 1 = .op o 0 ∧ t 3 = .sc (.int .i64 ((0 : Nat) : Int)) ∧ True) ?_; rintro t ⟨t1, t3, -⟩
 (refine W_seq_gen fun M hM => ?_)
 simp (disch := omega) only [go_sem, ↓reduceIte, Nat.reduceEqDiff, Nat.reduceLeDiff, t1, ho1, hbv.disc, hcv.disc]
 refine (check_ok H hbv hB hcv hC (by omega) (by omega) _).to ?_
 cases hcB : checkB E with
 | false =>
  rw [contK_some]; simp (disch := omega) only [go_sem, ↓reduceIte, Nat.reduceEqDiff, Nat.reduceLeDiff]
  refine hM _ ?_; clear hM M
  refine W_f (fun t => t 3 = .sc (.int .i64 ((0 : Nat) : Int)) ∧ True) ?_; rintro t ⟨t3, -⟩
  simp (disch := omega) only [go_sem, ↓reduceIte, Nat.reduceEqDiff, Nat.reduceLeDiff, t3]
  unfold cntB
  rw [hcB]
  first | exact ⟨rfl, hk⟩ | exact hk | rfl
 | true =>
  rw [contK_some]; simp (disch := omega) only [go_sem, ↓reduceIte, Nat.reduceEqDiff, Nat.reduceLeDiff, t1, ho1, hbv.same, hbv.disc, hbv.sl.len, e1]
  refine AW_loopN (fun m t h' => (∀ x, ¬ h x = none → h' x = h x) ∧ h' o = some (.arr [bv, cv]) ∧ ∃ i, m = E.bags.length - i ∧ i ≤ E.bags.length ∧ t 1 = .op o 0 ∧ t 3 = .sc (.int .i64 (((E.bags.take i).map fun b => b.l.length).sum : Nat)) ∧ t 10 = bv ∧ t 11 = .sc (.int .i64 (E.bags.length : Nat)) ∧ t 12 = .sc (.int .i64 (i : Nat)))
   (n := E.bags.length) ⟨hk, ho1, 0, rfl, Nat.zero_le _, by simp [upd_at, t1], by simp [upd_at, t3], by simp [upd_at], by simp [upd_at], by simp [upd_at]⟩ ?_
  clear t1 t3 t hk ho1 hc
  rintro m t h' ⟨hk, ho1, i, rfl, hi, t1, t3, t10, t11, t12⟩
  rcases Nat.lt_or_ge i E.bags.length with hlt | hge
  ·obtain ⟨e, g0, lv, xs, rfl, hlv, hxs⟩ := hB.lt hlt
   have e3 := hxs.len
   have hb1 := bnd i hi
   have hb2 := hs _ (List.getElem_mem hlt)
   have hb3 : i * 2 ^ 20 ≤ 2 ^ 20 * 2 ^ 20 := Nat.mul_le_mul_right _ (by omega)
   (refine W_seq_gen fun N hN => ?_); simp (disch := omega) only [go_sem, ↓reduceIte, Nat.reduceEqDiff, Nat.reduceLeDiff, t11, t12, hlt]
   refine hN _ ?_; clear hN N
   (refine W_seq_gen fun N hN => ?_); simp (disch := omega) only [go_sem, ↓reduceIte, Nat.reduceEqDiff, Nat.reduceLeDiff]
   refine hN _ ?_; clear hN N
   (refine W_seq_gen fun R hR => ?_)
   rw [W_block]
   (refine W_seq_gen fun N hN => ?_); simp (disch := omega) only [go_sem, ↓reduceIte, Nat.reduceEqDiff, Nat.reduceLeDiff, t10, t12, hbv.same, hbv.disc, hbv.sl.ia, g0]
   intro o4 h4
   have hO := OB.nil (h := h')
   refine hN _ ?_; clear hN N; refine W_ob (hO.new h4) fun hc hO => ?_
   have hoc := hO.live ho1
   have ho4 := hO.get0
   have hk2 : ∀ x, ¬ h x = none → hc x = h x := fun x hx => (hO.keep x (by rw [hk x hx]; exact hx)).trans (hk x hx)
   clear hO h4
   refine W_f (fun t => t 1 = .op o 0 ∧ t 3 = .sc (.int .i64 (((E.bags.take i).map fun b => b.l.length).sum : Nat)) ∧ t 5 = .op o4 0 ∧ t 10 = bv ∧ t 11 = .sc (.int .i64 (E.bags.length : Nat)) ∧ t 12 = .sc (.int .i64 (i : Nat)) ∧ True) ?_; rintro t ⟨t1, t3, t5, t10, t11, t12, -⟩
   simp (disch := omega) only [go_sem, ↓reduceIte, Nat.reduceEqDiff, Nat.reduceLeDiff, t3, t5, ho4, hlv.disc, hlv.sl.ddisc, hlv.same, hlv.sl.len, e3, nat_add]
   refine hR _ ?_; clear hR R
   simp (disch := omega) only [go_sem, ↓reduceIte, Nat.reduceEqDiff, Nat.reduceLeDiff, t12, nat_add]
   exact ⟨E.bags.length - (i + 1), by omega, hk2, hoc, i + 1, rfl, by omega, t1, by rw [cnt_succ hlt], t10, t11, rfl⟩
  ·obtain rfl : i = E.bags.length := by omega
   (refine W_seq_gen fun N hN => ?_); simp (disch := omega) only [go_sem, ↓reduceIte, Nat.reduceEqDiff, Nat.reduceLeDiff, t11, t12, Nat.lt_irrefl]
   refine hN _ ?_; clear hN N
   (refine W_seq_gen fun N hN => ?_); simp (disch := omega) only [go_sem, ↓reduceIte, Nat.reduceEqDiff, Nat.reduceLeDiff]
   refine hM _ ?_
   simp (disch := omega) only [go_sem, ↓reduceIte, Nat.reduceEqDiff, Nat.reduceLeDiff, t3]
   rw [List.take_length]
   unfold cntB
   rw [hcB]
   first | exact ⟨rfl, hk⟩ | exact hk | rfl
theorem awake_ok (hE : ∀ {f : Nat}, f = 55 ∨ f = 57 → ∀ {o1 c1 s1 n1 o2 c2 s2 n2 : Nat} {l1 l2 : Option Nat} {cs1 cs2 : List AV} {h : Heap}, h o1 = some (.arr cs1) → h o2 = some (.arr cs2) → o1 ≠ o2 → cs2 ≠ [] → AWF P ann 0 f [.rs o1 c1 s1 n1 l1, .rs o2 c2 s2 n2 l2] h fun v h' => v = .sc (.bool false) ∧ h' = h) (h : Heap) :
  AWF P ann 0 8 [] h fun r h' => r = .sc (.bool true) ∧ h' = h := by
 refine AWF.fnPurec H.f0_8 rfl ?_
 have hO := OB.nil (h := h)
 (refine W_seq_gen fun N hN => ?_); simp (disch := omega) only [go_sem, ↓reduceIte, Nat.reduceEqDiff, Nat.reduceLeDiff]
 refine hN _ ?_; clear hN N
 refine W_f (fun t => t 0 = .sc (.bool false) ∧ True) ?_; rintro t ⟨t0, -⟩
 (refine W_seq_gen fun N hN => ?_); simp (disch := omega) only [go_sem, ↓reduceIte, Nat.reduceEqDiff, Nat.reduceLeDiff]
 refine (put_ok H (E := ⟨[], []⟩) (bes := []) (ces := []) (x := [120]) (.inl ⟨rfl, rfl⟩) trivial (.inl ⟨rfl, rfl⟩) trivial ⟨by simp, by simp, by simp⟩ (.inr ⟨_, _, rfl⟩) (by simp) (1, 2) (fun {_ _ _ _ _ _ _ _ _ _ _ _ _} => hE (.inl rfl)) _).mono ?_
 rintro _ hx9 ⟨⟨v, rfl, hv⟩, hh9⟩; rw [hh9]; clear hh9 hx9
 have e1 : putP ⟨[], []⟩ (1, 2) [120] = ⟨[⟨(1, 2), [([120], false)]⟩], []⟩ := by rfl
 have e2 : (checkB ⟨[], []⟩ && two ((1 : Int), (2 : Int)).1 ((1 : Int), (2 : Int)).2) = true := by decide
 rw [e2, e1] at hv
 rw [e2]
 obtain ⟨bv, cv, bes, ces, rfl, sb, rb, sc, rc⟩ := hv
 simp only [if_true] at rb rc
 rw [contK_some]; simp (disch := omega) only [go_sem, ↓reduceIte, Nat.reduceEqDiff, Nat.reduceLeDiff, sb.disc, sc.disc]
 intro o ho
 refine hN _ ?_; clear hN N; refine W_ob (hO.new ho) fun hc hO => ?_
 have ho1 := hO.get0
 have hk := hO.keep
 refine W_f (fun t => t 1 = .op o 0 ∧ t 2 = .sc (.int .i64 ((0 : Nat) : Int)) ∧ True) ?_; rintro t ⟨t1, t2, -⟩
 (refine W_seq_gen fun N hN => ?_); simp (disch := omega) only [go_sem, ↓reduceIte, Nat.reduceEqDiff, Nat.reduceLeDiff, t1, ho1, sb.disc, sc.disc]
 refine (do_ok H (E := ⟨[⟨(1, 2), [([120], false)]⟩], []⟩) (x := ⟨((1 : Nat) : Int), ((1 : Nat) : Int), ((2 : Nat) : Int), ((0 : Nat) : Int), ((0 : Nat) : Int)⟩) sb rb sc rc ⟨by simp, by simp, by simp⟩ (fun {_ _ _ _ _ _ _ _ _ _ _ _ _} => hE (.inr rfl)) _).mono ?_
 rintro _ hx9 ⟨⟨v2, w2, rfl, hv2, hw2⟩, hh9⟩; rw [hh9]; clear hh9 hx9
 have e3 : doP ⟨[⟨(1, 2), [([120], false)]⟩], []⟩ ⟨((1 : Nat) : Int), ((1 : Nat) : Int), ((2 : Nat) : Int), ((0 : Nat) : Int), ((0 : Nat) : Int)⟩ = (⟨[], []⟩, [120], true) := by rfl
 have e4 : checkB ⟨[⟨(1, 2), [([120], false)]⟩], []⟩ = true := by decide
 rw [e3, e4] at hv2 hw2
 rw [e3, e4]
 obtain ⟨bv2, cv2, bes2, ces2, rfl, sb2, rb2, sc2, rc2⟩ := hv2
 simp only [if_true] at rb2 rc2 hw2
 rw [contK_some]; simp (disch := omega) only [go_sem, ↓reduceIte, Nat.reduceEqDiff, Nat.reduceLeDiff, sb2.disc, sc2.disc, hw2.same, hw2.disc, t1, ho1, setRA2]
 have y1 : (upd hc o (some (.arr [bv2, cv2]))) o = some (.arr [bv2, cv2]) := upd_same ..
 have k9 : ∀ y, ¬ h y = none → (upd hc o (some (.arr [bv2, cv2]))) y = h y := fun y hy => by rw [upd_ne _ _ (fun e => hy (by rw [e]; exact ho))]; exact hk y hy
 generalize (upd hc o (some (.arr [bv2, cv2]))) = h9 at y1 k9
 refine hN _ ?_; clear hN N
 refine W_f (fun t => t 1 = .op o 0 ∧ t 2 = .sc (.int .i64 ((0 : Nat) : Int)) ∧ t 3 = w2 ∧ t 4 = .sc (.bool true) ∧ t 5 = .sc (.int .i64 ((0 : Nat) : Int)) ∧ True) ?_; rintro t ⟨t1, t2, t3, t4, t5, -⟩
 have es : decide (str [120] = (⟨#[120]⟩ : ByteArray)) = true := by decide
 (refine W_seq_gen fun N hN => ?_); simp (disch := omega) only [go_sem, ↓reduceIte, Nat.reduceEqDiff, Nat.reduceLeDiff, t1, t2, t3, t4, t5, y1, sb2.disc, sc2.disc, hw2.same, hw2.disc, hw2.sl.b2s, es]
 refine (count_ok H (E := ⟨[], []⟩) sb2 rb2 sc2 rc2 (by simp) (by simp) (by simp) _).to ?_
 rw [show cntB ⟨[], []⟩ = 0 from rfl]
 rw [contK_some]; simp (disch := omega) only [go_sem, ↓reduceIte, Nat.reduceEqDiff, Nat.reduceLeDiff]
 refine hN _ ?_; clear hN N
 simp (disch := omega) only [go_sem, ↓reduceIte, Nat.reduceEqDiff, Nat.reduceLeDiff]
 first | done | exact k9 | exact ⟨rfl, k9⟩
end Go.Proofs.Ytomfknocpijmbaa
end
