/- Slices by value, nil or not: what they read as. -/
import Derived.Test.YtcdfdnmnnepnoaaDoorAmLine
import Derived.Attr
set_option linter.unusedVariables false
set_option linter.unusedSimpArgs false
namespace Go.Am
variable {P : Program} {ann : Ann}


def SL (sz : Nat) (v : AV) (es : List (List AV)) : Prop := (v = .sc (.slice none 0 0) ∧ es = []) ∨ ∃ o lim, v = .bs o sz es lim

def SF (sz : Nat) (v : AV) (es : List (List AV)) : Prop := (v = .sc (.slice none 0 0) ∧ es = []) ∨ ∃ lim, v = .bs false sz es lim

def SG (sz : Nat) (v : AV) (es : List (List AV)) : Prop := (v = .sc (.slice none 0 0) ∧ es = []) ∨ ∃ lim, v = .bs true sz es lim

def cutV (sz l u : Nat) : AV → AV
  | .bs _ _ es lim => .bs false sz ((es.drop l).take (u - l)) (lim.map (· - l))
  | v => v

section
variable {sz : Nat} {v : AV} {es : List (List AV)} {t : Nat → AV} {h : Heap}
theorem SF.sl (H : SF sz v es) : SL sz v es := by rcases H with H | ⟨l, H⟩; exact .inl H; exact .inr ⟨_, l, H⟩
theorem SG.sl (H : SG sz v es) : SL sz v es := by rcases H with H | ⟨l, H⟩; exact .inl H; exact .inr ⟨_, l, H⟩
theorem SL.df (H : SL sz v es) : SF sz v.dis es := by
  rcases H with ⟨rfl, rfl⟩ | ⟨o, l, rfl⟩
  · exact .inl ⟨rfl, rfl⟩
  · exact .inr ⟨l, rfl⟩
theorem SL.dis (H : SL sz v es) : SL sz v.dis es := H.df.sl
theorem SF.same (H : SF sz v es) : v.dis = v := by
  rcases H with ⟨rfl, rfl⟩ | ⟨l, rfl⟩ <;> rfl
theorem SL.disc (H : SL sz v es) : v.disc = v.dis := by
  rcases H with ⟨rfl, rfl⟩ | ⟨o, l, rfl⟩ <;> rfl
theorem SL.ddisc (H : SL sz v es) : v.dis.disc = v.dis := by
  rcases H with ⟨rfl, rfl⟩ | ⟨o, l, rfl⟩ <;> rfl
theorem SF.disc (H : SF sz v es) : v.disc = v := by rw [H.sl.disc, H.same]
theorem SF.own (H : SF sz v es) : v.isOwn = false := by
  rcases H with ⟨rfl, rfl⟩ | ⟨l, rfl⟩ <;> rfl
theorem SF.dis (H : SF sz v es) : SF sz v.dis es := by rw [H.same]; exact H
theorem SL.dd (H : SL sz v es) : v.dis.dis = v.dis := H.df.same
theorem SL.len (H : SL sz v es) : aexLen 0 t h v = some (.val (.sc (.int .i64 es.length)) t h) := by
  rcases H with ⟨rfl, rfl⟩ | ⟨o, l, rfl⟩ <;> rfl
theorem SL.iad (H : SL sz v es) {i : Int} {cs : List AV} (hi : 0 ≤ i) (hc : es[i.toNat]? = some cs) : aexIad sz i t h v = some (.val (.cp cs) t h) := by
  rcases H with ⟨rfl, rfl⟩ | ⟨o, l, rfl⟩
  · simp at hc
  · rw [aexIad_bs, if_pos ⟨rfl, hi⟩, hc]
    rfl
theorem SL.ia (H : SL sz v es) {i : Int} (hi : 0 ≤ i) : aexIad sz i t h v = (es[i.toNat]?).bind fun cs => some (.val (.cp cs) t h) := by
  rcases H with ⟨rfl, rfl⟩ | ⟨o, l, rfl⟩
  · rfl
  · rw [aexIad_bs, if_pos ⟨rfl, hi⟩]
theorem SL.elems (H : SL sz v es) : elemsOf h sz v = some es := by
  rcases H with ⟨rfl, rfl⟩ | ⟨o, l, rfl⟩
  · rfl
  · simp [elemsOf]
theorem bounds_ok {n l u : Nat} {lo hi : Option AV} (hl : (lo = none ∧ l = 0) ∨ ∃ k, lo = some (.sc (.int k l))) (hu : (hi = none ∧ u = n) ∨ ∃ k, hi = some (.sc (.int k u))) (h1 : l ≤ u) (h2 : u ≤ n) : bounds n lo hi = some (l, u) := by
  have e1 : bHi n hi = some u := by
    rcases hu with ⟨rfl, rfl⟩ | ⟨k, rfl⟩
    · rfl
    · simp [bHi, asI, h2]
  have e2 : bLo u lo = some l := by
    rcases hl with ⟨rfl, rfl⟩ | ⟨k, rfl⟩
    · rfl
    · simp [bLo, asI, h1]
  simp [bounds, e1, e2]
theorem SL.slc (H : SL sz v es) {l u : Nat} {lo hi : Option AV} (hl : (lo = none ∧ l = 0) ∨ ∃ k, lo = some (.sc (.int k l))) (hu : (hi = none ∧ u = es.length) ∨ ∃ k, hi = some (.sc (.int k u))) (h1 : l ≤ u) (h2 : u ≤ es.length) :
    aexSlc sz t h lo hi none v = some (.val (cutV sz l u v) t h) := by
  have hb := bounds_ok hl hu h1 h2
  rcases H with ⟨rfl, rfl⟩ | ⟨o, lm, rfl⟩
  · simp only [List.length_nil] at hb
    simp [aexSlc, hb, cutV, AV.nils]
  · rw [aexSlc_bs, hb]
    rfl
theorem SL.slc_u (H : SL sz v es) {u : Nat} {k} (h2 : u ≤ es.length) : aexSlc sz t h none (some (.sc (.int k u))) none v = some (.val (cutV sz 0 u v) t h) :=
  H.slc (.inl ⟨rfl, rfl⟩) (.inr ⟨k, rfl⟩) (Nat.zero_le _) h2
theorem SL.slc_l (H : SL sz v es) {l : Nat} {k} (h2 : l ≤ es.length) : aexSlc sz t h (some (.sc (.int k l))) none none v = some (.val (cutV sz l es.length v) t h) :=
  H.slc (.inr ⟨k, rfl⟩) (.inl ⟨rfl, rfl⟩) h2 (Nat.le_refl _)
theorem SL.slc_lu (H : SL sz v es) {l u : Nat} {k k'} (h1 : l ≤ u) (h2 : u ≤ es.length) : aexSlc sz t h (some (.sc (.int k l))) (some (.sc (.int k' u))) none v = some (.val (cutV sz l u v) t h) :=
  H.slc (.inr ⟨k, rfl⟩) (.inr ⟨k', rfl⟩) h1 h2
theorem SL.cut (H : SL sz v es) (l u : Nat) : SF sz (cutV sz l u v) ((es.drop l).take (u - l)) := by
  rcases H with ⟨rfl, rfl⟩ | ⟨o, lm, rfl⟩
  · left; simp [cutV]
  · right; exact ⟨_, rfl⟩
theorem SL.take (H : SL sz v es) (u : Nat) : SF sz (cutV sz 0 u v) (es.take u) := by simpa using H.cut 0 u
theorem SL.drop (H : SL sz v es) (l : Nat) : SF sz (cutV sz l es.length v) (es.drop l) := by
  have := H.cut l es.length
  rwa [List.take_of_length_le (by simp)] at this
theorem SL.not_ag (H : SL sz v es) (cs : List AV) : v ≠ .ag cs := by
  rcases H with ⟨rfl, rfl⟩ | ⟨o, lm, rfl⟩ <;> simp


def catV (sz : Nat) (ys : List (List AV)) : AV → AV
  | .bs own _ es lim => if ys.length = 0 then .bs own sz es lim else .bs true sz (es ++ ys) (lim.bind fun c => if c < es.length + ys.length then none else some c)
  | v => if ys.length = 0 then v else .bs true sz ys none
theorem SG.app (H : SG sz v es) {ys : List (List AV)} {bytes : Nat} (hb : (es.length + ys.length) * bytes ≤ 2 ^ 47) : aexApp false sz bytes t h ys v = some (.val (catV sz ys v) t h) := by
  rcases H with ⟨rfl, rfl⟩ | ⟨lm, rfl⟩
  · have hb' : ¬ ys.length * bytes > 2 ^ 47 := by simp at hb; omega
    unfold aexApp catV
    simp only [hb', if_false, Bool.false_eq_true]
    split <;> simp [AV.nils]
  · have hb' : ¬ (es.length + ys.length) * bytes > 2 ^ 47 := by omega
    unfold aexApp catV
    cases lm with
    | none => simp [hb']; split <;> rfl
    | some c =>
      simp only [ne_eq, not_true_eq_false, hb', or_self, if_false, Bool.false_eq_true, Bool.not_false, and_self, if_true, Option.bind_some]
      split
      · rfl
      · split <;> rfl
theorem elems_bs {o lim} : elemsOf h sz (.bs o sz es lim) = some es := by simp [elemsOf]
theorem elems_nil : elemsOf h sz (.sc (.slice none 0 0)) = some [] := nd rfl
theorem elems_str {b : ByteArray} : elemsOf h 1 (.sc (.string b)) = some (b.data.toList.map fun b => [AV.sc (.int .u8 b.toNat)]) := nd rfl
theorem SG.cat (H : SG sz v es) (ys : List (List AV)) : SG sz (catV sz ys v) (es ++ ys) := by
  rcases H with ⟨rfl, rfl⟩ | ⟨lm, rfl⟩
  · unfold catV
    by_cases hy : ys.length = 0
    · have : ys = [] := List.eq_nil_of_length_eq_zero hy
      subst this
      exact .inl ⟨by simp, by simp⟩
    · simp only [hy, if_false]
      exact .inr ⟨none, by simp⟩
  · unfold catV
    by_cases hy : ys.length = 0
    · have : ys = [] := List.eq_nil_of_length_eq_zero hy
      subst this
      simp only [List.length_nil, if_true, List.append_nil]
      exact .inr ⟨_, rfl⟩
    · simp only [hy, if_false]
      exact .inr ⟨_, rfl⟩
theorem SG.nil : SG sz (.sc (.slice none 0 0)) [] := .inl ⟨rfl, rfl⟩
theorem SL.nil : SL sz (.sc (.slice none 0 0)) [] := .inl ⟨rfl, rfl⟩
theorem SF.nil : SF sz (.sc (.slice none 0 0)) [] := .inl ⟨rfl, rfl⟩
theorem SG.bs {lim} : SG sz (.bs true sz es lim) es := .inr ⟨lim, rfl⟩
theorem SF.bs {lim} : SF sz (.bs false sz es lim) es := .inr ⟨lim, rfl⟩
theorem SL.bs {o lim} : SL sz (.bs o sz es lim) es := .inr ⟨o, lim, rfl⟩
end

section
variable {t : Nat → AV} {h : Heap}
theorem resA1 {i} : resA [.tmp i] ⟨t, h⟩ = some (t i) := nd rfl
theorem resA2 {i j} : resA [.tmp i, .tmp j] ⟨t, h⟩ = some (.tu [(t i).dis, (t j).dis]) := nd rfl
theorem resA3 {i j k} : resA [.tmp i, .tmp j, .tmp k] ⟨t, h⟩ = some (.tu [(t i).dis, (t j).dis, (t k).dis]) := nd rfl
theorem resA4 {i j k l} : resA [.tmp i, .tmp j, .tmp k, .tmp l] ⟨t, h⟩ = some (.tu [(t i).dis, (t j).dis, (t k).dis, (t l).dis]) := nd rfl
def aexExt (i : Nat) (t : Nat → AV) (h : Heap) : AV → Option AR
  | .tu vs => (vs[i]?).bind fun v => some (.val v.dis t h)
  | _ => none
theorem aex_ext {i x} : aex P (.ext i x) ⟨t, h⟩ = aexExt i t h (x.ev t) := nd rfl
theorem aexExt_tu {i vs} : aexExt i t h (.tu vs) = (vs[i]?).bind fun v => some (.val v.dis t h) := nd rfl
theorem dis_tup {vs} : (AV.tu vs).dis = .tu (vs.map AV.disc) := nd rfl
theorem dis_ag {vs} : (AV.ag vs).dis = .ag (vs.map AV.disc) := nd rfl
theorem disc_sc {v} : (AV.sc v).disc = .sc v := nd rfl
theorem disc_ag {vs} : (AV.ag vs).disc = .ag vs := nd rfl
theorem disc_dis {v : AV} (h : ∀ cs, v ≠ .ag cs) (h2 : ∀ cs, v ≠ .tu cs) : v.dis.disc = v.dis := by cases v <;> first | rfl | exact absurd rfl (h _) | exact absurd rfl (h2 _)
theorem get0 {α : Type} {a : α} {l : List α} : (a :: l)[0]? = some a := nd rfl
theorem get1 {α : Type} {a b : α} {l : List α} : (a :: b :: l)[1]? = some b := nd rfl
theorem get2 {α : Type} {a b c : α} {l : List α} : (a :: b :: c :: l)[2]? = some c := nd rfl
theorem get3 {α : Type} {a b c d : α} {l : List α} : (a :: b :: c :: d :: l)[3]? = some d := nd rfl
end

theorem bq_t {b : Bool} : (b == true) = b := by cases b <;> rfl
theorem bq_f {b : Bool} : (b == false) = !b := by cases b <;> rfl


theorem setRange_mid (a b c : List AV) (vs : List AV) (h : vs.length = b.length) : setRange (a ++ (b ++ c)) a.length vs = a ++ (vs ++ c) := by
  unfold setRange
  rw [List.take_left, h, show a.length + b.length = (a ++ b).length by simp, ← List.append_assoc a b c, List.drop_left]
  simp
theorem fill_enum (sz : Nat) (z : List AV) (hz : z.length = sz) : ∀ (vs : List AV) (pre : List AV) (k : Nat), pre.length = k * sz → (∀ v ∈ vs, v.cells.length = sz ∧ v.isTu = false) →
    fillL (pre ++ (List.replicate vs.length z).flatten) ((vs.zipIdx k).map fun p => (p.2 * sz, sz, p.1)) = some (pre ++ (vs.map AV.cells).flatten)
  | [], pre, k, hp, _ => by simp [fillL]
  | v :: r, pre, k, hp, hv => by
    have h1 := hv v (by simp)
    rw [List.zipIdx_cons, List.map_cons, List.length_cons, List.replicate_succ, List.flatten_cons]
    simp only [fillL]
    rw [if_pos ⟨h1.1, by simp [hz, hp], h1.2⟩, ← hp, setRange_mid _ _ _ _ (by rw [h1.1, hz]), ← List.append_assoc]
    have := fill_enum sz z hz r (pre ++ v.cells) (k + 1) (by simp [hp, h1.1, Nat.add_mul]) (fun u hu => hv u (by simp [hu]))
    rw [this]
    simp
theorem chunks_flat (sz : Nat) : ∀ (es : List (List AV)), (∀ e ∈ es, e.length = sz) → chunks sz es.length es.flatten = es
  | [], _ => rfl
  | e :: r, h => by
    have h1 := h e (by simp)
    rw [List.length_cons, List.flatten_cons]
    simp only [chunks]
    rw [← h1, List.take_left, List.drop_left, h1, chunks_flat sz r (fun x hx => h x (by simp [hx]))]
theorem lit_enum {t : Nat → AV} {h : Heap} {sz : Nat} {z : List AV} {ps : List (Nat × Opd)} {n : Nat} (hps : ps.map (fun p => (p.1, (p.2.ev t).dis)) = ((ps.map fun p => (p.2.ev t).dis).zipIdx 0).map fun q => (q.2, q.1)) (hn : ps.length = n)
    (hz : z.length = sz) (hv : ∀ p ∈ ps, ((p.2.ev t).dis).cells.length = sz ∧ ((p.2.ev t).dis).isTu = false) :
    aex P (.lit false sz n z ps) ⟨t, h⟩ = some (.val (.bs true sz (ps.map fun p => ((p.2.ev t).dis).cells) (some n)) t h) := by
  rw [aex_lit]
  have e : ps.map (fun p => (p.1 * sz, sz, (p.2.ev t).dis)) = ((ps.map fun p => (p.2.ev t).dis).zipIdx 0).map fun q => (q.2 * sz, sz, q.1) := by
    have := congrArg (List.map fun q : Nat × AV => (q.1 * sz, sz, q.2)) hps
    simpa [List.map_map, Function.comp_def] using this
  rw [e]
  have h2 := fill_enum sz z hz (ps.map fun p => (p.2.ev t).dis) [] 0 (by simp) (fun v hv' => by
    obtain ⟨p, hp, rfl⟩ := List.mem_map.1 hv'
    exact hv p hp)
  simp only [List.length_map, List.nil_append, hn] at h2
  rw [h2]
  simp only [Option.bind_some, hz, if_true]
  have h3 := chunks_flat sz ((ps.map fun p => (p.2.ev t).dis).map AV.cells) (fun e he => by
    simp only [List.map_map, List.mem_map, Function.comp_def] at he
    obtain ⟨p, hp, rfl⟩ := he
    exact (hv p hp).1)
  simp only [List.length_map, hn] at h3
  rw [h3, List.map_map]
  rfl

def fits (sz : Nat) (v : AV) : Bool := v.cells.length == sz && !v.isTu
theorem fits_sc {v} : fits 1 (.sc v) = true := nd rfl
theorem fits_ag {sz cs} : fits sz (.ag cs) = (cs.length == sz) := by simp [fits, AV.cells, AV.isTu]
theorem fits_iff {sz v} : fits sz v = true ↔ v.cells.length = sz ∧ v.isTu = false := by simp [fits]
theorem fill_fits : ∀ (ps : List (Nat × Nat × AV)) (cs r : List AV), fillL cs ps = some r → ∀ p ∈ ps, fits p.2.1 p.2.2 = true
  | [], _, _, _ => by simp
  | (o, s, v) :: ps, cs, r, h => by
    simp only [fillL] at h
    split at h
    · rename_i hc
      intro p hp
      rcases List.mem_cons.1 hp with rfl | hp
      · exact fits_iff.2 ⟨hc.1, hc.2.2⟩
      · exact fill_fits ps _ r h p hp
    · cases h
theorem lit_if {t : Nat → AV} {h : Heap} {sz : Nat} {z : List AV} {ps : List (Nat × Opd)} {n : Nat} (hps : ps.map (fun p => (p.1, (p.2.ev t).dis)) = ((ps.map fun p => (p.2.ev t).dis).zipIdx 0).map fun q => (q.2, q.1)) (hn : ps.length = n) :
    aex P (.lit false sz n z ps) ⟨t, h⟩ = if z.length = sz ∧ (ps.all fun p => fits sz (p.2.ev t).dis) = true then some (.val (.bs true sz (ps.map fun p => ((p.2.ev t).dis).cells) (some n)) t h) else none := by
  split
  · rename_i hc
    refine lit_enum hps hn hc.1 fun p hp => fits_iff.1 (List.all_eq_true.1 hc.2 p hp)
  · rename_i hc
    rw [aex_lit]
    cases hf : fillL (List.replicate n z).flatten (List.map (fun p => (p.1 * sz, sz, (Opd.ev t p.2).dis)) ps) with
    | none => rfl
    | some cs =>
      have := fill_fits _ _ _ hf
      simp only [Option.bind_some]
      rw [if_neg]
      intro hz
      refine hc ⟨hz, List.all_eq_true.2 fun p hp => ?_⟩
      exact this _ (List.mem_map.2 ⟨p, hp, rfl⟩)
section
variable {t : Nat → AV} {h : Heap} {sz : Nat} {z : List AV} {a b c d e f g i j k : Opd}
theorem lit0 : aex P (.lit false sz 0 z []) ⟨t, h⟩ = if z.length = sz ∧ true = true then some (.val (.bs true sz [] (some 0)) t h) else none := lit_if (by rfl) rfl
theorem lit1 : aex P (.lit false sz 1 z [(0, a)]) ⟨t, h⟩ = if z.length = sz ∧ (fits sz (a.ev t).dis && true) = true then some (.val (.bs true sz [(a.ev t).dis.cells] (some 1)) t h) else none := lit_if (by rfl) rfl
theorem lit2 : aex P (.lit false sz 2 z [(0, a), (1, b)]) ⟨t, h⟩ = if z.length = sz ∧ (fits sz (a.ev t).dis && (fits sz (b.ev t).dis && true)) = true then some (.val (.bs true sz [(a.ev t).dis.cells, (b.ev t).dis.cells] (some 2)) t h) else none := lit_if (by rfl) rfl
theorem lit3 : aex P (.lit false sz 3 z [(0, a), (1, b), (2, c)]) ⟨t, h⟩ = if z.length = sz ∧ (fits sz (a.ev t).dis && (fits sz (b.ev t).dis && (fits sz (c.ev t).dis && true))) = true then some (.val (.bs true sz [(a.ev t).dis.cells, (b.ev t).dis.cells, (c.ev t).dis.cells] (some 3)) t h) else none := lit_if (by rfl) rfl
theorem lit4 : aex P (.lit false sz 4 z [(0, a), (1, b), (2, c), (3, d)]) ⟨t, h⟩ = if z.length = sz ∧ (fits sz (a.ev t).dis && (fits sz (b.ev t).dis && (fits sz (c.ev t).dis && (fits sz (d.ev t).dis && true)))) = true then some (.val (.bs true sz [(a.ev t).dis.cells, (b.ev t).dis.cells, (c.ev t).dis.cells, (d.ev t).dis.cells] (some 4)) t h) else none := lit_if (by rfl) rfl
theorem lit5 : aex P (.lit false sz 5 z [(0, a), (1, b), (2, c), (3, d), (4, e)]) ⟨t, h⟩ = if z.length = sz ∧ (fits sz (a.ev t).dis && (fits sz (b.ev t).dis && (fits sz (c.ev t).dis && (fits sz (d.ev t).dis && (fits sz (e.ev t).dis && true))))) = true then some (.val (.bs true sz [(a.ev t).dis.cells, (b.ev t).dis.cells, (c.ev t).dis.cells, (d.ev t).dis.cells, (e.ev t).dis.cells] (some 5)) t h) else none := lit_if (by rfl) rfl
theorem lit6 : aex P (.lit false sz 6 z [(0, a), (1, b), (2, c), (3, d), (4, e), (5, f)]) ⟨t, h⟩ = if z.length = sz ∧ (fits sz (a.ev t).dis && (fits sz (b.ev t).dis && (fits sz (c.ev t).dis && (fits sz (d.ev t).dis && (fits sz (e.ev t).dis && (fits sz (f.ev t).dis && true)))))) = true then some (.val (.bs true sz [(a.ev t).dis.cells, (b.ev t).dis.cells, (c.ev t).dis.cells, (d.ev t).dis.cells, (e.ev t).dis.cells, (f.ev t).dis.cells] (some 6)) t h) else none := lit_if (by rfl) rfl
theorem lit7 : aex P (.lit false sz 7 z [(0, a), (1, b), (2, c), (3, d), (4, e), (5, f), (6, g)]) ⟨t, h⟩ = if z.length = sz ∧ (fits sz (a.ev t).dis && (fits sz (b.ev t).dis && (fits sz (c.ev t).dis && (fits sz (d.ev t).dis && (fits sz (e.ev t).dis && (fits sz (f.ev t).dis && (fits sz (g.ev t).dis && true))))))) = true then some (.val (.bs true sz [(a.ev t).dis.cells, (b.ev t).dis.cells, (c.ev t).dis.cells, (d.ev t).dis.cells, (e.ev t).dis.cells, (f.ev t).dis.cells, (g.ev t).dis.cells] (some 7)) t h) else none := lit_if (by rfl) rfl
theorem lit8 : aex P (.lit false sz 8 z [(0, a), (1, b), (2, c), (3, d), (4, e), (5, f), (6, g), (7, i)]) ⟨t, h⟩ = if z.length = sz ∧ (fits sz (a.ev t).dis && (fits sz (b.ev t).dis && (fits sz (c.ev t).dis && (fits sz (d.ev t).dis && (fits sz (e.ev t).dis && (fits sz (f.ev t).dis && (fits sz (g.ev t).dis && (fits sz (i.ev t).dis && true)))))))) = true then some (.val (.bs true sz [(a.ev t).dis.cells, (b.ev t).dis.cells, (c.ev t).dis.cells, (d.ev t).dis.cells, (e.ev t).dis.cells, (f.ev t).dis.cells, (g.ev t).dis.cells, (i.ev t).dis.cells] (some 8)) t h) else none := lit_if (by rfl) rfl
theorem lit9 : aex P (.lit false sz 9 z [(0, a), (1, b), (2, c), (3, d), (4, e), (5, f), (6, g), (7, i), (8, j)]) ⟨t, h⟩ = if z.length = sz ∧ (fits sz (a.ev t).dis && (fits sz (b.ev t).dis && (fits sz (c.ev t).dis && (fits sz (d.ev t).dis && (fits sz (e.ev t).dis && (fits sz (f.ev t).dis && (fits sz (g.ev t).dis && (fits sz (i.ev t).dis && (fits sz (j.ev t).dis && true))))))))) = true then some (.val (.bs true sz [(a.ev t).dis.cells, (b.ev t).dis.cells, (c.ev t).dis.cells, (d.ev t).dis.cells, (e.ev t).dis.cells, (f.ev t).dis.cells, (g.ev t).dis.cells, (i.ev t).dis.cells, (j.ev t).dis.cells] (some 9)) t h) else none := lit_if (by rfl) rfl
theorem lit10 : aex P (.lit false sz 10 z [(0, a), (1, b), (2, c), (3, d), (4, e), (5, f), (6, g), (7, i), (8, j), (9, k)]) ⟨t, h⟩ = if z.length = sz ∧ (fits sz (a.ev t).dis && (fits sz (b.ev t).dis && (fits sz (c.ev t).dis && (fits sz (d.ev t).dis && (fits sz (e.ev t).dis && (fits sz (f.ev t).dis && (fits sz (g.ev t).dis && (fits sz (i.ev t).dis && (fits sz (j.ev t).dis && (fits sz (k.ev t).dis && true)))))))))) = true then some (.val (.bs true sz [(a.ev t).dis.cells, (b.ev t).dis.cells, (c.ev t).dis.cells, (d.ev t).dis.cells, (e.ev t).dis.cells, (f.ev t).dis.cells, (g.ev t).dis.cells, (i.ev t).dis.cells, (j.ev t).dis.cells, (k.ev t).dis.cells] (some 10)) t h) else none := lit_if (by rfl) rfl
theorem fits_SL {sz v es} (H : SL sz v es) : fits 1 v = true := by rcases H with ⟨rfl, _⟩ | ⟨o, l, rfl⟩ <;> rfl
theorem SL.cells {sz v es} (H : SL sz v es) : v.cells = [v] := by rcases H with ⟨rfl, _⟩ | ⟨o, l, rfl⟩ <;> rfl
theorem cells_sc {v} : (AV.sc v).cells = [.sc v] := nd rfl
theorem cells_ag {cs} : (AV.ag cs).cells = cs := nd rfl
end


def u8s (l : List UInt8) : List (List AV) := l.map fun b => [.sc (.int .u8 (b.toNat : Int))]
theorem u8s_len {l : List UInt8} : (u8s l).length = l.length := by simp [u8s]
theorem u8s_get {l : List UInt8} {i : Nat} (h : i < l.length) : (u8s l)[i]? = some [.sc (.int .u8 (l[i].toNat : Int))] := by simp [u8s, h]
theorem u8s_take {l : List UInt8} {i : Nat} : (u8s l).take i = u8s (l.take i) := by simp [u8s]
theorem u8s_drop {l : List UInt8} {i : Nat} : (u8s l).drop i = u8s (l.drop i) := by simp [u8s]
theorem u8s_app {l m : List UInt8} : u8s l ++ u8s m = u8s (l ++ m) := by simp [u8s]
theorem u8s_nil : u8s [] = [] := rfl


def str (l : List UInt8) : ByteArray := ⟨l.toArray⟩
theorem str_inj {l m : List UInt8} : (str l = str m) ↔ l = m := by
  constructor
  · intro h
    have := congrArg (fun b : ByteArray => b.data.toList) h
    simpa [str] using this
  · rintro rfl; rfl
theorem u8s_bytes (l : List UInt8) : (u8s l).mapM (fun x => match x with | [AV.sc (.int .u8 n)] => some (UInt8.ofNat n.toNat) | _ => none) = some l := by
  induction l with
  | nil => rfl
  | cons a r ih =>
    have : u8s (a :: r) = [.sc (.int .u8 (a.toNat : Int))] :: u8s r := rfl
    rw [this, List.mapM_cons, ih]
    simp
def aexB2s (t : Nat → AV) (h : Heap) (v : AV) : Option AR := aex P (.b2s (.c v)) ⟨t, h⟩
theorem aex_b2s {x} {t : Nat → AV} {h : Heap} : aex P (.b2s x) ⟨t, h⟩ = aexB2s (P := P) t h (x.ev t) := nd rfl
theorem SL.b2s {v : AV} {l : List UInt8} {t : Nat → AV} {h : Heap} (H : SL 1 v (u8s l)) : aexB2s (P := P) t h v = some (.val (.sc (.string (str l))) t h) := by
  rcases H with ⟨rfl, h2⟩ | ⟨o, lm, rfl⟩
  · have : l = [] := by
      have := congrArg List.length h2
      simp [u8s] at this
      exact this
    subst this
    rfl
  · have := u8s_bytes l
    simp only [aexB2s, aex, Opd.ev, elemsOf, if_true, Option.bind_eq_bind, Option.bind_some]
    exact congrArg (fun z => Option.bind z fun bs => some (AR.val (AV.str ⟨bs.toArray⟩) t h)) this



def RR {α : Type} (R : List AV → α → Prop) : List (List AV) → List α → Prop
  | [], [] => True
  | e :: es, x :: xs => R e x ∧ RR R es xs
  | _, _ => False
section
variable {α : Type} {R : List AV → α → Prop}
theorem RR.len : ∀ {es : List (List AV)} {xs : List α}, RR R es xs → es.length = xs.length
  | [], [], _ => rfl
  | _ :: es, _ :: xs, h => by simp [RR.len h.2]
  | [], _ :: _, h => h.elim
  | _ :: _, [], h => h.elim
theorem RR.get : ∀ {es : List (List AV)} {xs : List α}, RR R es xs → ∀ {i : Nat} {x : α}, xs[i]? = some x → ∃ e, es[i]? = some e ∧ R e x
  | [], [], _, i, x, hx => by simp at hx
  | e :: es, y :: xs, h, 0, x, hx => by simp at hx; subst hx; exact ⟨e, rfl, h.1⟩
  | e :: es, y :: xs, h, i + 1, x, hx => by simpa using RR.get h.2 (i := i) (x := x) (by simpa using hx)
  | [], _ :: _, h, _, _, _ => h.elim
  | _ :: _, [], h, _, _, _ => h.elim
theorem RR.lt {es : List (List AV)} {xs : List α} (h : RR R es xs) {i : Nat} (hi : i < xs.length) : ∃ e, es[i]? = some e ∧ R e xs[i] := h.get (List.getElem?_eq_getElem hi)
theorem RR.append : ∀ {es fs : List (List AV)} {xs ys : List α}, RR R es xs → RR R fs ys → RR R (es ++ fs) (xs ++ ys)
  | [], _, [], _, _, h => h
  | _ :: es, _, _ :: xs, _, h, g => ⟨h.1, RR.append h.2 g⟩
  | [], _, _ :: _, _, h, _ => h.elim
  | _ :: _, _, [], _, h, _ => h.elim
theorem RR.take : ∀ {es : List (List AV)} {xs : List α}, RR R es xs → ∀ n, RR R (es.take n) (xs.take n)
  | [], [], _, n => by simp [RR]
  | _ :: es, _ :: xs, h, 0 => by simp [RR]
  | _ :: es, _ :: xs, h, n + 1 => ⟨h.1, RR.take h.2 n⟩
  | [], _ :: _, h, _ => h.elim
  | _ :: _, [], h, _ => h.elim
theorem RR.drop : ∀ {es : List (List AV)} {xs : List α}, RR R es xs → ∀ n, RR R (es.drop n) (xs.drop n)
  | [], [], _, n => by simp [RR]
  | _ :: es, _ :: xs, h, 0 => h
  | _ :: es, _ :: xs, h, n + 1 => by simpa using RR.drop h.2 n
  | [], _ :: _, h, _ => h.elim
  | _ :: _, [], h, _ => h.elim
theorem RR.nil : RR R [] [] := trivial
theorem RR.one {e : List AV} {x : α} (h : R e x) : RR R [e] [x] := ⟨h, trivial⟩
theorem RR.imp {S : List AV → α → Prop} (hi : ∀ e x, R e x → S e x) : ∀ {es : List (List AV)} {xs : List α}, RR R es xs → RR S es xs
  | [], [], _ => trivial
  | _ :: es, _ :: xs, h => ⟨hi _ _ h.1, RR.imp hi h.2⟩
  | [], _ :: _, h => h.elim
  | _ :: _, [], h => h.elim

theorem RR.of {es : List (List AV)} (h : ∀ e ∈ es, ∃ x, R e x) : ∃ xs, RR R es xs := by
  induction es with
  | nil => exact ⟨[], trivial⟩
  | cons e es ih =>
    obtain ⟨x, hx⟩ := h e (by simp)
    obtain ⟨xs, hxs⟩ := ih (fun e he => h e (by simp [he]))
    exact ⟨x :: xs, hx, hxs⟩
end

def bytesR (e : List AV) (l : List UInt8) : Prop := ∃ w, e = [w] ∧ SF 1 w (u8s l)

attribute [go_sem ↓] W_skip W_reg W_seq W_cond W_block W_loop W_exit W_ret W_scope W_label W_goto thenQ_goto blockQ_goto jumpQ_goto jumpQ_normal jumpQ_ret jumpQ_exit thenQ_normal thenQ_exit thenQ_ret blockQ_normal blockQ_exit blockQ_ret WO_nil WO_cons aex_movF aex_movT aex_pick aex_bin aex_un aex_conv aex_len aex_iad aex_ld aex_slc aex_call1 ev_t ev_c upd_at strip_t strip_c strips_nil strips_cons initT_0 initT_1 initT_2 initT_3 aex_app aex_b2s QO_nil QO_cons Q1_movT Q1_movF Q1_call Q1_pick Q1_bin Q1_un Q1_isnil Q1_conv Q1_b2s Q1_s2b Q1_fld Q1_fad Q1_iad Q1_iap Q1_ixs Q1_ixa Q1_slc Q1_sls Q1_len Q1_ld Q1_nck Q1_ext Q1_lkp Q1_blt Q1_bld Q1_lit WO_consG QO_consG aex_stg aex_ext WO_consGn Q1_app W_regx QX_nil QX_cons QX_consG QX_consGn QX1_call QX1_new QX1_st QX1_ld QX1_movT QX1_movF QX1_pick QX1_bin QX1_un QX1_isnil QX1_conv QX1_b2s QX1_s2b QX1_fld QX1_fad QX1_iad QX1_iap QX1_ixs QX1_ixa QX1_slc QX1_sls QX1_len QX1_nck QX1_ext QX1_blt QX1_bld QX1_lit QX1_app
attribute [go_sem] after_newc after_val after_new after_call after_none after_if after_bind aexConv_sc aexLen_nil aexLen_bs aexLen_str aexIad_bs aexLd_cp aexSlc_bs putd_some putd_none dis_sc dis_bs dis_cp dis_op dis_rs dis_mp dis_fn own_sc own_bs toV_sc asI_int asB_bool scv_int scv_bool scv_str single_f Option.bind_some Option.some.injEq exists_eq_left' if_true if_false Bool.false_eq_true true_and eq_self true_implies false_implies implies_true not_true_eq_false and_true Bool.true_eq_false forall_const AV.bool AV.sc.injEq Value.bool.injEq decide_eq_true_eq decide_eq_false_iff_not Int.toNat_natCast Int.natCast_nonneg List.length_cons List.length_nil List.take_succ_cons List.take_zero Nat.le_refl Nat.zero_add ne_eq not_false_eq_true sb_add sb_sub sb_mul sb_quo sb_rem sb_eql sb_neq sb_lss sb_leq sb_gtr sb_geq sb_seql sb_sneq tdiv_nat tmod_nat wrap_i64u afterQ_val afterQ_none afterQ_if afterQ_bind dis_dis Option.map_none Option.map_some List.map_cons List.map_nil List.mem_cons List.not_mem_nil or_false forall_eq_or_imp forall_eq beq_self_eq_true u8s_len resA1 resA2 resA3 resA4 true_or or_true aexExt_tu dis_tup dis_ag disc_sc disc_ag get0 get1 get2 get3 lit0 lit1 lit2 lit3 lit4 lit5 lit6 lit7 lit8 lit9 lit10 fits_sc fits_ag cells_sc cells_ag Bool.and_true Bool.true_and Bool.and_self and_self BEq.rfl elems_bs elems_nil own1_nil own1_cons noOwn_nil noOwn_cons own_dis own_disc own_tu own_ag own_op own_cp own_fn own_mp own_rs Bool.or_true Bool.true_or Bool.not_false Bool.not_true Bool.or_false Bool.false_or Bool.and_false Bool.false_and upd_upd nat_bne nat_beq nat_lt nat_le nat_gt nat_ge Bool.not_eq_true' Bool.not_eq_false' decide_true decide_false bq_t bq_f wants_b after_valn afterQ_valn unl_nil unl_cons forall_eq' asO_op asO_cp afterS_val afterS_if afterF_val afterF_valn afterF_if afterF_bind afterF_bind'
end Go.Am
