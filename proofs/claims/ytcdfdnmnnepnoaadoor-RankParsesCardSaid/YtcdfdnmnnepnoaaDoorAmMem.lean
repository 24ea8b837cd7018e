/- New blocks: for objects, for slices by value. -/
import Derived.Test.YtcdfdnmnnepnoaaDoorAmOps6
set_option linter.unusedVariables false
set_option linter.unusedSimpArgs false
namespace Go.Am
variable {P : Program} {G : Gh} {h : Heap} {w w' : World} {n : Nat} {t : Nat → AV} {a : Act}


structure More (w w' : World) : Prop where
  os : w'.os = w.os
  output : w'.output = w.output
  tape : w'.tape = w.tape
  size : w.heap.size ≤ w'.heap.size
  keep : ∀ b, b < w.heap.size → w'.heap[b]? = w.heap[b]?

theorem More.alloc (w : World) (o : Obj) : More w (w.alloc o) :=
  ⟨rfl, rfl, rfl, by simp, fun b hb => RowKit.Below.heap_alloc w o b hb⟩
theorem More.drew (w : World) : More w w.drew := ⟨rfl, rfl, rfl, Nat.le_refl _, fun _ _ => rfl⟩
theorem More.trans {w1 w2 : World} (h1 : More w w1) (h2 : More w1 w2) : More w w2 :=
  ⟨h2.os.trans h1.os, h2.output.trans h1.output, h2.tape.trans h1.tape, Nat.le_trans h1.size h2.size, fun b hb => (h2.keep b (Nat.lt_of_lt_of_le hb h1.size)).trans (h1.keep b hb)⟩

theorem lt_of_heap {b : Nat} {o : Obj} (hb : w.heap[b]? = some o) : b < w.heap.size := by
  rcases Nat.lt_or_ge b w.heap.size with h | h
  · exact h
  · rw [Array.getElem?_eq_none h] at hb; cases hb

theorem OwnOk.more (hm : More w w') {loc : Loc} {v : AV} {cv : Value} (ho : OwnOk G w loc v cv) : OwnOk G w' loc v cv := by
  intro sz es lim e ad len cap e'
  obtain ⟨h1, h2, ds, el, fz, h3, h4⟩ := ho sz es lim e ad len cap e'
  exact ⟨h1, h2, ds, el, fz, by rw [hm.keep _ (lt_of_heap h3)]; exact h3, h4⟩

theorem Inv.more (hm : More w w') (hi : Inv G h w) : Inv G h w' where
  pub := fun b i v hv => by
    have h1 := hi.pub b i v hv
    have hlt : b < w.heap.size := by
      rcases Nat.lt_or_ge b w.heap.size with h | h
      · exact h
      · simp [World.cell?, Array.getElem?_eq_none h] at h1
    have : w'.cell? ⟨b, i, none⟩ = w.cell? ⟨b, i, none⟩ := by simp only [World.cell?, hm.keep b hlt]
    rw [this]; exact h1
  arr := fun o cs ho => by
    obtain ⟨h1, h2, ds, e, fz, h3, h4, h5, h50, h6⟩ := hi.arr o cs ho
    exact ⟨h1, h2, ds, e, fz, by rw [hm.keep _ (lt_of_heap h3)]; exact h3, h4, h5, h50, fun m c hmc => by
      obtain ⟨cv, h7, h8, h9⟩ := h6 m c hmc
      exact ⟨cv, h7, h8, h9.more hm⟩⟩
  map := fun o es ho => by
    obtain ⟨h1, h2, ents, clock, h3, h4⟩ := hi.map o es ho
    exact ⟨h1, h2, ents, clock, by rw [hm.keep _ (lt_of_heap h3)]; exact h3, h4⟩
  own := fun b loc hb => Nat.lt_of_lt_of_le (hi.own b loc hb) hm.size

theorem FRel.more (hm : More w w') (hf : FRel G w n t a) : FRel G w' n t a := ⟨hf.size, hf.defers, hf.val, fun i => (hf.own i).more hm⟩

theorem Kept.of_more (hm : More w w') : Kept G h w G h w' :=
  ⟨fun _ _ _ h => h, hm.os, hm.output, hm.tape, hm.size, fun b hb h1 h2 => ⟨hm.keep b hb, fun _ => rfl, h1, h2⟩, fun _ _ h => h⟩

theorem Inv.free (hi : Inv G h w) {b : Nat} (hb : w.heap.size ≤ b) : h b = none := by
  cases hh : h b with
  | none => rfl
  | some o =>
    cases o with
    | arr cs =>
      obtain ⟨_, _, ds, e, fz, h3, _⟩ := hi.arr b cs hh
      have := lt_of_heap h3
      omega
    | map es =>
      obtain ⟨_, _, ents, clock, h3, _⟩ := hi.map b es hh
      have := lt_of_heap h3
      omega

theorem Inv.unpub (hi : Inv G h w) {b : Nat} (hb : w.heap.size ≤ b) (i : Nat) : G.pub b i = none := by
  cases hp : G.pub b i with
  | none => rfl
  | some v =>
    have := hi.pub b i v hp
    simp [World.cell?, Array.getElem?_eq_none hb] at this

theorem Inv.unown (hi : Inv G h w) {b : Nat} (hb : w.heap.size ≤ b) : G.own b = none := by
  cases hp : G.own b with
  | none => rfl
  | some v => have := hi.own b v hp; omega


theorem Inv.newArr (hi : Inv G h w) (hm : More w w') {b : Nat} (hb : w.heap.size ≤ b) {cs : List AV} {ds : Array Value} {e : TypeId} {fz : Nat × Nat} (hh : w'.heap[b]? = some (.cells ds e fz)) (hfz : unmarked ds.size fz)
    (hlen : cs.length ≤ ds.size) (hone : ∀ c ∈ cs, c.one = true) (hc : ∀ (m : Nat) (c : AV), cs[m]? = some c → ∃ cv, ds[m]? = some cv ∧ VRel G c cv ∧ OwnOk G w' (.cell b m) c cv) : Inv G (upd h b (some (.arr cs))) w' where
  pub := (hi.more hm).pub
  arr := fun o cs' ho => by
    unfold upd at ho
    split at ho
    · rename_i e'
      subst e'
      simp at ho
      subst ho
      exact ⟨hi.unpub hb, hi.unown hb, ds, e, fz, hh, hfz, hlen, hone, hc⟩
    · exact (hi.more hm).arr o cs' ho
  map := fun o es ho => by
    unfold upd at ho
    split at ho
    · simp at ho
    · exact (hi.more hm).map o es ho
  own := (hi.more hm).own

theorem Kept.newObj (hi : Inv G h w) (hm : More w w') {b : Nat} (hb : w.heap.size ≤ b) (ob : AObj) : Kept G h w G (upd h b (some ob)) w' := by
  have k := Kept.of_more (G := G) (h := h) hm
  refine ⟨k.pub, k.os, k.output, k.tape, k.size, ?_, ?_⟩
  · intro x hx h1 h2
    obtain ⟨e1, e2, e3, e4⟩ := k.keep x hx h1 h2
    refine ⟨e1, e2, e3, ?_⟩
    unfold upd
    rw [if_neg (by omega)]
    exact e4
  · intro x hx h1
    unfold upd
    rw [if_neg (by omega)]
    exact h1



def Gh.publish (G : Gh) (b k : Nat) (ds : Array Value) (loc : Option Loc) : Gh :=
  { pub := fun x i => if x = b then (if i < k then ds[i]? else none) else G.pub x i, own := fun x => if x = b then loc else G.own x }

theorem publish_pub (hi : Inv G h w) {b k : Nat} (hb : w.heap.size ≤ b) (ds : Array Value) (loc : Option Loc) : ∀ x i v, G.pub x i = some v → (G.publish b k ds loc).pub x i = some v := by
  intro x i v hv
  show (if x = b then (if i < k then ds[i]? else none) else G.pub x i) = some v
  rw [if_neg]
  · exact hv
  · intro e
    subst e
    rw [hi.unpub hb] at hv
    cases hv

theorem OwnOk.publish (hi : Inv G h w) (hm : More w w') {b k : Nat} (hb : w.heap.size ≤ b) {ds : Array Value} {loc' : Option Loc} {loc : Loc} {v : AV} {cv : Value} (ho : OwnOk G w loc v cv) :
    OwnOk (G.publish b k ds loc') w' loc v cv := by
  intro sz es lim e ad len cap e'
  obtain ⟨h1, h2, ds', el, fz, h3, h4⟩ := ho sz es lim e ad len cap e'
  have hlt := lt_of_heap h3
  have hne : ad.block ≠ b := by omega
  refine ⟨?_, ?_, ds', el, fz, by rw [hm.keep _ hlt]; exact h3, h4⟩
  · show (if ad.block = b then loc' else G.own ad.block) = some loc
    rw [if_neg hne]; exact h1
  · intro i hi'
    show (if ad.block = b then (if i < k then ds[i]? else none) else G.pub ad.block i) = none
    rw [if_neg hne]; exact h2 i hi'

theorem Inv.publish (hi : Inv G h w) (hm : More w w') {b k : Nat} (hb : w.heap.size ≤ b) (hb' : b < w'.heap.size) {ds : Array Value} {e : TypeId} {fz : Nat × Nat} (hh : w'.heap[b]? = some (.cells ds e fz)) (loc : Option Loc) :
    Inv (G.publish b k ds loc) h w' where
  pub := fun x i v hv => by
    have hv2 : (if x = b then (if i < k then ds[i]? else none) else G.pub x i) = some v := hv
    clear hv
    split at hv2
    · rename_i e'
      subst e'
      split at hv2
      · rw [cell_of_heap hh]; exact hv2
      · cases hv2
    · exact (hi.more hm).pub x i v hv2
  arr := fun o cs ho => by
    obtain ⟨h1, h2, ds', e', fz', h3, h4, h5, h50, h6⟩ := (hi.more hm).arr o cs ho
    have hne : o ≠ b := by
      intro e
      subst e
      rw [hi.free hb] at ho
      cases ho
    refine ⟨fun i => ?_, ?_, ds', e', fz', h3, h4, h5, h50, ?_⟩
    · show (if o = b then (if i < k then ds[i]? else none) else G.pub o i) = none
      rw [if_neg hne]; exact h1 i
    · show (if o = b then loc else G.own o) = none
      rw [if_neg hne]; exact h2
    · intro m c hmc
      obtain ⟨_, _, ds0, e0, fz0, g3, g4, g5, g50, g6⟩ := hi.arr o cs ho
      obtain ⟨cv, g7, g8, g9⟩ := g6 m c hmc
      rw [hm.keep _ (lt_of_heap g3), g3] at h3
      cases h3
      exact ⟨cv, g7, g8.mono (publish_pub hi hb _ _), g9.publish hi hm hb⟩
  map := fun o es ho => by
    obtain ⟨h1, h2, ents, clock, h3, h4, h5, h6⟩ := (hi.more hm).map o es ho
    have hne : o ≠ b := by
      intro e
      subst e
      rw [hi.free hb] at ho
      cases ho
    refine ⟨fun i => ?_, ?_, ents, clock, h3, h4, ?_, h6⟩
    · show (if o = b then (if i < k then ds[i]? else none) else G.pub o i) = none
      rw [if_neg hne]; exact h1 i
    · show (if o = b then loc else G.own o) = none
      rw [if_neg hne]; exact h2
    · intro m x hx
      obtain ⟨y, g1, g2, g3, g4, g5⟩ := h5 m x hx
      exact ⟨y, g1, g2, g3, g4.mono (publish_pub hi hb _ _), g5⟩
  own := fun x l hl => by
    have hl : (if x = b then loc else G.own x) = some l := hl
    split at hl
    · omega
    · exact (hi.more hm).own x l hl

theorem Kept.publish (hi : Inv G h w) (hm : More w w') {b k : Nat} (hb : w.heap.size ≤ b) {ds : Array Value} (loc : Option Loc) : Kept G h w (G.publish b k ds loc) h w' where
  pub := publish_pub hi hb _ _
  os := hm.os
  output := hm.output
  tape := hm.tape
  size := hm.size
  keep := fun x hx h1 h2 => by
    have hne : x ≠ b := by omega
    refine ⟨hm.keep x hx, fun i => ?_, ?_, h2⟩
    · show (if x = b then (if i < k then ds[i]? else none) else G.pub x i) = G.pub x i
      rw [if_neg hne]
    · show (if x = b then loc else G.own x) = none
      rw [if_neg hne]; exact h1
  live := fun _ _ h => h

theorem FRel.publish (hi : Inv G h w) (hm : More w w') {b k : Nat} (hb : w.heap.size ≤ b) {ds : Array Value} (loc : Option Loc) (hf : FRel G w n t a) : FRel (G.publish b k ds loc) w' n t a :=
  ⟨hf.size, hf.defers, fun i => (hf.val i).mono (publish_pub hi hb _ _), fun i => (hf.own i).publish hi hm hb⟩

theorem unfrozen_zero (k : Nat) : unfrozen k (0, 0) := .inl rfl


theorem VRel.published (hi : Inv G h w) {b : Nat} (hb : w.heap.size ≤ b) {sz : Nat} {es : List (List AV)} {ds : Array Value} {cap : Nat} {own : Bool} {lim : Option Nat} {loc : Option Loc}
    (hl : ∀ e ∈ es, e.length = sz) (hone : ∀ c ∈ es.flatten, c.one = true) (hc : ∀ (m : Nat) (c : AV), es.flatten[m]? = some c → ∃ d, ds[m]? = some d ∧ VRel G c d) (hcap : es.length ≤ cap) (hlim : ∀ c, lim = some c → cap = c) :
    VRel (G.publish b (es.length * sz) ds loc) (.bs own sz es lim) (.slice (some ⟨b, 0, none⟩) es.length cap) := by
  have hfl := flatten_len es hl
  refine .bs (fun m => ds.getD m Go.undef) hl hone ?_ ?_ hcap hlim
  · intro m c hm
    obtain ⟨d, h1, h2⟩ := hc m c hm
    have hlt : m < es.length * sz := by
      rcases Nat.lt_or_ge m es.flatten.length with h | h
      · omega
      · rw [List.getElem?_eq_none h] at hm; cases hm
    show (if b = b then (if 0 + m < es.length * sz then ds[0 + m]? else none) else G.pub b (0 + m)) = some (ds.getD m Go.undef)
    rw [if_pos rfl, Nat.zero_add, if_pos hlt]
    simp [Array.getD_eq_getD_getElem?, h1]
  · intro m c hm
    obtain ⟨d, h1, h2⟩ := hc m c hm
    have : ds.getD m Go.undef = d := by simp [Array.getD_eq_getD_getElem?, h1]
    rw [this]
    exact h2.mono (publish_pub hi hb _ _)

theorem OwnOk.published {b : Nat} {sz : Nat} {es : List (List AV)} {ds : Array Value} {e : TypeId} {fz : Nat × Nat} {cap : Nat} {own : Bool} {lim : Option Nat} {loc : Loc}
    (hh : w'.heap[b]? = some (.cells ds e fz)) (hfz : unfrozen ds.size fz) (hcap : cap * sz ≤ ds.size) :
    OwnOk (G.publish b (es.length * sz) ds (some loc)) w' loc (.bs own sz es lim) (.slice (some ⟨b, 0, none⟩) es.length cap) := by
  intro sz' es' lim' e1 ad len cap' e2
  cases e1
  cases e2
  refine ⟨?_, ?_, ds, e, fz, hh, hfz, by simpa using hcap, rfl⟩
  · show (if b = b then some loc else G.own b) = some loc
    rw [if_pos rfl]
  · intro i hi'
    show (if b = b then (if i < es.length * sz then ds[i]? else none) else G.pub b i) = none
    rw [if_pos rfl, if_neg (by simp at hi'; omega)]

end Go.Am
