/- Rows that grow: append, in place or anew. -/
import Derived.Test.YtcdfdnmnnepnoaaDoorAmOps7
import Derived.Deep.AppendSrc
set_option linter.unusedVariables false
set_option linter.unusedSimpArgs false
namespace Go.Am
variable {P : Program} {G : Gh} {h : Heap} {w : World} {n : Nat} {t : Nat → AV} {a : Act}

theorem setCells_other (b : Nat) : ∀ (vs : List Value) (o : Nat) (w : World), (∀ x, x ≠ b → (w.setCells b o vs).heap[x]? = w.heap[x]?) ∧ (w.setCells b o vs).heap.size = w.heap.size ∧
    (w.setCells b o vs).os = w.os ∧ (w.setCells b o vs).output = w.output ∧ (w.setCells b o vs).tape = w.tape
  | [], _, w => ⟨fun _ _ => rfl, rfl, rfl, rfl, rfl⟩
  | v :: r, o, w => by
    obtain ⟨h1, h2, h3, h4, h5⟩ := setCells_other b r (o + 1) (w.setCell ⟨b, o, none⟩ v)
    refine ⟨fun x hx => ?_, ?_, h3, h4, h5⟩
    · exact (h1 x hx).trans (RowKit.Below.heap_setCell w ⟨b, o, none⟩ v x hx)
    · exact h2.trans (by simp [World.setCell])

theorem setCells_at (b : Nat) : ∀ (vs : List Value) (o : Nat) (w : World) (ds : Array Value) (e : TypeId) (fz : Nat × Nat), w.heap[b]? = some (.cells ds e fz) → o + vs.length ≤ ds.size →
    ∃ ds', (w.setCells b o vs).heap[b]? = some (.cells ds' e fz) ∧ ds'.size = ds.size ∧ ∀ m, ds'[m]? = if o ≤ m ∧ m < o + vs.length then vs[m - o]? else ds[m]?
  | [], o, w, ds, e, fz, hb, _ => ⟨ds, hb, rfl, fun m => by rw [if_neg (by simp only [List.length_nil]; omega)]⟩
  | v :: r, o, w, ds, e, fz, hb, hl => by
    simp only [List.length_cons] at hl
    have hlt := lt_of_heap hb
    have hb' : (w.setCell ⟨b, o, none⟩ v).heap[b]? = some (.cells (ds.setIfInBounds o v) e fz) := by
      simp only [World.setCell, Array.getElem?_modify, hb]
      simp
    obtain ⟨ds', h1, h2, h3⟩ := setCells_at b r (o + 1) _ _ e fz hb' (by simp; omega)
    refine ⟨ds', h1, by rw [h2]; simp, ?_⟩
    intro m
    rw [h3 m]
    simp only [List.length_cons]
    by_cases c1 : o + 1 ≤ m ∧ m < o + 1 + r.length
    · rw [if_pos c1, if_pos (by omega)]
      have : m - o = (m - (o + 1)) + 1 := by omega
      rw [this, List.getElem?_cons_succ]
    · rw [if_neg c1]
      by_cases c2 : m = o
      · subst c2
        have hlt2 : m < ds.size := by omega
        rw [if_pos (by omega), Array.getElem?_setIfInBounds, if_pos rfl, if_pos hlt2]
        simp
      · rw [if_neg (by omega), Array.getElem?_setIfInBounds, if_neg (by omega)]


def Gh.grow (G : Gh) (b k : Nat) (news : List Value) (l l' : Loc) : Gh :=
  { pub := fun x i => if x = b ∧ k ≤ i ∧ i < k + news.length then news[i - k]? else G.pub x i, own := (G.moveTo l l').own }

section grow
variable {b k : Nat} {news : List Value} {s : Nat} {l' : Loc}

theorem grow_pub (hp : ∀ i, k ≤ i → G.pub b i = none) (l l' : Loc) : ∀ x i v, G.pub x i = some v → (G.grow b k news l l').pub x i = some v := by
  intro x i v hv
  show (if x = b ∧ k ≤ i ∧ i < k + news.length then news[i - k]? else G.pub x i) = some v
  rw [if_neg]
  · exact hv
  · rintro ⟨rfl, h1, _⟩
    rw [hp i h1] at hv
    cases hv

theorem Inv.grow (hi : Inv G h w) {ds : Array Value} {e : TypeId} {fz : Nat × Nat} (hb : w.heap[b]? = some (.cells ds e fz)) (hl : k + news.length ≤ ds.size) (ho : G.own b = some (.slot s))
    (hp : ∀ i, k ≤ i → G.pub b i = none) : Inv (G.grow b k news (.slot s) l') h (w.setCells b k news) := by
  obtain ⟨o1, o2, o3, o4, o5⟩ := setCells_other b news k w
  obtain ⟨ds', e1, e2, e3⟩ := setCells_at b news k w ds e fz hb hl
  refine ⟨?_, ?_, ?_, ?_⟩
  · intro x i v hv
    have hv2 : (if x = b ∧ k ≤ i ∧ i < k + news.length then news[i - k]? else G.pub x i) = some v := hv
    clear hv
    split at hv2
    · rename_i c
      obtain ⟨rfl, c⟩ := c
      rw [cell_of_heap e1, e3 i, if_pos c]
      exact hv2
    · rename_i c
      have h1 := hi.pub x i v hv2
      by_cases hx : x = b
      · subst hx
        rw [cell_of_heap e1, e3 i]
        rw [cell_of_heap hb] at h1
        rw [if_neg (fun c' => c ⟨rfl, c'⟩)]
        exact h1
      · have : (w.setCells b k news).cell? ⟨x, i, none⟩ = w.cell? ⟨x, i, none⟩ := by simp only [World.cell?, o1 x hx]
        rw [this]
        exact h1
  · intro o cs hoc
    obtain ⟨h1, h2, ds2, e2', fz2, h3, h4, h5, h50, h6⟩ := hi.arr o cs hoc
    have hne : o ≠ b := by
      intro e
      subst e
      rw [ho] at h2
      cases h2
    refine ⟨fun i => ?_, moveTo_none h2, ds2, e2', fz2, by rw [o1 o hne]; exact h3, h4, h5, h50, ?_⟩
    · show (if o = b ∧ k ≤ i ∧ i < k + news.length then news[i - k]? else G.pub o i) = none
      rw [if_neg (fun c => hne c.1)]
      exact h1 i
    · intro m c hmc
      obtain ⟨cv, h7, h8, h9⟩ := h6 m c hmc
      refine ⟨cv, h7, h8.mono (grow_pub hp _ _), ?_⟩
      intro sz es lim q1 ad len cap q2
      obtain ⟨r1, r2, ds3, e3', fz3, r3, r4⟩ := h9 sz es lim q1 ad len cap q2
      have hne2 : ad.block ≠ b := by
        intro e
        rw [e, ho] at r1
        cases r1
      refine ⟨?_, ?_, ds3, e3', fz3, by rw [o1 _ hne2]; exact r3, r4⟩
      · show (if G.own ad.block = some (.slot s) then some l' else G.own ad.block) = some (.cell o m)
        rw [r1]
        simp
      · intro i hi'
        show (if ad.block = b ∧ k ≤ i ∧ i < k + news.length then news[i - k]? else G.pub ad.block i) = none
        rw [if_neg (fun c => hne2 c.1)]
        exact r2 i hi'
  · intro o es hoc
    obtain ⟨h1, h2, ents, clock, h3, h4, h5, h6⟩ := hi.map o es hoc
    have hne : o ≠ b := by
      intro e
      subst e
      rw [ho] at h2
      cases h2
    refine ⟨fun i => ?_, moveTo_none h2, ents, clock, by rw [o1 o hne]; exact h3, h4, ?_, h6⟩
    · show (if o = b ∧ k ≤ i ∧ i < k + news.length then news[i - k]? else G.pub o i) = none
      rw [if_neg (fun c => hne c.1)]
      exact h1 i
    · intro m y hy
      obtain ⟨z, q1, q2, q3, q4, q5⟩ := h5 m y hy
      exact ⟨z, q1, q2, q3, q4.mono (grow_pub hp _ _), q5⟩
  · intro x l hl'
    have hl2 : (if G.own x = some (.slot s) then some l' else G.own x) = some l := hl'
    rw [o2]
    split at hl2
    · exact hi.own x _ ‹_›
    · exact hi.own x _ hl2

theorem Kept.grow (hi : Inv G h w) (ho : G.own b = some (.slot s)) (hp : ∀ i, k ≤ i → G.pub b i = none) : Kept G h w (G.grow b k news (.slot s) l') h (w.setCells b k news) := by
  obtain ⟨o1, o2, o3, o4, o5⟩ := setCells_other b news k w
  refine ⟨grow_pub hp _ _, o3, o4, o5, by rw [o2]; exact Nat.le_refl _, ?_, fun _ _ h => h⟩
  intro x hx h1 h2
  have hne : x ≠ b := by
    intro e
    subst e
    rw [ho] at h1
    cases h1
  refine ⟨o1 x hne, fun i => ?_, moveTo_none h1, h2⟩
  show (if x = b ∧ k ≤ i ∧ i < k + news.length then news[i - k]? else G.pub x i) = G.pub x i
  rw [if_neg (fun c => hne c.1)]

theorem OwnOk.grow {loc : Loc} {v : AV} {cv : Value} (hok : OwnOk G w loc v cv) (ho : G.own b = some (.slot s)) (hne : loc ≠ .slot s) : OwnOk (G.grow b k news (.slot s) l') (w.setCells b k news) loc v cv := by
  obtain ⟨o1, o2, o3, o4, o5⟩ := setCells_other b news k w
  intro sz es lim q1 ad len cap q2
  obtain ⟨r1, r2, ds3, e3', fz3, r3, r4⟩ := hok sz es lim q1 ad len cap q2
  have hne2 : ad.block ≠ b := by
    intro e
    rw [e, ho] at r1
    cases r1
    exact hne rfl
  refine ⟨?_, ?_, ds3, e3', fz3, by rw [o1 _ hne2]; exact r3, r4⟩
  · show (if G.own ad.block = some (.slot s) then some l' else G.own ad.block) = some loc
    rw [r1, if_neg]
    intro e
    cases e
    exact hne rfl
  · intro i hi'
    show (if ad.block = b ∧ k ≤ i ∧ i < k + news.length then news[i - k]? else G.pub ad.block i) = none
    rw [if_neg (fun c => hne2 c.1)]
    exact r2 i hi'

end grow

end Go.Am
