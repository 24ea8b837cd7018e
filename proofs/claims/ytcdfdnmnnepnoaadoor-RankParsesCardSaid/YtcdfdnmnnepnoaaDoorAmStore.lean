/- Writing into objects; rows of zeros. -/
import Derived.Test.YtcdfdnmnnepnoaaDoorAmOps9
set_option linter.unusedVariables false
set_option linter.unusedSimpArgs false
namespace Go.Am
variable {P : Program} {G : Gh} {h : Heap} {w : World} {n : Nat} {t : Nat → AV} {a : Act}

theorem replicate_get {α : Type} (z : List α) : ∀ (k m : Nat), (List.replicate k z).flatten[m]? = if m < k * z.length then z[m % z.length]? else none
  | 0, m => by simp
  | k + 1, m => by
    rw [List.replicate_succ, List.flatten_cons]
    have e : (k + 1) * z.length = k * z.length + z.length := by rw [Nat.add_mul, Nat.one_mul]
    rcases Nat.lt_or_ge m z.length with h | h
    · rw [List.getElem?_append_left h, if_pos (by omega), Nat.mod_eq_of_lt h]
    · rw [List.getElem?_append_right h, replicate_get z k (m - z.length)]
      have : (m - z.length) % z.length = m % z.length := by rw [← Nat.mod_eq_sub_mod h]
      rw [this]
      by_cases hc : m < (k + 1) * z.length
      · rw [if_pos (by omega), if_pos hc]
      · rw [if_neg (by omega), if_neg hc]

theorem replicate_len {α : Type} (z : List α) : ∀ (k : Nat), (List.replicate k z).flatten.length = k * z.length
  | 0 => by simp
  | k + 1 => by
    rw [List.replicate_succ, List.flatten_cons, List.length_append, replicate_len z k, Nat.add_mul]
    omega


theorem zeros_rel {z : AV} {zv : Value} (hz : VRel G z zv) (k : Nat) :
    CRel G (List.replicate k z.cells).flatten ((Array.range (k * zv.cells.size)).map fun i => zv.cells[i % zv.cells.size]!) := by
  have hr := hz.cells
  refine .of_get (by rw [replicate_len, ← hr.1]; simp) ?_
  intro m c hm
  rw [replicate_get] at hm
  split at hm
  · rename_i hlt
    rw [← hr.1] at hlt hm
    obtain ⟨d, h1, h2⟩ := hr.get hm
    refine ⟨d, ?_, h2⟩
    have hlt2 : m % zv.cells.size < zv.cells.size := (Array.getElem?_eq_some_iff.1 h1).1
    simp only [Array.getElem?_map]
    rw [Array.getElem?_eq_getElem (by simpa using hlt)]
    simp only [Array.getElem_range, Option.map_some]
    rw [← h1]
    simp [hlt2]
  · cases hm

theorem zeros_one {z : AV} (hz : ∀ c ∈ z.cells, c.one = true) (k : Nat) : ∀ c ∈ (List.replicate k z.cells).flatten, c.one = true := by
  intro c hc
  obtain ⟨l, h1, h2⟩ := List.mem_flatten.1 hc
  rw [List.mem_replicate] at h1
  rw [h1.2] at h2
  exact hz c h2

theorem upd_none {h : Heap} {o x : Nat} {ob : AObj} (ho : h o ≠ none) (hx : h x = none) : upd h o (some ob) x = none := by
  unfold upd
  rw [if_neg]
  · exact hx
  · intro e
    subst e
    exact ho hx

theorem OwnOk.setCells {o k : Nat} {us : List Value} {loc : Loc} {v : AV} {cv : Value} (hn : G.own o = none) (ho : OwnOk G w loc v cv) : OwnOk G (w.setCells o k us) loc v cv := by
  obtain ⟨o1, o2, o3, o4, o5⟩ := setCells_other o us k w
  intro sz es lim e ad len cap e'
  obtain ⟨r1, r2, ds, el, fz, r3, r4⟩ := ho sz es lim e ad len cap e'
  have hne : ad.block ≠ o := by
    intro e
    rw [e, hn] at r1
    cases r1
  exact ⟨r1, r2, ds, el, fz, by rw [o1 _ hne]; exact r3, r4⟩

theorem Inv.store (hi : Inv G h w) {la l : Loc} (ha : ∀ x m, la ≠ .cell x m) {o c : Nat} {cs vs : List AV} {us : List Value} (ho : h o = some (.arr cs)) (hlen : c + vs.length ≤ cs.length) (hus : us.length = vs.length)
    (hv : ∀ (m : Nat) v, vs[m]? = some v → v.one = true ∧ ∃ u, us[m]? = some u ∧ VRel G v u ∧ OwnOk (G.moveTo la l) w (.cell o (c + m)) v u) :
    Inv (G.moveTo la l) (upd h o (some (.arr (setRange cs c vs)))) (w.setCells o c us) := by
  obtain ⟨h1, h2, ds, e, fz, h3, h4, h5, h50, h6⟩ := hi.arr o cs ho
  obtain ⟨o1, o2, o3, o4, o5⟩ := setCells_other o us c w
  obtain ⟨ds', e1, e2, e3⟩ := setCells_at o us c w ds e fz h3 (by omega)
  refine ⟨?_, ?_, ?_, ?_⟩
  · intro x i v hp
    have hne : x ≠ o := by
      intro e
      subst e
      have := h1 i
      have hp : G.pub x i = some v := hp
      rw [this] at hp
      cases hp
    have : (w.setCells o c us).cell? ⟨x, i, none⟩ = w.cell? ⟨x, i, none⟩ := by simp only [World.cell?, o1 x hne]
    rw [this]
    exact hi.pub x i v hp
  · intro x cs' hx
    unfold upd at hx
    split at hx
    · rename_i ex
      subst ex
      simp at hx
      subst hx
      refine ⟨h1, moveTo_none h2, ds', e, fz, e1, by rw [e2]; exact h4, by rw [setRange_length _ _ _ hlen, e2]; exact h5, ?_, ?_⟩
      · intro q hq
        rcases setRange_mem hq with hq | hq
        · exact h50 q hq
        · obtain ⟨m, hm⟩ := List.getElem?_of_mem hq
          exact (hv m q hm).1
      · intro m q hm
        rw [setRange_get _ _ _ _ hlen] at hm
        rw [e3 m, hus]
        split at hm
        · rename_i hc
          rw [if_pos hc]
          obtain ⟨_, u, q1, q2, q3⟩ := hv _ q hm
          rw [show c + (m - c) = m by omega] at q3
          exact ⟨u, q1, q2.moveTo, q3.setCells (moveTo_none h2)⟩
        · rename_i hc
          rw [if_neg hc]
          obtain ⟨cv, h7, h8, h9⟩ := h6 m q hm
          exact ⟨cv, h7, h8.moveTo, (h9.moved (ha x m).symm).setCells (moveTo_none h2)⟩
    · rename_i ex
      obtain ⟨g1, g2, ds2, e2', fz2, g3, g4, g5, g50, g6⟩ := hi.arr x cs' hx
      refine ⟨g1, moveTo_none g2, ds2, e2', fz2, by rw [o1 x ex]; exact g3, g4, g5, g50, ?_⟩
      intro m q hm
      obtain ⟨cv, h7, h8, h9⟩ := g6 m q hm
      exact ⟨cv, h7, h8.moveTo, (h9.moved (ha x m).symm).setCells (moveTo_none h2)⟩
  · intro x es hx
    unfold upd at hx
    split at hx
    · simp at hx
    · rename_i ex
      obtain ⟨g1, g2, ents, clock, g3, g4, g5, g6⟩ := hi.map x es hx
      refine ⟨g1, moveTo_none g2, ents, clock, by rw [o1 x ex]; exact g3, g4, ?_, g6⟩
      intro m y hy
      obtain ⟨z, q1, q2, q3, q4, q5⟩ := g5 m y hy
      exact ⟨z, q1, q2, q3, q4.moveTo, q5⟩
  · intro x lx hl
    rw [o2]
    have hl : (if G.own x = some la then some l else G.own x) = some lx := hl
    split at hl
    · exact hi.own x _ ‹_›
    · exact hi.own x _ hl

theorem Kept.store {la l : Loc} {o c : Nat} {cs : List AV} {us : List Value} (ho : h o ≠ none) (ob : AObj) : Kept G h w (G.moveTo la l) (upd h o (some ob)) (w.setCells o c us) := by
  obtain ⟨o1, o2, o3, o4, o5⟩ := setCells_other o us c w
  refine ⟨fun _ _ _ h => h, o3, o4, o5, by rw [o2]; exact Nat.le_refl _, ?_, ?_⟩
  · intro x hx h1 h2
    have hne : x ≠ o := by
      intro e
      subst e
      exact ho h2
    exact ⟨o1 x hne, fun _ => rfl, moveTo_none h1, upd_none ho h2⟩
  · intro x hx h2
    exact upd_none ho h2

theorem moveTo_self (G : Gh) (l : Loc) : G.moveTo l l = G := by
  unfold Gh.moveTo
  have : (fun x => if G.own x = some l then some l else G.own x) = G.own := by
    funext x
    split
    · rename_i h; rw [h]
    · rfl
  rw [this]

end Go.Am
