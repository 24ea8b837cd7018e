/- Frames: what putting a value does; operands. -/
import Derived.Test.YtcdfdnmnnepnoaaDoorAmSem
set_option linter.unusedVariables false
set_option linter.unusedSimpArgs false
namespace Go.Am
variable {P : Program} {G : Gh} {h : Heap} {w : World} {n : Nat} {t : Nat → AV} {a : Act}

theorem upd_ext {α : Type} (t : Nat → α) (i : Nat) : upd t i (t i) = t := by
  funext j; unfold upd; split <;> simp_all

theorem getD_set (a : Array Value) (d i : Nat) (v u : Value) (hd : d < a.size) : (a.setIfInBounds d v).getD i u = if i = d then v else a.getD i u := by
  simp only [Array.getD_eq_getD_getElem?, Array.getElem?_setIfInBounds]
  split
  · rename_i e; subst e; simp [hd]
  · rename_i e; rw [if_neg (fun h => e h.symm)]

theorem put_size (a : Act) (d : Option Nat) (v : Value) : (a.put d v).tmps.size = a.tmps.size := by cases d <;> simp [Act.put]
theorem put_defers (a : Act) (d : Option Nat) (v : Value) : (a.put d v).defers = a.defers := by cases d <;> rfl


theorem FRel.put (hf : FRel G w n t a) {v : AV} {cv : Value} (dst : Option Nat) (hd : ∀ d, dst = some d → d < n) (hv : VRel G v cv)
    (ho : ∀ d, dst = some d → OwnOk G w (.slot d) v cv) : FRel G w n (putd t dst v) (a.put dst cv) where
  size := by rw [put_size, hf.size]
  defers := by rw [put_defers, hf.defers]
  val := fun i => by
    cases dst with
    | none => exact hf.val i
    | some d =>
      simp only [putd, Act.put]
      rw [getD_set _ _ _ _ _ (by rw [hf.size]; exact hd d rfl)]
      unfold upd
      split
      · exact hv
      · exact hf.val i
  own := fun i => by
    cases dst with
    | none => exact hf.own i
    | some d =>
      simp only [putd, Act.put]
      rw [getD_set _ _ _ _ _ (by rw [hf.size]; exact hd d rfl)]
      unfold upd
      split
      · rename_i e; subst e; exact ho _ rfl
      · exact hf.own i

theorem FRel.strip (hf : FRel G w n t a) (x : Opd) : FRel G w n (strip t x) a where
  size := hf.size
  defers := hf.defers
  val := fun i => by
    cases x with
    | c v => exact hf.val i
    | t s =>
      simp only [Am.strip, upd]
      split
      · rename_i e; subst e; exact (hf.val i).dis
      · exact hf.val i
  own := fun i => by
    cases x with
    | c v => exact hf.own i
    | t s =>
      simp only [Am.strip, upd]
      split
      · exact .dis
      · exact hf.own i

theorem FRel.strips (hf : FRel G w n t a) (xs : List Opd) : FRel G w n (strips t xs) a := by
  unfold Am.strips
  induction xs generalizing t with
  | nil => exact hf
  | cons x r ih => exact ih (hf.strip x)


theorem FRel.move {G' : Gh} {w' : World} (hf : FRel G w n t a) (hp : ∀ b i v, G.pub b i = some v → G'.pub b i = some v)
    (ho : ∀ i v cv, OwnOk G w (.slot i) v cv → OwnOk G' w' (.slot i) v cv) : FRel G' w' n t a :=
  ⟨hf.size, hf.defers, fun i => (hf.val i).mono hp, fun i => ho _ _ _ (hf.own i)⟩

theorem undef_rel (G : Gh) : VRel G .undef Go.undef := .tu rfl (fun m c h => by simp at h)


theorem ofV_rel {v : Value} {x : AV} (hx : AV.ofV v = some x) : VRel G x v ∧ x.isOwn = false := by
  unfold AV.ofV at hx
  split at hx
  · rename_i cs
    split at hx
    · rename_i hall
      simp at hx
      subst hx
      refine ⟨.ag (fun c hc => by obtain ⟨x, _, rfl⟩ := List.mem_map.1 hc; rfl) (by simp) ?_, rfl⟩
      intro m c hm
      simp at hm
      obtain ⟨y, hy, rfl⟩ := hm
      have hlt : m < cs.size := by
        rcases Nat.lt_or_ge m cs.size with h | h
        · exact h
        · simp [Array.getElem?_eq_none h] at hy
      have : cs.getD m Go.undef = y := by simp [Array.getD_eq_getD_getElem?, hy]
      rw [this]
      rw [Array.all_eq_true] at hall
      have h1 := hall m hlt
      have : cs[m] = y := by simpa [hlt] using hy
      rw [this] at h1
      exact .sc h1
    · simp at hx
  · split at hx
    · rename_i hs
      simp at hx
      subst hx
      exact ⟨.sc hs, rfl⟩
    · simp at hx

theorem opd_rel (hf : FRel G w n t a) {x : Operand} {y : Opd} (hx : cOpd x = some y) : VRel G (y.ev t) (a.eval x) := by
  cases x with
  | tmp s => simp [cOpd] at hx; subst hx; exact hf.val s
  | const v =>
    simp [cOpd] at hx
    obtain ⟨z, hz, rfl⟩ := hx
    exact (ofV_rel hz).1
  | func f =>
    simp [cOpd] at hx
    subst hx
    exact .fn rfl rfl (fun m c h => by simp at h) (fun m c h => by simp at h)
  | global g => simp [cOpd] at hx


theorem opd_own (hf : FRel G w n t a) {x : Operand} {y : Opd} (hx : cOpd x = some y) (ho : (y.ev t).isOwn = true) : ∃ s, y = .t s ∧ x = .tmp s := by
  cases x with
  | tmp s => simp [cOpd] at hx; exact ⟨s, hx.symm, rfl⟩
  | const v =>
    simp [cOpd] at hx
    obtain ⟨z, hz, rfl⟩ := hx
    have := (ofV_rel (G := G) hz).2
    simp [Opd.ev, this] at ho
  | func f => simp [cOpd] at hx; subst hx; simp [Opd.ev, AV.isOwn] at ho
  | global g => simp [cOpd] at hx


def Gh.moveTo (G : Gh) (a b : Loc) : Gh := { G with own := fun x => if G.own x = some a then some b else G.own x }

theorem OwnOk.moved {a b loc : Loc} {v : AV} {cv : Value} (ho : OwnOk G w loc v cv) (hne : loc ≠ a) : OwnOk (G.moveTo a b) w loc v cv := by
  intro sz es lim e ad len cap e'
  obtain ⟨h1, h2⟩ := ho sz es lim e ad len cap e'
  refine ⟨?_, h2⟩
  show (if G.own ad.block = some a then some b else G.own ad.block) = some loc
  rw [h1]
  simp [hne]

theorem OwnOk.moveTo {a b : Loc} {v : AV} {cv : Value} (ho : OwnOk G w a v cv) : OwnOk (G.moveTo a b) w b v cv := by
  intro sz es lim e ad len cap e'
  obtain ⟨h1, h2⟩ := ho sz es lim e ad len cap e'
  refine ⟨?_, h2⟩
  show (if G.own ad.block = some a then some b else G.own ad.block) = some b
  simp [h1]

theorem moveTo_none {a b : Loc} {x : Nat} (h : G.own x = none) : (G.moveTo a b).own x = none := by
  show (if G.own x = some a then some b else G.own x) = none
  simp [h]

theorem Kept.moveTo (hk : Kept G h w G h w) (a b : Loc) : Kept G h w (G.moveTo a b) h w :=
  ⟨fun _ _ _ h => h, rfl, rfl, rfl, Nat.le_refl _, fun x hx h1 h2 => ⟨rfl, fun _ => rfl, moveTo_none h1, h2⟩, fun _ _ h => h⟩

theorem VRel.moveTo {a b : Loc} {v : AV} {cv : Value} (h : VRel G v cv) : VRel (G.moveTo a b) v cv := VRel.mono (G := G) (G' := G.moveTo a b) (fun _ _ _ h => h) h


theorem Inv.moveSlot (hi : Inv G h w) (s d : Nat) : Inv (G.moveTo (.slot s) (.slot d)) h w where
  pub := hi.pub
  arr := fun o cs ho => by
    obtain ⟨h1, h2, ds, e, fz, h3, h4, h5, h50, h6⟩ := hi.arr o cs ho
    refine ⟨h1, moveTo_none h2, ds, e, fz, h3, h4, h5, h50, ?_⟩
    intro m c hm
    obtain ⟨cv, h7, h8, h9⟩ := h6 m c hm
    exact ⟨cv, h7, h8.moveTo, h9.moved (by simp)⟩
  map := fun o es ho => by
    obtain ⟨h1, h2, ents, clock, h3, h4, h5, h6⟩ := hi.map o es ho
    refine ⟨h1, moveTo_none h2, ents, clock, h3, h4, ?_, h6⟩
    intro m e hm
    obtain ⟨x, h7, h8, h9, h10, h11⟩ := h5 m e hm
    exact ⟨x, h7, h8, h9, h10.moveTo, h11⟩
  own := fun b loc hb => by
    have : (if G.own b = some (.slot s) then some (.slot d) else G.own b) = some loc := hb
    split at this
    · exact hi.own b _ ‹_›
    · exact hi.own b _ this

end Go.Am
