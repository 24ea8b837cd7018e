/- Calls: who may let a row grow, on the way in and on the way back. -/
import Derived.Test.YtcdfdnmnnepnoaaDoorAmOps11
set_option linter.unusedVariables false
set_option linter.unusedSimpArgs false
namespace Go.Am
variable {P : Program} {G G' : Gh} {h h' : Heap} {w w' : World} {n : Nat} {t : Nat → AV} {a : Act} {s j d : Nat}


def Gh.enter (G : Gh) (s j : Nat) : Gh := { G with own := fun b => match G.own b with
  | some (.slot x) => if x = s then some (.slot j) else none
  | some (.cell o c) => some (.cell o c)
  | _ => none }

def locBack (d : Nat) : Option Loc → Option Loc
  | some .ret => some (.slot d)
  | some (.cell o c) => some (.cell o c)
  | _ => none


def hides (s : Nat) : Option Loc → Bool
  | some (.slot x) => x != s
  | some .ret => true
  | _ => false


def Gh.back (G : Gh) (s d : Nat) (G' : Gh) : Gh := { G' with own := fun b => if hides s (G.own b) then G.own b else locBack d (G'.own b) }

theorem VRel.enter {v : AV} {cv : Value} (hv : VRel G v cv) : VRel (G.enter s j) v cv := VRel.mono (G := G) (G' := G.enter s j) (fun _ _ _ h => h) hv
theorem VRel.back {v : AV} {cv : Value} (hv : VRel G' v cv) : VRel (G.back s d G') v cv := VRel.mono (G := G') (G' := G.back s d G') (fun _ _ _ h => h) hv

theorem enter_none {b : Nat} (hb : G.own b = none) : (G.enter s j).own b = none := by
  simp [Gh.enter, hb]

theorem enter_hides {b : Nat} (hb : hides s (G.own b) = true) : (G.enter s j).own b = none := by
  unfold hides at hb
  simp only [Gh.enter]
  split at hb <;> simp_all

theorem Inv.enter (hi : Inv G h w) (s j : Nat) : Inv (G.enter s j) h w where
  pub := hi.pub
  arr := fun o cs ho => by
    obtain ⟨h1, h2, ds, e, fz, h3, h4, h5, h50, h6⟩ := hi.arr o cs ho
    refine ⟨h1, enter_none h2, ds, e, fz, h3, h4, h5, h50, ?_⟩
    intro m c hm
    obtain ⟨cv, h7, h8, h9⟩ := h6 m c hm
    refine ⟨cv, h7, h8.enter, ?_⟩
    intro sz es lim e ad len cap e'
    obtain ⟨r1, r2⟩ := h9 sz es lim e ad len cap e'
    exact ⟨by simp [Gh.enter, r1], r2⟩
  map := fun o es ho => by
    obtain ⟨h1, h2, ents, clock, h3, h4, h5, h6⟩ := hi.map o es ho
    refine ⟨h1, enter_none h2, ents, clock, h3, h4, ?_, h6⟩
    intro m e hm
    obtain ⟨x, h7, h8, h9, h10, h11⟩ := h5 m e hm
    exact ⟨x, h7, h8, h9, h10.enter, h11⟩
  own := fun b loc hb => by
    cases hg : G.own b with
    | none => rw [enter_none hg] at hb; cases hb
    | some l => exact hi.own b l hg

theorem not_obj (hi : Inv G h w) {b : Nat} {l : Loc} (hb : G.own b = some l) : h b = none := by
  cases hh : h b with
  | none => rfl
  | some o =>
    cases o with
    | arr cs =>
      have := (hi.arr b cs hh).2.1
      rw [hb] at this
      cases this
    | map es =>
      have := (hi.map b es hh).2.1
      rw [hb] at this
      cases this

theorem hides_some {b : Nat} (hb : hides s (G.own b) = true) : ∃ l, G.own b = some l := by
  cases hg : G.own b with
  | none => simp [hg, hides] at hb
  | some l => exact ⟨l, rfl⟩

theorem hides_kept (hi : Inv G h w) (hk : Kept (G.enter s j) h w G' h' w') {b : Nat} (hb : hides s (G.own b) = true) :
    w'.heap[b]? = w.heap[b]? ∧ (∀ i, G'.pub b i = G.pub b i) ∧ G'.own b = none ∧ h' b = none := by
  obtain ⟨l, hl⟩ := hides_some hb
  exact hk.keep b (hi.own b l hl) (enter_hides hb) (not_obj hi hl)

theorem back_of {b : Nat} {l : Loc} (hi : Inv G h w) (hk : Kept (G.enter s j) h w G' h' w') (hb : G'.own b = some l) : (G.back s d G').own b = locBack d (some l) := by
  have : ¬ hides s (G.own b) = true := by
    intro hh
    have := (hides_kept hi hk hh).2.2.1
    rw [hb] at this
    cases this
  show (if hides s (G.own b) then G.own b else locBack d (G'.own b)) = _
  rw [if_neg this, hb]

theorem back_none {b : Nat} (hh : hides s (G.own b) = false) (hb : G'.own b = none) : (G.back s d G').own b = none := by
  show (if hides s (G.own b) then G.own b else locBack d (G'.own b)) = _
  rw [hh, hb]
  rfl

theorem back_obj {b : Nat} (hi : Inv G h w) (hk : Kept (G.enter s j) h w G' h' w') (hb : h' b ≠ none) (hg : G'.own b = none) : (G.back s d G').own b = none := by
  cases hh : hides s (G.own b) with
  | true => exact absurd (hides_kept hi hk hh).2.2.2 hb
  | false => exact back_none hh hg

theorem Inv.back (hi : Inv G h w) (hi' : Inv G' h' w') (hk : Kept (G.enter s j) h w G' h' w') : Inv (G.back s d G') h' w' where
  pub := hi'.pub
  arr := fun o cs ho => by
    obtain ⟨h1, h2, ds, e, fz, h3, h4, h5, h50, h6⟩ := hi'.arr o cs ho
    refine ⟨h1, back_obj hi hk (by rw [ho]; simp) h2, ds, e, fz, h3, h4, h5, h50, ?_⟩
    intro m c hm
    obtain ⟨cv, h7, h8, h9⟩ := h6 m c hm
    refine ⟨cv, h7, h8.back, ?_⟩
    intro sz es lim e ad len cap e'
    obtain ⟨r1, r2⟩ := h9 sz es lim e ad len cap e'
    exact ⟨back_of hi hk r1, r2⟩
  map := fun o es ho => by
    obtain ⟨h1, h2, ents, clock, h3, h4, h5, h6⟩ := hi'.map o es ho
    refine ⟨h1, back_obj hi hk (by rw [ho]; simp) h2, ents, clock, h3, h4, ?_, h6⟩
    intro m e hm
    obtain ⟨x, h7, h8, h9, h10, h11⟩ := h5 m e hm
    exact ⟨x, h7, h8, h9, h10.back, h11⟩
  own := fun b loc hb => by
    have hb : (if hides s (G.own b) then G.own b else locBack d (G'.own b)) = some loc := hb
    split at hb
    · exact Nat.lt_of_lt_of_le (hi.own b _ hb) hk.size
    · cases hg : G'.own b with
      | none => rw [hg] at hb; simp [locBack] at hb
      | some l => exact hi'.own b l hg

theorem FRel.back (hi : Inv G h w) (hk : Kept (G.enter s j) h w G' h' w') (hf : FRel G w n t a) (hs : (t s).isOwn = false) : FRel (G.back s d G') w' n t a where
  size := hf.size
  defers := hf.defers
  val := fun i => VRel.mono (G := G) (G' := G.back s d G') hk.pub (hf.val i)
  own := fun i => by
    intro sz es lim e ad len cap e'
    obtain ⟨r1, r2, ds, el, fz, r3, r4⟩ := hf.own i sz es lim e ad len cap e'
    have hne : i ≠ s := by
      intro e2
      subst e2
      rw [e] at hs
      simp [AV.isOwn] at hs
    have hh : hides s (G.own ad.block) = true := by
      rw [r1]
      simpa [hides] using hne
    obtain ⟨k1, k2, k3, k4⟩ := hides_kept hi hk hh
    refine ⟨?_, fun x hx => (k2 x).trans (r2 x hx), ds, el, fz, k1.trans r3, r4⟩
    show (if hides s (G.own ad.block) then G.own ad.block else locBack d (G'.own ad.block)) = _
    rw [if_pos hh]
    exact r1

theorem Kept.back (hi : Inv G h w) (hk : Kept (G.enter s j) h w G' h' w') : Kept G h w (G.back s d G') h' w' where
  pub := hk.pub
  os := hk.os
  output := hk.output
  tape := hk.tape
  size := hk.size
  keep := fun b hb h1 h2 => by
    obtain ⟨k1, k2, k3, k4⟩ := hk.keep b hb (enter_none h1) h2
    exact ⟨k1, k2, back_none (by rw [h1]; rfl) k3, k4⟩
  live := hk.live

theorem OwnOk.back (hi : Inv G h w) (hk : Kept (G.enter s j) h w G' h' w') {v : AV} {cv : Value} (ho : OwnOk G' w' .ret v cv) : OwnOk (G.back s d G') w' (.slot d) v cv := by
  intro sz es lim e ad len cap e'
  obtain ⟨r1, r2⟩ := ho sz es lim e ad len cap e'
  exact ⟨back_of hi hk r1, r2⟩


theorem Inv.forget (hi : Inv G h' w') (hsub : ∀ o, h o ≠ none → h' o = h o) : Inv G h w' where
  pub := hi.pub
  arr := fun o cs ho => hi.arr o cs (by rw [hsub o (by rw [ho]; simp)]; exact ho)
  map := fun o es ho => hi.map o es (by rw [hsub o (by rw [ho]; simp)]; exact ho)
  own := hi.own

theorem Kept.forget (hk : Kept G h w G' h' w') : Kept G h w G' h w' :=
  ⟨hk.pub, hk.os, hk.output, hk.tape, hk.size, fun b hb h1 h2 => by
    obtain ⟨k1, k2, k3, k4⟩ := hk.keep b hb h1 h2
    exact ⟨k1, k2, k3, h2⟩, fun _ _ h => h⟩



def CallOk (P : Program) (G : Gh) (w : World) (n : Nat) (a : Act) (o : Oper) (f : Nat) (args : List AV) (t' : Nat → AV) : Prop :=
  ∃ vals s j, (∀ fn, P.funcs[f]? = some fn → fn.body.isSome = true → (fn.name == "runtime.NumGoroutine") = false → (execOp a.eval o).run P w = .ok (.enter f vals) w) ∧ (execOp a.eval o).run P w = (callFunc f vals).run P w ∧
    vals.size = args.length ∧ (∀ i, VRel G (args.getD i .undef) (vals.getD i undef)) ∧ FRel G w n t' a ∧ (t' s).isOwn = false ∧
    ∀ i, (args.getD i .undef).isOwn = true → i = j ∧ OwnOk G w (.slot s) (args.getD i .undef) (vals.getD i undef)

theorem ARel.enter {args : List AV} {vals : Array Value} (h1 : vals.size = args.length) (h2 : ∀ i, VRel G (args.getD i .undef) (vals.getD i undef))
    (h3 : ∀ i, (args.getD i .undef).isOwn = true → i = j ∧ OwnOk G w (.slot s) (args.getD i .undef) (vals.getD i undef)) : ARel (G.enter s j) w args vals where
  size := h1
  val := fun i => (h2 i).enter
  own := fun i => by
    intro sz es lim e ad len cap e'
    obtain ⟨rfl, ho⟩ := h3 i (by rw [e]; rfl)
    obtain ⟨r1, r2⟩ := ho sz es lim e ad len cap e'
    exact ⟨by simp [Gh.enter, r1], r2⟩

theorem ARel.frame {args : List AV} {vals : Array Value} (hr : ARel G w args vals) {nt : Nat} (hn : args.length ≤ nt) :
    FRel G w nt (initT args) { tmps := vals ++ Array.replicate (nt - vals.size) undef, defers := [] } := by
  have hg : ∀ i, (vals ++ Array.replicate (nt - vals.size) undef).getD i undef = vals.getD i undef := by
    intro i
    simp only [Array.getD_eq_getD_getElem?, Array.getElem?_append]
    split
    · rfl
    · rename_i hlt
      rw [Array.getElem?_eq_none (xs := vals) (by omega)]
      simp only [Array.getElem?_replicate]
      split <;> rfl
  refine ⟨by simp [hr.size]; omega, rfl, fun i => ?_, fun i => ?_⟩
  · rw [hg]; exact hr.val i
  · rw [hg]; exact hr.own i

end Go.Am
