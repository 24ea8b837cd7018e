/- The abstract machine is sound: what it says of a run, the model does. -/
import Derived.Test.YtcdfdnmnnepnoaaDoorAmCall
import Derived.Test.YtcdfdnmnnepnoaaDoorAmGhost
import Derived.Scope
set_option linter.unusedVariables false
set_option linter.unusedSimpArgs false
namespace Go.Am

def exOf : Ex → Exit
  | .normal => .normal
  | .exit id => .exit id
  | .ret => .ret
  | .goto l => .goto l


structure OpsSound (P : Program) : Prop where
  val : ∀ {G h w n t a o ops k A v t' h'}, FRel G w n t a → Inv G h w → cOper P n k ops o = some A → aex P A.op ⟨t, h⟩ = some (.val v t' h') → OpOk P G h w n a o A.dst v t' h'
  new : ∀ {G h w n t a o ops k A kk ob t'}, FRel G w n t a → Inv G h w → cOper P n k ops o = some A → aex P A.op ⟨t, h⟩ = some (.new kk ob t') → NewOk P G h w n a o A.dst kk ob t'
  newc : ∀ {G h w n t a o ops k A lo kk ob t'}, FRel G w n t a → Inv G h w → cOper P n k ops o = some A → aex P A.op ⟨t, h⟩ = some (.newc lo kk ob t') → NewcOk P G h w n a o A.dst lo kk ob t'
  call : ∀ {G h w n t a o ops k A k' f args t'}, FRel G w n t a → Inv G h w → cOper P n k ops o = some A → aex P A.op ⟨t, h⟩ = some (.call k' f args t') → CallOk P G w n a o f args t'


def Post (G : Gh) (h : Heap) (w : World) (n : Nat) (Q : Ex → St → Prop) : Exit → Act → World → Prop :=
  fun e a' w' => ∃ x s' G', e = exOf x ∧ Q x s' ∧ FRel G' w' n s'.t a' ∧ Inv G' s'.h w' ∧ Kept G h w G' s'.h w'


def wpIn (P : Program) (Q : Exit → Act → World → Prop) (a : Act) (w : World) : Code → Prop
  | .loop c => ∀ (b : Frame) (k : List Item) (cs : List Frame), ∃ e a' w', Q e a' w' ∧ Arrives P (lone (b.at a (.code c :: .inLoop c :: k)) cs w) b k cs e a' w'
  | c => c.wp P Q a w

theorem wpIn.wp {P : Program} {Q : Exit → Act → World → Prop} {a : Act} {w : World} {c : Code} (h : wpIn P Q a w c) : c.wp P Q a w := by
  cases c with
  | loop c =>
    intro b k cs
    obtain ⟨e, a', w', hq, harr⟩ := h b k cs
    exact ⟨e, a', w', hq, .of_steps (.one step_loop) harr⟩
  | _ => exact h

theorem wpIn_loop {P : Program} {Q : Exit → Act → World → Prop} {a : Act} {w : World} {c : Code} (h : c.wp P (Exit.then (fun a' w' => wpIn P Q a' w' (.loop c)) Q) a w) : wpIn P Q a w (.loop c) := by
  intro b k cs
  obtain ⟨e, a₁, w₁, hq, harr⟩ := h b (.inLoop c :: k) cs
  cases e with
  | normal =>
    obtain ⟨e₂, a₂, w₂, hq₂, harr₂⟩ := hq b k cs
    exact ⟨e₂, a₂, w₂, hq₂, .of_steps (Steps.trans harr (.one step_inLoop)) harr₂⟩
  | exit id => exact ⟨_, a₁, w₁, hq, .pass (x := .inLoop c) rfl (fun _ _ => .inl (by simp)) harr⟩
  | goto l => exact ⟨_, a₁, w₁, hq, .pass (x := .inLoop c) rfl (fun _ _ => .inl (by simp)) harr⟩
  | ret => exact ⟨_, a₁, w₁, hq, .pass (x := .inLoop c) rfl (fun _ _ => .inl (by simp)) harr⟩
  | panic ch => exact ⟨_, a₁, w₁, hq, .pass (x := .inLoop c) rfl (fun _ _ => .inl (by simp)) harr⟩
  | outgrown => exact ⟨_, a₁, w₁, hq, .pass (x := .inLoop c) rfl (fun _ _ => .inl (by simp)) harr⟩


def wpScope (P : Program) (Q : Exit → Act → World → Prop) (a : Act) (w : World) (body cur : Code) : Prop :=
  ∀ (b : Frame) (k : List Item) (cs : List Frame), ∃ e a' w', Q e a' w' ∧ Arrives P (lone (b.at a (.code cur :: .inScope body :: k)) cs w) b k cs e a' w'

theorem wpScope.mono {P : Program} {Q Q' : Exit → Act → World → Prop} {a : Act} {w : World} {body cur : Code} (hq : ∀ e a w, Q e a w → Q' e a w) (h : wpScope P Q a w body cur) : wpScope P Q' a w body cur := fun b k cs =>
  let ⟨e, a', w', q, r⟩ := h b k cs; ⟨e, a', w', hq _ _ _ q, r⟩

theorem wpScope.wp {P : Program} {Q : Exit → Act → World → Prop} {a : Act} {w : World} {c : Code} (h : wpScope P Q a w c c) : (Code.scope c).wp P Q a w := fun b k cs =>
  let ⟨e, a', w', q, r⟩ := h b k cs; ⟨e, a', w', q, .of_steps (.one step_scope) r⟩

theorem wpScope_of {P : Program} {Q : Exit → Act → World → Prop} {a : Act} {w : World} {body cur : Code} {R : Exit → Act → World → Prop} (h : cur.wp P R a w)
    (h1 : ∀ l rest a' w', R (.goto l) a' w' → findLabel body l = some rest → wpScope P Q a' w' body rest) (h2 : ∀ l a' w', R (.goto l) a' w' → findLabel body l = none → Q (.goto l) a' w')
    (h3 : ∀ e a' w', (∀ l, e ≠ .goto l) → R e a' w' → Q e a' w') : wpScope P Q a w body cur := by
  intro b k cs
  obtain ⟨e, a₁, w₁, hq, harr⟩ := h b (.inScope body :: k) cs
  cases e with
  | normal => exact ⟨.normal, a₁, w₁, h3 _ _ _ (by simp) hq, Steps.trans harr (.one step_inScope)⟩
  | exit id => exact ⟨.exit id, a₁, w₁, h3 _ _ _ (by simp) hq, fun k' hk => harr k' (by simp [exitTo, hk])⟩
  | goto l =>
    cases hf : findLabel body l with
    | some rest =>
      obtain ⟨e₂, a₂, w₂, hq₂, harr₂⟩ := h1 l rest a₁ w₁ hq hf b k cs
      exact ⟨e₂, a₂, w₂, hq₂, .of_steps (harr _ (by simp [gotoIn, hf])) harr₂⟩
    | none => exact ⟨.goto l, a₁, w₁, h2 l _ _ hq hf, fun k' hk => harr k' (by simp [gotoIn, hf, hk])⟩
  | ret => exact ⟨_, a₁, w₁, h3 _ _ _ (by simp) hq, harr⟩
  | panic ch => exact ⟨_, a₁, w₁, h3 _ _ _ (by simp) hq, harr⟩
  | outgrown => exact ⟨_, a₁, w₁, h3 _ _ _ (by simp) hq, harr⟩


theorem label_rel {P : Program} {nt : Nat} {an : Nat → Nat → Nat} : ∀ (body : Code) (c : AC), cCode P nt an body = some c → ∀ l, (∀ rest, findLabel body l = some rest → ∃ r, findA c l = some r ∧ cCode P nt an rest = some r) ∧ (findLabel body l = none → findA c l = none) := by
  intro body
  induction body with
  | seq a b iha ihb =>
    intro c hc l
    simp only [cCode] at hc
    split at hc
    · rename_i x y h1 h2
      cases hc
      obtain ⟨a1, a2⟩ := iha x h1 l
      obtain ⟨b1, b2⟩ := ihb y h2 l
      simp only [findLabel, findA]
      cases ha : findLabel a l with
      | some rest =>
        obtain ⟨r, q1, q2⟩ := a1 rest ha
        rw [q1]
        refine ⟨fun rest' e => ?_, by simp⟩
        simp at e
        subst e
        exact ⟨_, rfl, by simp [cCode, q2, h2]⟩
      | none =>
        rw [a2 ha]
        exact ⟨fun rest' e => b1 rest' e, fun e => b2 e⟩
    · cases hc
  | label l' =>
    intro c hc l
    simp [cCode] at hc
    subst hc
    simp only [findLabel, findA]
    split
    · refine ⟨fun rest e => ?_, by simp⟩
      simp at e
      subst e
      exact ⟨_, rfl, rfl⟩
    · exact ⟨by simp, fun _ => rfl⟩
  | region id ops dr =>
    intro c hc l
    refine ⟨fun rest e => by simp [findLabel] at e, fun _ => ?_⟩
    simp only [cCode] at hc
    split at hc
    · cases dr with
      | false => simp at hc; subst hc; rfl
      | true =>
        simp only [if_true, Option.some.injEq] at hc
        split at hc
        · subst hc; rfl
        · split at hc <;> (subst hc; rfl)
    · cases hc
  | cond o a b _ _ =>
    intro c hc l
    refine ⟨fun rest e => by simp [findLabel] at e, fun _ => ?_⟩
    simp only [cCode] at hc
    split at hc
    · cases hc; rfl
    · cases hc
  | block id a _ | loop a _ | scope a _ =>
    intro c hc l
    refine ⟨fun rest e => by simp [findLabel] at e, fun _ => ?_⟩
    simp only [cCode, Option.map_eq_some_iff] at hc
    obtain ⟨x, h1, rfl⟩ := hc
    rfl
  | skip | exit id | ret | goto l =>
    intro c hc l
    refine ⟨fun rest e => by simp [findLabel] at e, fun _ => ?_⟩
    simp [cCode] at hc
    subst hc
    rfl
  | _ =>
    intro c hc l
    simp [cCode] at hc


theorem bool_of_rel {G : Gh} {v : AV} {b : Bool} (h : VRel G v (.bool b)) : v = .sc (.bool b) := by cases h; rfl

theorem wanted_rel {P : Program} {G : Gh} {w : World} {n : Nat} {t : Nat → AV} {a : Act} {k : Nat} {ops : Array Oper} {o : Oper} {A : AOper} (hf : FRel G w n t a) (hc : cOper P n k ops o = some A) :
    Region.wanted o (yielded ops a.tmps) = wantedA A t := by
  simp only [cOper, Option.bind_eq_bind, Option.bind_eq_some_iff] at hc
  obtain ⟨op, _, g, hg, hc⟩ := hc
  have hAg : A.guard = g := by
    split at hc
    · split at hc
      · cases hc; rfl
      · cases hc
    · cases hc; rfl
  unfold Region.wanted wantedA
  rw [hAg]
  cases hgu : o.guard with
  | none => rw [hgu] at hg; simp [cGuard] at hg; subst hg; rfl
  | some jb =>
    obtain ⟨j, b⟩ := jb
    rw [hgu] at hg
    simp only [cGuard] at hg
    split at hg
    · rename_i d hd
      simp at hg
      subst hg
      simp only []
      unfold yielded
      rw [hd]
      simp only [Option.bind_some]
      have hv := hf.val d
      rw [Array.getD_eq_getD_getElem?] at hv
      cases hx : a.tmps[d]? with
      | none =>
        rw [hx] at hv
        simp at hv
        generalize t d = v at hv
        generalize hu : Go.undef = u at hv
        cases hv <;> simp_all [Go.undef]
        rename_i v hs
        subst hu
        simp [scalarV] at hs
      | some x =>
        rw [hx] at hv
        simp at hv
        by_cases hb : ∃ y, x = .bool y
        · obtain ⟨y, rfl⟩ := hb
          rw [bool_of_rel hv]
          cases y <;> cases b <;> rfl
        · refine Eq.trans (b := false) ?_ (Eq.symm ?_)
          · cases x <;> first | rfl | exact absurd ⟨_, rfl⟩ hb
          · split
            · rename_i z hz
              rw [hz] at hv
              exact absurd ⟨z, hv.sc_inv.1⟩ hb
            · rfl
    · cases hg

theorem cOper_dst {P : Program} {n k : Nat} {ops : Array Oper} {o : Oper} {A : AOper} (hc : cOper P n k ops o = some A) : A.dst = o.dst ∧ ∀ d, A.dst = some d → d < n := by
  simp only [cOper, Option.bind_eq_bind, Option.bind_eq_some_iff] at hc
  obtain ⟨op, _, g, hg, hc⟩ := hc
  split at hc
  · rename_i d hd
    split at hc
    · rename_i hlt
      cases hc
      refine ⟨hd.symm, fun d' e => ?_⟩
      cases e
      exact hlt
    · cases hc
  · rename_i hd
    cases hc
    exact ⟨hd.symm, fun d e => by cases e⟩

theorem cOpers_spec {P : Program} {nt : Nat} {ann : Nat → Nat} {ops : Array Oper} : ∀ {i : Nat} {os : List Oper} {l : List AOper}, cOpers P nt ann ops i os = some l →
    l.length = os.length ∧ ∀ m o, os[m]? = some o → ∃ A, l[m]? = some A ∧ cOper P nt (ann (i + m)) ops o = some A
  | i, [], l, h => by simp [cOpers] at h; subst h; exact ⟨rfl, fun m o h => by simp at h⟩
  | i, o :: r, l, h => by
    simp only [cOpers] at h
    split at h
    · rename_i a l' h1 h2
      simp at h
      subst h
      obtain ⟨e1, e2⟩ := cOpers_spec h2
      refine ⟨by simp [e1], ?_⟩
      intro m o' hm
      cases m with
      | zero => simp at hm; subst hm; exact ⟨a, rfl, h1⟩
      | succ m =>
        obtain ⟨A, e3, e4⟩ := e2 m o' (by simpa using hm)
        exact ⟨A, by simpa using e3, by rw [show i + (m + 1) = i + 1 + m by omega]; exact e4⟩
    · cases h


section results
variable {P : Program} {G : Gh} {w : World} {n : Nat} {s : St} {a : Act}

def resSem (tmps : Array Value) : ResultVar → Sem Value
  | .tmp t => pure (tmps.getD t undef)
  | .cell a t => do loadVar t (← asAddr (tmps.getD a undef))

theorem cRes_cons {r : ResultVar} {rs : List ResultVar} {l : List ARes} (h : cRes P (r :: rs) = some l) : ∃ x l', l = x :: l' ∧ cRes P rs = some l' ∧
    ((∃ t, r = .tmp t ∧ x = .tmp t) ∨ ∃ t ty g sz, r = .cell t ty ∧ isAggT P ty = some g ∧ sizeT P ty = some sz ∧ x = .cell t g (if g then sz else 1)) := by
  cases r with
  | tmp t =>
    simp only [cRes, Option.map_eq_some_iff] at h
    obtain ⟨l', h1, rfl⟩ := h
    exact ⟨_, l', rfl, h1, .inl ⟨t, rfl, rfl⟩⟩
  | cell t ty =>
    simp only [cRes, Option.bind_eq_bind, Option.bind_eq_some_iff] at h
    obtain ⟨g, hg, sz, hs, l', h1, h2⟩ := h
    cases h2
    exact ⟨_, l', rfl, h1, .inr ⟨t, ty, g, sz, rfl, hg, hs, rfl⟩⟩

theorem run_res1 (hf : FRel G w n s.t a) (hi : Inv G s.h w) {r : ResultVar} {x : ARes} {v : AV} (h1 : (∃ t, r = .tmp t ∧ x = .tmp t) ∨ ∃ t ty g sz, r = .cell t ty ∧ isAggT P ty = some g ∧ sizeT P ty = some sz ∧ x = .cell t g (if g then sz else 1))
    (h2 : res1 s x = some v) : ∃ cv, (resSem a.tmps r).run P w = .ok cv w ∧ VRel G v cv ∧ (v.isOwn = false ∨ ∃ i, OwnOk G w (.slot i) v cv) := by
  rcases h1 with ⟨t, rfl, rfl⟩ | ⟨t, ty, g, sz, rfl, hg, hs, rfl⟩
  · simp [res1] at h2
    subst h2
    exact ⟨_, rfl, hf.val t, .inr ⟨t, hf.own t⟩⟩
  · simp only [res1] at h2
    generalize hkk : (if g = true then sz else 1) = k at h2
    split at h2
    · rename_i ob c hcs
      split at h2
      · rename_i cs hcs'
        split at h2
        · rename_i hlen
          simp only [Option.map_eq_some_iff] at h2
          obtain ⟨u, hu, rfl⟩ := h2
          subst hkk
          have hrel := hf.val t
          rw [hcs] at hrel
          generalize hc : a.tmps.getD t Go.undef = cx at hrel
          cases hrel with
          | op =>
            obtain ⟨cv', e1, e2⟩ := run_loadVar (P := P) (G := G) (w := w) (b := ob) (o := c) (cs := cs.drop c) hg hs (fun m c' _ hm => by
              rw [List.getElem?_drop] at hm
              obtain ⟨d, e1, e2, _⟩ := hi.cell hcs' hm
              exact ⟨d, e1, e2⟩) (fun c hc => (hi.arr _ _ hcs').2.2.choose_spec.choose_spec.choose_spec.2.2.2.1 c (List.mem_of_mem_drop hc)) (by rw [List.length_drop]; omega) hu
            refine ⟨cv', ?_, e2.dis, .inl (dis_own _)⟩
            simp only [resSem, hc, asAddr]
            simpa using e1
        · cases h2
      · cases h2
    · cases h2

theorem run_resL (hf : FRel G w n s.t a) (hi : Inv G s.h w) : ∀ (rs : List ResultVar) (xs : List ARes) (vs : List AV), cRes P rs = some xs → xs.mapM (fun x => (res1 s x).map AV.dis) = some vs →
    ∃ l : List Value, (rs.mapM (m := Sem) (resSem a.tmps)).run P w = .ok l w ∧ l.length = vs.length ∧ xs.length = rs.length ∧ vs.length = xs.length ∧ ∀ (m : Nat) v, vs[m]? = some v → ∃ d : Value, l[m]? = some d ∧ VRel G v d
  | [], xs, vs, h, hv => by
    simp [cRes] at h
    subst h
    simp at hv
    subst hv
    exact ⟨[], rfl, rfl, rfl, rfl, fun m v h => by simp at h⟩
  | r :: rs, xs, vs, h, hv => by
    obtain ⟨x, l', rfl, h1, h2⟩ := cRes_cons h
    simp only [List.mapM_cons, Option.bind_eq_bind, Option.bind_eq_some_iff, Option.map_eq_some_iff] at hv
    obtain ⟨v, ⟨u, hu, rfl⟩, vs', hvs, hv⟩ := hv
    cases hv
    obtain ⟨cv, e1, e2, _⟩ := run_res1 hf hi h2 hu
    obtain ⟨l, e3, e4, e40, e41, e5⟩ := run_resL hf hi rs l' vs' h1 hvs
    refine ⟨cv :: l, ?_, by simp [e4], by simp [e40], by simp [e41], ?_⟩
    · simp [List.mapM_cons, e1, e3]
    · intro m v hm
      cases m with
      | zero => simp at hm; subst hm; exact ⟨cv, rfl, e2.dis⟩
      | succ m => simpa using e5 m v (by simpa using hm)

theorem results_eq (fn : Func) (tmps : Array Value) : results fn tmps = (do let vs ← fn.results.mapM (resSem tmps); pure (if h : vs.size = 1 then vs[0] else .tuple vs)) := by
  unfold results
  congr 2

theorem Inv.moveLoc {h : Heap} (hi : Inv G h w) (i : Nat) (l : Loc) : Inv (G.moveTo (.slot i) l) h w where
  pub := hi.pub
  arr := fun o cs ho => by
    obtain ⟨h1, h2, ds, e, fz, h3, h4, h5, h50, h6⟩ := hi.arr o cs ho
    refine ⟨h1, moveTo_none h2, ds, e, fz, h3, h4, h5, h50, ?_⟩
    intro m c hm
    obtain ⟨cv, h7, h8, h9⟩ := h6 m c hm
    exact ⟨cv, h7, h8.moveTo, h9.moved (by simp)⟩
  map := fun o es ho => by
    obtain ⟨h1, h2, ents, clock, h3, h4, h5, h6⟩ := hi.map o es ho
    refine ⟨h1, moveTo_none h2, ents, clock, h3, h4, ?_, h6⟩
    intro m e hm
    obtain ⟨x, h7, h8, h9, h10, h11⟩ := h5 m e hm
    exact ⟨x, h7, h8, h9, h10.moveTo, h11⟩
  own := fun b loc hb => by
    have : (if G.own b = some (.slot i) then some l else G.own b) = some loc := hb
    split at this
    · exact hi.own b _ ‹_›
    · exact hi.own b _ this

theorem run_results (hf : FRel G w n s.t a) (hi : Inv G s.h w) {fn : Func} {rs : List ARes} {v : AV} (hr : cRes P fn.results.toList = some rs) (hv : resA rs s = some v) :
    ∃ cv G', (results fn a.tmps).run P w = .ok cv w ∧ VRel G' v cv ∧ OwnOk G' w .ret v cv ∧ Inv G' s.h w ∧ Kept G s.h w G' s.h w := by
  rw [results_eq]
  match hl : fn.results.toList, rs, hr with
  | [], rs, hr =>
    simp [cRes] at hr
    subst hr
    simp [resA] at hv
    subst hv
    have he : fn.results = #[] := by simpa using hl
    exact ⟨.tuple #[], G, by simp [he], .tu rfl (fun m c h => by simp at h), .of_not rfl, hi, .refl _ _ _⟩
  | [r], rs, hr =>
    obtain ⟨x, l', rfl, h1, h2⟩ := cRes_cons hr
    simp [cRes] at h1
    subst h1
    obtain ⟨cv, e1, e2, e3⟩ := run_res1 hf hi h2 hv
    have he : fn.results = #[r] := by
      rw [← Array.toList_inj]
      exact hl
    have hrun : (do let vs ← fn.results.mapM (resSem a.tmps); pure (if h : vs.size = 1 then vs[0] else .tuple vs) : Sem Value).run P w = .ok cv w := by
      rw [he, Array.mapM_eq_mapM_toList]
      simp [e1]
    cases ho : v.isOwn with
    | false => exact ⟨cv, G, hrun, e2, .of_not ho, hi, .refl _ _ _⟩
    | true =>
      rcases e3 with e3 | ⟨i, e3⟩
      · rw [ho] at e3; cases e3
      · exact ⟨cv, G.moveTo (.slot i) .ret, hrun, e2.moveTo, e3.moveTo, hi.moveLoc i .ret, (Kept.refl _ _ _).moveTo _ _⟩
  | r :: r2 :: rr, rs, hr =>
    have hr0 := hr
    obtain ⟨x, l', rfl, h1, h2⟩ := cRes_cons hr
    obtain ⟨x2, l2, rfl, h3, h4⟩ := cRes_cons h1
    simp only [resA, Option.map_eq_some_iff] at hv
    obtain ⟨vs, hvs, rfl⟩ := hv
    obtain ⟨l, e1, e2, e3, e30, e4⟩ := run_resL (P := P) hf hi _ _ _ hr0 hvs
    have hrun : (do let vs ← fn.results.mapM (resSem a.tmps); pure (if h : vs.size = 1 then vs[0] else .tuple vs) : Sem Value).run P w = .ok (.tuple l.toArray) w := by
      have : (fn.results.mapM (resSem a.tmps)).run P w = .ok l.toArray w := run_mapA _ _ _ (by rw [hl]; exact e1)
      have hlen : l.length ≠ 1 := by
        simp only [List.length_cons] at e3 e30
        omega
      simp [this, hlen]
    refine ⟨.tuple l.toArray, G, hrun, .tu (by simp [e2]) ?_, .of_not rfl, hi, .refl _ _ _⟩
    intro m c hm
    obtain ⟨d, e5, e6⟩ := e4 m c hm
    simpa [Array.getD_eq_getD_getElem?, e5] using e6

end results

end Go.Am
