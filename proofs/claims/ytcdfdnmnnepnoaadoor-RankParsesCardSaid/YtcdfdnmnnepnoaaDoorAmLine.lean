/- Drawn regions where all that turns memory stands in one line. -/
import Derived.Test.YtcdfdnmnnepnoaaDoorAmW
import Derived.Attr
set_option linter.unusedVariables false
set_option linter.unusedSimpArgs false
namespace Go.Am
variable {P : Program} {ann : Ann}

def AOp.opds : AOp → List Opd
  | .mov _ x | .isnil _ _ x | .un _ x | .conv _ _ x | .b2s x | .s2b _ x | .stg x | .fld _ _ _ x | .fad _ x | .len _ x | .clr _ _ x | .cap x | .nck x | .box x | .ext _ x | .rng x | .nxt x | .ent x | .ld _ _ _ x => [x]
  | .pick c a b | .mup _ c a b => [c, a, b]
  | .bin _ _ x y | .iad _ x y | .iap _ _ x y | .ixs x y | .ixa _ _ _ x y | .app _ _ _ _ x y | .apz _ _ _ _ x y | .cpy _ x y | .st _ x y | .mks _ _ _ _ x y | .lkp _ _ _ x y | .del _ x y => [x, y]
  | .slc _ x lo hi mx => x :: (lo.toList ++ hi.toList ++ mx.toList)
  | .sls x lo hi | .slp _ _ x lo hi => x :: (lo.toList ++ hi.toList)
  | .bld _ ps => ps.map (·.2.2)
  | .lit _ _ _ _ ps => ps.map (·.2)
  | .fnc _ f c => f ++ c
  | .blt _ _ _ xs | .call _ _ xs => xs
  | .dyn _ f xs => f :: xs
  | .new _ | .mkm => []

def AOp.tk : AOp → List Opd
  | .mov true x | .stg x | .app _ _ _ _ x _ | .apz _ _ _ _ x _ | .st _ _ x | .box x => [x]
  | .call _ _ xs | .dyn _ _ xs => xs
  | _ => []
def AR.at (t : Nat → AV) : AR → AR
  | .val v _ h => .val v t h
  | .new k ob _ => .new k ob t
  | .newc lo k ob _ => .newc lo k ob t
  | .call k f a _ => .call k f a t
theorem strips1 {t : Nat → AV} {x : Opd} : strips t [x] = strip t x := rfl
theorem strip_sc {t : Nat → AV} {x : Opd} {v : Value} (h : x.ev t = .sc v) : strip t x = t := strip_id (by rw [h]; rfl)
theorem strip_rs {t : Nat → AV} {x : Opd} {o c sz n : Nat} {l : Option Nat} (h : x.ev t = .rs o c sz n l) : strip t x = t := strip_id (by rw [h]; rfl)
theorem appW_move {obj : Bool} {sz bytes : Nat} {z : List AV} {t u : Nat → AV} {h : Heap} {x : Opd} {ys : List (List AV)} {r : AR} (hx : x.ev u = x.ev t) (hr : appW obj sz bytes z t h x ys = some r) :
    r = r.at (strip t x) ∧ appW obj sz bytes z u h x ys = some (r.at (strip u x)) := by
  unfold appW at hr ⊢
  rw [hx]
  cases hv : x.ev t with
  | rs o c sz' n lim =>
    have e1 := strip_rs (t := t) hv
    have e2 := strip_rs (t := u) (hx.trans hv)
    rw [e1, e2]
    rw [hv] at hr
    simp only at hr ⊢
    by_cases c1 : sz' ≠ sz ∨ obj = false
    · rw [if_pos c1] at hr; cases hr
    · rw [if_neg c1] at hr ⊢
      by_cases c2 : ys.length = 0
      · rw [if_pos c2] at hr ⊢; cases hr; exact ⟨rfl, rfl⟩
      · rw [if_neg c2] at hr ⊢
        cases lim with
        | none => cases hr
        | some cap =>
          cases hq : h o with
          | none => rw [hq] at hr; cases hr
          | some X =>
            rw [hq] at hr
            cases X with
            | map es => cases hr
            | arr cs =>
              simp only at hr ⊢
              by_cases c3 : c + cap * sz ≤ cs.length ∧ n ≤ cap
              · rw [if_pos c3] at hr ⊢
                by_cases c4 : n + ys.length ≤ cap
                · rw [if_pos c4] at hr ⊢; cases hr; exact ⟨rfl, rfl⟩
                · rw [if_neg c4] at hr ⊢
                  by_cases c5 : (n + ys.length) * bytes > 2 ^ 47
                  · rw [if_pos c5] at hr; cases hr
                  · rw [if_neg c5] at hr ⊢; cases hr; exact ⟨rfl, rfl⟩
              · rw [if_neg c3] at hr; cases hr
  | sc v =>
    have e1 := strip_sc (t := t) hv
    have e2 := strip_sc (t := u) (hx.trans hv)
    rw [e1, e2]
    rw [hv] at hr
    repeat' (first | (cases hr; done) | split at hr)
    all_goals first | (cases hr; simp_all [AR.at, grownO]; done) | skip
  | bs own sz' es lim =>
    rw [hv] at hr
    simp only at hr ⊢
    cases lim with
    | none =>
      simp only at hr ⊢
      repeat' (first | (cases hr; done) | split at hr)
      all_goals (cases hr; simp_all [AR.at, grownO])
    | some cap =>
      simp only at hr ⊢
      repeat' (first | (cases hr; done) | split at hr)
      all_goals (cases hr; simp_all [AR.at, grownO])
  | _ => rw [hv] at hr; cases hr
theorem sl_opt {t u : Nat → AV} {o : Option Opd} (h : ∀ x ∈ o.toList, x.ev u = x.ev t) : o.map (Opd.ev u) = o.map (Opd.ev t) := opt_ev h
theorem map_ev {t u : Nat → AV} {xs : List Opd} (h : ∀ x ∈ xs, x.ev u = x.ev t) : xs.map (Opd.ev u) = xs.map (Opd.ev t) := List.map_congr_left h

theorem aex_move {op : AOp} {t u : Nat → AV} {h : Heap} {r : AR} (hs : ∀ x ∈ op.opds, x.ev u = x.ev t) (hr : aex P op ⟨t, h⟩ = some r) : r = r.at (strips t op.tk) ∧ aex P op ⟨u, h⟩ = some (r.at (strips u op.tk)) := by
  cases op
  case app obj sz b z x y =>
    have hx := hs x (by simp [AOp.opds])
    have hy := hs y (by simp [AOp.opds])
    simp only [aex, Option.bind_eq_bind, Option.bind_eq_some_iff] at hr ⊢
    obtain ⟨ys, h1, h2⟩ := hr
    have := appW_move hx h2
    exact ⟨this.1, ys, by rw [hy]; exact h1, this.2⟩
  case apz obj sz b z x y =>
    have hx := hs x (by simp [AOp.opds])
    have hy := hs y (by simp [AOp.opds])
    simp only [aex, Option.bind_eq_bind, Option.bind_eq_some_iff] at hr ⊢
    obtain ⟨l, h1, h2⟩ := hr
    split at h2
    · rename_i hc
      have := appW_move hx h2
      exact ⟨this.1, l, by rw [hy]; exact h1, by rw [if_pos hc]; exact this.2⟩
    · cases h2
  case slc sz x lo hi mx =>
    simp only [AOp.opds, List.mem_cons, List.mem_append, forall_eq_or_imp] at hs
    obtain ⟨hx, hs⟩ := hs
    have h1 := opt_ev (o := lo) (fun x hx => hs x (.inl (.inl hx)))
    have h2 := opt_ev (o := hi) (fun x hx => hs x (.inl (.inr hx)))
    have h3 := opt_ev (o := mx) (fun x hx => hs x (.inr hx))
    rw [aex_slc] at hr ⊢
    rw [h1, h2, h3, hx]
    unfold aexSlc at hr ⊢
    repeat' (first | (cases hr; done) | split at hr | simp only [Option.bind_eq_some_iff] at hr | (obtain ⟨_, _, hr⟩ := hr))
    all_goals ((try cases hr); simp_all [AR.at, AOp.tk, strips])
  case sls x lo hi =>
    simp only [AOp.opds, List.mem_cons, List.mem_append, forall_eq_or_imp] at hs
    obtain ⟨hx, hs⟩ := hs
    have h1 := opt_ev (o := lo) (fun x hx => hs x (.inl hx))
    have h2 := opt_ev (o := hi) (fun x hx => hs x (.inr hx))
    simp only [aex] at hr ⊢
    rw [h1, h2, hx]
    repeat' (first | (cases hr; done) | split at hr | simp only [Option.bind_eq_bind, Option.bind_eq_some_iff] at hr | (obtain ⟨_, _, hr⟩ := hr))
    all_goals ((try cases hr); simp_all [AR.at, AOp.tk, strips])
  case slp n sz x lo hi =>
    simp only [AOp.opds, List.mem_cons, List.mem_append, forall_eq_or_imp] at hs
    obtain ⟨hx, hs⟩ := hs
    have h1 := opt_ev (o := lo) (fun x hx => hs x (.inl hx))
    have h2 := opt_ev (o := hi) (fun x hx => hs x (.inr hx))
    simp only [aex] at hr ⊢
    rw [h1, h2, hx]
    repeat' (first | (cases hr; done) | split at hr | simp only [Option.bind_eq_bind, Option.bind_eq_some_iff] at hr | (obtain ⟨_, _, hr⟩ := hr))
    all_goals ((try cases hr); simp_all [AR.at, AOp.tk, strips])
  case ld tk agg sz p =>
    have hx := hs p (by simp [AOp.opds])
    rw [aex_ld] at hr ⊢
    rw [hx]
    unfold aexLd at hr ⊢
    repeat' (first | (cases hr; done) | split at hr | simp only [Option.bind_eq_some_iff] at hr | (obtain ⟨_, _, hr⟩ := hr))
    all_goals ((try cases hr); simp_all [AR.at, AOp.tk, strips])
  case bld z ps =>
    have e : ∀ p ∈ ps, (p.2.2).ev u = (p.2.2).ev t := fun p hp => hs _ (by simp only [AOp.opds, List.mem_map]; exact ⟨p, hp, rfl⟩)
    have e2 : (ps.map fun p => (p.1, p.2.1, (p.2.2.ev u).dis)) = ps.map fun p => (p.1, p.2.1, (p.2.2.ev t).dis) := List.map_congr_left fun p hp => by rw [e p hp]
    simp only [aex] at hr ⊢
    rw [e2]
    simp only [Option.bind_eq_bind, Option.bind_eq_some_iff] at hr ⊢
    obtain ⟨cs, q1, q2⟩ := hr
    cases q2
    exact ⟨rfl, cs, q1, rfl⟩
  case lit obj sz n z ps =>
    have e : ∀ p ∈ ps, (p.2).ev u = (p.2).ev t := fun p hp => hs _ (by simp only [AOp.opds, List.mem_map]; exact ⟨p, hp, rfl⟩)
    have e2 : (ps.map fun p => (p.1 * sz, sz, (p.2.ev u).dis)) = ps.map fun p => (p.1 * sz, sz, (p.2.ev t).dis) := List.map_congr_left fun p hp => by rw [e p hp]
    simp only [aex] at hr ⊢
    rw [e2]
    simp only [Option.bind_eq_bind, Option.bind_eq_some_iff] at hr ⊢
    obtain ⟨cs, q1, q2⟩ := hr
    repeat' (first | (cases q2; done) | split at q2)
    all_goals ((try cases q2); simp_all [AR.at, AOp.tk, strips])
  case blt b tys ty xs =>
    have e := map_ev (t := t) (u := u) (xs := xs) (fun x hx => hs x hx)
    simp only [aex] at hr ⊢
    rw [e]
    simp only [Option.bind_eq_bind, Option.bind_eq_some_iff] at hr ⊢
    obtain ⟨vs, q1, w, q2, q3⟩ := hr
    refine ⟨?_, vs, q1, w, q2, ?_⟩
    all_goals (repeat' (first | (cases q3; done) | split at q3)); all_goals ((try cases q3); simp_all [AR.at, AOp.tk, strips])
  case fnc f fs cs =>
    have e1 := map_ev (t := t) (u := u) (xs := fs) (fun x hx => hs x (by simp [AOp.opds, hx]))
    have e2 := map_ev (t := t) (u := u) (xs := cs) (fun x hx => hs x (by simp [AOp.opds, hx]))
    have d1 : (fs.map fun x => (x.ev u).dis) = fs.map fun x => (x.ev t).dis := List.map_congr_left fun x hx => by rw [hs x (by simp [AOp.opds, hx])]
    have d2 : (cs.map fun x => (x.ev u).dis) = cs.map fun x => (x.ev t).dis := List.map_congr_left fun x hx => by rw [hs x (by simp [AOp.opds, hx])]
    simp only [aex] at hr ⊢
    rw [d1, d2]
    cases hr
    exact ⟨rfl, rfl⟩
  case call k f xs =>
    have e := map_ev (t := t) (u := u) (xs := xs) (fun x hx => hs x hx)
    simp only [aex] at hr ⊢
    rw [e]
    split at hr
    · rename_i hc
      rw [if_pos hc]
      cases hr
      exact ⟨rfl, rfl⟩
    · cases hr
  case dyn k f xs =>
    have e := map_ev (t := t) (u := u) (xs := xs) (fun x hx => hs x (by simp [AOp.opds, hx]))
    have hf := hs f (by simp [AOp.opds])
    simp only [aex] at hr ⊢
    rw [e, hf]
    repeat' (first | (cases hr; done) | split at hr)
    all_goals ((try cases hr); simp_all [AR.at, AOp.tk, strips])
  case box x =>
    have hx := hs x (by simp [AOp.opds])
    simp only [aex] at hr ⊢
    rw [hx]
    split at hr
    · cases hr
    · rename_i hc
      rw [if_neg hc]
      cases hr
      exact ⟨rfl, rfl⟩
  case mov tk x =>
    have hx := hs x (by simp [AOp.opds])
    simp only [aex] at hr ⊢
    rw [hx]
    cases tk <;> (cases hr; exact ⟨rfl, rfl⟩)
  case st sz p x =>
    have hx := hs x (by simp [AOp.opds])
    have hp := hs p (by simp [AOp.opds])
    simp only [aex] at hr ⊢
    rw [hx, hp]
    cases hv : p.ev t with
    | op o c =>
      rw [hv] at hr
      simp only at hr ⊢
      cases hq : h o with
      | none => rw [hq] at hr; cases hr
      | some X =>
        rw [hq] at hr
        cases X with
        | map es => cases hr
        | arr cs =>
          simp only at hr ⊢
          split at hr
          · rename_i hc
            rw [if_pos hc]
            cases hr
            exact ⟨rfl, rfl⟩
          · cases hr
    | _ => rw [hv] at hr; cases hr
  case stg x =>
    have hx := hs x (by simp [AOp.opds])
    simp only [aex] at hr ⊢
    rw [hx]
    repeat' (first | (cases hr; done) | split at hr)
    all_goals ((try cases hr); simp_all [AR.at, AOp.tk, strips])
  case new z => simp only [aex] at hr ⊢; cases hr; exact ⟨rfl, rfl⟩
  case mkm => simp only [aex] at hr ⊢; cases hr; exact ⟨rfl, rfl⟩
  all_goals
    simp only [AOp.opds, List.mem_cons, List.not_mem_nil, or_false, forall_eq_or_imp, forall_eq] at hs
    simp only [aex] at hr ⊢
    try simp only [hs]
    repeat' (first | (cases hr; done) | split at hr | simp only [Option.bind_eq_bind, Option.bind_eq_some_iff] at hr | (obtain ⟨_, _, hr⟩ := hr))
    all_goals first | ((try cases hr); simp_all [AR.at, AOp.tk, strips]; done) | skip


def readsL (o : AOper) : List Nat := o.op.opds.flatMap Opd.slots ++ (match o.guard with | some (j, _) => [j] | none => [])
def writesL (o : AOper) : List Nat := o.dst.toList ++ o.op.tk.flatMap Opd.slots
def graftL (o : AOper) (u t' : Nat → AV) : Nat → AV := fun j => if j ∈ writesL o then t' j else u j
theorem tk_opds {op : AOp} {j : Nat} (h : j ∈ op.tk.flatMap Opd.slots) : j ∈ op.opds.flatMap Opd.slots := by
  cases op with
  | mov tk x => cases tk <;> simp [AOp.tk, AOp.opds] at h ⊢; exact h
  | dyn k f xs => simp only [AOp.tk, AOp.opds, List.flatMap_cons, List.mem_append] at h ⊢; exact .inr h
  | call k f xs => exact h
  | app a b c d x y => simp only [AOp.tk, AOp.opds, List.flatMap_cons, List.mem_append, List.flatMap_nil, List.append_nil] at h ⊢; exact .inl h
  | apz a b c d x y => simp only [AOp.tk, AOp.opds, List.flatMap_cons, List.mem_append, List.flatMap_nil, List.append_nil] at h ⊢; exact .inl h
  | st a x y => simp only [AOp.tk, AOp.opds, List.flatMap_cons, List.mem_append, List.flatMap_nil, List.append_nil] at h ⊢; exact .inr h
  | stg x => exact h
  | box x => exact h
  | _ => simp [AOp.tk] at h
theorem wantedL {o : AOper} {t u : Nat → AV} (h : ∀ j ∈ readsL o, u j = t j) : wantedA o u = wantedA o t := by
  unfold wantedA
  cases hg : o.guard with
  | none => rfl
  | some p =>
    obtain ⟨j, b⟩ := p
    have : u j = t j := h j (by simp [readsL, hg])
    simp only [this]
theorem evL {o : AOper} {t u : Nat → AV} (h : ∀ j ∈ readsL o, u j = t j) : ∀ x ∈ o.op.opds, x.ev u = x.ev t := fun x hx => ev_eq fun j hj => h j (by
  unfold readsL
  exact List.mem_append_left _ (List.mem_flatMap.2 ⟨x, hx, hj⟩))
theorem graft_put {o : AOper} {t u : Nat → AV} {v : AV} (hr : ∀ j ∈ readsL o, u j = t j) : putd (strips u o.op.tk) o.dst v = graftL o u (putd (strips t o.op.tk) o.dst v) := by
  funext j
  unfold graftL writesL
  by_cases hd : j ∈ o.dst.toList
  · rw [putd_dst hd, if_pos (List.mem_append_left _ hd), putd_dst hd]
  · rw [putd_other hd, strips_slot]
    by_cases hm : j ∈ o.op.tk.flatMap Opd.slots
    · rw [if_pos hm, if_pos (List.mem_append_right _ hm), putd_other hd, strips_slot, if_pos hm, hr j (by unfold readsL; exact List.mem_append_left _ (tk_opds hm))]
    · rw [if_neg hm, if_neg (by simp only [List.mem_append]; exact fun h => h.elim hd hm)]
theorem graft_undef {o : AOper} {t u : Nat → AV} {v : AV} (hr : ∀ j ∈ readsL o, u j = t j) : putd u o.dst v = graftL o u (putd t o.dst v) := by
  funext j
  unfold graftL writesL
  by_cases hd : j ∈ o.dst.toList
  · rw [putd_dst hd, if_pos (List.mem_append_left _ hd), putd_dst hd]
  · rw [putd_other hd]
    by_cases hm : j ∈ o.op.tk.flatMap Opd.slots
    · rw [if_pos (List.mem_append_right _ hm), putd_other hd, hr j (by unfold readsL; exact List.mem_append_left _ (tk_opds hm))]
    · rw [if_neg (by simp only [List.mem_append]; exact fun h => h.elim hd hm)]
theorem put_frame {o : AOper} {t : Nat → AV} {v : AV} {j : Nat} (hj : j ∉ writesL o) : putd (strips t o.op.tk) o.dst v j = t j := by
  unfold writesL at hj
  simp only [List.mem_append, not_or] at hj
  rw [putd_other hj.1, strips_slot, if_neg hj.2]
theorem undef_frame {o : AOper} {t : Nat → AV} {v : AV} {j : Nat} (hj : j ∉ writesL o) : putd t o.dst v j = t j := by
  unfold writesL at hj
  simp only [List.mem_append, not_or] at hj
  rw [putd_other hj.1]

theorem AW1.loc {o : AOper} {t u : Nat → AV} {h : Heap} {R : St → Prop} (H : AW1 P ann o ⟨t, h⟩ R) (hr : ∀ j ∈ readsL o, u j = t j) :
    AW1 P ann o ⟨u, h⟩ fun s' => R ⟨graftL o t s'.t, s'.h⟩ ∧ ∀ j, j ∉ writesL o → s'.t j = u j := by
  have hr' : ∀ j ∈ readsL o, t j = u j := fun j hj => (hr j hj).symm
  have hw := wantedL hr
  cases H with
  | pass h1 h2 => exact .pass (hw.trans h1) ⟨by show R ⟨graftL o t (putd u o.dst .undef), h⟩; rw [← graft_undef hr']; exact h2, fun j hj => undef_frame hj⟩
  | val h1 h2 h3 =>
    obtain ⟨e1, e2⟩ := aex_move (evL hr) h2
    cases e1
    exact .val (hw.trans h1) e2 ⟨by show R ⟨graftL o t (putd (strips u o.op.tk) o.dst _), _⟩; rw [← graft_put hr']; exact h3, fun j hj => put_frame hj⟩
  | new h1 h2 h3 =>
    obtain ⟨e1, e2⟩ := aex_move (evL hr) h2
    cases e1
    exact .new (hw.trans h1) e2 fun b hb => ⟨by show R ⟨graftL o t (putd (strips u o.op.tk) o.dst _), _⟩; rw [← graft_put hr']; exact h3 b hb, fun j hj => put_frame hj⟩
  | newc h1 h2 h3 =>
    obtain ⟨e1, e2⟩ := aex_move (evL hr) h2
    cases e1
    exact .newc (hw.trans h1) e2 fun b c hb hc => ⟨by show R ⟨graftL o t (putd (strips u o.op.tk) o.dst _), _⟩; rw [← graft_put hr']; exact h3 b c hb hc, fun j hj => put_frame hj⟩
  | call R0 h1 h2 h3 h4 =>
    obtain ⟨e1, e2⟩ := aex_move (evL hr) h2
    cases e1
    exact .call R0 (hw.trans h1) e2 h3 fun v h' hq => ⟨by show R ⟨graftL o t (putd (strips u o.op.tk) o.dst _), _⟩; rw [← graft_put hr']; exact h4 v h' hq, fun j hj => put_frame hj⟩



def AOp.flatL : AOp → Bool
  | .b2s _ | .app .. | .lkp .. | .len 2 _ | .call .. => false
  | .slp .. | .fnc .. | .cap .. | .mks false .. | .apz false .. => true
  | op => op.soft && op.clsX == 0
def AOp.loadL : AOp → Bool
  | .ld false .. => true
  | _ => false
def AOp.calm (op : AOp) : Bool := op.flatL || op.loadL

def AOp.ptrL : AOp → Option Nat
  | .ld false _ _ (.t e) => some e
  | _ => none

def stab (U : List Nat) (s s' : St) : Prop := ∀ e ∈ U, ∀ o, asO (s.t e) = some o → s'.h o = s.h o
def EVL (P : Program) (op : AOp) (t : Nat → AV) (h : Heap) (v : AV) : Prop :=
  (op.flatL = true ∧ ∀ h', aex P op ⟨t, h'⟩ = some (.val v (strips t op.tk) h')) ∨ (op.loadL = true ∧ aex P op ⟨t, h⟩ = some (.val v (strips t op.tk) h))
def EX (P : Program) (o : AOper) (t : Nat → AV) (h : Heap) (t1 : Nat → AV) : Prop :=
  (wantedA o t = false ∧ t1 = putd t o.dst .undef) ∨ (wantedA o t = true ∧ ∃ v, EVL P o.op t h v ∧ t1 = putd (strips t o.op.tk) o.dst v)
def D1 (P : Program) (ann : Ann) (x : AOper × List Nat) (s : St) (K : St → Prop) : Prop :=
  if x.1.op.calm || !wantedA x.1 s.t then ∃ t1, EX P x.1 s.t s.h t1 ∧ K ⟨t1, s.h⟩ else AW1 P ann x.1 s fun s' => stab x.2 s s' ∧ K s'
theorem EX.frame {o : AOper} {t t1 : Nat → AV} {h : Heap} (H : EX P o t h t1) {j : Nat} (hj : j ∉ writesL o) : t1 j = t j := by
  rcases H with ⟨_, rfl⟩ | ⟨_, v, _, rfl⟩
  · exact undef_frame hj
  · exact put_frame hj
theorem EX.loc {o : AOper} {t t1 u : Nat → AV} {h h' : Heap} (H : EX P o t h t1) (hr : ∀ j ∈ readsL o, u j = t j) (hl : o.op.loadL = true → ∀ e, o.op.ptrL = some e → ∀ ob, asO (t e) = some ob → h' ob = h ob) (hp : o.op.loadL = true → h' = h ∨ o.op.ptrL.isSome = true) :
    EX P o u h' (graftL o u t1) := by
  have hw := wantedL hr
  rcases H with ⟨h1, rfl⟩ | ⟨h1, v, h2, rfl⟩
  · exact .inl ⟨hw.trans h1, (graft_undef hr).symm⟩
  · refine .inr ⟨hw.trans h1, v, ?_, (graft_put hr).symm⟩
    rcases h2 with ⟨a, b⟩ | ⟨a, b⟩
    · exact .inl ⟨a, fun h'' => (aex_move (evL hr) (b h'')).2⟩
    · refine .inr ⟨a, ?_⟩
      have b' := (aex_move (evL hr) b).2
      cases hop : o.op with
      | ld tk agg sz p =>
        rw [hop] at a b'
        cases tk with
        | true => cases a
        | false =>
          rcases hp (by rw [hop]; rfl) with rfl | hs
          · exact b'
          · cases p with
            | c v => rw [hop] at hs; cases hs
            | t e =>
              have hl' := hl (by rw [hop]; rfl) e (by rw [hop]; rfl)
              have : u e = t e := hr e (by unfold readsL; rw [hop]; simp [AOp.opds, Opd.slots])
              exact ld_heap (h := h) b' fun ob ho => hl' ob (by rw [← this]; exact ho)
      | _ => rw [hop] at a; cases a

theorem AW1.mono'' {o : AOper} {s : St} {Q R : St → Prop} (hq : ∀ s, Q s → R s) (h : AW1 P ann o s Q) : AW1 P ann o s R := by
  cases h with
  | pass h1 h2 => exact .pass h1 (hq _ h2)
  | val h1 h2 h3 => exact .val h1 h2 (hq _ h3)
  | new h1 h2 h3 => exact .new h1 h2 fun b hb => hq _ (h3 b hb)
  | newc h1 h2 h3 => exact .newc h1 h2 fun b c hb hc => hq _ (h3 b c hb hc)
  | call R' h1 h2 h3 h4 => exact .call R' h1 h2 h3 fun v h hv => hq _ (h4 v h hv)

def AOp.freshL : AOp → Bool
  | .new _ => true
  | _ => false
theorem fresh_new {op : AOp} (h : op.freshL = true) : ∃ z, op = .new z := by cases op <;> first | exact ⟨_, rfl⟩ | (cases h; done)
theorem AW1.new_inv {o : AOper} {z : List AV} {t : Nat → AV} {h : Heap} {R : St → Prop} (ho : o.op = .new z) (hw : wantedA o t = true) (H : AW1 P ann o ⟨t, h⟩ R) : ∀ b, h b = none → R ⟨putd t o.dst (.op b 0), upd h b (some (.arr z))⟩ := by
  cases H with
  | pass h1 _ => rw [hw] at h1; cases h1
  | val _ h2 _ => rw [ho] at h2; cases h2
  | new _ h2 h3 => rw [ho] at h2; cases h2; exact h3
  | newc _ h2 _ => rw [ho] at h2; cases h2
  | call _ _ h2 _ _ => rw [ho] at h2; cases h2
theorem AW1.new_mk {o : AOper} {z : List AV} {t : Nat → AV} {h : Heap} {R : St → Prop} (ho : o.op = .new z) (hw : wantedA o t = true) (H : ∀ b, h b = none → R ⟨putd t o.dst (.op b 0), upd h b (some (.arr z))⟩) : AW1 P ann o ⟨t, h⟩ R :=
  .new (k := fun b => .op b 0) (ob := .arr z) (t := t) hw (by rw [ho]; rfl) H
theorem ld_live {op : AOp} {t : Nat → AV} {h : Heap} {v : AV} {T : Nat → AV} {h2 : Heap} (hl : op.loadL = true) (ha : aex P op ⟨t, h⟩ = some (.val v T h2)) {e ob : Nat} (hp : op.ptrL = some e) (ho : asO (t e) = some ob) : h ob ≠ none := by
  cases op with
  | ld tk agg sz p =>
    cases tk with
    | true => cases hl
    | false =>
      cases p with
      | c v => cases hp
      | t n =>
        simp only [AOp.ptrL, Option.some.injEq] at hp
        subst hp
        intro hn
        simp only [aex, Opd.ev] at ha
        cases hq : t n with
        | op o c =>
          rw [hq] at ho ha
          simp only [asO, Option.some.injEq] at ho
          subst ho
          simp [hn] at ha
        | _ => rw [hq] at ho; simp [asO] at ho
  | _ => cases hl
def fitL (x y : AOper × List Nat) : Bool :=
  apart (writesL x.1) (readsL y.1 ++ writesL y.1) && apart (writesL y.1) (readsL x.1 ++ writesL x.1) &&
    ((x.1.op.calm && (!x.1.op.loadL || y.1.op.calm || (match x.1.op.ptrL with | some e => !(writesL x.1).contains e && (y.1.op.freshL || y.2.contains e) | none => false))) || (x.1.op.freshL && y.1.op.freshL && x.2.isEmpty && y.2.isEmpty))
theorem swapL {x y : AOper × List Nat} (hfit : fitL x y = true) {s : St} {K : St → Prop} (hd : D1 P ann x s fun s' => D1 P ann y s' K) :
    D1 P ann (y.1, y.2.filter fun e => !(writesL x.1).contains e) s fun s' => D1 P ann x s' K := by
  unfold fitL at hfit
  simp only [Bool.and_eq_true] at hfit
  obtain ⟨⟨d1, d2⟩, d3⟩ := hfit
  obtain ⟨t, h⟩ := s
  have rx : ∀ {j}, j ∈ readsL x.1 → j ∉ writesL y.1 := fun hj hw => apart_spec d2 hw (List.mem_append_left _ hj)
  have ry : ∀ {j}, j ∈ readsL y.1 → j ∉ writesL x.1 := fun hj hw => apart_spec d1 hw (List.mem_append_left _ hj)
  have ww : ∀ {j}, j ∈ writesL x.1 → j ∉ writesL y.1 := fun hj hw => apart_spec d1 hj (List.mem_append_right _ hw)
  by_cases c0 : (x.1.op.calm || !wantedA x.1 t) = true
  · unfold D1 at hd
    rw [if_pos c0] at hd
    obtain ⟨t1, q1, hd⟩ := hd
    have q1 : EX P x.1 t h t1 := q1
    have a1 : ∀ j ∈ readsL y.1, t1 j = t j := fun j hj => q1.frame (ry hj)
    have wy : wantedA y.1 t1 = wantedA y.1 t := wantedL a1
    have wx : ∀ {u : Nat → AV}, (∀ j, j ∉ writesL y.1 → u j = t j) → wantedA x.1 u = wantedA x.1 t := fun hu => wantedL fun j hj => hu j (rx hj)
    unfold D1
    simp only at hd ⊢
    by_cases cy : (y.1.op.calm || !wantedA y.1 t) = true
    · rw [wy, if_pos cy] at hd
      rw [if_pos cy]
      obtain ⟨t2, q2, hk⟩ := hd
      have q2 : EX P y.1 t1 h t2 := q2
      have q2' := q2.loc (u := t) (h' := h) (fun j hj => (a1 j hj).symm) (fun _ _ _ _ _ => rfl) (fun _ => .inl rfl)
      refine ⟨_, q2', ?_⟩
      have hg : ∀ j, j ∉ writesL y.1 → graftL y.1 t t2 j = t j := fun j hj => by unfold graftL; rw [if_neg hj]
      rw [wx hg, if_pos c0]
      refine ⟨_, q1.loc (u := graftL y.1 t t2) (h' := h) (fun j hj => hg j (rx hj)) (fun _ _ _ _ _ => rfl) (fun _ => .inl rfl), ?_⟩
      have hs : graftL x.1 (graftL y.1 t t2) t1 = t2 := by
        funext j
        unfold graftL
        by_cases hj : j ∈ writesL x.1
        · rw [if_pos hj, q2.frame (ww hj)]
        · rw [if_neg hj]
          by_cases hj2 : j ∈ writesL y.1
          · rw [if_pos hj2]
          · rw [if_neg hj2, q2.frame hj2, q1.frame hj]
      rw [hs]
      exact hk
    · rw [wy, if_neg cy] at hd
      rw [if_neg cy]
      simp only [Bool.or_eq_true, Bool.not_eq_true', not_or, Bool.not_eq_true, Bool.not_eq_false] at cy
      have hd' := AW1.loc (u := t) hd fun j hj => (a1 j hj).symm
      have fin : ∀ t' h', (∀ j, j ∉ writesL y.1 → t' j = t j) → stab y.2 ⟨t1, h⟩ ⟨graftL y.1 t1 t', h'⟩ → K ⟨graftL y.1 t1 t', h'⟩ →
          (y.1.op.freshL = true → ∀ ob, h ob ≠ none → h' ob = h ob) →
          stab (y.2.filter fun e => !(writesL x.1).contains e) ⟨t, h⟩ ⟨t', h'⟩ ∧ (if (x.1.op.calm || !wantedA x.1 t') = true then ∃ t1, EX P x.1 t' h' t1 ∧ K ⟨t1, h'⟩ else AW1 P ann x.1 ⟨t', h'⟩ fun s' => stab x.2 ⟨t', h'⟩ s' ∧ K s') := by
        intro t' h' hfr hs hk hfresh
        refine ⟨fun e he o ho => ?_, ?_⟩
        · obtain ⟨he1, he2⟩ := List.mem_filter.1 he
          refine hs e he1 o ?_
          show asO (t1 e) = _
          rw [q1.frame (by simpa using he2)]
          exact ho
        rw [wx hfr, if_pos c0]
        have d3' : x.1.op.calm = true → x.1.op.loadL = true → ∃ e, x.1.op.ptrL = some e ∧ e ∉ writesL x.1 ∧ (y.1.op.freshL = true ∨ e ∈ y.2) := fun hc hl => by
          simp only [Bool.or_eq_true, Bool.and_eq_true, Bool.not_eq_true'] at d3
          rcases d3 with ⟨_, (h | h) | h⟩ | ⟨h, _⟩
          · rw [hl] at h; cases h
          · rw [cy.1] at h; cases h
          · cases hp : x.1.op.ptrL with
            | none => rw [hp] at h; cases h
            | some e =>
              rw [hp] at h
              simp only [Bool.and_eq_true, Bool.not_eq_true', Bool.or_eq_true] at h
              exact ⟨e, rfl, by simpa using h.1, h.2.imp_right fun h => by simpa using h⟩
          · obtain ⟨z, hz⟩ := fresh_new h.1.1
            rw [hz] at hl
            cases hl
        have calmL : x.1.op.loadL = true → x.1.op.calm = true := fun hl => by simp [AOp.calm, hl]
        have lv : x.1.op.loadL = true → ∀ e, x.1.op.ptrL = some e → ∀ ob, asO (t e) = some ob → wantedA x.1 t = true → h ob ≠ none := by
          intro hl e hp ob ho hw
          rcases q1 with ⟨h1, _⟩ | ⟨_, v, h2, _⟩
          · rw [hw] at h1; cases h1
          · rcases h2 with ⟨_, h2⟩ | ⟨_, h2⟩
            · exact ld_live hl (h2 h) hp ho
            · exact ld_live hl h2 hp ho
        by_cases hwx : wantedA x.1 t = true
        · refine ⟨_, q1.loc (u := t') (h' := h') (fun j hj => hfr j (rx hj)) (fun hl e he ob ho => ?_) (fun hl => ?_), ?_⟩
          · obtain ⟨e', h1, h2, h3⟩ := d3' (calmL hl) hl
            rw [he] at h1
            cases h1
            rcases h3 with h3 | h3
            · exact hfresh h3 ob (lv hl e he ob ho hwx)
            · refine hs e h3 ob ?_
              show asO (t1 e) = _
              rw [q1.frame h2]
              exact ho
          · obtain ⟨e', h1, _⟩ := d3' (calmL hl) hl
            rw [h1]
            exact .inr rfl
          · have : graftL x.1 t' t1 = graftL y.1 t1 t' := by
              funext j
              unfold graftL
              by_cases hj : j ∈ writesL x.1
              · rw [if_pos hj, if_neg (ww hj)]
              · rw [if_neg hj]
                by_cases hj2 : j ∈ writesL y.1
                · rw [if_pos hj2]
                · rw [if_neg hj2, hfr j hj2, q1.frame hj]
            rw [this]
            exact hk
        · have hwx : wantedA x.1 t = false := by simpa using hwx
          have e1 : t1 = putd t x.1.dst .undef := by
            rcases q1 with ⟨_, h2⟩ | ⟨h1, _⟩
            · exact h2
            · rw [hwx] at h1; cases h1
          refine ⟨putd t' x.1.dst .undef, .inl ⟨(wx hfr).trans hwx, rfl⟩, ?_⟩
          have : putd t' x.1.dst .undef = graftL y.1 t1 t' := by
            rw [e1]
            funext j
            unfold graftL
            by_cases hj : j ∈ writesL x.1
            · rw [if_neg (ww hj)]
              by_cases hj3 : j ∈ x.1.dst.toList
              · rw [putd_dst hj3, putd_dst hj3]
              · rw [putd_other hj3, putd_other hj3, hfr j (ww hj)]
            · have hj3 : j ∉ x.1.dst.toList := fun h => hj (List.mem_append_left _ h)
              rw [putd_other hj3, putd_other hj3]
              by_cases hj2 : j ∈ writesL y.1
              · rw [if_pos hj2]
              · rw [if_neg hj2, hfr j hj2]
          rw [this]
          exact hk
      by_cases hfy : y.1.op.freshL = true
      · obtain ⟨z, hz⟩ := fresh_new hfy
        have hin := AW1.new_inv hz cy.2 hd'
        refine AW1.new_mk hz cy.2 fun b hb => ?_
        obtain ⟨⟨hs, hk⟩, hfr⟩ := hin b hb
        refine fin _ _ hfr hs hk fun _ ob hob => ?_
        have : ob ≠ b := fun e => hob (by rw [e]; exact hb)
        exact upd_ne _ _ this
      · refine AW1.mono'' ?_ hd'
        rintro ⟨t', h'⟩ ⟨⟨hs, hk⟩, hfr⟩
        exact fin t' h' hfr hs hk fun h => absurd h hfy
  ·
    have c0' : x.1.op.calm = false ∧ wantedA x.1 t = true := by simpa using c0
    obtain ⟨fx, fy, ex, ey⟩ : x.1.op.freshL = true ∧ y.1.op.freshL = true ∧ x.2 = [] ∧ y.2 = [] := by
      simp only [Bool.or_eq_true, Bool.and_eq_true, List.isEmpty_iff] at d3
      rcases d3 with ⟨h, _⟩ | ⟨⟨⟨h1, h2⟩, h3⟩, h4⟩
      · rw [c0'.1] at h; cases h
      · exact ⟨h1, h2, h3, h4⟩
    obtain ⟨zx, hzx⟩ := fresh_new fx
    obtain ⟨zy, hzy⟩ := fresh_new fy
    have cyf : y.1.op.calm = false := by rw [hzy]; rfl
    unfold D1 at hd
    rw [if_neg c0] at hd
    have hin := AW1.new_inv hzx c0'.2 hd
    have fr : ∀ b j, j ∈ readsL y.1 → putd t x.1.dst (.op b 0) j = t j := fun b j hj => undef_frame (ry hj)
    have st0 : ∀ {s s' : St}, stab x.2 s s' := fun {s s'} => by rw [ex]; intro e he; cases he
    unfold D1
    simp only at hin ⊢
    have sw : ∀ b v w, putd (putd t y.1.dst w) x.1.dst (.op b v) = putd (putd t x.1.dst (.op b v)) y.1.dst w := by
      intro b v w
      funext j
      by_cases hj : j ∈ x.1.dst.toList
      · have : j ∉ y.1.dst.toList := fun h => ww (List.mem_append_left _ hj) (List.mem_append_left _ h)
        rw [putd_dst hj, putd_other this, putd_dst hj]
      · rw [putd_other hj]
        by_cases hj2 : j ∈ y.1.dst.toList
        · rw [putd_dst hj2, putd_dst hj2]
        · rw [putd_other hj2, putd_other hj2, putd_other hj]
    have wx : ∀ w, wantedA x.1 (putd t y.1.dst w) = true := fun w => (wantedL fun j hj => undef_frame (rx hj)).trans c0'.2
    have wyb : ∀ b, wantedA y.1 (putd t x.1.dst (.op b 0)) = wantedA y.1 t := fun b => wantedL (fr b)
    cases hwy : wantedA y.1 t with
    | false =>
      rw [if_pos (by simp)]
      refine ⟨putd t y.1.dst .undef, .inl ⟨hwy, rfl⟩, ?_⟩
      rw [if_neg (by rw [c0'.1, wx]; simp)]
      refine AW1.new_mk hzx (wx _) fun b hb => ⟨st0, ?_⟩
      have h2 := (hin b hb).2
      rw [if_pos (by rw [wyb, hwy]; simp)] at h2
      obtain ⟨t2, q2, hk⟩ := h2
      rcases q2 with ⟨_, rfl⟩ | ⟨h1, _⟩
      · rw [sw]; exact hk
      · rw [wyb, hwy] at h1; cases h1
    | true =>
      rw [if_neg (by rw [cyf]; simp)]
      refine AW1.new_mk hzy hwy fun b hb => ⟨(by rw [ey]; intro e he; cases he), ?_⟩
      rw [if_neg (by rw [c0'.1, wx]; simp)]
      refine AW1.new_mk hzx (wx _) fun c hc => ⟨st0, ?_⟩
      have hcb : c ≠ b := by
        intro e
        rw [e, upd_same] at hc
        cases hc
      rw [upd_ne _ _ hcb] at hc
      have h2 := (hin c hc).2
      rw [if_neg (by rw [wyb, hwy, cyf]; simp)] at h2
      have h3 := (AW1.new_inv hzy ((wyb c).trans hwy) h2 b (by rw [upd_ne _ _ hcb.symm]; exact hb)).2
      rw [sw, upd_comm hcb.symm]
      exact h3

def QLs (P : Program) (ann : Ann) : List (AOper × List Nat) → St → (St → Prop) → Prop
  | [], s, K => K s
  | x :: r, s, K => D1 P ann x s fun s' => QLs P ann r s' K
theorem D1.mono {x : AOper × List Nat} {s : St} {K K' : St → Prop} (hq : ∀ s, K s → K' s) (hd : D1 P ann x s K) : D1 P ann x s K' := by
  unfold D1 at hd ⊢
  split at hd
  · rename_i hc
    rw [if_pos hc]
    obtain ⟨t1, h1, h2⟩ := hd
    exact ⟨t1, h1, hq _ h2⟩
  · rename_i hc
    rw [if_neg hc]
    exact AW1.mono'' (fun s ⟨a, b⟩ => ⟨a, hq _ b⟩) hd
theorem D1.less {o : AOper} {U V : List Nat} {s : St} {K : St → Prop} (hU : ∀ e ∈ V, e ∈ U) (hd : D1 P ann (o, U) s K) : D1 P ann (o, V) s K := by
  unfold D1 at hd ⊢
  simp only at hd ⊢
  split at hd
  · rename_i hc
    rw [if_pos hc]
    exact hd
  · rename_i hc
    rw [if_neg hc]
    exact AW1.mono'' (fun s ⟨a, b⟩ => ⟨fun e he => a e (hU e he), b⟩) hd
theorem D1.aw1 {x : AOper × List Nat} {s : St} {K : St → Prop} (hd : D1 P ann x s K) : AW1 P ann x.1 s K := by
  obtain ⟨t, h⟩ := s
  unfold D1 at hd
  split at hd
  · obtain ⟨t1, h1 | ⟨h1, v, h2, h3⟩, hk⟩ := hd
    · obtain ⟨h1, rfl⟩ := h1
      exact .pass h1 hk
    · subst h3
      rcases h2 with ⟨_, h2⟩ | ⟨_, h2⟩
      · exact .val h1 (h2 h) hk
      · exact .val h1 h2 hk
  · exact AW1.mono'' (fun s ⟨_, b⟩ => b) hd

def freeL (x y : AOper × List Nat) : Bool := match x.1.op.ptrL with
  | some e => !(writesL y.1).contains e
  | none => true
theorem fitL_sub {x y : AOper × List Nat} {U : List Nat} (h : fitL x y = true) (hU : ∀ e, x.1.op.ptrL = some e → e ∈ y.2 → e ∈ U) (hE : y.2 = [] → U = []) : fitL x (y.1, U) = true := by
  unfold fitL at h ⊢
  simp only [Bool.and_eq_true, Bool.or_eq_true] at h ⊢
  obtain ⟨h1, h2⟩ := h
  refine ⟨h1, ?_⟩
  rcases h2 with ⟨a, b⟩ | ⟨⟨a, b⟩, c⟩
  · refine .inl ⟨a, ?_⟩
    rcases b with b | b
    · exact .inl b
    · refine .inr ?_
      cases hp : x.1.op.ptrL with
      | none => rw [hp] at b; cases b
      | some e =>
        rw [hp] at b
        simp only [Bool.and_eq_true, Bool.or_eq_true] at b ⊢
        exact ⟨b.1, b.2.imp_right fun q => by have := hU e hp (by simpa using q); simpa using this⟩
  · exact .inr ⟨⟨a, b⟩, by rw [hE (by simpa using c)]; rfl⟩
theorem frontL : ∀ (A : List (AOper × List Nat)) (x : AOper × List Nat) (B : List (AOper × List Nat)) (s : St) (K : St → Prop), (∀ y ∈ A, fitL y x = true) → A.Pairwise (fun a b => freeL a b = true) → QLs P ann (A ++ x :: B) s K →
    ∃ U, (∀ e ∈ x.2, (∀ a ∈ A, e ∉ writesL a.1) → e ∈ U) ∧ (x.2 = [] → U = []) ∧ D1 P ann (x.1, U) s fun s' => QLs P ann (A ++ B) s' K
  | [], x, B, s, K, _, _, h => ⟨x.2, fun e he _ => he, id, h⟩
  | y :: A, x, B, s, K, hA, hp, h => by
    have h1 : D1 P ann y s fun s' => QLs P ann (A ++ x :: B) s' K := h
    obtain ⟨hp1, hp2⟩ := List.pairwise_cons.1 hp
    let U0 := x.2.filter fun e => A.all fun a => !(writesL a.1).contains e
    have hfy := hA y (by simp)
    have h2 : D1 P ann y s fun s' => D1 P ann (x.1, U0) s' fun s2 => QLs P ann (A ++ B) s2 K := h1.mono fun s' q => by
      obtain ⟨U, u1, u2, u3⟩ := frontL A x B s' K (fun z hz => hA z (by simp [hz])) hp2 q
      refine D1.less ?_ u3
      intro e he
      obtain ⟨e1, e2⟩ := List.mem_filter.1 he
      exact u1 e e1 fun a ha => by
        have := List.all_eq_true.1 e2 a ha
        simpa using this
    have hf2 : fitL y (x.1, U0) = true := fitL_sub hfy (fun e he hx => List.mem_filter.2 ⟨hx, List.all_eq_true.2 fun a ha => by
      have := hp1 a ha
      unfold freeL at this
      rw [he] at this
      exact this⟩) (fun hx => by show x.2.filter _ = []; rw [hx]; rfl)
    refine ⟨_, ?_, ?_, swapL hf2 h2⟩
    · intro e he ha
      refine List.mem_filter.2 ⟨List.mem_filter.2 ⟨he, List.all_eq_true.2 fun a hm => by simpa using ha a (by simp [hm])⟩, by simpa using ha y (by simp)⟩
    · intro hx
      show (x.2.filter _).filter _ = []
      rw [hx]
      rfl
def pickL (ops : List AOper) (ready : List Nat) : Option Nat :=
  (ready.find? fun i => match ops[i]? with | some o => o.op.calm | none => false).orElse fun _ => ready.head?

def orderL (ops : List AOper) (pre : List (List Nat)) : Nat → List Nat → List Nat
  | 0, acc => acc
  | fuel + 1, acc => match pickL ops ((List.range ops.length).filter fun i => !acc.contains i && (pre.getD i []).all acc.contains) with
    | some i => orderL ops pre fuel (acc ++ [i])
    | none => acc
def itemL (ops : List AOper) (tab : List Nat) (i : Nat) : Option (AOper × List Nat) :=
  (ops[i]?).map fun o => (o, if o.op.calm || o.op.freshL then [] else (List.range ops.length).filterMap fun k =>
    if k == i || (tab.getD i 0).testBit k || (tab.getD k 0).testBit i then none else (ops[k]?).bind fun o' => o'.op.ptrL)
def checkL (ops : List AOper) (pre : List (List Nat)) (tab : List Nat) : List Nat → List Nat → Bool
  | _, [] => true
  | done, i :: r => decide (i < ops.length) && !done.contains i && (pre.getD i []).all done.contains &&
    (match itemL ops tab i with
      | some x => r.all (fun k => match itemL ops tab k with | some y => freeL x y && ((tab.getD k 0).testBit i || fitL x y) | none => false)
      | none => false) && checkL ops pre tab (done ++ [i]) r

def lineL (ops : List AOper) (pre : List (List Nat)) : Option (List (AOper × List Nat)) :=
  let tab := ancTab pre
  let ord := orderL ops pre ops.length []
  if checkL ops pre tab [] ord && (List.range ops.length).all ord.contains then some (ord.filterMap (itemL ops tab)) else none
def fitsL (ops : List AOper) (tab : List Nat) (i k : Nat) : Prop := ∃ x y, itemL ops tab i = some x ∧ itemL ops tab k = some y ∧ freeL x y = true ∧ ((tab.getD k 0).testBit i = true ∨ fitL x y = true)
theorem checkL_spec {ops : List AOper} {pre : List (List Nat)} {tab : List Nat} : ∀ (ord don : List Nat), checkL ops pre tab don ord = true →
    (∀ i ∈ ord, i < ops.length ∧ i ∉ don ∧ ∃ x, itemL ops tab i = some x) ∧ ord.Nodup ∧ ord.Pairwise (fun i k => fitsL ops tab i k) ∧
      ∀ A i B, ord = A ++ i :: B → ∀ j ∈ pre.getD i [], j ∈ don ∨ j ∈ A
  | [], don, _ => ⟨fun i h => (by cases h), List.nodup_nil, List.Pairwise.nil, fun A i B h => by simp at h⟩
  | i :: r, don, h => by
    simp only [checkL, Bool.and_eq_true, decide_eq_true_eq, Bool.not_eq_true', List.all_eq_true] at h
    obtain ⟨⟨⟨⟨h1, h2⟩, h3⟩, h4⟩, h5⟩ := h
    obtain ⟨g1, g2, g3, g4⟩ := checkL_spec r (don ++ [i]) h5
    have hnd : i ∉ don := by simpa using h2
    cases hx : itemL ops tab i with
    | none => rw [hx] at h4; cases h4
    | some x =>
      rw [hx] at h4
      simp only [List.all_eq_true] at h4
      refine ⟨?_, ?_, ?_, ?_⟩
      · intro k hk
        rcases List.mem_cons.1 hk with rfl | hk
        · exact ⟨h1, hnd, x, hx⟩
        · obtain ⟨q1, q2, q3⟩ := g1 k hk
          exact ⟨q1, fun h => q2 (List.mem_append_left _ h), q3⟩
      · exact List.nodup_cons.2 ⟨fun h => (g1 i h).2.1 (by simp), g2⟩
      · refine List.pairwise_cons.2 ⟨fun k hk => ?_, g3⟩
        have h := h4 k hk
        cases hy : itemL ops tab k with
        | none => rw [hy] at h; cases h
        | some y =>
          rw [hy] at h
          simp only [Bool.and_eq_true, Bool.or_eq_true] at h
          exact ⟨x, y, hx, hy, h⟩
      · intro A k B he j hj
        cases A with
        | nil =>
          simp only [List.nil_append, List.cons.injEq] at he
          obtain ⟨rfl, _⟩ := he
          exact .inl (by simpa using h3 j hj)
        | cons a A =>
          simp only [List.cons_append, List.cons.injEq] at he
          obtain ⟨rfl, he⟩ := he
          rcases g4 A k B he j hj with h | h
          · rcases List.mem_append.1 h with h | h
            · exact .inl h
            · simp at h; subst h; exact .inr (by simp)
          · exact .inr (by simp [h])
theorem AWD_auxL {ops : List AOper} {pre : List (List Nat)} {ord : List Nat} (hall : ∀ i, i < ops.length → i ∈ ord) (c1 : ∀ i ∈ ord, i < ops.length ∧ ∃ x, itemL ops (ancTab pre) i = some x) (c2 : ord.Nodup)
    (c3 : ord.Pairwise (fun i k => fitsL ops (ancTab pre) i k)) (c4 : ∀ A i B, ord = A ++ i :: B → ∀ j ∈ pre.getD i [], j ∈ A) {Q : St → Prop} :
    ∀ (n : Nat) (l : Nat → Bool) (s : St), (ord.filter fun i => !l i).length = n → Down pre l → QLs P ann ((ord.filter fun i => !l i).filterMap (itemL ops (ancTab pre))) s Q → AWD P ann ops pre l s Q := by
  intro n
  induction n with
  | zero =>
    intro l s hn hl hq
    have he : (ord.filter fun i => !l i) = [] := List.eq_nil_of_length_eq_zero hn
    rw [he] at hq
    refine .mk (fun _ _ => True) (fun _ => hq) (fun i o hr _ => ?_) (fun i s' hr _ => ?_)
    all_goals
      have : i ∈ ord.filter fun i => !l i := List.mem_filter.2 ⟨hall i hr.1, by rw [hr.2.1]; rfl⟩
      rw [he] at this
      cases this
  | succ n ih =>
    intro l s hn hl hq
    have hdown : ∀ i, readyA pre ops.length l i → Down pre (upd l i true) := by
      intro i hr k hk j hj
      unfold upd at hk ⊢
      split
      · rfl
      · split at hk
        · rename_i e
          subst e
          exact hr.2.2 j hj
        · exact hl k hk j hj
    have hflt : ∀ i A B, ord = A ++ i :: B → l i = false → (ord.filter fun k => !l k) = (A.filter fun k => !l k) ++ i :: (B.filter fun k => !l k) ∧ (ord.filter fun k => !(upd l i true) k) = (A.filter fun k => !l k) ++ (B.filter fun k => !l k) := by
      intro i A B he hli
      have hnd := c2
      rw [he] at hnd
      have hnA : ∀ k ∈ A, k ≠ i := by
        intro k hk e
        subst e
        have := List.nodup_append.1 hnd
        exact this.2.2 k hk k (by simp) rfl
      have hnB : ∀ k ∈ B, k ≠ i := by
        intro k hk e
        subst e
        have := (List.nodup_append.1 hnd).2.1
        exact (List.nodup_cons.1 this).1 hk
      have eA : (A.filter fun k => !(upd l i true) k) = A.filter fun k => !l k := List.filter_congr fun k hk => by rw [upd_ne _ _ (hnA k hk)]
      have eB : (B.filter fun k => !(upd l i true) k) = B.filter fun k => !l k := List.filter_congr fun k hk => by rw [upd_ne _ _ (hnB k hk)]
      rw [he, List.filter_append, List.filter_append, List.filter_cons_of_pos (by simp [hli]), List.filter_cons_of_neg (by simp [upd_same]), eA, eB]
      exact ⟨rfl, rfl⟩
    refine .mk (fun i s' => QLs P ann ((ord.filter fun k => !(upd l i true) k).filterMap (itemL ops (ancTab pre))) s' Q) (fun hno => ?_) (fun i o hr ho => ?_) (fun i s' hr hs => ?_)
    · exfalso
      cases he : (ord.filter fun i => !l i) with
      | nil => rw [he] at hn; simp at hn
      | cons i0 r =>
        obtain ⟨A, B, e1, e2, e3, _⟩ := List.filter_eq_cons_iff.1 he
        refine hno i0 ⟨(c1 i0 (by rw [e1]; simp)).1, by simpa using e3, fun j hj => ?_⟩
        have := e2 j (c4 A i0 B e1 j hj)
        simpa using this
    · have hi := hall i hr.1
      obtain ⟨A, B, he⟩ := List.append_of_mem hi
      obtain ⟨f1, f2⟩ := hflt i A B he hr.2.1
      obtain ⟨x, hx⟩ := (c1 i hi).2
      have hxo : x.1 = o := by
        unfold itemL at hx
        rw [ho] at hx
        simp only [Option.map_some, Option.some.injEq] at hx
        rw [← hx]
      rw [f1, List.filterMap_append, List.filterMap_cons_some hx] at hq
      have hpw : (ord.filter fun k => !l k).Pairwise fun i k => fitsL ops (ancTab pre) i k := List.Pairwise.filter _ c3
      have hpA : ((A.filter fun k => !l k).filterMap (itemL ops (ancTab pre))).Pairwise fun a b => freeL a b = true := by
        rw [f1] at hpw
        refine List.pairwise_filterMap.2 ((List.pairwise_append.1 hpw).1.imp ?_)
        rintro i k ⟨x', y', q1, q2, q3, _⟩ b hb b' hb'
        rw [q1] at hb
        rw [q2] at hb'
        cases hb
        cases hb'
        exact q3
      obtain ⟨U, _, _, this⟩ := frontL (P := P) (ann := ann) _ x _ s Q (fun y hy => by
        obtain ⟨k, hk, hky⟩ := List.mem_filterMap.1 hy
        obtain ⟨hkA, hlk⟩ := List.mem_filter.1 hk
        have hlk : l k = false := by simpa using hlk
        have hpw := c3
        rw [he] at hpw
        obtain ⟨x', y', q1, q2, _, h | q3⟩ := (List.pairwise_append.1 hpw).2.2 k hkA i (by simp)
        · exfalso
          have := ancTab_ok (hdown i hr) (i := i) (k := k) (upd_same _ _ _) h
          unfold upd at this
          split at this
          · rename_i e
            subst e
            have hnd := c2
            rw [he] at hnd
            exact (List.nodup_append.1 hnd).2.2 k hkA k (by simp) rfl
          · rw [hlk] at this; cases this
        · rw [hky] at q1
          rw [hx] at q2
          cases q1
          cases q2
          exact q3) hpA hq
      rw [← hxo, f2, List.filterMap_append]
      exact this.aw1
    · have hi := hall i hr.1
      obtain ⟨A, B, he⟩ := List.append_of_mem hi
      obtain ⟨f1, f2⟩ := hflt i A B he hr.2.1
      refine ih (upd l i true) s' ?_ (hdown i hr) hs
      rw [f1, List.length_append, List.length_cons] at hn
      rw [f2, List.length_append]
      omega
theorem AWD_L {ops : List AOper} {pre : List (List Nat)} {l0 : List (AOper × List Nat)} (hd : lineL ops pre = some l0) {s : St} {Q : St → Prop} (hq : QLs P ann l0 s Q) : AWD P ann ops pre (fun _ => false) s Q := by
  unfold lineL at hd
  simp only at hd
  split at hd
  · rename_i hc
    simp only [Bool.and_eq_true, List.all_eq_true, List.mem_range, List.contains_eq_mem, decide_eq_true_eq] at hc
    obtain ⟨h1, h2⟩ := hc
    cases hd
    obtain ⟨c1, c2, c3, c4⟩ := checkL_spec _ [] h1
    refine AWD_auxL (P := P) (ann := ann) (ord := orderL ops pre ops.length []) h2 (fun i hi => ⟨(c1 i hi).1, (c1 i hi).2.2⟩) c2 c3 (fun A i B he j hj => ?_) _ _ s rfl (fun i hi => by cases hi) ?_
    · rcases c4 A i B he j hj with h | h
      · cases h
      · exact h
    · have : (orderL ops pre ops.length []).filter (fun i => !(fun _ => false) i) = orderL ops pre ops.length [] := List.filter_eq_self.2 fun _ _ => rfl
      rw [this]
      exact hq
  · cases hd


def QL1 (P : Program) (ann : Ann) (U : List Nat) (d : Option Nat) (s : St) (N : St → Prop) (op : AOp) : Prop :=
  if op.flatL then afterF d s.h N fun h' => aex P op ⟨s.t, h'⟩
  else if op.loadL then afterQ d s.h N (aex P op s)
  else after P ann d s.h (fun s' => stab U s s' ∧ N s') (aex P op s)
def QL (P : Program) (ann : Ann) : List (AOper × List Nat) → St → (St → Prop) → Prop
  | [], s, K => K s
  | (o, U) :: r, s, K => if wantedA o s.t then QL1 P ann U o.dst s (fun s' => QL P ann r s' K) o.op else QL P ann r ⟨putd s.t o.dst .undef, s.h⟩ K
theorem stab_same {U : List Nat} {t t' : Nat → AV} {h : Heap} : stab U ⟨t, h⟩ ⟨t', h⟩ := fun _ _ _ _ => rfl
theorem flat_tk {op : AOp} (hf : op.flatL = true) {t T : Nat → AV} {h h2 : Heap} {v : AV} (ha : aex P op ⟨t, h⟩ = some (.val v T h2)) : T = strips t op.tk := by
  have := (aex_move (u := t) (fun _ _ => rfl) ha).1
  cases this
  rfl
theorem QL_sound : ∀ {l : List (AOper × List Nat)} {s : St} {K : St → Prop}, QL P ann l s K → QLs P ann l s K
  | [], s, K, h => h
  | (o, U) :: r, ⟨t, h⟩, K, hq => by
    have ih : ∀ {s}, QL P ann r s K → QLs P ann r s K := fun hq => QL_sound hq
    show D1 P ann (o, U) ⟨t, h⟩ _
    unfold D1
    cases hw : wantedA o t with
    | false =>
      have hq : QL P ann r ⟨putd t o.dst .undef, h⟩ K := by
        have : (if wantedA o t = true then _ else QL P ann r ⟨putd t o.dst .undef, h⟩ K) := hq
        rw [hw] at this
        exact this
      rw [if_pos (by simp)]
      exact ⟨_, .inl ⟨hw, rfl⟩, ih hq⟩
    | true =>
      have hq : QL1 P ann U o.dst ⟨t, h⟩ (fun s' => QL P ann r s' K) o.op := by
        have : (if wantedA o t = true then QL1 P ann U o.dst ⟨t, h⟩ (fun s' => QL P ann r s' K) o.op else _) := hq
        rw [hw] at this
        exact this
      unfold QL1 at hq
      cases hf : o.op.flatL with
      | true =>
        rw [hf] at hq
        obtain ⟨v, T, h1, h2⟩ := hq
        have hT := flat_tk hf (h1 h)
        subst hT
        rw [if_pos (by simp [AOp.calm, hf])]
        exact ⟨_, .inr ⟨hw, v, .inl ⟨hf, h1⟩, rfl⟩, ih h2⟩
      | false =>
        rw [hf] at hq
        cases hl : o.op.loadL with
        | true =>
          rw [hl] at hq
          simp only [Bool.false_eq_true, if_false, if_true] at hq
          rw [if_pos (by simp [AOp.calm, hl])]
          cases ha : aex P o.op ⟨t, h⟩ with
          | none => rw [ha] at hq; exact hq.elim
          | some R =>
            have hR := (aex_move (u := t) (fun _ _ => rfl) ha).1
            cases R with
            | val v T h2 =>
              cases hR
              have hh : h2 = h := by
                cases hop : o.op with
                | ld tk agg sz p =>
                  rw [hop] at hl ha
                  cases tk with
                  | true => cases hl
                  | false =>
                    obtain ⟨v', e1, _⟩ := aex_look (P := P) (op := .ld false agg sz p) (l := [p]) rfl (t := t) (t' := t) (h := h) (fun _ _ => rfl) ha
                    simp only [AR.val.injEq] at e1
                    exact e1.2.2
                | _ => rw [hop] at hl; cases hl
              subst hh
              rw [ha] at hq
              exact ⟨_, .inr ⟨hw, v, .inr ⟨hl, ha⟩, rfl⟩, ih hq⟩
            | _ => rw [ha] at hq; exact hq.elim
        | false =>
          rw [hl] at hq
          simp only [Bool.false_eq_true, if_false] at hq
          rw [if_neg (by simp [AOp.calm, hf, hl, hw])]
          refine AW1.mono'' (fun s' ⟨a, b⟩ => ⟨a, ih b⟩) (W1_sound (o := o) (s := ⟨t, h⟩) (Q := fun s' => stab U ⟨t, h⟩ s' ∧ QL P ann r s' K) ?_)
          unfold W1
          rw [if_pos hw]
          exact hq
theorem W_line {ops : List AOper} {pre : List (List Nat)} {L : List (AOper × List Nat)} (hd : drawOk ops pre = false) (hl : lineL ops pre = some L) {t : Nat → AV} {h : Heap} {Q : Ex → St → Prop} (hq : QL P ann L ⟨t, h⟩ (Q .normal)) : W P ann (.regd ops pre) ⟨t, h⟩ Q :=
  .inr ⟨hd, AWD_L hl (QL_sound hq)⟩
section
variable {t : Nat → AV} {h : Heap} {N : St → Prop} {U : List Nat}
theorem QL_nil : QL P ann [] ⟨t, h⟩ N = N ⟨t, h⟩ := nd rfl
theorem QL_cons {d op r} : QL P ann ((⟨d, op, none⟩, U) :: r) ⟨t, h⟩ N = QL1 P ann U d ⟨t, h⟩ (fun s' => QL P ann r s' N) op := nd rfl
theorem QL_consG {d op j q r} : QL P ann ((⟨some d, op, some (j, q)⟩, U) :: r) ⟨t, h⟩ N =
    if wants q (t j) then QL1 P ann U (some d) ⟨t, h⟩ (fun s' => QL P ann r s' N) op else QL P ann r ⟨upd t d .undef, h⟩ N := nd rfl
theorem QL_consGn {op j q r} : QL P ann ((⟨none, op, some (j, q)⟩, U) :: r) ⟨t, h⟩ N =
    if wants q (t j) then QL1 P ann U none ⟨t, h⟩ (fun s' => QL P ann r s' N) op else QL P ann r ⟨t, h⟩ N := nd rfl
theorem stab_nil {s s' : St} : stab [] s s' = True := by simp [stab]
theorem stab_cons {e V} {t t' : Nat → AV} {h h' : Heap} : stab (e :: V) ⟨t, h⟩ ⟨t', h'⟩ = ((∀ o, asO (t e) = some o → h' o = h o) ∧ stab V ⟨t, h⟩ ⟨t', h'⟩) := by simp [stab]
theorem QL1_ld {d agg sz p} : QL1 P ann U d ⟨t, h⟩ N (.ld false agg sz p) = afterQ d h N (aex P (.ld false agg sz p) ⟨t, h⟩) := by simp [QL1, AOp.flatL, AOp.soft, AOp.looks, AOp.clsX, AOp.loadL]
theorem QL1_movT {d x} : QL1 P ann U d ⟨t, h⟩ N (.mov true x) = afterF d h N (fun h' => aex P (.mov true x) ⟨t, h'⟩) := by simp [QL1, AOp.flatL, AOp.soft, AOp.looks, AOp.clsX, AOp.quiet]
theorem QL1_movF {d x} : QL1 P ann U d ⟨t, h⟩ N (.mov false x) = afterF d h N (fun h' => aex P (.mov false x) ⟨t, h'⟩) := by simp [QL1, AOp.flatL, AOp.soft, AOp.looks, AOp.clsX, AOp.quiet]
theorem QL1_pick {d c a b} : QL1 P ann U d ⟨t, h⟩ N (.pick c a b) = afterF d h N (fun h' => aex P (.pick c a b) ⟨t, h'⟩) := by simp [QL1, AOp.flatL, AOp.soft, AOp.looks, AOp.clsX, AOp.quiet]
theorem QL1_bin {d op ty x y} : QL1 P ann U d ⟨t, h⟩ N (.bin op ty x y) = afterF d h N (fun h' => aex P (.bin op ty x y) ⟨t, h'⟩) := by simp [QL1, AOp.flatL, AOp.soft, AOp.looks, AOp.clsX, AOp.quiet]
theorem QL1_un {d op x} : QL1 P ann U d ⟨t, h⟩ N (.un op x) = afterF d h N (fun h' => aex P (.un op x) ⟨t, h'⟩) := by simp [QL1, AOp.flatL, AOp.soft, AOp.looks, AOp.clsX, AOp.quiet]
theorem QL1_isnil {d k ng x} : QL1 P ann U d ⟨t, h⟩ N (.isnil k ng x) = afterF d h N (fun h' => aex P (.isnil k ng x) ⟨t, h'⟩) := by simp [QL1, AOp.flatL, AOp.soft, AOp.looks, AOp.clsX, AOp.quiet]
theorem QL1_conv {d a b x} : QL1 P ann U d ⟨t, h⟩ N (.conv a b x) = afterF d h N (fun h' => aex P (.conv a b x) ⟨t, h'⟩) := by simp [QL1, AOp.flatL, AOp.soft, AOp.looks, AOp.clsX, AOp.quiet]
theorem QL1_s2b {d x} : QL1 P ann U d ⟨t, h⟩ N (.s2b false x) = afterF d h N (fun h' => aex P (.s2b false x) ⟨t, h'⟩) := by simp [QL1, AOp.flatL, AOp.soft, AOp.looks, AOp.clsX, AOp.quiet]
theorem QL1_fld {d a o s x} : QL1 P ann U d ⟨t, h⟩ N (.fld a o s x) = afterF d h N (fun h' => aex P (.fld a o s x) ⟨t, h'⟩) := by simp [QL1, AOp.flatL, AOp.soft, AOp.looks, AOp.clsX, AOp.quiet]
theorem QL1_fad {d o x} : QL1 P ann U d ⟨t, h⟩ N (.fad o x) = afterF d h N (fun h' => aex P (.fad o x) ⟨t, h'⟩) := by simp [QL1, AOp.flatL, AOp.soft, AOp.looks, AOp.clsX, AOp.quiet]
theorem QL1_iad {d s x i} : QL1 P ann U d ⟨t, h⟩ N (.iad s x i) = afterF d h N (fun h' => aex P (.iad s x i) ⟨t, h'⟩) := by simp [QL1, AOp.flatL, AOp.soft, AOp.looks, AOp.clsX, AOp.quiet]
theorem QL1_iap {d n s x i} : QL1 P ann U d ⟨t, h⟩ N (.iap n s x i) = afterF d h N (fun h' => aex P (.iap n s x i) ⟨t, h'⟩) := by simp [QL1, AOp.flatL, AOp.soft, AOp.looks, AOp.clsX, AOp.quiet]
theorem QL1_ixs {d x i} : QL1 P ann U d ⟨t, h⟩ N (.ixs x i) = afterF d h N (fun h' => aex P (.ixs x i) ⟨t, h'⟩) := by simp [QL1, AOp.flatL, AOp.soft, AOp.looks, AOp.clsX, AOp.quiet]
theorem QL1_ixa {d n a s x i} : QL1 P ann U d ⟨t, h⟩ N (.ixa n a s x i) = afterF d h N (fun h' => aex P (.ixa n a s x i) ⟨t, h'⟩) := by simp [QL1, AOp.flatL, AOp.soft, AOp.looks, AOp.clsX, AOp.quiet]
theorem QL1_slc {d s x lo hi mx} : QL1 P ann U d ⟨t, h⟩ N (.slc s x lo hi mx) = afterF d h N (fun h' => aex P (.slc s x lo hi mx) ⟨t, h'⟩) := by simp [QL1, AOp.flatL, AOp.soft, AOp.looks, AOp.clsX, AOp.quiet]
theorem QL1_sls {d x lo hi} : QL1 P ann U d ⟨t, h⟩ N (.sls x lo hi) = afterF d h N (fun h' => aex P (.sls x lo hi) ⟨t, h'⟩) := by simp [QL1, AOp.flatL, AOp.soft, AOp.looks, AOp.clsX, AOp.quiet]
theorem QL1_len0 {d x} : QL1 P ann U d ⟨t, h⟩ N (.len 0 x) = afterF d h N (fun h' => aex P (.len 0 x) ⟨t, h'⟩) := by simp [QL1, AOp.flatL, AOp.soft, AOp.looks, AOp.clsX, AOp.quiet]
theorem QL1_len1 {d x} : QL1 P ann U d ⟨t, h⟩ N (.len 1 x) = afterF d h N (fun h' => aex P (.len 1 x) ⟨t, h'⟩) := by simp [QL1, AOp.flatL, AOp.soft, AOp.looks, AOp.clsX, AOp.quiet]
theorem QL1_nck {d x} : QL1 P ann U d ⟨t, h⟩ N (.nck x) = afterF d h N (fun h' => aex P (.nck x) ⟨t, h'⟩) := by simp [QL1, AOp.flatL, AOp.soft, AOp.looks, AOp.clsX, AOp.quiet]
theorem QL1_ext {d i x} : QL1 P ann U d ⟨t, h⟩ N (.ext i x) = afterF d h N (fun h' => aex P (.ext i x) ⟨t, h'⟩) := by simp [QL1, AOp.flatL, AOp.soft, AOp.looks, AOp.clsX, AOp.quiet]
theorem QL1_blt {d b tys ty xs} : QL1 P ann U d ⟨t, h⟩ N (.blt b tys ty xs) = afterF d h N (fun h' => aex P (.blt b tys ty xs) ⟨t, h'⟩) := by simp [QL1, AOp.flatL, AOp.soft, AOp.looks, AOp.clsX, AOp.quiet]
theorem QL1_bld {d z ps} : QL1 P ann U d ⟨t, h⟩ N (.bld z ps) = afterF d h N (fun h' => aex P (.bld z ps) ⟨t, h'⟩) := by simp [QL1, AOp.flatL, AOp.soft, AOp.looks, AOp.clsX, AOp.quiet]
theorem QL1_lit {d sz n z ps} : QL1 P ann U d ⟨t, h⟩ N (.lit false sz n z ps) = afterF d h N (fun h' => aex P (.lit false sz n z ps) ⟨t, h'⟩) := by simp [QL1, AOp.flatL, AOp.soft, AOp.looks, AOp.clsX, AOp.quiet]
theorem QL1_call {d k f xs} : QL1 P ann U d ⟨t, h⟩ N (.call k f xs) = after P ann d h (fun s' => stab U ⟨t, h⟩ s' ∧ N s') (aex P (.call k f xs) ⟨t, h⟩) := by simp [QL1, AOp.flatL, AOp.soft, AOp.looks, AOp.clsX, AOp.quiet, AOp.loadL]
theorem QL1_dyn {d k f xs} : QL1 P ann U d ⟨t, h⟩ N (.dyn k f xs) = after P ann d h (fun s' => stab U ⟨t, h⟩ s' ∧ N s') (aex P (.dyn k f xs) ⟨t, h⟩) := by simp [QL1, AOp.flatL, AOp.soft, AOp.looks, AOp.clsX, AOp.quiet, AOp.loadL]
theorem QL1_st {d sz p x} : QL1 P ann U d ⟨t, h⟩ N (.st sz p x) = after P ann d h (fun s' => stab U ⟨t, h⟩ s' ∧ N s') (aex P (.st sz p x) ⟨t, h⟩) := by simp [QL1, AOp.flatL, AOp.soft, AOp.looks, AOp.clsX, AOp.quiet, AOp.loadL]
theorem QL1_new {d z} : QL1 P ann U d ⟨t, h⟩ N (.new z) = after P ann d h (fun s' => stab U ⟨t, h⟩ s' ∧ N s') (aex P (.new z) ⟨t, h⟩) := by simp [QL1, AOp.flatL, AOp.soft, AOp.looks, AOp.clsX, AOp.quiet, AOp.loadL]
theorem QL1_box {d x} : QL1 P ann U d ⟨t, h⟩ N (.box x) = after P ann d h (fun s' => stab U ⟨t, h⟩ s' ∧ N s') (aex P (.box x) ⟨t, h⟩) := by simp [QL1, AOp.flatL, AOp.soft, AOp.looks, AOp.clsX, AOp.quiet, AOp.loadL]
theorem QL1_app {d o sz b z x y} : QL1 P ann U d ⟨t, h⟩ N (.app o sz b z x y) = after P ann d h (fun s' => stab U ⟨t, h⟩ s' ∧ N s') (aex P (.app o sz b z x y) ⟨t, h⟩) := by simp [QL1, AOp.flatL, AOp.soft, AOp.looks, AOp.clsX, AOp.quiet, AOp.loadL]
theorem QL1_apzF {d sz b z x y} : QL1 P ann U d ⟨t, h⟩ N (.apz false sz b z x y) = afterF d h N (fun h' => aex P (.apz false sz b z x y) ⟨t, h'⟩) := by simp [QL1, AOp.flatL]
theorem QL1_apz {d sz b z x y} : QL1 P ann U d ⟨t, h⟩ N (.apz true sz b z x y) = after P ann d h (fun s' => stab U ⟨t, h⟩ s' ∧ N s') (aex P (.apz true sz b z x y) ⟨t, h⟩) := by simp [QL1, AOp.flatL, AOp.soft, AOp.looks, AOp.clsX, AOp.quiet, AOp.loadL]
theorem QL1_cpy {d sz x y} : QL1 P ann U d ⟨t, h⟩ N (.cpy sz x y) = after P ann d h (fun s' => stab U ⟨t, h⟩ s' ∧ N s') (aex P (.cpy sz x y) ⟨t, h⟩) := by simp [QL1, AOp.flatL, AOp.soft, AOp.looks, AOp.clsX, AOp.quiet, AOp.loadL]
theorem QL1_clr {d sz z x} : QL1 P ann U d ⟨t, h⟩ N (.clr sz z x) = after P ann d h (fun s' => stab U ⟨t, h⟩ s' ∧ N s') (aex P (.clr sz z x) ⟨t, h⟩) := by simp [QL1, AOp.flatL, AOp.soft, AOp.looks, AOp.clsX, AOp.quiet, AOp.loadL]
theorem QL1_lkp {d a b z m k} : QL1 P ann U d ⟨t, h⟩ N (.lkp a b z m k) = after P ann d h (fun s' => stab U ⟨t, h⟩ s' ∧ N s') (aex P (.lkp a b z m k) ⟨t, h⟩) := by simp [QL1, AOp.flatL, AOp.soft, AOp.looks, AOp.clsX, AOp.quiet, AOp.loadL]
theorem QL1_mup {d b m k x} : QL1 P ann U d ⟨t, h⟩ N (.mup b m k x) = after P ann d h (fun s' => stab U ⟨t, h⟩ s' ∧ N s') (aex P (.mup b m k x) ⟨t, h⟩) := by simp [QL1, AOp.flatL, AOp.soft, AOp.looks, AOp.clsX, AOp.quiet, AOp.loadL]
theorem QL1_del {d b m k} : QL1 P ann U d ⟨t, h⟩ N (.del b m k) = after P ann d h (fun s' => stab U ⟨t, h⟩ s' ∧ N s') (aex P (.del b m k) ⟨t, h⟩) := by simp [QL1, AOp.flatL, AOp.soft, AOp.looks, AOp.clsX, AOp.quiet, AOp.loadL]
theorem QL1_b2s {d x} : QL1 P ann U d ⟨t, h⟩ N (.b2s x) = after P ann d h (fun s' => stab U ⟨t, h⟩ s' ∧ N s') (aex P (.b2s x) ⟨t, h⟩) := by simp [QL1, AOp.flatL, AOp.soft, AOp.looks, AOp.clsX, AOp.quiet, AOp.loadL]
theorem QL1_len2 {d x} : QL1 P ann U d ⟨t, h⟩ N (.len 2 x) = after P ann d h (fun s' => stab U ⟨t, h⟩ s' ∧ N s') (aex P (.len 2 x) ⟨t, h⟩) := by simp [QL1, AOp.flatL, AOp.soft, AOp.looks, AOp.clsX, AOp.quiet, AOp.loadL]
theorem QL1_slp {d n sz x lo hi} : QL1 P ann U d ⟨t, h⟩ N (.slp n sz x lo hi) = afterF d h N (fun h' => aex P (.slp n sz x lo hi) ⟨t, h'⟩) := by simp [QL1, AOp.flatL]
theorem QL1_ldT {d a sz p} : QL1 P ann U d ⟨t, h⟩ N (.ld true a sz p) = after P ann d h (fun s' => stab U ⟨t, h⟩ s' ∧ N s') (aex P (.ld true a sz p) ⟨t, h⟩) := by simp [QL1, AOp.flatL, AOp.soft, AOp.looks, AOp.clsX, AOp.quiet, AOp.loadL]
theorem QL1_litT {d sz n z ps} : QL1 P ann U d ⟨t, h⟩ N (.lit true sz n z ps) = after P ann d h (fun s' => stab U ⟨t, h⟩ s' ∧ N s') (aex P (.lit true sz n z ps) ⟨t, h⟩) := by simp [QL1, AOp.flatL, AOp.soft, AOp.looks, AOp.clsX, AOp.quiet, AOp.loadL]
theorem QL1_mksF {d sz b z x y} : QL1 P ann U d ⟨t, h⟩ N (.mks false sz b z x y) = afterF d h N (fun h' => aex P (.mks false sz b z x y) ⟨t, h'⟩) := by simp [QL1, AOp.flatL]
theorem QL1_mks {d sz b z x y} : QL1 P ann U d ⟨t, h⟩ N (.mks true sz b z x y) = after P ann d h (fun s' => stab U ⟨t, h⟩ s' ∧ N s') (aex P (.mks true sz b z x y) ⟨t, h⟩) := by simp [QL1, AOp.flatL, AOp.soft, AOp.looks, AOp.clsX, AOp.quiet, AOp.loadL]
theorem QL1_fnc {d f xs ys} : QL1 P ann U d ⟨t, h⟩ N (.fnc f xs ys) = afterF d h N (fun h' => aex P (.fnc f xs ys) ⟨t, h'⟩) := by simp [QL1, AOp.flatL]
theorem QL1_mkm {d} : QL1 P ann U d ⟨t, h⟩ N (.mkm) = after P ann d h (fun s' => stab U ⟨t, h⟩ s' ∧ N s') (aex P (.mkm) ⟨t, h⟩) := by simp [QL1, AOp.flatL, AOp.soft, AOp.looks, AOp.clsX, AOp.quiet, AOp.loadL]
theorem QL1_cap {d x} : QL1 P ann U d ⟨t, h⟩ N (.cap x) = afterF d h N (fun h' => aex P (.cap x) ⟨t, h'⟩) := by simp [QL1, AOp.flatL]
theorem QL1_stg {d x} : QL1 P ann U d ⟨t, h⟩ N (.stg x) = after P ann d h (fun s' => stab U ⟨t, h⟩ s' ∧ N s') (aex P (.stg x) ⟨t, h⟩) := by simp [QL1, AOp.flatL, AOp.soft, AOp.looks, AOp.clsX, AOp.quiet, AOp.loadL]
end
attribute [go_sem ↓] QL_nil QL_cons QL_consG QL_consGn QL1_ld QL1_movT QL1_movF QL1_pick QL1_bin QL1_un QL1_isnil QL1_conv QL1_s2b QL1_fld QL1_fad QL1_iad QL1_iap QL1_ixs QL1_ixa QL1_slc QL1_sls QL1_len0 QL1_len1 QL1_nck QL1_ext QL1_blt QL1_bld QL1_lit QL1_call QL1_dyn QL1_st QL1_new QL1_box QL1_app QL1_apzF QL1_apz QL1_cpy QL1_clr QL1_lkp QL1_mup QL1_del QL1_b2s QL1_len2 QL1_slp QL1_ldT QL1_litT QL1_mksF QL1_mks QL1_fnc QL1_mkm QL1_cap QL1_stg
attribute [go_sem] stab_nil stab_cons
end Go.Am
