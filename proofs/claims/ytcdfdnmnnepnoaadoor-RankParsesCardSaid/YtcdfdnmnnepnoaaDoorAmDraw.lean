/- Drawn regions: the text's order is enough, where operations only look. -/
import Derived.Test.YtcdfdnmnnepnoaaDoorAmEval
set_option linter.unusedVariables false
set_option linter.unusedSimpArgs false
namespace Go.Am
variable {P : Program} {ann : Ann}


def ARel' (t' : Nat → AV) : AR → AR
  | .val v _ h => .val v t' h
  | .new k ob _ => .new k ob t'
  | .newc lo k ob _ => .newc lo k ob t'
  | .call k f args _ => .call k f args t'

theorem opt_ev {t t' : Nat → AV} {o : Option Opd} (h : ∀ x ∈ o.toList, x.ev t' = x.ev t) : o.map (Opd.ev t') = o.map (Opd.ev t) := by
  cases o with
  | none => rfl
  | some x => simp [h x (by simp)]


theorem aex_look {op : AOp} {l : List Opd} (hl : op.looks = some l) {t t' : Nat → AV} {h : Heap} (hs : ∀ x ∈ l, x.ev t' = x.ev t) {r : AR} (hr : aex P op ⟨t, h⟩ = some r) :
    ∃ v, r = .val v t h ∧ aex P op ⟨t', h⟩ = some (.val v t' h) := by
  cases op
  case slc sz x lo hi mx =>
    simp only [AOp.looks, Option.some.injEq] at hl
    subst hl
    simp only [List.mem_cons, List.mem_append, forall_eq_or_imp] at hs
    obtain ⟨hx, hs⟩ := hs
    have h1 := opt_ev (o := lo) (fun x hx => hs x (.inl (.inl hx)))
    have h2 := opt_ev (o := hi) (fun x hx => hs x (.inl (.inr hx)))
    have h3 := opt_ev (o := mx) (fun x hx => hs x (.inr hx))
    rw [aex_slc] at hr ⊢
    rw [h1, h2, h3, hx]
    unfold aexSlc at hr ⊢
    repeat' (first | (cases hr; done) | split at hr | simp only [Option.bind_eq_some_iff] at hr | (obtain ⟨_, _, hr⟩ := hr))
    all_goals (refine ⟨_, rfl, ?_⟩; simp_all)
  case sls x lo hi =>
    simp only [AOp.looks, Option.some.injEq] at hl
    subst hl
    simp only [List.mem_cons, List.mem_append, forall_eq_or_imp] at hs
    obtain ⟨hx, hs⟩ := hs
    have h1 := opt_ev (o := lo) (fun x hx => hs x (.inl hx))
    have h2 := opt_ev (o := hi) (fun x hx => hs x (.inr hx))
    simp only [aex] at hr ⊢
    rw [h1, h2, hx]
    repeat' (first | (cases hr; done) | split at hr | simp only [Option.bind_eq_bind, Option.bind_eq_some_iff] at hr | (obtain ⟨_, _, hr⟩ := hr))
    all_goals (refine ⟨_, rfl, ?_⟩; simp_all)
  case ld tk agg sz p =>
    cases tk with
    | true => cases hl
    | false =>
      simp only [AOp.looks, Option.some.injEq] at hl
      subst hl
      simp only [List.mem_singleton, forall_eq] at hs
      rw [aex_ld] at hr ⊢
      rw [hs]
      unfold aexLd at hr ⊢
      simp only [Bool.false_eq_true, if_false] at hr ⊢
      repeat' (first | (cases hr; done) | split at hr | simp only [Option.bind_eq_some_iff] at hr | (obtain ⟨_, _, hr⟩ := hr))
      all_goals (refine ⟨_, rfl, ?_⟩; simp_all)
  all_goals simp only [AOp.looks] at hl <;> first | (cases hl; done) | skip
  all_goals
    (try (rename_i b x; cases b <;> simp only [] at hl <;> first | (cases hl; done) | skip))
  all_goals (try cases hl)
  all_goals
    (try simp only [List.mem_cons, List.not_mem_nil, or_false, forall_eq_or_imp, forall_eq] at hs
     simp only [aex, Option.bind_eq_bind, Option.bind_eq_some_iff] at hr
     repeat' (first | (cases hr; done) | split at hr | simp only [Option.bind_eq_some_iff] at hr | (obtain ⟨_, _, hr⟩ := hr)))
  all_goals first | (refine ⟨_, rfl, ?_⟩; simp_all [aex]; done) | (exfalso; simp_all; done)

theorem dis_dis (v : AV) : v.dis.dis = v.dis := by
  have hd : ∀ c : AV, c.disc.disc = c.disc := fun c => by cases c <;> rfl
  cases v with
  | ag cs => simp [AV.dis, List.map_map, Function.comp_def, hd]
  | tu cs => simp [AV.dis, List.map_map, Function.comp_def, hd]
  | _ => rfl


def noOwn : List AV → Bool
  | [] => true
  | a :: r => !a.isOwn && noOwn r
def own1 : List AV → Bool
  | [] => true
  | a :: r => (!a.isOwn || noOwn r) && own1 r
theorem noOwn_iff : ∀ l : List AV, noOwn l = true ↔ l.filter AV.isOwn = []
  | [] => by simp [noOwn]
  | a :: r => by
    have := noOwn_iff r
    cases ha : a.isOwn <;> simp [noOwn, ha, this]
theorem own1_iff : ∀ l : List AV, own1 l = true ↔ (l.filter AV.isOwn).length ≤ 1
  | [] => by simp [own1]
  | a :: r => by
    have h1 := own1_iff r
    have h2 := noOwn_iff r
    cases ha : a.isOwn with
    | false => simp [own1, ha, h1]
    | true =>
      rw [List.filter_cons_of_pos ha, List.length_cons]
      simp only [own1, ha, Bool.not_true, Bool.false_or, Bool.and_eq_true, h1, h2]
      constructor
      · rintro ⟨h, _⟩; rw [h]; simp
      · intro h
        have : (r.filter AV.isOwn).length = 0 := by omega
        exact ⟨List.eq_nil_of_length_eq_zero this, by omega⟩
theorem aex_call1 {k f xs} {t : Nat → AV} {h : Heap} : aex P (.call k f xs) ⟨t, h⟩ = if own1 (xs.map (Opd.ev t)) = true then some (.call k f (xs.map (Opd.ev t)) (strips t xs)) else none := by
  rw [aex_callE]
  by_cases hc : own1 (xs.map (Opd.ev t)) = true
  · rw [if_pos hc, if_pos ((own1_iff _).1 hc)]
  · rw [if_neg hc, if_neg (fun h => hc ((own1_iff _).2 h))]
theorem own1_nil : own1 [] = true := nd rfl
theorem own1_cons {a r} : own1 (a :: r) = ((!a.isOwn || noOwn r) && own1 r) := nd rfl
theorem noOwn_nil : noOwn [] = true := nd rfl
theorem noOwn_cons {a r} : noOwn (a :: r) = (!a.isOwn && noOwn r) := nd rfl
theorem own_dis {v : AV} : v.dis.isOwn = false := by cases v <;> rfl
theorem own_disc {v : AV} : v.disc.isOwn = false := by cases v <;> rfl
theorem own_tu {l} : (AV.tu l).isOwn = false := nd rfl
theorem own_ag {l} : (AV.ag l).isOwn = false := nd rfl
theorem own_op {a b} : (AV.op a b).isOwn = false := nd rfl
theorem own_cp {l} : (AV.cp l).isOwn = false := nd rfl
theorem own_fn {a b c} : (AV.fn a b c).isOwn = false := nd rfl
theorem own_mp {a} : (AV.mp a).isOwn = false := nd rfl
theorem own_rs {a b c d e} : (AV.rs a b c d e).isOwn = false := nd rfl


theorem ev_eq {t t' : Nat → AV} {x : Opd} (h : ∀ j ∈ x.slots, t' j = t j) : x.ev t' = x.ev t := by
  cases x with
  | t n => exact h n (by simp [Opd.slots])
  | c v => rfl

theorem strip_id {t : Nat → AV} {x : Opd} (h : (x.ev t).dis = x.ev t) : strip t x = t := by
  cases x with
  | c v => rfl
  | t n =>
    funext j
    have h : (t n).dis = t n := h
    simp only [strip, upd]
    split
    · rename_i e; rw [h, e]
    · rfl

theorem strips_id {t : Nat → AV} : ∀ {xs : List Opd}, (∀ x ∈ xs, (x.ev t).dis = x.ev t) → strips t xs = t
  | [], _ => rfl
  | x :: r, h => by
    show strips (strip t x) r = t
    rw [strip_id (h x (by simp))]
    exact strips_id fun y hy => h y (by simp [hy])

section
variable {t : Nat → AV} {h : Heap} {sz : Nat}

def aexApp (obj : Bool) (sz bytes : Nat) (t' : Nat → AV) (h : Heap) (ys : List (List AV)) : AV → Option AR
  | .sc (.slice none 0 0) =>
      if ys.length = 0 then some (.val .nils t' h)
      else if ys.length * bytes > 2 ^ 47 then none
      else if obj then none
      else some (.val (.bs true sz ys none) t' h)
  | .bs own sz' es lim =>
      if sz' ≠ sz ∨ (es.length + ys.length) * bytes > 2 ^ 47 then none
      else if ys.length = 0 then some (.val (.bs own sz es lim) t' h)
      else match lim with
        | some c => if c < es.length + ys.length then (if obj then none else some (.val (.bs true sz (es ++ ys) none) t' h))
                    else if own ∧ !obj then some (.val (.bs true sz (es ++ ys) (some c)) t' h) else none
        | none => if own ∧ !obj then some (.val (.bs true sz (es ++ ys) none) t' h) else none
  | _ => none
theorem appW_eq {bytes z x ys} : appW false sz bytes z t h x ys = aexApp false sz bytes (strip t x) h ys (x.ev t) := by
  have key : ∀ v, x.ev t = v → appW false sz bytes z t h x ys = aexApp false sz bytes (strip t x) h ys v := by
    intro v hv
    by_cases hn : v = .sc (.slice none 0 0)
    · subst hn
      rw [strip_id (by rw [hv]; rfl)]
      simp only [appW, hv]
      rfl
    · simp only [appW, hv]
      unfold aexApp
      cases v with
      | sc v => cases v <;> first | rfl | skip
                rename_i a b c
                cases a with
                | none => cases b <;> cases c <;> first | rfl | exact absurd rfl hn
                | some a => rfl
      | rs o c sz' n lim => simp
      | _ => rfl
  exact key _ rfl
theorem aex_app {bytes z x y} : aex P (.app false sz bytes z x y) ⟨t, h⟩ = (elemsOf h sz (y.ev t)).bind fun ys => aexApp false sz bytes (strip t x) h ys (x.ev t) := by
  simp only [aex, Option.bind_eq_bind, appW_eq]

def aexAppO (sz bytes : Nat) (z : List AV) (t' : Nat → AV) (h : Heap) (ys : List (List AV)) : AV → Option AR
  | .sc (.slice none 0 0) =>
    if ys.length = 0 then some (.val .nils t' h)
    else if ys.length * bytes > 2 ^ 47 then none
    else some (grownO sz z ys.flatten ys.length t')
  | .bs own sz' es lim =>
    if sz' ≠ sz ∨ (es.length + ys.length) * bytes > 2 ^ 47 then none
    else if ys.length = 0 then some (.val (.bs own sz es lim) t' h)
    else match lim with
      | some c => if c < es.length + ys.length then some (grownO sz z (es.flatten ++ ys.flatten) (es.length + ys.length) t') else none
      | none => none
  | .rs o c sz' n lim =>
    if sz' ≠ sz then none
    else if ys.length = 0 then some (.val (.rs o c sz n lim) t' h)
    else match lim, h o with
     | some cap, some (.arr cs) =>
        if c + cap * sz ≤ cs.length ∧ n ≤ cap then
          if n + ys.length ≤ cap then some (.val (.rs o c sz (n + ys.length) (some cap)) t' (upd h o (some (.arr (setRange cs (c + n * sz) (ys.flatten.map AV.disc))))))
          else if (n + ys.length) * bytes > 2 ^ 47 then none
          else some (grownO sz z (((cs.drop c).take (n * sz)) ++ ys.flatten) (n + ys.length) t')
        else none
     | _, _ => none
  | _ => none
theorem appW_eqO {bytes z x ys} : appW true sz bytes z t h x ys = aexAppO sz bytes z (strip t x) h ys (x.ev t) := by
  have key : ∀ v, x.ev t = v → appW true sz bytes z t h x ys = aexAppO sz bytes z (strip t x) h ys v := by
    intro v hv
    by_cases hn : v = .sc (.slice none 0 0)
    · subst hn
      rw [strip_id (by rw [hv]; rfl)]
      simp only [appW, hv]
      rfl
    · simp only [appW, hv]
      unfold aexAppO
      cases v with
      | sc v => cases v <;> first | rfl | skip
                rename_i a b c
                cases a with
                | none => cases b <;> cases c <;> first | rfl | exact absurd rfl hn
                | some a => rfl
      | rs o c sz' n lim =>
        rw [strip_id (by rw [hv]; rfl)]
        simp only [Bool.true_eq_false, or_false]
        rfl
      | bs own sz' es lim =>
        simp only [if_true, Bool.not_true, Bool.false_eq_true, and_false, if_false]
        rfl
      | _ => rfl
  exact key _ rfl
theorem aex_appO {bytes z x y} : aex P (.app true sz bytes z x y) ⟨t, h⟩ = (elemsOf h sz (y.ev t)).bind fun ys => aexAppO sz bytes z (strip t x) h ys (x.ev t) := by
  simp only [aex, Option.bind_eq_bind, appW_eqO]

end

theorem strips_slot : ∀ (xs : List Opd) (t : Nat → AV) (j : Nat), strips t xs j = if j ∈ xs.flatMap Opd.slots then (t j).dis else t j
  | [], t, j => by simp [strips]
  | x :: r, t, j => by
    show strips (strip t x) r j = _
    rw [strips_slot r]
    cases x with
    | c v => simp [strip, Opd.slots]
    | t n =>
      simp only [strip, List.flatMap_cons, Opd.slots, List.mem_append, List.mem_singleton, upd]
      by_cases hj : j = n
      · subst hj
        simp [dis_dis]
      · simp [hj]

theorem wanted_eq {o : AOper} {t t' : Nat → AV} (h : ∀ j ∈ o.reads, t' j = t j) : wantedA o t' = wantedA o t := by
  unfold wantedA
  cases hg : o.guard with
  | none => rfl
  | some p =>
    obtain ⟨j, b⟩ := p
    have : t' j = t j := h j (by simp [AOper.reads, hg])
    simp only [this]


inductive QT (P : Program) (ann : Ann) (h : Heap) (o : AOper) (t t' : Nat → AV) : Prop
  | pass : wantedA o t = false → t' = putd t o.dst .undef → QT P ann h o t t'
  | val (v : AV) : wantedA o t = true → aex P o.op ⟨t, h⟩ = some (.val v (strips t o.op.takes) h) → t' = putd (strips t o.op.takes) o.dst v → QT P ann h o t t'
  | call (k f : Nat) (xs : List Opd) (v : AV) : wantedA o t = true → o.op = .call k f xs → own1 (xs.map (Opd.ev t)) = true → AWF P ann k f (xs.map (Opd.ev t)) h (fun v' h' => v' = v ∧ h' = h) →
      t' = putd (strips t o.op.takes) o.dst v → QT P ann h o t t'

theorem QT.aw {h : Heap} {o : AOper} {t t' : Nat → AV} (q : QT P ann h o t t') {Q : St → Prop} (hQ : Q ⟨t', h⟩) : AW1 P ann o ⟨t, h⟩ Q := by
  cases q with
  | pass h1 h2 => subst h2; exact .pass h1 hQ
  | val v h1 h2 h3 => subst h3; exact .val h1 h2 hQ
  | call k f xs v h1 h2 h3 h4 h5 =>
    subst h5
    refine .call _ h1 (f := f) (k := k) (args := xs.map (Opd.ev t)) (t := strips t o.op.takes) (s := ⟨t, h⟩) ?_ h4 (fun v' h' ⟨e1, e2⟩ => by subst e1; subst e2; exact hQ)
    rw [h2, aex_callE, if_pos ((own1_iff _).1 h3)]
    rfl


def graft (o : AOper) (u t' : Nat → AV) : Nat → AV := fun j => if j ∈ o.writes then t' j else u j

theorem putd_graft {o : AOper} {t u : Nat → AV} {v : AV} (hr : ∀ j ∈ o.op.takes.flatMap Opd.slots, u j = t j) : putd (strips u o.op.takes) o.dst v = graft o u (putd (strips t o.op.takes) o.dst v) := by
  funext j
  unfold graft AOper.writes
  cases hd : o.dst with
  | none =>
    simp only [putd, Option.toList, List.nil_append, strips_slot]
    split
    · rename_i hj; rw [hr j hj]
    · rfl
  | some d =>
    simp only [putd, Option.toList, upd, strips_slot, List.cons_append, List.nil_append, List.mem_cons]
    by_cases hj : j = d
    · simp [hj]
    · by_cases hm : j ∈ o.op.takes.flatMap Opd.slots
      · simp [hj, hm, hr j hm]
      · simp [hj, hm]

theorem QT.local {h : Heap} {o : AOper} {t t' u : Nat → AV} (hq : o.op.quiet.isSome = true) (hr : ∀ j ∈ o.reads, u j = t j) (q : QT P ann h o t t') : QT P ann h o u (graft o u t') := by
  have hw := wanted_eq hr
  have hev : ∀ l, o.op.quiet = some l → ∀ x ∈ l, x.ev u = x.ev t := fun l hl x hx => ev_eq fun j hj => hr j (by
    simp only [AOper.reads, hl, Option.getD_some, List.mem_append, List.mem_flatMap]
    exact .inl ⟨x, hx, hj⟩)
  have htk : ∀ j ∈ o.op.takes.flatMap Opd.slots, u j = t j := fun j hj => hr j (by
    obtain ⟨d, op, g⟩ := o
    simp only [AOper.reads, List.mem_append]
    left
    cases op <;> simp only [AOp.takes, List.flatMap_nil, List.not_mem_nil] at hj
    case mov tk x =>
      cases tk with
      | false => simp [AOp.takes] at hj
      | true => simpa [AOp.quiet, AOp.takes] using hj
    case app obj _ _ _ x y =>
      cases obj with
      | true => cases hq
      | false =>
        simp only [AOp.quiet, Option.getD_some, List.flatMap_cons, List.mem_append]
        simp only [List.flatMap_cons, List.flatMap_nil, List.append_nil] at hj
        exact .inl hj
    case call => simpa [AOp.quiet] using hj)
  cases q with
  | pass h1 h2 =>
    refine .pass (hw.trans h1) ?_
    subst h2
    have hu := hw.trans h1
    funext j
    unfold graft AOper.writes
    cases hd : o.dst with
    | none =>
      simp only [putd, Option.toList, List.nil_append]
      by_cases hm : j ∈ o.op.takes.flatMap Opd.slots
      · simp [hm, htk j hm]
      · simp [hm]
    | some d =>
      simp only [putd, Option.toList, upd, List.cons_append, List.nil_append, List.mem_cons]
      by_cases hj : j = d
      · simp [hj]
      · by_cases hm : j ∈ o.op.takes.flatMap Opd.slots
        · simp [hj, hm, htk j hm]
        · simp [hj, hm]
  | call k f xs v h1 h2 h3 h4 h5 =>
    have he := hev xs (by rw [h2]; rfl)
    have e : xs.map (Opd.ev u) = xs.map (Opd.ev t) := List.map_congr_left he
    refine .call k f xs v (hw.trans h1) h2 (by rw [e]; exact h3) (by rw [e]; exact h4) ?_
    rw [h5, putd_graft htk]
  | val v h1 h2 h3 =>
    subst h3
    refine .val v (hw.trans h1) ?_ (putd_graft htk).symm
    obtain ⟨d, op, g⟩ := o
    simp only at hq hev h2 htk ⊢
    have look : ∀ l, op.looks = some l → op.takes = [] → (∀ x ∈ l, x.ev u = x.ev t) → aex P op ⟨u, h⟩ = some (.val v (strips u op.takes) h) := fun l hl ht he => by
      obtain ⟨v', e1, e2⟩ := aex_look hl he h2
      rw [ht] at e1 ⊢
      simp only [strips_nil, AR.val.injEq] at e1 ⊢
      rw [e1.1]
      exact e2
    cases op
    case mov tk x =>
      cases tk with
      | false => exact look _ rfl rfl (hev _ rfl)
      | true =>
        have hx := hev _ rfl x (by simp)
        rw [aex_movT] at h2 ⊢
        simp only [Option.some.injEq, AR.val.injEq] at h2
        rw [hx, h2.1]
        rfl
    case app obj sz by_ z x y =>
      cases obj with
      | true => cases hq
      | false =>
        have hx := hev _ rfl x (by simp)
        have hy := hev _ rfl y (by simp)
        rw [aex_app] at h2 ⊢
        rw [hx, hy]
        simp only [Option.bind_eq_some_iff] at h2 ⊢
        obtain ⟨ys, q1, q2⟩ := h2
        refine ⟨ys, q1, ?_⟩
        have key : ∀ (a b : Nat → AV) w, aexApp false sz by_ a h ys (x.ev t) = some (.val w a h) → aexApp false sz by_ b h ys (x.ev t) = some (.val w b h) := fun a b w hw => by
          unfold aexApp at hw ⊢
          repeat' (first | (cases hw; done) | split at hw)
          all_goals (simp only [Option.some.injEq, AR.val.injEq] at hw; simp_all)
          all_goals (intro hc; omega)
        exact key _ _ _ q2
    case call => rw [aex_callE] at h2; split at h2 <;> cases h2
    case lit obj sz n zero parts =>
      cases obj with
      | true => cases hq
      | false =>
        have hx := hev _ rfl
        rw [aex_lit] at h2 ⊢
        have e : parts.map (fun p => (p.1 * sz, sz, (p.2.ev u).dis)) = parts.map (fun p => (p.1 * sz, sz, (p.2.ev t).dis)) := List.map_congr_left fun p hp => by
          rw [hx p.2 (List.mem_map.2 ⟨p, hp, rfl⟩)]
        rw [e]
        simp only [Option.bind_eq_some_iff] at h2 ⊢
        obtain ⟨cs, q1, q2⟩ := h2
        refine ⟨cs, q1, ?_⟩
        split at q2
        · rename_i hz
          simp only [Option.some.injEq, AR.val.injEq] at q2
          rw [if_pos hz, q2.1]
          rfl
        · cases q2
    case bld zero parts =>
      have hx := hev _ rfl
      simp only [aex, Option.bind_eq_bind] at h2 ⊢
      have e : parts.map (fun p => (p.1, p.2.1, (p.2.2.ev u).dis)) = parts.map (fun p => (p.1, p.2.1, (p.2.2.ev t).dis)) := List.map_congr_left fun p hp => by
        rw [hx p.2.2 (List.mem_map.2 ⟨p, hp, rfl⟩)]
      rw [e]
      simp only [Option.bind_eq_some_iff] at h2 ⊢
      obtain ⟨cs, q1, q2⟩ := h2
      simp only [Option.some.injEq, AR.val.injEq] at q2
      exact ⟨cs, q1, by rw [q2.1]; rfl⟩
    case blt b tys ty xs =>
      have hx := hev _ rfl
      simp only [aex, Option.bind_eq_bind] at h2 ⊢
      have e : xs.map (Opd.ev u) = xs.map (Opd.ev t) := List.map_congr_left hx
      rw [e]
      simp only [Option.bind_eq_some_iff] at h2 ⊢
      obtain ⟨vs, q1, r, q2, q3⟩ := h2
      refine ⟨vs, q1, r, q2, ?_⟩
      split at q3
      · split at q3
        · rename_i hsv
          simp only [Option.some.injEq, AR.val.injEq] at q3
          simp [hsv, q3.1, AOp.takes, strips]
        · cases q3
      · cases q3
    all_goals first | (cases hq; done) | exact look _ rfl rfl (hev _ rfl) | skip
    case s2b obj x => cases obj <;> first | (cases hq; done) | exact look _ rfl rfl (hev _ rfl)
    case ld tk agg sz p => cases tk <;> first | (cases hq; done) | exact look _ rfl rfl (hev _ rfl)

theorem count_list {f : Nat → Bool} {i : Nat} : ∀ {l : List Nat}, l.Nodup → i ∈ l → f i = false → (l.filter (fun k => !f k)).length = (l.filter (fun k => !upd f i true k)).length + 1
  | [], _, hi, _ => by cases hi
  | a :: r, hn, hi, hf => by
    rw [List.nodup_cons] at hn
    by_cases e : a = i
    · subst e
      have h1 : (!f a) = true := by simp [hf]
      have h2 : (!upd f a true a) = false := by simp [upd]
      rw [List.filter_cons_of_pos (p := fun k => !f k) h1, List.filter_cons_of_neg (p := fun k => !upd f a true k) (by simp [h2])]
      have : r.filter (fun k => !f k) = r.filter (fun k => !upd f a true k) := by
        apply List.filter_congr
        intro k hk
        have : k ≠ a := fun e => hn.1 (e ▸ hk)
        simp [upd, this]
      rw [List.length_cons, this]
    · have hi' : i ∈ r := by
        rcases List.mem_cons.1 hi with h | h
        · exact absurd h.symm e
        · exact h
      have ih := count_list hn.2 hi' hf
      have e2 : upd f i true a = f a := by simp [upd, e]
      by_cases hfa : f a = true
      · rw [List.filter_cons_of_neg (p := fun k => !f k) (by simp [hfa]), List.filter_cons_of_neg (p := fun k => !upd f i true k) (by simp [e2, hfa])]
        exact ih
      · have hfa : f a = false := by simpa using hfa
        rw [List.filter_cons_of_pos (p := fun k => !f k) (by simp [hfa]), List.filter_cons_of_pos (p := fun k => !upd f i true k) (by simp [e2, hfa]), List.length_cons, List.length_cons, ih]





def Down (pre : List (List Nat)) (l : Nat → Bool) : Prop := ∀ i, l i = true → ∀ k ∈ pre.getD i [], l k = true

theorem anc_fold (l : Nat → Bool) (tab : List Nat) (ht : ∀ i, l i = true → ∀ k, (tab.getD i 0).testBit k = true → l k = true) : ∀ (p : List Nat) (m : Nat), (∀ k ∈ p, l k = true) → (∀ k, m.testBit k = true → l k = true) →
    ∀ k, (p.foldl (fun m k => m ||| (1 <<< k) ||| tab.getD k 0) m).testBit k = true → l k = true
  | [], m, _, hm => hm
  | a :: p, m, hp, hm => by
    refine anc_fold l tab ht p _ (fun k hk => hp k (by simp [hk])) fun k hk => ?_
    rw [Nat.testBit_or, Nat.testBit_or] at hk
    simp only [Bool.or_eq_true] at hk
    rcases hk with (hk | hk) | hk
    · exact hm k hk
    · rw [Nat.one_shiftLeft, Nat.testBit_two_pow] at hk
      simp only [decide_eq_true_eq] at hk
      exact hk ▸ hp a (by simp)
    · exact ht a (hp a (by simp)) k hk

theorem anc_spec (l : Nat → Bool) : ∀ (pre : List (List Nat)) (tab : List Nat), (∀ i, l i = true → ∀ k, (tab.getD i 0).testBit k = true → l k = true) → (∀ i, l (tab.length + i) = true → ∀ k ∈ pre.getD i [], l k = true) →
    ∀ i, l i = true → ∀ k, ((pre.foldl (fun tab p => tab ++ [p.foldl (fun m k => m ||| (1 <<< k) ||| tab.getD k 0) 0]) tab).getD i 0).testBit k = true → l k = true
  | [], tab, ht, _ => ht
  | p :: pre, tab, ht, hp => by
    refine anc_spec l pre _ (fun i hi k hk => ?_) (fun i hi k hk => ?_)
    · rcases Nat.lt_trichotomy i tab.length with h | h | h
      · rw [List.getD_eq_getElem?_getD, List.getElem?_append_left h, ← List.getD_eq_getElem?_getD] at hk
        exact ht i hi k hk
      · subst h
        rw [List.getD_eq_getElem?_getD, List.getElem?_append_right (Nat.le_refl _)] at hk
        simp only [Nat.sub_self, List.getElem?_cons_zero, Option.getD_some] at hk
        exact anc_fold l tab ht p 0 (fun q hq => hp 0 (by simpa using hi) q (by simpa using hq)) (fun q hq => by simp at hq) k hk
      · rw [List.getD_eq_getElem?_getD, List.getElem?_eq_none (by simp; omega)] at hk
        simp at hk
    · refine hp (i + 1) ?_ k (by simpa using hk)
      rw [List.length_append] at hi
      simpa [Nat.add_assoc, Nat.add_comm 1 i] using hi

theorem ancTab_ok {pre : List (List Nat)} {l : Nat → Bool} (hl : Down pre l) {i k : Nat} (hi : l i = true) (hk : ((ancTab pre).getD i 0).testBit k = true) : l k = true :=
  anc_spec l pre [] (fun i _ k hk => by simp at hk) (fun i hi => by simpa using hl i (by simpa using hi)) i hi k hk

theorem drawOk_spec {ops : List AOper} {pre : List (List Nat)} (h : drawOk ops pre = true) {i : Nat} {o : AOper} (hi : ops[i]? = some o) :
    o.op.quiet.isSome = true ∧ (∀ k ∈ pre.getD i [], k < i) ∧ ∀ k o' j, ops[k]? = some o' → j ∈ o'.writes → (j ∈ o.reads ∨ j ∈ o.writes) → k = i ∨ (k < i ∧ ((ancTab pre).getD i 0).testBit k = true) ∨ (i < k ∧ ((ancTab pre).getD k 0).testBit i = true) := by
  have hlt : i < ops.length := (List.getElem?_eq_some_iff.1 hi).1
  unfold drawOk at h
  rw [List.all_eq_true] at h
  have := h i (List.mem_range.2 hlt)
  rw [hi] at this
  simp only [Bool.and_eq_true, List.all_eq_true, decide_eq_true_eq] at this
  obtain ⟨⟨h1, h2⟩, h3⟩ := this
  refine ⟨h1, h2, fun k o' j hk hj hr => ?_⟩
  have hlk : k < ops.length := (List.getElem?_eq_some_iff.1 hk).1
  have h4 := h3 k (List.mem_range.2 hlk)
  rw [hk] at h4
  simp only [Bool.or_eq_true, decide_eq_true_eq, List.all_eq_true] at h4
  rcases h4 with h4 | h4
  · exact .inl h4
  · have h5 := h4 j hj
    simp only [Bool.or_eq_true, Bool.not_eq_true', Bool.or_eq_false_iff, List.contains_eq_mem, decide_eq_false_iff_not] at h5
    rcases h5 with h5 | h5
    · rcases hr with hr | hr
      · exact absurd hr h5.1
      · exact absurd hr h5.2
    · by_cases e : k = i
      · exact .inl e
      · split at h5
        · rename_i hki
          exact .inr (.inl ⟨hki, h5⟩)
        · rename_i hki
          exact .inr (.inr ⟨by omega, h5⟩)


def WT (P : Program) (ann : Ann) (h : Heap) : List AOper → (Nat → AV) → ((Nat → AV) → Prop) → Prop
  | [], t, Q => Q t
  | o :: r, t, Q => ∃ t', QT P ann h o t t' ∧ WT P ann h r t' Q

theorem WT_seq {h : Heap} {Q : (Nat → AV) → Prop} : ∀ (ops : List AOper) (t : Nat → AV), WT P ann h ops t Q → ∃ T : Nat → (Nat → AV), T 0 = t ∧ (∀ i o, ops[i]? = some o → QT P ann h o (T i) (T (i + 1))) ∧ Q (T ops.length)
  | [], t, hq => ⟨fun _ => t, rfl, by simp, hq⟩
  | o :: r, t, hq => by
    obtain ⟨t', h1, h2⟩ := hq
    obtain ⟨T, h3, h4, h5⟩ := WT_seq r t' h2
    refine ⟨fun i => match i with | 0 => t | i + 1 => T i, rfl, fun i o' hi => ?_, h5⟩
    cases i with
    | zero =>
      simp at hi
      subst hi
      show QT P ann h o t (T 0)
      rw [h3]
      exact h1
    | succ i => exact h4 i o' (by simpa using hi)

theorem QT.other {h : Heap} {o : AOper} {t t' : Nat → AV} (q : QT P ann h o t t') {j : Nat} (hj : j ∉ o.writes) : t' j = t j := by
  have hd : ∀ v : AV, putd (strips t o.op.takes) o.dst v j = t j := fun v => by
    unfold AOper.writes at hj
    cases hd : o.dst with
    | none =>
      rw [hd] at hj
      simp only [Option.toList, List.nil_append] at hj
      simp [putd, strips_slot, hj]
    | some d =>
      rw [hd] at hj
      simp only [Option.toList, List.cons_append, List.nil_append, List.mem_cons, not_or] at hj
      simp [putd, upd, strips_slot, hj.1, hj.2]
  cases q with
  | pass h1 h2 =>
    subst h2
    unfold AOper.writes at hj
    cases hd : o.dst with
    | none => rfl
    | some d =>
      rw [hd] at hj
      simp only [Option.toList, List.cons_append, List.nil_append, List.mem_cons, not_or] at hj
      simp [putd, upd, hj.1]
  | val v h1 h2 h3 => rw [h3]; exact hd v
  | call k f xs v h1 h2 h3 h4 h5 => rw [h5]; exact hd v

theorem AWD_quiet {ops : List AOper} {pre : List (List Nat)} {t : Nat → AV} {h : Heap} {Q : St → Prop} (hok : drawOk ops pre = true) (hq : WT P ann h ops t fun t' => Q ⟨t', h⟩) :
    AWD P ann ops pre (fun _ => false) ⟨t, h⟩ Q := by
  obtain ⟨T, hT0, hT, hQ⟩ := WT_seq ops t hq

  have still : ∀ (j d a : Nat), (∀ k o, a ≤ k → k < a + d → ops[k]? = some o → j ∉ o.writes) → a + d ≤ ops.length → T (a + d) j = T a j := by
    intro j d
    induction d with
    | zero => intro a _ _; rfl
    | succ d ih =>
      intro a hw hl
      have hlt : a + d < ops.length := by omega
      have h1 := (hT (a + d) _ (List.getElem?_eq_getElem hlt)).other (j := j) (hw (a + d) _ (by omega) (by omega) (List.getElem?_eq_getElem hlt))
      rw [← Nat.add_assoc, h1]
      exact ih a (fun k o h1 h2 => hw k o h1 (by omega)) (by omega)
  have same : ∀ (j a b : Nat), a ≤ ops.length → b ≤ ops.length → (∀ k o, ops[k]? = some o → j ∈ o.writes → (k < a ↔ k < b)) → T a j = T b j := by
    intro j a b ha hb hw
    rcases Nat.le_total a b with hab | hab
    · have := still j (b - a) a (fun k o h1 h2 ho hj => by have := hw k o ho hj; omega) (by omega)
      rw [Nat.add_sub_cancel' hab] at this
      exact this.symm
    · have := still j (a - b) b (fun k o h1 h2 ho hj => by have := hw k o ho hj; omega) (by omega)
      rw [Nat.add_sub_cancel' hab] at this
      exact this
  have key : ∀ m (l : Nat → Bool) (s : Nat → AV), ((List.range ops.length).filter (fun i => !l i)).length = m → (∀ i, l i = true → i < ops.length) → Down pre l →
      (∀ j, ∃ a, a ≤ ops.length ∧ s j = T a j ∧ ∀ k o, ops[k]? = some o → j ∈ o.writes → (l k = true ↔ k < a)) → AWD P ann ops pre l ⟨s, h⟩ Q := by
    intro m
    induction m with
    | zero =>
      intro l s hm hb hl hs
      have all : ∀ i, i < ops.length → l i = true := by
        intro i hi
        have := List.filter_eq_nil_iff.1 (List.eq_nil_of_length_eq_zero hm) i (List.mem_range.2 hi)
        simpa using this
      have es : s = T ops.length := by
        funext j
        obtain ⟨a, ha, h1, h2⟩ := hs j
        rw [h1]
        refine same j a ops.length ha (Nat.le_refl _) fun k o ho hj => ?_
        have hk : k < ops.length := (List.getElem?_eq_some_iff.1 ho).1
        have := (h2 k o ho hj).1 (all k hk)
        omega
      refine .mk (fun _ _ => False) (fun _ => by rw [es]; exact hQ) (fun i o hr _ => ?_) (fun i s' hr hf => hf.elim)
      have := all i hr.1
      rw [hr.2.1] at this
      cases this
    | succ m ih =>
      intro l s hm hb hl hs

      have see : ∀ i o, readyA pre ops.length l i → ops[i]? = some o → ∀ j, (j ∈ o.reads ∨ j ∈ o.writes) → s j = T i j ∧ ∀ k o', ops[k]? = some o' → j ∈ o'.writes → k ≠ i → (l k = true ↔ k < i) := by
        intro i o hr ho j hj
        have hord : ∀ k o', ops[k]? = some o' → j ∈ o'.writes → k ≠ i → (l k = true ↔ k < i) := by
          intro k o' hk hjw hne
          rcases (drawOk_spec hok ho).2.2 k o' j hk hjw hj with e | ⟨e1, e2⟩ | ⟨e1, e2⟩
          · exact absurd e hne
          · refine ⟨fun _ => e1, fun _ => ?_⟩
            have hdn : Down pre (fun q => l q || decide (q = i)) := by
              intro q hq r hrr
              simp only [Bool.or_eq_true, decide_eq_true_eq] at hq ⊢
              rcases hq with hq | rfl
              · exact .inl (hl q hq r hrr)
              · exact .inl (hr.2.2 r hrr)
            have := ancTab_ok hdn (i := i) (k := k) (by simp) e2
            simp only [Bool.or_eq_true, decide_eq_true_eq] at this
            exact this.resolve_right hne
          · refine ⟨fun hlk => ?_, fun hlt => by omega⟩
            have := ancTab_ok hl hlk e2
            rw [hr.2.1] at this
            cases this
        refine ⟨?_, hord⟩
        obtain ⟨a, ha, h1, h2⟩ := hs j
        rw [h1]
        refine same j a i ha (by have := hr.1; omega) fun k o' hk hjw => ?_
        by_cases hki : k = i
        · subst hki
          have := h2 k o' hk hjw
          rw [hr.2.1] at this
          simp only [Bool.false_eq_true, false_iff] at this
          omega
        · rw [← h2 k o' hk hjw]
          exact hord k o' hk hjw hki
      refine .mk (fun i s' => ∃ o, ops[i]? = some o ∧ s' = ⟨graft o s (T (i + 1)), h⟩) (fun hno => ?_) (fun i o hr ho => ?_) (fun i s' hr hR => ?_)
      · exfalso
        have ex : ∃ i, i < ops.length ∧ l i = false := by
          cases hf : (List.range ops.length).filter (fun i => !l i) with
          | nil => rw [hf] at hm; simp at hm
          | cons a r =>
            have : a ∈ (List.range ops.length).filter (fun i => !l i) := by rw [hf]; simp
            rw [List.mem_filter, List.mem_range] at this
            exact ⟨a, this.1, by simpa using this.2⟩
        obtain ⟨i, hi, hli⟩ := ex
        have least : ∀ n i, i ≤ n → i < ops.length → l i = false → False := by
          intro n
          induction n with
          | zero =>
            intro i hi0 hi hli
            obtain rfl : i = 0 := by omega
            refine hno 0 ⟨hi, hli, fun k hk => ?_⟩
            have := (drawOk_spec hok (List.getElem?_eq_getElem hi)).2.1 k hk
            omega
          | succ n ihn =>
            intro i hin hi hli
            by_cases hrdy : ∀ k ∈ pre.getD i [], l k = true
            · exact hno i ⟨hi, hli, hrdy⟩
            · simp only [Classical.not_forall] at hrdy
              obtain ⟨k, hk, hlk⟩ := hrdy
              have := (drawOk_spec hok (List.getElem?_eq_getElem hi)).2.1 k hk
              exact ihn k (by omega) (by omega) (by simpa using hlk)
        exact least i i (Nat.le_refl _) hi hli
      · exact (QT.local (drawOk_spec hok ho).1 (fun j hj => (see i o hr ho j (.inl hj)).1) (hT i o ho)).aw ⟨o, ho, rfl⟩
      · obtain ⟨o, ho, rfl⟩ := hR
        refine ih (upd l i true) _ ?_ ?_ ?_ ?_
        · have e1 := count_list (l := List.range ops.length) (i := i) (f := l) List.nodup_range (List.mem_range.2 hr.1) hr.2.1
          omega
        · intro k hk
          by_cases e : k = i
          · subst e; exact hr.1
          · simp only [upd, if_neg e] at hk; exact hb k hk
        · intro k hk q hq
          by_cases e : k = i
          · subst e
            simp only [upd]
            split
            · rfl
            · exact hr.2.2 q hq
          · simp only [upd, if_neg e] at hk
            simp only [upd]
            split
            · rfl
            · exact hl k hk q hq
        · intro j
          by_cases hj : j ∈ o.writes
          · refine ⟨i + 1, by have := hr.1; omega, by simp [graft, hj], fun k o' hk hjw => ?_⟩
            by_cases e : k = i
            · subst e; simp [upd]
            · have := (see i o hr ho j (.inr hj)).2 k o' hk hjw e
              simp only [upd, if_neg e]
              rw [this]
              omega
          · obtain ⟨a, ha, h1, h2⟩ := hs j
            refine ⟨a, ha, by simp [graft, hj, h1], fun k o' hk hjw => ?_⟩
            have hne : k ≠ i := fun e => by subst e; rw [ho] at hk; cases hk; exact hj hjw
            simp only [upd, if_neg hne]
            exact h2 k o' hk hjw
  refine key _ _ t rfl (fun i hi => by cases hi) (fun i hi => by cases hi) (fun j => ⟨0, Nat.zero_le _, by rw [hT0], fun k o _ _ => by simp⟩)


def afterQ (d : Option Nat) (h : Heap) (N : St → Prop) : Option AR → Prop
  | some (.val v t' _) => N ⟨putd t' d v, h⟩
  | _ => False


def contK (N : St → Prop) (d : Option Nat) (t : Nat → AV) (v : AV) (h : Heap) : Prop := N ⟨putd t d v, h⟩

def AOp.soft : AOp → Bool
  | .blt .. | .bld .. | .lit false .. | .mov true _ | .app false .. => true
  | op => op.looks.isSome

def Q1 (P : Program) (ann : Ann) (d : Option Nat) (s : St) (N : St → Prop) : AOp → Prop
  | .call k f xs => own1 (xs.map (Opd.ev s.t)) = true ∧ ∃ v, AWF P ann k f (xs.map (Opd.ev s.t)) s.h (fun v' h' => v' = v ∧ h' = s.h) ∧ contK N d (strips s.t xs) v s.h
  | op => op.soft = true ∧ afterQ d s.h N (aex P op s)

def QO (P : Program) (ann : Ann) : List AOper → St → (St → Prop) → Prop
  | [], s, Q => Q s
  | o :: r, s, Q => if wantedA o s.t then Q1 P ann o.dst s (fun s' => QO P ann r s' Q) o.op else QO P ann r ⟨putd s.t o.dst .undef, s.h⟩ Q

theorem aex_soft {op : AOp} (hs : op.soft = true) {t : Nat → AV} {h : Heap} {r : AR} (hr : aex P op ⟨t, h⟩ = some r) : ∃ v, r = .val v (strips t op.takes) h := by
  have look : op.takes = [] → op.looks.isSome = true → ∃ v, r = .val v (strips t op.takes) h := fun ht h1 => by
    obtain ⟨l, hl⟩ := Option.isSome_iff_exists.1 h1
    obtain ⟨v, e1, _⟩ := aex_look hl (t' := t) (fun _ _ => rfl) hr
    exact ⟨v, by rw [e1, ht]; rfl⟩
  cases op
  case mov tk x =>
    cases tk with
    | false => exact look rfl hs
    | true =>
      rw [aex_movT] at hr
      cases hr
      exact ⟨_, rfl⟩
  case app obj _ _ _ x y =>
    cases obj with
    | true => cases hs
    | false =>
      rw [aex_app] at hr
      simp only [Option.bind_eq_some_iff] at hr
      obtain ⟨ys, _, hr⟩ := hr
      unfold aexApp at hr
      repeat' (first | (cases hr; done) | split at hr)
      all_goals (cases hr; first | exact ⟨_, rfl⟩ | (simp_all; done))
  case lit obj _ _ _ _ =>
    cases obj with
    | true => exact look rfl hs
    | false =>
      rw [aex_lit] at hr
      simp only [Option.bind_eq_some_iff] at hr
      obtain ⟨cs, _, hr⟩ := hr
      split at hr
      · cases hr; exact ⟨_, rfl⟩
      · cases hr
  case bld z ps =>
    simp only [aex, Option.bind_eq_bind, Option.bind_eq_some_iff] at hr
    obtain ⟨cs, _, hr⟩ := hr
    cases hr; exact ⟨_, rfl⟩
  case blt =>
    simp only [aex, Option.bind_eq_bind, Option.bind_eq_some_iff] at hr
    obtain ⟨vs, _, q, _, hr⟩ := hr
    split at hr
    · split at hr
      · cases hr; exact ⟨_, rfl⟩
      · cases hr
    · cases hr
  all_goals first | (cases hs; done) | exact look rfl hs

theorem Q1_sound {h : Heap} {o : AOper} {t : Nat → AV} {N : St → Prop} (hw : wantedA o t = true) (hq : Q1 P ann o.dst ⟨t, h⟩ N o.op) : ∃ t', QT P ann h o t t' ∧ N ⟨t', h⟩ := by
  obtain ⟨d, op, g⟩ := o
  simp only at hq ⊢
  have look : op.soft = true ∧ afterQ d h N (aex P op ⟨t, h⟩) → ∃ t', QT P ann h ⟨d, op, g⟩ t t' ∧ N ⟨t', h⟩ := by
    rintro ⟨h1, h2⟩
    cases hr : aex P op ⟨t, h⟩ with
    | none => rw [hr] at h2; exact h2.elim
    | some r =>
      obtain ⟨v, e1⟩ := aex_soft h1 hr
      subst e1
      rw [hr] at h2
      exact ⟨_, .val v hw hr rfl, h2⟩
  cases op
  case call k f xs =>
    obtain ⟨h1, v, h2, h3⟩ := hq
    exact ⟨_, .call k f xs v hw rfl h1 h2 rfl, h3⟩
  all_goals exact look hq

theorem QO_sound {h : Heap} : ∀ {ops : List AOper} {t : Nat → AV} {Q : St → Prop}, QO P ann ops ⟨t, h⟩ Q → WT P ann h ops t fun t' => Q ⟨t', h⟩
  | [], t, Q, hq => hq
  | o :: r, t, Q, hq => by
    simp only [QO] at hq
    split at hq
    · rename_i hw
      obtain ⟨t', h1, h2⟩ := Q1_sound hw hq
      exact ⟨t', h1, QO_sound h2⟩
    · rename_i hw
      exact ⟨_, .pass (by simpa using hw) rfl, QO_sound hq⟩

section rules
variable {t : Nat → AV} {h : Heap} {N : St → Prop}
theorem contK_some {d t v h} : contK N (some d) t v h = N ⟨upd t d v, h⟩ := nd rfl
theorem contK_none {t v h} : contK N none t v h = N ⟨t, h⟩ := nd rfl
theorem QO_nil : QO P ann [] ⟨t, h⟩ N = N ⟨t, h⟩ := nd rfl
theorem QO_cons {d op r} : QO P ann (⟨d, op, none⟩ :: r) ⟨t, h⟩ N = Q1 P ann d ⟨t, h⟩ (fun s' => QO P ann r s' N) op := nd rfl
theorem afterQ_val {d v t' h'} : afterQ (some d) h N (some (.val v t' h')) = N ⟨upd t' d v, h⟩ := nd rfl
theorem afterQ_valn {v t' h'} : afterQ none h N (some (.val v t' h')) = N ⟨t', h⟩ := nd rfl
theorem afterQ_none {d} : afterQ d h N none = False := nd rfl
theorem afterQ_if {d} {c : Prop} [Decidable c] {x : Option AR} : afterQ d h N (if c then x else none) = (c ∧ afterQ d h N x) := by
  by_cases hc : c <;> simp [hc, afterQ_none]
theorem afterQ_bind {α : Type} {d} {x : Option α} {f : α → Option AR} : afterQ d h N (x.bind f) = ∃ a, x = some a ∧ afterQ d h N (f a) := by
  cases x <;> simp [afterQ_none]
theorem Q1_movT {d x} : Q1 P ann d ⟨t, h⟩ N (.mov true x) = afterQ d h N (aex P (.mov true x) ⟨t, h⟩) := by show (_ ∧ _) = _; simp [AOp.soft]
theorem Q1_app {d sz b z x y} : Q1 P ann d ⟨t, h⟩ N (.app false sz b z x y) = afterQ d h N (aex P (.app false sz b z x y) ⟨t, h⟩) := by show (_ ∧ _) = _; simp [AOp.soft]
theorem Q1_movF {d x} : Q1 P ann (some d) ⟨t, h⟩ N (.mov false x) = N ⟨upd t d (x.ev t).dis, h⟩ := by
  show (_ ∧ _) = _
  rw [aex_movF, afterQ_val]
  simp [AOp.soft, AOp.looks]
theorem Q1_call {d k f xs} : Q1 P ann d ⟨t, h⟩ N (.call k f xs) = (own1 (xs.map (Opd.ev t)) = true ∧ ∃ v, AWF P ann k f (xs.map (Opd.ev t)) h (fun v' h' => v' = v ∧ h' = h) ∧ contK N d (strips t xs) v h) := nd rfl
theorem Q1_pick {d c a b} : Q1 P ann d ⟨t, h⟩ N (.pick c a b) = afterQ d h N (aex P (.pick c a b) ⟨t, h⟩) := by show (_ ∧ _) = _; simp [AOp.soft, AOp.looks]
theorem Q1_bin {d op ty x y} : Q1 P ann d ⟨t, h⟩ N (.bin op ty x y) = afterQ d h N (aex P (.bin op ty x y) ⟨t, h⟩) := by show (_ ∧ _) = _; simp [AOp.soft, AOp.looks]
theorem Q1_un {d op x} : Q1 P ann d ⟨t, h⟩ N (.un op x) = afterQ d h N (aex P (.un op x) ⟨t, h⟩) := by show (_ ∧ _) = _; simp [AOp.soft, AOp.looks]
theorem Q1_isnil {d k ng x} : Q1 P ann d ⟨t, h⟩ N (.isnil k ng x) = afterQ d h N (aex P (.isnil k ng x) ⟨t, h⟩) := by show (_ ∧ _) = _; simp [AOp.soft, AOp.looks]
theorem Q1_conv {d a b x} : Q1 P ann d ⟨t, h⟩ N (.conv a b x) = afterQ d h N (aex P (.conv a b x) ⟨t, h⟩) := by show (_ ∧ _) = _; simp [AOp.soft, AOp.looks]
theorem Q1_b2s {d x} : Q1 P ann d ⟨t, h⟩ N (.b2s x) = afterQ d h N (aex P (.b2s x) ⟨t, h⟩) := by show (_ ∧ _) = _; simp [AOp.soft, AOp.looks]
theorem Q1_s2b {d x} : Q1 P ann d ⟨t, h⟩ N (.s2b false x) = afterQ d h N (aex P (.s2b false x) ⟨t, h⟩) := by show (_ ∧ _) = _; simp [AOp.soft, AOp.looks]
theorem Q1_fld {d a o s x} : Q1 P ann d ⟨t, h⟩ N (.fld a o s x) = afterQ d h N (aex P (.fld a o s x) ⟨t, h⟩) := by show (_ ∧ _) = _; simp [AOp.soft, AOp.looks]
theorem Q1_fad {d o x} : Q1 P ann d ⟨t, h⟩ N (.fad o x) = afterQ d h N (aex P (.fad o x) ⟨t, h⟩) := by show (_ ∧ _) = _; simp [AOp.soft, AOp.looks]
theorem Q1_iad {d s x i} : Q1 P ann d ⟨t, h⟩ N (.iad s x i) = afterQ d h N (aex P (.iad s x i) ⟨t, h⟩) := by show (_ ∧ _) = _; simp [AOp.soft, AOp.looks]
theorem Q1_iap {d n s x i} : Q1 P ann d ⟨t, h⟩ N (.iap n s x i) = afterQ d h N (aex P (.iap n s x i) ⟨t, h⟩) := by show (_ ∧ _) = _; simp [AOp.soft, AOp.looks]
theorem Q1_ixs {d x i} : Q1 P ann d ⟨t, h⟩ N (.ixs x i) = afterQ d h N (aex P (.ixs x i) ⟨t, h⟩) := by show (_ ∧ _) = _; simp [AOp.soft, AOp.looks]
theorem Q1_ixa {d n a s x i} : Q1 P ann d ⟨t, h⟩ N (.ixa n a s x i) = afterQ d h N (aex P (.ixa n a s x i) ⟨t, h⟩) := by show (_ ∧ _) = _; simp [AOp.soft, AOp.looks]
theorem Q1_slc {d s x lo hi mx} : Q1 P ann d ⟨t, h⟩ N (.slc s x lo hi mx) = afterQ d h N (aex P (.slc s x lo hi mx) ⟨t, h⟩) := by show (_ ∧ _) = _; simp [AOp.soft, AOp.looks]
theorem Q1_sls {d x lo hi} : Q1 P ann d ⟨t, h⟩ N (.sls x lo hi) = afterQ d h N (aex P (.sls x lo hi) ⟨t, h⟩) := by show (_ ∧ _) = _; simp [AOp.soft, AOp.looks]
theorem Q1_len {d k x} : Q1 P ann d ⟨t, h⟩ N (.len k x) = afterQ d h N (aex P (.len k x) ⟨t, h⟩) := by show (_ ∧ _) = _; simp [AOp.soft, AOp.looks]
theorem Q1_ld {d a s p} : Q1 P ann d ⟨t, h⟩ N (.ld false a s p) = afterQ d h N (aex P (.ld false a s p) ⟨t, h⟩) := by show (_ ∧ _) = _; simp [AOp.soft, AOp.looks]
theorem Q1_nck {d x} : Q1 P ann d ⟨t, h⟩ N (.nck x) = afterQ d h N (aex P (.nck x) ⟨t, h⟩) := by show (_ ∧ _) = _; simp [AOp.soft, AOp.looks]
theorem Q1_ext {d i x} : Q1 P ann d ⟨t, h⟩ N (.ext i x) = afterQ d h N (aex P (.ext i x) ⟨t, h⟩) := by show (_ ∧ _) = _; simp [AOp.soft, AOp.looks]
theorem Q1_lkp {d c k z m x} : Q1 P ann d ⟨t, h⟩ N (.lkp c k z m x) = afterQ d h N (aex P (.lkp c k z m x) ⟨t, h⟩) := by show (_ ∧ _) = _; simp [AOp.soft, AOp.looks]
theorem Q1_blt {d b tys ty xs} : Q1 P ann d ⟨t, h⟩ N (.blt b tys ty xs) = afterQ d h N (aex P (.blt b tys ty xs) ⟨t, h⟩) := by show (_ ∧ _) = _; simp [AOp.soft]
theorem Q1_bld {d z ps} : Q1 P ann d ⟨t, h⟩ N (.bld z ps) = afterQ d h N (aex P (.bld z ps) ⟨t, h⟩) := by show (_ ∧ _) = _; simp [AOp.soft]
theorem Q1_lit {d sz n z ps} : Q1 P ann d ⟨t, h⟩ N (.lit false sz n z ps) = afterQ d h N (aex P (.lit false sz n z ps) ⟨t, h⟩) := by show (_ ∧ _) = _; simp [AOp.soft]
end rules

end Go.Am
