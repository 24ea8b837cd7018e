/- Regions in whatever order is allowed, with stores and new objects. -/
import Derived.Test.YtcdfdnmnnepnoaaDoorAmDraw
import Derived.Test.YtcdfdnmnnepnoaaDoorAmGhost
set_option linter.unusedVariables false
set_option linter.unusedSimpArgs false
namespace Go.Am
variable {P : Program} {ann : Ann}

def asO : AV → Option Nat
  | .op o _ => some o
  | _ => none

def obX (o : AOper) (t : Nat → AV) : Option Nat := match o.op with
  | .ld _ _ _ p => asO (p.ev t)
  | .st _ p _ => asO (p.ev t)
  | _ => none
def unl (t : Nat → AV) (U : List Nat) (v : AV) : Prop := ∀ e ∈ U, ∀ o o', asO (t e) = some o → asO v = some o' → o ≠ o'
def apE : Option (Nat × AObj) → Heap → Heap
  | none, h => h
  | some (o, X), h => upd h o (some X)


inductive EV (P : Program) (ann : Ann) (x : AOper × List Nat) (t : Nat → AV) (h : Heap) : (Nat → AV) → Option (Nat × AObj) → Prop
  | pass : wantedA x.1 t = false → EV P ann x t h (putd t x.1.dst .undef) none
  | flat {t'} : x.1.op.clsX = 0 ∨ x.1.op.clsX = 4 → (∀ h', QT P ann h' x.1 t t') → EV P ann x t h t' none
  | load {t' agg sz p v} : x.1.op = .ld false agg sz p → wantedA x.1 t = true → unl t x.2 (p.ev t) → aex P x.1.op ⟨t, h⟩ = some (.val v t h) → t' = putd t x.1.dst v → EV P ann x t h t' none
  | store {sz p y ob c cs} : x.1.op = .st sz p y → x.1.dst = none → wantedA x.1 t = true → unl t x.2 (p.ev t) → p.ev t = .op ob c → h ob = some (.arr cs) → c + sz ≤ cs.length ∧ (y.ev t).cellsD.length = sz ∧ (y.ev t).isTu = false →
      EV P ann x t h (strip t y) (some (ob, .arr (setRange cs c (y.ev t).cellsD)))

theorem mem_writesX {o : AOper} {j : Nat} (h : j ∈ o.writes) : j ∈ o.writesX := List.mem_append_right _ h
theorem mem_readsX {o : AOper} {j : Nat} (h : j ∈ o.reads) : j ∈ o.readsX := List.mem_append_right _ h
theorem quiet_of {o : AOp} (h : o.clsX = 0 ∨ o.clsX = 4) : o.quiet.isSome = true := by
  unfold AOp.clsX at h
  split at h <;> first | (simp at h; done) | rfl | skip
  split at h
  · assumption
  · simp at h

theorem EV.other {x : AOper × List Nat} {t t' : Nat → AV} {h : Heap} {e : Option (Nat × AObj)} (q : EV P ann x t h t' e) {j : Nat} (hj : j ∉ x.1.writesX) : t' j = t j := by
  have hw : j ∉ x.1.writes := fun h => hj (mem_writesX h)
  have hd : j ∉ x.1.dst.toList := fun h => hw (List.mem_append_left _ h)
  cases q with
  | pass h1 =>
    cases hq : x.1.dst with
    | none => rfl
    | some d =>
      rw [hq] at hd
      simp at hd
      simp [putd, upd, hd]
  | flat h1 h2 => exact (h2 h).other hw
  | load h1 h2 h3 h4 h5 =>
    subst h5
    cases hq : x.1.dst with
    | none => rfl
    | some d =>
      rw [hq] at hd
      simp at hd
      simp [putd, upd, hd]
  | @store sz p y ob c cs h1 h2 h3 h4 h5 h6 h7 =>
    have : j ∉ y.slots := fun h => hj (by unfold AOper.writesX; rw [h1]; exact List.mem_append_left _ h)
    cases y with
    | c v => rfl
    | t n =>
      simp [Opd.slots] at this
      simp [strip, upd, this]


def graftX (o : AOper) (u t' : Nat → AV) : Nat → AV := fun j => if j ∈ o.writesX then t' j else u j

theorem takes_reads {o : AOper} (h9 : o.op.clsX ≠ 9) {j : Nat} (hj : j ∈ o.writesX) : j ∈ o.dst.toList ∨ j ∈ o.readsX := by
  unfold AOper.writesX AOper.writes at hj
  unfold AOper.readsX AOper.reads
  rcases List.mem_append.1 hj with hj | hj
  · right
    cases hop : o.op <;> rw [hop] at hj <;> simp at hj
    rename_i sz p y
    simp only [List.mem_append]
    exact .inl (.inr hj)
  · rcases List.mem_append.1 hj with hj | hj
    · exact .inl hj
    · right
      cases hop : o.op <;> rw [hop] at hj h9 <;> simp only [AOp.takes, List.flatMap_nil, List.not_mem_nil] at hj
      case mov tk x =>
        cases tk with
        | false => simp [AOp.takes] at hj
        | true =>
          simp only [AOp.takes] at hj
          simp only [AOp.quiet, Option.getD_some, List.nil_append, List.mem_append]
          exact .inl hj
      case app obj a b c x y =>
        cases obj with
        | true => exact absurd rfl h9
        | false =>
          simp only [AOp.quiet, Option.getD_some, List.nil_append, List.mem_append, List.flatMap_cons]
          simp only [List.flatMap_cons, List.flatMap_nil, List.append_nil] at hj
          exact .inl (.inl hj)
      case call k f xs =>
        simp only [AOp.quiet, Option.getD_some, List.nil_append, List.mem_append]
        exact .inl hj

theorem ld_heap {agg : Bool} {sz : Nat} {p : Opd} {t : Nat → AV} {h hh : Heap} {v : AV} (ha : aex P (.ld false agg sz p) ⟨t, h⟩ = some (.val v t h)) (hho : ∀ ob, asO (p.ev t) = some ob → hh ob = h ob) :
    aex P (.ld false agg sz p) ⟨t, hh⟩ = some (.val v t hh) := by
  simp only [aex] at ha ⊢
  cases hp : p.ev t with
  | op o c =>
    have := hho o (by rw [hp]; rfl)
    rw [hp] at ha
    simp only [this] at ha ⊢
    cases hq : h o with
    | none => rw [hq] at ha; cases ha
    | some X =>
      rw [hq] at ha
      cases X with
      | map es => cases ha
      | arr cs =>
        simp only [Bool.false_eq_true, if_false] at ha ⊢
        split at ha
        · rename_i hc
          rw [if_pos hc]
          simp only [Option.bind_eq_bind, Option.bind_eq_some_iff] at ha ⊢
          obtain ⟨w, q1, q2⟩ := ha
          refine ⟨w, q1, ?_⟩
          simp only [Option.some.injEq, AR.val.injEq, and_true] at q2 ⊢
          exact q2
        · cases ha
  | cp cs =>
    rw [hp] at ha
    simp only at ha ⊢
    split at ha
    · rename_i hc
      rw [if_pos hc]
      simp only [Option.bind_eq_bind, Option.bind_eq_some_iff] at ha ⊢
      obtain ⟨w, q1, q2⟩ := ha
      refine ⟨w, q1, ?_⟩
      simp only [Option.some.injEq, AR.val.injEq, and_true] at q2 ⊢
      exact q2
    · cases ha
  | _ => rw [hp] at ha; cases ha

theorem EV.local {x : AOper × List Nat} (h9 : x.1.op.clsX ≠ 9) {t t' u : Nat → AV} {h hh : Heap} {e : Option (Nat × AObj)} (q : EV P ann x t h t' e) (hr : ∀ j ∈ x.1.readsX ++ x.2, u j = t j) (hho : wantedA x.1 t = true → ∀ ob, obX x.1 t = some ob → hh ob = h ob) :
    EV P ann x u hh (graftX x.1 u t') e := by
  have hrX : ∀ j ∈ x.1.readsX, u j = t j := fun j hj => hr j (List.mem_append_left _ hj)
  have hr1 : ∀ j ∈ x.1.reads, u j = t j := fun j hj => hrX j (mem_readsX hj)
  have hU : ∀ j ∈ x.2, u j = t j := fun j hj => hr j (List.mem_append_right _ hj)
  have hw := wanted_eq hr1
  have put : ∀ v : AV, graftX x.1 u (putd t x.1.dst v) = putd u x.1.dst v := by
    intro v
    funext j
    unfold graftX
    by_cases hj : j ∈ x.1.writesX
    · rw [if_pos hj]
      have hwr := takes_reads h9 hj
      cases hq : x.1.dst with
      | none =>
        rcases hwr with h | h
        · rw [hq] at h; cases h
        · exact (hrX j h).symm
      | some d =>
        simp only [putd, upd]
        split
        · rfl
        · rename_i hne
          rcases hwr with h | h
          · rw [hq] at h; simp at h; exact absurd h hne
          · exact (hrX j h).symm
    · rw [if_neg hj]
      have hd : j ∉ x.1.dst.toList := fun h => hj (mem_writesX (List.mem_append_left _ h))
      cases hq : x.1.dst with
      | none => rfl
      | some d =>
        rw [hq] at hd
        simp at hd
        simp [putd, upd, hd]
  have unlq : ∀ v, unl t x.2 v → unl u x.2 v := fun v hv e he => by rw [hU e he]; exact hv e he
  cases q with
  | pass h1 =>
    rw [put]
    exact .pass (hw.trans h1)
  | flat h1 h2 =>
    have hns : x.1.writesX = x.1.writes := by
      unfold AOper.writesX
      cases hop : x.1.op <;> first | rfl | skip
      rw [hop] at h1
      simp [AOp.clsX] at h1
    have : graftX x.1 u t' = graft x.1 u t' := by unfold graftX graft; rw [hns]
    rw [this]
    exact .flat h1 fun h' => (h2 h').local (quiet_of h1) hr1
  | @load _ agg sz p v h1 h2 h3 h4 h5 =>
    subst h5
    rw [put]
    have hp : p.ev u = p.ev t := ev_eq fun j hj => hr1 j (by
      unfold AOper.reads
      rw [h1]
      simp only [AOp.quiet, AOp.looks, Option.getD_some, List.mem_append, List.flatMap_cons, List.flatMap_nil, List.append_nil]
      exact .inl hj)
    have h4' := h4
    rw [h1] at h4'
    have h6 := ld_heap (hh := hh) h4' (fun ob ho => hho h2 ob (by unfold obX; rw [h1]; exact ho))
    obtain ⟨v', e1, e2⟩ := aex_look (P := P) (op := .ld false agg sz p) (l := [p]) rfl (t := t) (t' := u) (h := hh) (fun y hy => by simp at hy; subst hy; exact hp) h6
    simp only [AR.val.injEq, and_true] at e1
    subst e1
    exact .load h1 (hw.trans h2) (by rw [hp]; exact unlq _ h3) (by rw [h1]; exact e2) rfl
  | @store sz p y ob c cs h1 h2 h3 h4 h5 h6 h7 =>
    have hX : x.1.readsX = p.slots ++ y.slots ++ x.1.reads := by unfold AOper.readsX; rw [h1]
    have hp : p.ev u = p.ev t := ev_eq fun j hj => hrX j (by rw [hX]; simp [hj])
    have hy : y.ev u = y.ev t := ev_eq fun j hj => hrX j (by rw [hX]; simp [hj])
    have hs : graftX x.1 u (strip t y) = strip u y := by
      funext j
      unfold graftX
      have hWX : x.1.writesX = y.slots := by
        unfold AOper.writesX AOper.writes
        rw [h1, h2]
        simp [AOp.takes]
      rw [hWX]
      cases y with
      | c v => simp [Opd.slots, strip]
      | t n =>
        simp only [Opd.slots, List.mem_singleton, strip, upd]
        by_cases hj : j = n
        · have := hy
          simp only [Opd.ev] at this
          simp [hj, this]
        · simp [hj]
    rw [hs]
    have := EV.store (P := P) (ann := ann) (x := x) (t := u) (h := hh) (sz := sz) (p := p) (y := y) (ob := ob) (c := c) (cs := cs) h1 h2 (hw.trans h3) (by rw [hp]; exact unlq _ h4) (by rw [hp]; exact h5) (by rw [hho h3 ob (by unfold obX; rw [h1]; show asO (p.ev t) = _; rw [h5]; rfl)]; exact h6) (by rw [hy]; exact h7)
    rw [hy] at this
    exact this

theorem EV.live {x : AOper × List Nat} {t t' : Nat → AV} {h : Heap} {ob : Nat} {X : AObj} (q : EV P ann x t h t' (some (ob, X))) : h ob ≠ none ∧ obX x.1 t = some ob ∧ x.1.op.clsX = 3 := by
  cases q with
  | @store sz p y _ c cs h1 h2 h3 h4 h5 h6 h7 =>
    refine ⟨by rw [h6]; simp, ?_, by rw [h1]; rfl⟩
    unfold obX
    rw [h1]
    show asO (p.ev t) = _
    rw [h5]
    rfl

theorem EV.live' {x : AOper × List Nat} {t t' : Nat → AV} {h : Heap} {e : Option (Nat × AObj)} (q : EV P ann x t h t' e) (hw : wantedA x.1 t = true) {ob : Nat} (ho : obX x.1 t = some ob) : h ob ≠ none := by
  cases q with
  | pass h1 => rw [hw] at h1; cases h1
  | flat h1 h2 =>
    unfold obX at ho
    cases hop : x.1.op with
    | ld tk agg sz p =>
      rw [hop] at h1
      cases tk <;> simp [AOp.clsX, AOp.quiet, AOp.looks] at h1
    | st sz p y => rw [hop] at h1; simp [AOp.clsX] at h1
    | _ => rw [hop] at ho; cases ho
  | @load _ agg sz p v h1 h2 h3 h4 h5 =>
    unfold obX at ho
    rw [h1] at ho h4
    simp only at ho
    intro hn
    simp only [aex] at h4
    cases hp : p.ev t with
    | op o c =>
      rw [hp] at ho h4
      simp only [asO, Option.some.injEq] at ho
      subst ho
      simp [hn] at h4
    | _ => rw [hp] at ho; simp [asO] at ho
  | store h1 h2 h3 h4 h5 h6 h7 =>
    unfold obX at ho
    rw [h1] at ho
    simp only [h5, asO, Option.some.injEq] at ho
    subst ho
    rw [h6]; simp

theorem EV.func {x : AOper × List Nat} (hc : x.1.op.clsX ≠ 4) {t t1 t2 : Nat → AV} {h : Heap} {e1 e2 : Option (Nat × AObj)} (q1 : EV P ann x t h t1 e1) (q2 : EV P ann x t h t2 e2) : t1 = t2 ∧ e1 = e2 := by
  cases q1 with
  | pass h1 =>
    cases q2 with
    | pass g1 => exact ⟨rfl, rfl⟩
    | flat g1 g2 =>
      cases g2 h with
      | pass _ g => exact ⟨g.symm, rfl⟩
      | val v g _ _ => rw [h1] at g; cases g
      | call k f xs v g _ _ _ _ => rw [h1] at g; cases g
    | load g1 g2 => rw [h1] at g2; cases g2
    | store g1 g2 g3 => rw [h1] at g3; cases g3
  | flat h1 h2 =>
    cases q2 with
    | pass g1 =>
      cases h2 h with
      | pass _ g => exact ⟨g, rfl⟩
      | val v g _ _ => rw [g1] at g; cases g
      | call k f xs v g _ _ _ _ => rw [g1] at g; cases g
    | flat g1 g2 =>
      refine ⟨?_, rfl⟩
      cases h2 h with
      | pass a b =>
        cases g2 h with
        | pass a' b' => rw [b, b']
        | val v g _ _ => rw [a] at g; cases g
        | call k f xs v g _ _ _ _ => rw [a] at g; cases g
      | val v a b c =>
        cases g2 h with
        | pass a' b' => rw [a] at a'; cases a'
        | val v' a' b' c' =>
          rw [b] at b'
          simp only [Option.some.injEq, AR.val.injEq, and_true] at b'
          rw [c, c', b']
        | call k f xs v _ g _ _ _ => rw [g] at hc; exact absurd rfl hc
      | call k f xs v _ g _ _ _ => rw [g] at hc; exact absurd rfl hc
    | load g1 g2 =>
      rw [g1] at h1
      simp [AOp.clsX] at h1
    | store g1 g2 g3 =>
      rw [g1] at h1
      simp [AOp.clsX] at h1
  | load h1 h2 h3 h4 h5 =>
    cases q2 with
    | pass g1 => rw [g1] at h2; cases h2
    | flat g1 g2 => rw [h1] at g1; simp [AOp.clsX] at g1
    | load g1 g2 g3 g4 g5 =>
      rw [h4] at g4
      simp only [Option.some.injEq, AR.val.injEq, and_true] at g4
      exact ⟨by rw [h5, g5, g4], rfl⟩
    | store g1 => rw [h1] at g1; cases g1
  | store h1 h2 h3 h4 h5 h6 h7 =>
    cases q2 with
    | pass g1 => rw [g1] at h3; cases h3
    | flat g1 g2 => rw [h1] at g1; simp [AOp.clsX] at g1
    | load g1 => rw [h1] at g1; cases g1
    | store g1 g2 g3 g4 g5 g6 g7 =>
      rw [h1] at g1
      cases g1
      rw [h5] at g5
      cases g5
      rw [h6] at g6
      cases g6
      exact ⟨rfl, rfl⟩


def DGX (P : Program) (ann : Ann) (x : AOper × List Nat) (s : St) (K : St → Prop) : Prop :=
  match x.1.op with
  | .new z => if wantedA x.1 s.t then ∀ b, s.h b = none → K ⟨putd s.t x.1.dst (.op b 0), upd s.h b (some (.arr z))⟩ else K ⟨putd s.t x.1.dst .undef, s.h⟩
  | _ => ∃ t' e, EV P ann x s.t s.h t' e ∧ K ⟨t', apE e s.h⟩

def isNewX (o : AOper) (t : Nat → AV) : Bool := o.op.clsX == 2 && wantedA o t

theorem DGX_ev {x : AOper × List Nat} {s : St} {K : St → Prop} (hn : isNewX x.1 s.t = false) : DGX P ann x s K ↔ ∃ t' e, EV P ann x s.t s.h t' e ∧ K ⟨t', apE e s.h⟩ := by
  unfold DGX
  split
  · rename_i z hz
    have hw : wantedA x.1 s.t = false := by
      unfold isNewX at hn
      rw [hz] at hn
      simpa [AOp.clsX] using hn
    rw [hw]
    simp only [Bool.false_eq_true, if_false]
    constructor
    · intro h
      exact ⟨_, none, .pass hw, h⟩
    · rintro ⟨t', e, q, hk⟩
      cases q with
      | pass _ => exact hk
      | flat h1 _ => rw [hz] at h1; simp [AOp.clsX] at h1
      | load h1 => rw [hz] at h1; cases h1
      | store h1 => rw [hz] at h1; cases h1
  · exact Iff.rfl

theorem DGX_new {x : AOper × List Nat} {s : St} {K : St → Prop} (hn : isNewX x.1 s.t = true) : ∃ z, x.1.op = .new z ∧ (DGX P ann x s K ↔ ∀ b, s.h b = none → K ⟨putd s.t x.1.dst (.op b 0), upd s.h b (some (.arr z))⟩) := by
  unfold isNewX at hn
  simp only [Bool.and_eq_true, beq_iff_eq] at hn
  obtain ⟨h1, h2⟩ := hn
  unfold AOp.clsX at h1
  split at h1 <;> first | (cases h1; done) | skip
  · rename_i z hz
    refine ⟨z, hz, ?_⟩
    unfold DGX
    rw [hz]
    simp only [h2, if_true]
  · split at h1 <;> cases h1

def Fin (h : Heap) : Prop := ∃ m, ∀ b, m ≤ b → h b = none

theorem Fin.upd {h : Heap} (hf : Fin h) (b : Nat) (X : AObj) : Fin (upd h b (some X)) := by
  obtain ⟨m, hm⟩ := hf
  refine ⟨max m (b + 1), fun c hc => ?_⟩
  rw [upd_ne _ _ (by omega)]
  exact hm c (by omega)
theorem Fin.apE {h : Heap} (hf : Fin h) (e : Option (Nat × AObj)) : Fin (apE e h) := by
  cases e with
  | none => exact hf
  | some p => exact hf.upd _ _

theorem DGX_fin {x : AOper × List Nat} {s : St} {K : St → Prop} (hf : Fin s.h) (hd : DGX P ann x s K) : DGX P ann x s fun s' => K s' ∧ Fin s'.h := by
  cases hn : isNewX x.1 s.t with
  | true =>
    obtain ⟨z, hz, q⟩ := DGX_new (P := P) (ann := ann) (K := K) hn
    obtain ⟨z', hz', q'⟩ := DGX_new (P := P) (ann := ann) (K := fun s' => K s' ∧ Fin s'.h) hn
    rw [hz] at hz'
    cases hz'
    rw [q']
    intro b hb
    exact ⟨(q.1 hd) b hb, hf.upd _ _⟩
  | false =>
    obtain ⟨t', e, h1, h2⟩ := (DGX_ev hn).1 hd
    exact (DGX_ev hn).2 ⟨t', e, h1, h2, hf.apE e⟩

theorem DGX_mono {x : AOper × List Nat} {s : St} {K K' : St → Prop} (hq : ∀ s, K s → K' s) (hd : DGX P ann x s K) : DGX P ann x s K' := by
  unfold DGX at hd ⊢
  split at hd
  · split at hd
    · rename_i hw; rw [if_pos hw]; exact fun b hb => hq _ (hd b hb)
    · rename_i hw; rw [if_neg hw]; exact hq _ hd
  · obtain ⟨t', e, h1, h2⟩ := hd
    exact ⟨t', e, h1, hq _ h2⟩

theorem apart_spec {l m : List Nat} (h : apart l m = true) {j : Nat} (h1 : j ∈ l) (h2 : j ∈ m) : False := by
  unfold apart at h
  rw [List.all_eq_true] at h
  have := h j h1
  simp [h2] at this

theorem EV.unl {x : AOper × List Nat} {t t' : Nat → AV} {h : Heap} {e : Option (Nat × AObj)} (q : EV P ann x t h t' e) (hw : wantedA x.1 t = true) {ob : Nat} (ho : obX x.1 t = some ob) {sl o : Nat} (hs : sl ∈ x.2) (hso : asO (t sl) = some o) : o ≠ ob := by
  cases q with
  | pass h1 => rw [hw] at h1; cases h1
  | flat h1 h2 =>
    unfold obX at ho
    cases hop : x.1.op with
    | ld tk agg sz p =>
      rw [hop] at h1
      cases tk <;> simp [AOp.clsX, AOp.quiet, AOp.looks] at h1
    | st sz p y => rw [hop] at h1; simp [AOp.clsX] at h1
    | _ => rw [hop] at ho; cases ho
  | load h1 h2 h3 =>
    unfold obX at ho
    rw [h1] at ho
    exact h3 sl hs o ob hso ho
  | store h1 h2 h3 h4 =>
    unfold obX at ho
    rw [h1] at ho
    exact h4 sl hs o ob hso ho

theorem obX_cls {o : AOper} (h9 : o.op.clsX ≠ 9) {t : Nat → AV} {ob : Nat} (ho : obX o t = some ob) : o.op.clsX = 1 ∨ o.op.clsX = 3 := by
  unfold obX at ho
  cases hop : o.op with
  | ld tk agg sz p =>
    rw [hop] at h9
    cases tk with
    | false => exact .inl rfl
    | true => exact absurd rfl h9
  | st sz p y => exact .inr rfl
  | _ => rw [hop] at ho; cases ho

theorem putd_other {t : Nat → AV} {dst : Option Nat} {v : AV} {j : Nat} (h : j ∉ dst.toList) : putd t dst v j = t j := by
  cases dst with
  | none => rfl
  | some d =>
    simp at h
    simp [putd, upd, h]
theorem putd_dst {t : Nat → AV} {dst : Option Nat} {v : AV} {j : Nat} (h : j ∈ dst.toList) : putd t dst v j = v := by
  cases dst with
  | none => cases h
  | some d =>
    simp at h
    simp [putd, upd, h]
theorem dst_writes {o : AOper} {j : Nat} (h : j ∈ o.dst.toList) : j ∈ o.writesX := mem_writesX (List.mem_append_left _ h)

theorem isNewX_eq {o : AOper} {t u : Nat → AV} (h : ∀ j ∈ o.readsX, u j = t j) : isNewX o u = isNewX o t := by
  unfold isNewX
  rw [wanted_eq fun j hj => h j (mem_readsX hj)]


theorem ob_st {o : AOper} (hok : okX o = true) (h3 : o.op.clsX = 3) : ∃ e, o.op.stP = some e ∧ e ∈ o.readsX ∧ ∀ t, obX o t = asO (t e) := by
  unfold okX at hok
  rw [h3] at hok
  simp only [bne_self_eq_false, Bool.false_or, Bool.and_eq_true] at hok
  obtain ⟨e, he⟩ := Option.isSome_iff_exists.1 hok.2.1
  refine ⟨e, he, ?_⟩
  cases hop : o.op with
  | st sz p y =>
    rw [hop] at he
    cases p with
    | t n =>
      simp only [AOp.stP, Option.some.injEq] at he
      subst he
      refine ⟨?_, fun t => ?_⟩
      · unfold AOper.readsX
        rw [hop]
        simp [Opd.slots]
      · unfold obX
        rw [hop]
        rfl
    | c v => cases he
  | _ => rw [hop] at he; cases he

theorem swapX {x y : AOper × List Nat} (hfit : fitX x y = true) (hx : okX x.1 = true) (hy : okX y.1 = true) {s : St} (hf : Fin s.h) {K : St → Prop} (hd : DGX P ann x s fun s' => DGX P ann y s' K) : DGX P ann y s fun s' => DGX P ann x s' K := by
  have hx9 : x.1.op.clsX ≠ 9 := by unfold okX at hx; intro h; rw [h] at hx; simp at hx
  have hy9 : y.1.op.clsX ≠ 9 := by unfold okX at hy; intro h; rw [h] at hy; simp at hy
  unfold fitX at hfit
  simp only [Bool.and_eq_true] at hfit
  obtain ⟨⟨⟨⟨d1, d2⟩, d3⟩, d4⟩, d5⟩ := hfit
  obtain ⟨t, h⟩ := s
  have hf : Fin h := hf
  have rx : ∀ {j}, j ∈ x.1.readsX ++ x.2 → j ∉ y.1.writesX := fun hj hw => apart_spec d2 hw (List.mem_append_left _ hj)
  have ry : ∀ {j}, j ∈ y.1.readsX ++ y.2 → j ∉ x.1.writesX := fun hj hw => apart_spec d1 hw (List.mem_append_left _ hj)
  have ww : ∀ {j}, j ∈ x.1.writesX → j ∉ y.1.writesX := fun hj hw => apart_spec d1 hj (List.mem_append_right _ hw)
  have c4 : ∀ e, x.1.op.stP = some e → (y.1.op.clsX = 1 ∨ y.1.op.clsX = 3) → e ∈ y.2 := by
    intro e he hc
    rw [he] at d4
    rcases hc with hc | hc <;> simpa [hc] using d4
  have c5 : ∀ e, y.1.op.stP = some e → (x.1.op.clsX = 1 ∨ x.1.op.clsX = 3) → e ∈ x.2 := by
    intro e he hc
    rw [he] at d5
    rcases hc with hc | hc <;> simpa [hc] using d5
  cases nx : isNewX x.1 t with
  | false =>
    obtain ⟨t1, e1, q1, hk⟩ := (DGX_ev (s := ⟨t, h⟩) nx).1 hd
    have q1 : EV P ann x t h t1 e1 := q1
    have a1 : ∀ j ∈ y.1.readsX ++ y.2, t1 j = t j := fun j hj => q1.other (ry hj)
    have ny1 : isNewX y.1 t1 = isNewX y.1 t := isNewX_eq fun j hj => a1 j (List.mem_append_left _ hj)
    cases ny : isNewX y.1 t with
    | false =>
      rw [ny] at ny1
      obtain ⟨t2, e2, q2, hk2⟩ := (DGX_ev (s := ⟨t1, apE e1 h⟩) ny1).1 hk
      have q2 : EV P ann y t1 (apE e1 h) t2 e2 := q2

      have o12 : ∀ ob1 X, e1 = some (ob1, X) → wantedA y.1 t1 = true → ∀ ob, obX y.1 t1 = some ob → ob1 ≠ ob := by
        intro ob1 X he hw ob ho
        subst he
        obtain ⟨l1, l2, l3⟩ := q1.live
        obtain ⟨e, r1, r2, r3⟩ := ob_st hx l3
        have he := c4 e r1 (obX_cls hy9 ho)
        refine q2.unl hw ho he ?_
        rw [a1 e (List.mem_append_right _ he), ← r3]
        exact l2
      have o21 : ∀ ob2 X, e2 = some (ob2, X) → wantedA x.1 t = true → ∀ ob, obX x.1 t = some ob → ob2 ≠ ob := by
        intro ob2 X he hw ob ho
        subst he
        obtain ⟨l1, l2, l3⟩ := q2.live
        obtain ⟨e, r1, r2, r3⟩ := ob_st hy l3
        have he := c5 e r1 (obX_cls hx9 ho)
        refine q1.unl hw ho he ?_
        rw [← a1 e (List.mem_append_left _ r2), ← r3]
        exact l2
      have q2' := q2.local hy9 (u := t) (hh := h) (fun j hj => (a1 j hj).symm) (fun hw ob ho => by
        cases e1 with
        | none => rfl
        | some p =>
          obtain ⟨ob1, X⟩ := p
          exact (upd_ne _ _ (o12 ob1 X rfl hw ob ho).symm).symm)
      have a2 : ∀ j ∈ x.1.readsX ++ x.2, graftX y.1 t t2 j = t j := fun j hj => by unfold graftX; rw [if_neg (rx hj)]
      have q1' := q1.local hx9 (u := graftX y.1 t t2) (hh := apE e2 h) a2 (fun hw ob ho => by
        cases e2 with
        | none => rfl
        | some p =>
          obtain ⟨ob2, X⟩ := p
          exact upd_ne _ _ (o21 ob2 X rfl hw ob ho).symm)
      have hs : graftX x.1 (graftX y.1 t t2) t1 = t2 := by
        funext j
        unfold graftX
        by_cases hj : j ∈ x.1.writesX
        · rw [if_pos hj, q2.other (ww hj)]
        · rw [if_neg hj]
          by_cases hj2 : j ∈ y.1.writesX
          · rw [if_pos hj2]
          · rw [if_neg hj2, q2.other hj2, q1.other hj]
      have hh : apE e1 (apE e2 h) = apE e2 (apE e1 h) := by
        cases e1 with
        | none => rfl
        | some p =>
          cases e2 with
          | none => rfl
          | some p2 =>
            obtain ⟨ob1, X⟩ := p
            obtain ⟨ob2, X2⟩ := p2
            have hw : wantedA y.1 t1 = true := by
              cases q2 with
              | store g1 g2 g3 => exact g3
            exact upd_comm (o12 ob1 X rfl hw ob2 q2.live.2.1).symm
      refine (DGX_ev (s := ⟨t, h⟩) ny).2 ⟨_, e2, q2', ?_⟩
      refine (DGX_ev (s := ⟨graftX y.1 t t2, apE e2 h⟩) ?_).2 ⟨_, e1, q1', ?_⟩
      · rw [← nx]
        exact isNewX_eq fun j hj => a2 j (List.mem_append_left _ hj)
      · rw [hs]
        show K ⟨t2, apE e1 (apE e2 h)⟩
        rw [hh]
        exact hk2
    | true =>
      rw [ny] at ny1
      obtain ⟨z, hz, iff1⟩ := DGX_new (P := P) (ann := ann) (x := y) (s := ⟨t1, apE e1 h⟩) (K := K) ny1
      obtain ⟨z', hz', iff2⟩ := DGX_new (P := P) (ann := ann) (x := y) (s := ⟨t, h⟩) (K := fun s' => DGX P ann x s' K) ny
      rw [hz] at hz'
      cases hz'
      have hk := iff1.1 hk
      rw [iff2]
      intro b hb
      have hb : h b = none := hb
      have a2 : ∀ j ∈ x.1.readsX ++ x.2, putd t y.1.dst (.op b 0) j = t j := fun j hj => putd_other fun hm => rx hj (dst_writes hm)
      have q1' := q1.local hx9 (u := putd t y.1.dst (.op b 0)) (hh := upd h b (some (.arr z))) a2 (fun hw ob ho => upd_ne _ _ fun e => by
        have := q1.live' hw ho
        rw [e, hb] at this
        exact this rfl)
      have hne : ∀ ob1 X, e1 = some (ob1, X) → ob1 ≠ b := by
        intro ob1 X he e
        subst he
        have := q1.live.1
        rw [e, hb] at this
        exact this rfl
      refine (DGX_ev (s := ⟨_, _⟩) ?_).2 ⟨_, e1, q1', ?_⟩
      · rw [← nx]
        exact isNewX_eq fun j hj => a2 j (List.mem_append_left _ hj)
      · have h1 : apE e1 h b = none := by
          cases e1 with
          | none => exact hb
          | some p =>
            obtain ⟨ob1, X⟩ := p
            show upd h ob1 (some X) b = none
            rw [upd_ne _ _ (hne ob1 X rfl).symm]
            exact hb
        have h2 := hk b h1
        have hs : graftX x.1 (putd t y.1.dst (.op b 0)) t1 = putd t1 y.1.dst (.op b 0) := by
          funext j
          unfold graftX
          by_cases hj : j ∈ x.1.writesX
          · rw [if_pos hj, putd_other fun hm => ww hj (dst_writes hm)]
          · rw [if_neg hj]
            by_cases hj2 : j ∈ y.1.dst.toList
            · rw [putd_dst hj2, putd_dst hj2]
            · rw [putd_other hj2, putd_other hj2, q1.other hj]
        have hh : apE e1 (upd h b (some (.arr z))) = upd (apE e1 h) b (some (.arr z)) := by
          cases e1 with
          | none => rfl
          | some p =>
            obtain ⟨ob1, X⟩ := p
            exact upd_comm (hne ob1 X rfl).symm
        rw [hs]
        show K ⟨_, apE e1 (upd h b (some (.arr z)))⟩
        rw [hh]
        exact h2
  | true =>
    obtain ⟨z, hz, iff1⟩ := DGX_new (P := P) (ann := ann) (x := x) (s := ⟨t, h⟩) (K := fun s' => DGX P ann y s' K) nx
    have hd := iff1.1 hd
    have a1 : ∀ b, ∀ j ∈ y.1.readsX ++ y.2, putd t x.1.dst (.op b 0) j = t j := fun b j hj => putd_other fun hm => ry hj (dst_writes hm)
    have ny1 : ∀ b, isNewX y.1 (putd t x.1.dst (.op b 0)) = isNewX y.1 t := fun b => isNewX_eq fun j hj => a1 b j (List.mem_append_left _ hj)
    cases ny : isNewX y.1 t with
    | false =>
      have hyc : y.1.op.clsX ≠ 4 := by
        intro hc
        have : x.1.op.clsX = 2 := by rw [hz]; rfl
        simp [this, hc] at d3
      have get : ∀ b, h b = none → ∃ t2 e2, EV P ann y (putd t x.1.dst (.op b 0)) (upd h b (some (.arr z))) t2 e2 ∧ K ⟨t2, apE e2 (upd h b (some (.arr z)))⟩ := fun b hb =>
        (DGX_ev (s := ⟨putd t x.1.dst (.op b 0), upd h b (some (.arr z))⟩) ((ny1 b).trans ny)).1 (hd b hb)
      obtain ⟨m, hm⟩ := hf
      have hw1 : ∀ b, wantedA y.1 (putd t x.1.dst (.op b 0)) = wantedA y.1 t := fun b => wanted_eq fun j hj => a1 b j (List.mem_append_left _ (mem_readsX hj))
      have obq : ∀ b, wantedA y.1 t = true → ∀ t2 e2 hh, EV P ann y (putd t x.1.dst (.op b 0)) hh t2 e2 → obX y.1 (putd t x.1.dst (.op b 0)) = obX y.1 t := by
        intro b hw t2 e2 hh q
        unfold obX
        cases hop : y.1.op with
        | ld tk agg sz p =>
          have hp : p.ev (putd t x.1.dst (.op b 0)) = p.ev t := ev_eq fun j hj => a1 b j (List.mem_append_left _ (by
            refine mem_readsX ?_
            unfold AOper.reads
            rw [hop]
            rw [hop] at hy9
            cases tk with
            | true => exact absurd rfl hy9
            | false =>
              simp only [AOp.quiet, AOp.looks, Option.getD_some, List.mem_append, List.flatMap_cons, List.flatMap_nil, List.append_nil]
              exact .inl hj))
          simp only [hp]
        | st sz p y' =>
          have hp : p.ev (putd t x.1.dst (.op b 0)) = p.ev t := ev_eq fun j hj => a1 b j (List.mem_append_left _ (by
            unfold AOper.readsX
            rw [hop]
            simp [hj]))
          simp only [hp]
        | _ => rfl
      have loc : ∀ b t2 e2, h b = none → (∀ ob, wantedA y.1 t = true → obX y.1 t = some ob → ob ≠ b) → EV P ann y (putd t x.1.dst (.op b 0)) (upd h b (some (.arr z))) t2 e2 → EV P ann y t h (graftX y.1 t t2) e2 := by
        intro b t2 e2 hb hob q
        refine q.local hy9 (u := t) (hh := h) (fun j hj => (a1 b j hj).symm) (fun hw ob ho => ?_)
        rw [hw1] at hw
        rw [obq b hw t2 e2 _ q] at ho
        exact (upd_ne _ _ (hob ob hw ho)).symm

      obtain ⟨b0, hb0, hb0o⟩ : ∃ b0, h b0 = none ∧ ∀ ob, obX y.1 t = some ob → ob ≠ b0 := by
        cases ho : obX y.1 t with
        | none => exact ⟨m, hm m (Nat.le_refl _), fun ob h => by cases h⟩
        | some ob => exact ⟨max m (ob + 1), hm _ (by omega), fun ob' h => by cases h; omega⟩
      obtain ⟨t0, e0, q0, _⟩ := get b0 hb0
      have q0' := loc b0 t0 e0 hb0 (fun ob _ ho => hb0o ob ho) q0
      refine (DGX_ev (s := ⟨t, h⟩) ny).2 ⟨_, e0, q0', ?_⟩
      have a3 : ∀ j ∈ x.1.readsX, graftX y.1 t t0 j = t j := fun j hj => by unfold graftX; rw [if_neg (rx (List.mem_append_left _ hj))]
      have nx' : isNewX x.1 (graftX y.1 t t0) = true := by rw [← nx]; exact isNewX_eq a3
      obtain ⟨z', hz', iff2⟩ := DGX_new (P := P) (ann := ann) (x := x) (s := ⟨graftX y.1 t t0, apE e0 h⟩) (K := K) nx'
      rw [hz] at hz'
      cases hz'
      rw [iff2]
      intro b hb
      have hb : apE e0 h b = none := hb
      have hbh : h b = none ∧ ∀ ob X, e0 = some (ob, X) → ob ≠ b := by
        cases e0 with
        | none => exact ⟨hb, fun _ _ h => by cases h⟩
        | some p =>
          obtain ⟨ob, X⟩ := p
          have hb' : upd h ob (some X) b = none := hb
          by_cases e : b = ob
          · rw [e, upd_same] at hb'; cases hb'
          · rw [upd_ne _ _ e] at hb'
            exact ⟨hb', fun ob' X' h => by cases h; exact fun e' => e e'.symm⟩
      obtain ⟨t2, e2, q2, hk2⟩ := get b hbh.1
      have hob : ∀ ob, wantedA y.1 t = true → obX y.1 t = some ob → ob ≠ b := by
        intro ob hw ho e
        have := q0'.live' hw ho
        rw [e, hbh.1] at this
        exact this rfl
      have q2' := loc b t2 e2 hbh.1 hob q2
      obtain ⟨f1, f2⟩ := q0'.func hyc q2'
      subst f2
      have hs : putd (graftX y.1 t t0) x.1.dst (.op b 0) = t2 := by
        rw [f1]
        funext j
        by_cases hj : j ∈ x.1.dst.toList
        · rw [putd_dst hj, q2.other (ww (dst_writes hj)), putd_dst hj]
        · rw [putd_other hj]
          unfold graftX
          by_cases hj2 : j ∈ y.1.writesX
          · rw [if_pos hj2]
          · rw [if_neg hj2, q2.other hj2, putd_other hj]
      have hh : apE e0 (upd h b (some (.arr z))) = upd (apE e0 h) b (some (.arr z)) := by
        cases e0 with
        | none => rfl
        | some p =>
          obtain ⟨ob, X⟩ := p
          exact upd_comm (hbh.2 ob X rfl).symm
      rw [hs]
      rw [hh] at hk2
      exact hk2
    | true =>
      obtain ⟨z2, hz2, _⟩ := DGX_new (P := P) (ann := ann) (x := y) (s := ⟨t, h⟩) (K := K) ny
      obtain ⟨z2', hz2', iff2⟩ := DGX_new (P := P) (ann := ann) (x := y) (s := ⟨t, h⟩) (K := fun s' => DGX P ann x s' K) ny
      rw [hz2] at hz2'
      cases hz2'
      rw [iff2]
      intro b hb
      have hb : h b = none := hb
      have a2 : ∀ j ∈ x.1.readsX, putd t y.1.dst (.op b 0) j = t j := fun j hj => putd_other fun hm => rx (List.mem_append_left _ hj) (dst_writes hm)
      have nx' : isNewX x.1 (putd t y.1.dst (.op b 0)) = true := by rw [← nx]; exact isNewX_eq a2
      obtain ⟨z', hz', iff3⟩ := DGX_new (P := P) (ann := ann) (x := x) (s := ⟨putd t y.1.dst (.op b 0), upd h b (some (.arr z2))⟩) (K := K) nx'
      rw [hz] at hz'
      cases hz'
      rw [iff3]
      intro c hc
      have hc : upd h b (some (.arr z2)) c = none := hc
      have hcb : c ≠ b := by
        intro e
        rw [e, upd_same] at hc
        cases hc
      rw [upd_ne _ _ hcb] at hc
      have h1 := hd c hc
      obtain ⟨z2', hz2', iff4⟩ := DGX_new (P := P) (ann := ann) (x := y) (s := ⟨putd t x.1.dst (.op c 0), upd h c (some (.arr z))⟩) (K := K) ((ny1 c).trans ny)
      rw [hz2] at hz2'
      cases hz2'
      have h2 := iff4.1 h1 b (by show upd h c _ b = none; rw [upd_ne _ _ hcb.symm]; exact hb)
      have hs : putd (putd t y.1.dst (.op b 0)) x.1.dst (.op c 0) = putd (putd t x.1.dst (.op c 0)) y.1.dst (.op b 0) := by
        funext j
        by_cases hj : j ∈ x.1.dst.toList
        · have : j ∉ y.1.dst.toList := fun hm => ww (dst_writes hj) (dst_writes hm)
          rw [putd_dst hj, putd_other this, putd_dst hj]
        · rw [putd_other hj]
          by_cases hj2 : j ∈ y.1.dst.toList
          · rw [putd_dst hj2, putd_dst hj2]
          · rw [putd_other hj2, putd_other hj2, putd_other hj]
      rw [hs]
      show K ⟨_, upd (upd h b _) c _⟩
      rw [upd_comm hcb.symm]
      exact h2


def QXs (P : Program) (ann : Ann) : List (AOper × List Nat) → St → (St → Prop) → Prop
  | [], s, K => K s
  | x :: r, s, K => DGX P ann x s fun s' => QXs P ann r s' K

theorem frontX : ∀ (A : List (AOper × List Nat)) (x : AOper × List Nat) (B : List (AOper × List Nat)) (s : St) (K : St → Prop), Fin s.h → (∀ y ∈ A, fitX y x = true ∧ okX y.1 = true) → okX x.1 = true → QXs P ann (A ++ x :: B) s K →
    DGX P ann x s fun s' => QXs P ann (A ++ B) s' K
  | [], x, B, s, K, _, _, _, h => h
  | y :: A, x, B, s, K, hf, hA, hx, h => by
    have h1 : DGX P ann y s fun s' => QXs P ann (A ++ x :: B) s' K := h
    have h2 := DGX_mono (K' := fun s' => DGX P ann x s' fun s2 => QXs P ann (A ++ B) s2 K) (fun s' ⟨q1, q2⟩ => frontX A x B s' K q2 (fun z hz => hA z (by simp [hz])) hx q1) (DGX_fin hf h1)
    exact swapX (hA y (by simp)).1 (hA y (by simp)).2 hx hf h2

theorem DGX_aw1 {x : AOper × List Nat} {s : St} {K : St → Prop} (hd : DGX P ann x s K) : AW1 P ann x.1 s K := by
  obtain ⟨t, h⟩ := s
  cases hn : isNewX x.1 t with
  | true =>
    obtain ⟨z, hz, q⟩ := DGX_new (P := P) (ann := ann) (s := ⟨t, h⟩) (K := K) hn
    have hw : wantedA x.1 t = true := by
      unfold isNewX at hn
      simp only [Bool.and_eq_true] at hn
      exact hn.2
    refine .new hw (k := fun o => .op o 0) (ob := .arr z) (t := t) ?_ (q.1 hd)
    rw [hz]
    rfl
  | false =>
    obtain ⟨t', e, q, hk⟩ := (DGX_ev (s := ⟨t, h⟩) hn).1 hd
    have q : EV P ann x t h t' e := q
    cases q with
    | pass h1 => exact .pass h1 hk
    | flat h1 h2 => exact (h2 h).aw hk
    | load h1 h2 h3 h4 h5 => subst h5; exact .val h2 h4 hk
    | @store sz p y ob c cs h1 h2 h3 h4 h5 h6 h7 =>
      refine .val h3 (v := .undef) (t := strip t y) (h := upd h ob (some (.arr (setRange cs c (y.ev t).cellsD)))) ?_ (by rw [h2]; exact hk)
      rw [h1]
      simp only [aex, h5, h6, if_pos h7]

def fitsX (ops : List AOper) (pre : List (List Nat)) (tab : List Nat) (i k : Nat) : Prop := ∃ x y, itemX ops pre tab i = some x ∧ itemX ops pre tab k = some y ∧ fitX x y = true

theorem checkX_spec {ops : List AOper} {pre : List (List Nat)} {tab : List Nat} : ∀ (ord don : List Nat), checkX ops pre tab don ord = true →
    (∀ i ∈ ord, i < ops.length ∧ i ∉ don ∧ ∃ x, itemX ops pre tab i = some x ∧ okX x.1 = true) ∧ ord.Nodup ∧ ord.Pairwise (fun i k => (tab.getD k 0).testBit i = true ∨ fitsX ops pre tab i k) ∧
      ∀ A i B, ord = A ++ i :: B → ∀ j ∈ pre.getD i [], j ∈ don ∨ j ∈ A
  | [], don, _ => ⟨fun i h => (by cases h), List.nodup_nil, List.Pairwise.nil, fun A i B h => by simp at h⟩
  | i :: r, don, h => by
    simp only [checkX, Bool.and_eq_true, decide_eq_true_eq, Bool.not_eq_true', List.all_eq_true] at h
    obtain ⟨⟨⟨⟨h1, h2⟩, h3⟩, h4⟩, h5⟩ := h
    obtain ⟨g1, g2, g3, g4⟩ := checkX_spec r (don ++ [i]) h5
    have hnd : i ∉ don := by simpa using h2
    cases hx : itemX ops pre tab i with
    | none => rw [hx] at h4; cases h4
    | some x =>
      rw [hx] at h4
      simp only [Bool.and_eq_true, List.all_eq_true, Bool.or_eq_true] at h4
      obtain ⟨hok, hall⟩ := h4
      refine ⟨?_, ?_, ?_, ?_⟩
      · intro k hk
        rcases List.mem_cons.1 hk with rfl | hk
        · exact ⟨h1, hnd, x, hx, hok⟩
        · obtain ⟨q1, q2, q3⟩ := g1 k hk
          exact ⟨q1, fun h => q2 (List.mem_append_left _ h), q3⟩
      · exact List.nodup_cons.2 ⟨fun h => (g1 i h).2.1 (by simp), g2⟩
      · refine List.pairwise_cons.2 ⟨fun k hk => ?_, g3⟩
        rcases hall k hk with h | h
        · exact .inl h
        · cases hy : itemX ops pre tab k with
          | none => rw [hy] at h; cases h
          | some y => rw [hy] at h; exact .inr ⟨x, y, hx, hy, h⟩
      · intro A k B he j hj
        cases A with
        | nil =>
          simp only [List.nil_append, List.cons.injEq] at he
          obtain ⟨rfl, _⟩ := he
          exact .inl (by simpa using h3 j hj)
        | cons a A =>
          simp only [List.cons_append, List.cons.injEq] at he
          obtain ⟨rfl, he⟩ := he
          rcases g4 A k B he j hj with h | h
          · rcases List.mem_append.1 h with h | h
            · exact .inl h
            · simp at h; subst h; exact .inr (by simp)
          · exact .inr (by simp [h])

theorem AWD_aux {ops : List AOper} {pre : List (List Nat)} {ord : List Nat} (hall : ∀ i, i < ops.length → i ∈ ord) (c1 : ∀ i ∈ ord, i < ops.length ∧ ∃ x, itemX ops pre (ancTab pre) i = some x ∧ okX x.1 = true) (c2 : ord.Nodup)
    (c3 : ord.Pairwise (fun i k => ((ancTab pre).getD k 0).testBit i = true ∨ fitsX ops pre (ancTab pre) i k)) (c4 : ∀ A i B, ord = A ++ i :: B → ∀ j ∈ pre.getD i [], j ∈ A) {Q : St → Prop} :
    ∀ (n : Nat) (l : Nat → Bool) (s : St), (ord.filter fun i => !l i).length = n → Down pre l → Fin s.h → QXs P ann ((ord.filter fun i => !l i).filterMap (itemX ops pre (ancTab pre))) s Q → AWD P ann ops pre l s Q := by
  intro n
  induction n with
  | zero =>
    intro l s hn hl hf hq
    have he : (ord.filter fun i => !l i) = [] := List.eq_nil_of_length_eq_zero hn
    rw [he] at hq
    refine .mk (fun _ _ => True) (fun _ => hq) (fun i o hr _ => ?_) (fun i s' hr _ => ?_)
    all_goals
      have : i ∈ ord.filter fun i => !l i := List.mem_filter.2 ⟨hall i hr.1, by rw [hr.2.1]; rfl⟩
      rw [he] at this
      cases this
  | succ n ih =>
    intro l s hn hl hf hq
    have hdown : ∀ i, readyA pre ops.length l i → Down pre (upd l i true) := by
      intro i hr k hk j hj
      unfold upd at hk ⊢
      split
      · rfl
      · split at hk
        · rename_i e
          subst e
          exact hr.2.2 j hj
        · exact hl k hk j hj
    have hflt : ∀ i A B, ord = A ++ i :: B → l i = false → (ord.filter fun k => !l k) = (A.filter fun k => !l k) ++ i :: (B.filter fun k => !l k) ∧ (ord.filter fun k => !(upd l i true) k) = (A.filter fun k => !l k) ++ (B.filter fun k => !l k) := by
      intro i A B he hli
      have hnd := c2
      rw [he] at hnd
      have hnA : ∀ k ∈ A, k ≠ i := by
        intro k hk e
        subst e
        have := List.nodup_append.1 hnd
        exact this.2.2 k hk k (by simp) rfl
      have hnB : ∀ k ∈ B, k ≠ i := by
        intro k hk e
        subst e
        have := (List.nodup_append.1 hnd).2.1
        exact (List.nodup_cons.1 this).1 hk
      have eA : (A.filter fun k => !(upd l i true) k) = A.filter fun k => !l k := List.filter_congr fun k hk => by rw [upd_ne _ _ (hnA k hk)]
      have eB : (B.filter fun k => !(upd l i true) k) = B.filter fun k => !l k := List.filter_congr fun k hk => by rw [upd_ne _ _ (hnB k hk)]
      rw [he, List.filter_append, List.filter_append, List.filter_cons_of_pos (by simp [hli]), List.filter_cons_of_neg (by simp [upd_same]), eA, eB]
      exact ⟨rfl, rfl⟩
    refine .mk (fun i s' => QXs P ann ((ord.filter fun k => !(upd l i true) k).filterMap (itemX ops pre (ancTab pre))) s' Q ∧ Fin s'.h) (fun hno => ?_) (fun i o hr ho => ?_) (fun i s' hr hs => ?_)
    · exfalso
      cases he : (ord.filter fun i => !l i) with
      | nil => rw [he] at hn; simp at hn
      | cons i0 r =>
        obtain ⟨A, B, e1, e2, e3, _⟩ := List.filter_eq_cons_iff.1 he
        refine hno i0 ⟨(c1 i0 (by rw [e1]; simp)).1, by simpa using e3, fun j hj => ?_⟩
        have := e2 j (c4 A i0 B e1 j hj)
        simpa using this
    · have hi := hall i hr.1
      obtain ⟨A, B, he⟩ := List.append_of_mem hi
      obtain ⟨f1, f2⟩ := hflt i A B he hr.2.1
      obtain ⟨x, hx, hok⟩ := (c1 i hi).2
      have hxo : x.1 = o := by
        unfold itemX at hx
        rw [ho] at hx
        simp only [Option.map_some, Option.some.injEq] at hx
        rw [← hx]
      rw [f1, List.filterMap_append, List.filterMap_cons_some hx] at hq
      have := frontX (P := P) (ann := ann) _ x _ s Q hf ?_ hok hq
      · rw [← hxo]
        rw [f2, List.filterMap_append]
        exact DGX_aw1 (DGX_fin hf this)
      · intro y hy
        obtain ⟨k, hk, hky⟩ := List.mem_filterMap.1 hy
        obtain ⟨hkA, hlk⟩ := List.mem_filter.1 hk
        have hlk : l k = false := by simpa using hlk
        have hpw := c3
        rw [he] at hpw
        have := (List.pairwise_append.1 hpw).2.2 k hkA i (by simp)
        rcases this with h | ⟨x', y', q1, q2, q3⟩
        · exfalso
          have := ancTab_ok (hdown i hr) (i := i) (k := k) (upd_same _ _ _) h
          unfold upd at this
          split at this
          · rename_i e
            subst e
            have hnd := c2
            rw [he] at hnd
            exact (List.nodup_append.1 hnd).2.2 k hkA k (by simp) rfl
          · rw [hlk] at this; cases this
        · rw [hky] at q1
          rw [hx] at q2
          cases q1
          cases q2
          obtain ⟨_, y2, r1, r2⟩ := c1 k (by rw [he]; exact List.mem_append_left _ hkA)
          rw [hky] at r1
          cases r1
          exact ⟨q3, r2⟩
    · have hi := hall i hr.1
      obtain ⟨A, B, he⟩ := List.append_of_mem hi
      obtain ⟨f1, f2⟩ := hflt i A B he hr.2.1
      refine ih (upd l i true) s' ?_ (hdown i hr) hs.2 hs.1
      rw [f1, List.length_append, List.length_cons] at hn
      rw [f2, List.length_append]
      omega

theorem AWD_X {ops : List AOper} {pre : List (List Nat)} {l0 : List (AOper × List Nat)} (hd : drawX ops pre = some l0) {s : St} {Q : St → Prop} (hf : Fin s.h) (hq : QXs P ann l0 s Q) : AWD P ann ops pre (fun _ => false) s Q := by
  unfold drawX at hd
  simp only at hd
  split at hd
  · rename_i hc
    simp only [Bool.and_eq_true, List.all_eq_true, List.mem_range, List.contains_eq_mem, decide_eq_true_eq] at hc
    obtain ⟨⟨h1, h2⟩, h3⟩ := hc
    cases hd
    obtain ⟨c1, c2, c3, c4⟩ := checkX_spec _ [] h1
    refine AWD_aux (P := P) (ann := ann) (ord := orderX ops pre ops.length []) h2 (fun i hi => ⟨(c1 i hi).1, (c1 i hi).2.2⟩) c2 c3 (fun A i B he j hj => ?_) _ _ s rfl (fun i hi => by cases hi) hf ?_
    · rcases c4 A i B he j hj with h | h
      · cases h
      · exact h
    · have : (orderX ops pre ops.length []).filter (fun i => !(fun _ => false) i) = orderX ops pre ops.length [] := List.filter_eq_self.2 fun _ _ => rfl
      rw [this]
      exact hq
  · cases hd
theorem drawX_ok {ops : List AOper} {pre : List (List Nat)} {l0 : List (AOper × List Nat)} (hd : drawX ops pre = some l0) : ∀ x ∈ l0, okX x.1 = true := by
  unfold drawX at hd
  simp only at hd
  split at hd
  · rename_i hc
    simp only [Bool.and_eq_true] at hc
    cases hd
    intro x hx
    obtain ⟨i, hi, hxi⟩ := List.mem_filterMap.1 hx
    obtain ⟨_, _, y, q1, q2⟩ := (checkX_spec _ [] hc.1.1).1 i hi
    rw [hxi] at q1
    cases q1
    exact q2
  · cases hd



def wants (q : Bool) : AV → Bool
  | .sc (.bool x) => x == q
  | _ => false
theorem wants_b {q x : Bool} : wants q (.sc (.bool x)) = (x == q) := nd rfl
def afterS (N : St → Prop) : Option AR → Prop
  | some (.val _ t' h') => N ⟨t', h'⟩
  | _ => False

def afterF (d : Option Nat) (h : Heap) (N : St → Prop) (f : Heap → Option AR) : Prop := ∃ v T, (∀ h', f h' = some (.val v T h')) ∧ N ⟨putd T d v, h⟩

def QX1 (P : Program) (ann : Ann) (U : List Nat) (d : Option Nat) (s : St) (N : St → Prop) : AOp → Prop
  | .call k f xs => own1 (xs.map (Opd.ev s.t)) = true ∧ ∃ v, (∀ h', AWF P ann k f (xs.map (Opd.ev s.t)) h' fun v' h'' => v' = v ∧ h'' = h') ∧ contK N d (strips s.t xs) v s.h
  | .new z => ∀ b, s.h b = none → N ⟨putd s.t d (.op b 0), upd s.h b (some (.arr z))⟩
  | .st sz p x => unl s.t U (p.ev s.t) ∧ afterS N (aex P (.st sz p x) s)
  | .ld false agg sz p => unl s.t U (p.ev s.t) ∧ afterQ d s.h N (aex P (.ld false agg sz p) s)
  | op => op.soft = true ∧ op.clsX = 0 ∧ afterF d s.h N fun h' => aex P op ⟨s.t, h'⟩

def QX (P : Program) (ann : Ann) : List (AOper × List Nat) → St → (St → Prop) → Prop
  | [], s, K => K s
  | (o, U) :: r, s, K => if wantedA o s.t then QX1 P ann U o.dst s (fun s' => QX P ann r s' K) o.op else QX P ann r ⟨putd s.t o.dst .undef, s.h⟩ K

theorem QX_sound : ∀ {l : List (AOper × List Nat)} {s : St} {K : St → Prop}, (∀ x ∈ l, okX x.1 = true) → QX P ann l s K → QXs P ann l s K
  | [], s, K, _, h => h
  | (o, U) :: r, ⟨t, h⟩, K, hok, hq => by
    have hok1 := hok (o, U) (by simp)
    have ih : ∀ {s}, QX P ann r s K → QXs P ann r s K := fun hq => QX_sound (fun x hx => hok x (by simp [hx])) hq
    show DGX P ann (o, U) ⟨t, h⟩ _
    cases hw : wantedA o t with
    | false =>
      have hq : QX P ann r ⟨putd t o.dst .undef, h⟩ K := by
        have : (if wantedA o t = true then _ else QX P ann r ⟨putd t o.dst .undef, h⟩ K) := hq
        rw [hw] at this
        exact this
      have hn : isNewX o t = false := by unfold isNewX; rw [hw]; simp
      exact (DGX_ev (x := (o, U)) (s := ⟨t, h⟩) hn).2 ⟨_, none, .pass hw, ih hq⟩
    | true =>
      have hq : QX1 P ann U o.dst ⟨t, h⟩ (fun s' => QX P ann r s' K) o.op := by
        have : (if wantedA o t = true then QX1 P ann U o.dst ⟨t, h⟩ (fun s' => QX P ann r s' K) o.op else _) := hq
        rw [hw] at this
        exact this
      have soft : o.op.soft = true → o.op.clsX = 0 → (afterF o.dst h (fun s' => QX P ann r s' K) fun h' => aex P o.op ⟨t, h'⟩) → DGX P ann (o, U) ⟨t, h⟩ fun s' => QXs P ann r s' K := by
        rintro h1 h2 ⟨v, T, h3, h4⟩
        have hn : isNewX o t = false := by unfold isNewX; rw [h2]; rfl
        obtain ⟨v', e⟩ := aex_soft h1 (h3 h)
        simp only [AR.val.injEq, and_true] at e
        obtain ⟨rfl, rfl⟩ := e
        exact (DGX_ev (x := (o, U)) (s := ⟨t, h⟩) hn).2 ⟨_, none, .flat (.inl h2) fun h' => .val v hw (h3 h') rfl, ih h4⟩
      cases hop : o.op with
      | call k f xs =>
        rw [hop] at hq
        obtain ⟨q1, v, q2, q3⟩ := hq
        have hn : isNewX o t = false := by unfold isNewX; rw [hop]; rfl
        refine (DGX_ev (x := (o, U)) (s := ⟨t, h⟩) hn).2 ⟨putd (strips t o.op.takes) o.dst v, none, .flat (.inr (by rw [hop]; rfl)) fun h' => .call k f xs v hw hop q1 (q2 h') rfl, ih ?_⟩
        rw [hop]
        exact q3
      | new z =>
        rw [hop] at hq
        have hn : isNewX o t = true := by unfold isNewX; rw [hop, hw]; rfl
        obtain ⟨z', hz', q⟩ := DGX_new (P := P) (ann := ann) (x := (o, U)) (s := ⟨t, h⟩) (K := fun s' => QXs P ann r s' K) hn
        have hz' : o.op = .new z' := hz'
        rw [hop] at hz'
        cases hz'
        rw [q]
        exact fun b hb => ih (hq b hb)
      | st sz p y =>
        rw [hop] at hq
        obtain ⟨q1, q2⟩ := hq
        have hn : isNewX o t = false := by unfold isNewX; rw [hop]; rfl
        have hdn : o.dst = none := by
          unfold okX at hok1
          rw [hop] at hok1
          simp [AOp.clsX] at hok1
          exact hok1.2
        simp only [aex] at q2
        cases hp : p.ev t with
        | op ob c =>
          rw [hp] at q2
          simp only at q2
          cases hh : h ob with
          | none => rw [hh] at q2; exact q2.elim
          | some X =>
            rw [hh] at q2
            cases X with
            | map es => exact q2.elim
            | arr cs =>
              simp only at q2
              split at q2
              · rename_i hc
                refine (DGX_ev (x := (o, U)) (s := ⟨t, h⟩) hn).2 ⟨_, _, .store hop hdn hw (by exact q1) hp hh hc, ih q2⟩
              · exact q2.elim
        | _ => rw [hp] at q2; exact q2.elim
      | ld tk agg sz p =>
        cases tk with
        | true =>
          rw [hop] at hq
          obtain ⟨_, q2, _⟩ := hq
          cases q2
        | false =>
          rw [hop] at hq
          obtain ⟨q1, q2⟩ := hq
          have hn : isNewX o t = false := by unfold isNewX; rw [hop]; rfl
          cases ha : aex P (.ld false agg sz p) ⟨t, h⟩ with
          | none => rw [ha] at q2; exact q2.elim
          | some R =>
            obtain ⟨v, e1, _⟩ := aex_look (P := P) (op := .ld false agg sz p) (l := [p]) rfl (t := t) (t' := t) (h := h) (fun _ _ => rfl) ha
            subst e1
            rw [ha] at q2
            exact (DGX_ev (x := (o, U)) (s := ⟨t, h⟩) hn).2 ⟨_, none, .load hop hw q1 (by rw [hop]; exact ha) rfl, ih q2⟩
      | _ =>
        rw [hop] at hq
        obtain ⟨q1, q2, q3⟩ := hq
        refine soft ?_ ?_ ?_
        · rw [hop]; exact q1
        · rw [hop]; exact q2
        · rw [hop]; exact q3

theorem W_regx_sound {l : List (AOper × List Nat)} {s : St} {Q : Ex → St → Prop} (hq : QX P ann l s (Q .normal)) : AW P ann (.regx l) s Q :=
  .free fun hf => .regx fun ops pre hd => AWD_X hd hf (QX_sound (drawX_ok hd) hq)

section
variable {t : Nat → AV} {h : Heap} {N : St → Prop} {U : List Nat}
theorem QX_nil : QX P ann [] ⟨t, h⟩ N = N ⟨t, h⟩ := nd rfl
theorem QX_cons {d op r} : QX P ann ((⟨d, op, none⟩, U) :: r) ⟨t, h⟩ N = QX1 P ann U d ⟨t, h⟩ (fun s' => QX P ann r s' N) op := nd rfl
theorem QX_consG {d op j q r} : QX P ann ((⟨some d, op, some (j, q)⟩, U) :: r) ⟨t, h⟩ N =
    if wants q (t j) then QX1 P ann U (some d) ⟨t, h⟩ (fun s' => QX P ann r s' N) op else QX P ann r ⟨upd t d .undef, h⟩ N := nd rfl
theorem QX_consGn {op j q r} : QX P ann ((⟨none, op, some (j, q)⟩, U) :: r) ⟨t, h⟩ N =
    if wants q (t j) then QX1 P ann U none ⟨t, h⟩ (fun s' => QX P ann r s' N) op else QX P ann r ⟨t, h⟩ N := nd rfl
theorem unl_nil {v} : unl t [] v = True := by simp [unl]
theorem unl_cons {e V v} : unl t (e :: V) v = ((∀ o, asO (t e) = some o → ∀ o', asO v = some o' → o ≠ o') ∧ unl t V v) := by
  have : (∀ o o', asO (t e) = some o → asO v = some o' → o ≠ o') ↔ (∀ o, asO (t e) = some o → ∀ o', asO v = some o' → o ≠ o') := ⟨fun h o h1 o' h2 => h o o' h1 h2, fun h o o' h1 h2 => h o h1 o' h2⟩
  rw [← propext this]
  simp [unl]
theorem asO_op {o c} : asO (.op o c) = some o := nd rfl
theorem asO_cp {cs} : asO (.cp cs) = none := nd rfl
theorem afterS_val {v t' h'} : afterS N (some (.val v t' h')) = N ⟨t', h'⟩ := nd rfl
theorem afterS_none : afterS N none = False := nd rfl
theorem afterS_if {c : Prop} [Decidable c] {x : Option AR} : afterS N (if c then x else none) = (c ∧ afterS N x) := by
  by_cases hc : c <;> simp [hc, afterS_none]
theorem afterF_val {d v T} : afterF (some d) h N (fun h' => some (.val v T h')) = N ⟨upd T d v, h⟩ := by
  show (∃ v' T', _ ∧ _) = _
  simp only [Option.some.injEq, AR.val.injEq, and_true, forall_const]
  exact propext ⟨fun ⟨v', T', ⟨e1, e2⟩, q⟩ => by subst e1; subst e2; exact q, fun q => ⟨v, T, ⟨rfl, rfl⟩, q⟩⟩
theorem afterF_valn {v T} : afterF none h N (fun h' => some (.val v T h')) = N ⟨T, h⟩ := by
  show (∃ v' T', _ ∧ _) = _
  simp only [Option.some.injEq, AR.val.injEq, and_true, forall_const]
  exact propext ⟨fun ⟨v', T', ⟨e1, e2⟩, q⟩ => by subst e1; subst e2; exact q, fun q => ⟨v, T, ⟨rfl, rfl⟩, q⟩⟩
theorem afterF_if {d} {c : Prop} [Decidable c] {x : Heap → Option AR} : afterF d h N (fun h' => if c then x h' else none) = (c ∧ afterF d h N x) := by
  by_cases hc : c
  · simp [hc]
  · simp [hc, afterF]
theorem afterF_bind {α : Type} {d} {x : Option α} {f : Heap → α → Option AR} : afterF d h N (fun h' => x.bind (f h')) = ∃ a, x = some a ∧ afterF d h N (fun h' => f h' a) := by
  cases x <;> simp [afterF]
theorem afterF_bind' {α : Type} {d} {x : Option α} {f : Heap → α → Option AR} : afterF d h N (fun h' => x.bind fun a => f h' a) = ∃ a, x = some a ∧ afterF d h N (fun h' => f h' a) := afterF_bind
theorem QX1_call {d k f xs} : QX1 P ann U d ⟨t, h⟩ N (.call k f xs) = (own1 (xs.map (Opd.ev t)) = true ∧ ∃ v, (∀ h', AWF P ann k f (xs.map (Opd.ev t)) h' fun v' h'' => v' = v ∧ h'' = h') ∧ contK N d (strips t xs) v h) := nd rfl
theorem QX1_new {d z} : QX1 P ann U (some d) ⟨t, h⟩ N (.new z) = ∀ b, h b = none → N ⟨upd t d (.op b 0), upd h b (some (.arr z))⟩ := nd rfl
theorem QX1_st {d sz p x} : QX1 P ann U d ⟨t, h⟩ N (.st sz p x) = (unl t U (p.ev t) ∧ afterS N (aex P (.st sz p x) ⟨t, h⟩)) := nd rfl
theorem QX1_ld {d agg sz p} : QX1 P ann U d ⟨t, h⟩ N (.ld false agg sz p) = (unl t U (p.ev t) ∧ afterQ d h N (aex P (.ld false agg sz p) ⟨t, h⟩)) := nd rfl
theorem QX1_movT {d x} : QX1 P ann U d ⟨t, h⟩ N (.mov true x) = afterF d h N (fun h' => aex P (.mov true x) ⟨t, h'⟩) := by show (_ ∧ _ ∧ _) = _; simp [AOp.soft, AOp.clsX, AOp.quiet, AOp.looks]
theorem QX1_movF {d x} : QX1 P ann U d ⟨t, h⟩ N (.mov false x) = afterF d h N (fun h' => aex P (.mov false x) ⟨t, h'⟩) := by show (_ ∧ _ ∧ _) = _; simp [AOp.soft, AOp.clsX, AOp.quiet, AOp.looks]
theorem QX1_pick {d c a b} : QX1 P ann U d ⟨t, h⟩ N (.pick c a b) = afterF d h N (fun h' => aex P (.pick c a b) ⟨t, h'⟩) := by show (_ ∧ _ ∧ _) = _; simp [AOp.soft, AOp.clsX, AOp.quiet, AOp.looks]
theorem QX1_bin {d op ty x y} : QX1 P ann U d ⟨t, h⟩ N (.bin op ty x y) = afterF d h N (fun h' => aex P (.bin op ty x y) ⟨t, h'⟩) := by show (_ ∧ _ ∧ _) = _; simp [AOp.soft, AOp.clsX, AOp.quiet, AOp.looks]
theorem QX1_un {d op x} : QX1 P ann U d ⟨t, h⟩ N (.un op x) = afterF d h N (fun h' => aex P (.un op x) ⟨t, h'⟩) := by show (_ ∧ _ ∧ _) = _; simp [AOp.soft, AOp.clsX, AOp.quiet, AOp.looks]
theorem QX1_isnil {d k ng x} : QX1 P ann U d ⟨t, h⟩ N (.isnil k ng x) = afterF d h N (fun h' => aex P (.isnil k ng x) ⟨t, h'⟩) := by show (_ ∧ _ ∧ _) = _; simp [AOp.soft, AOp.clsX, AOp.quiet, AOp.looks]
theorem QX1_conv {d a b x} : QX1 P ann U d ⟨t, h⟩ N (.conv a b x) = afterF d h N (fun h' => aex P (.conv a b x) ⟨t, h'⟩) := by show (_ ∧ _ ∧ _) = _; simp [AOp.soft, AOp.clsX, AOp.quiet, AOp.looks]
theorem QX1_b2s {d x} : QX1 P ann U d ⟨t, h⟩ N (.b2s x) = afterF d h N (fun h' => aex P (.b2s x) ⟨t, h'⟩) := by show (_ ∧ _ ∧ _) = _; simp [AOp.soft, AOp.clsX, AOp.quiet, AOp.looks]
theorem QX1_s2b {d x} : QX1 P ann U d ⟨t, h⟩ N (.s2b false x) = afterF d h N (fun h' => aex P (.s2b false x) ⟨t, h'⟩) := by show (_ ∧ _ ∧ _) = _; simp [AOp.soft, AOp.clsX, AOp.quiet, AOp.looks]
theorem QX1_fld {d a o s x} : QX1 P ann U d ⟨t, h⟩ N (.fld a o s x) = afterF d h N (fun h' => aex P (.fld a o s x) ⟨t, h'⟩) := by show (_ ∧ _ ∧ _) = _; simp [AOp.soft, AOp.clsX, AOp.quiet, AOp.looks]
theorem QX1_fad {d o x} : QX1 P ann U d ⟨t, h⟩ N (.fad o x) = afterF d h N (fun h' => aex P (.fad o x) ⟨t, h'⟩) := by show (_ ∧ _ ∧ _) = _; simp [AOp.soft, AOp.clsX, AOp.quiet, AOp.looks]
theorem QX1_iad {d s x i} : QX1 P ann U d ⟨t, h⟩ N (.iad s x i) = afterF d h N (fun h' => aex P (.iad s x i) ⟨t, h'⟩) := by show (_ ∧ _ ∧ _) = _; simp [AOp.soft, AOp.clsX, AOp.quiet, AOp.looks]
theorem QX1_iap {d n s x i} : QX1 P ann U d ⟨t, h⟩ N (.iap n s x i) = afterF d h N (fun h' => aex P (.iap n s x i) ⟨t, h'⟩) := by show (_ ∧ _ ∧ _) = _; simp [AOp.soft, AOp.clsX, AOp.quiet, AOp.looks]
theorem QX1_ixs {d x i} : QX1 P ann U d ⟨t, h⟩ N (.ixs x i) = afterF d h N (fun h' => aex P (.ixs x i) ⟨t, h'⟩) := by show (_ ∧ _ ∧ _) = _; simp [AOp.soft, AOp.clsX, AOp.quiet, AOp.looks]
theorem QX1_ixa {d n a s x i} : QX1 P ann U d ⟨t, h⟩ N (.ixa n a s x i) = afterF d h N (fun h' => aex P (.ixa n a s x i) ⟨t, h'⟩) := by show (_ ∧ _ ∧ _) = _; simp [AOp.soft, AOp.clsX, AOp.quiet, AOp.looks]
theorem QX1_slc {d s x lo hi mx} : QX1 P ann U d ⟨t, h⟩ N (.slc s x lo hi mx) = afterF d h N (fun h' => aex P (.slc s x lo hi mx) ⟨t, h'⟩) := by show (_ ∧ _ ∧ _) = _; simp [AOp.soft, AOp.clsX, AOp.quiet, AOp.looks]
theorem QX1_sls {d x lo hi} : QX1 P ann U d ⟨t, h⟩ N (.sls x lo hi) = afterF d h N (fun h' => aex P (.sls x lo hi) ⟨t, h'⟩) := by show (_ ∧ _ ∧ _) = _; simp [AOp.soft, AOp.clsX, AOp.quiet, AOp.looks]
theorem QX1_len {d k x} : QX1 P ann U d ⟨t, h⟩ N (.len k x) = afterF d h N (fun h' => aex P (.len k x) ⟨t, h'⟩) := by show (_ ∧ _ ∧ _) = _; simp [AOp.soft, AOp.clsX, AOp.quiet, AOp.looks]
theorem QX1_nck {d x} : QX1 P ann U d ⟨t, h⟩ N (.nck x) = afterF d h N (fun h' => aex P (.nck x) ⟨t, h'⟩) := by show (_ ∧ _ ∧ _) = _; simp [AOp.soft, AOp.clsX, AOp.quiet, AOp.looks]
theorem QX1_ext {d i x} : QX1 P ann U d ⟨t, h⟩ N (.ext i x) = afterF d h N (fun h' => aex P (.ext i x) ⟨t, h'⟩) := by show (_ ∧ _ ∧ _) = _; simp [AOp.soft, AOp.clsX, AOp.quiet, AOp.looks]
theorem QX1_blt {d b tys ty xs} : QX1 P ann U d ⟨t, h⟩ N (.blt b tys ty xs) = afterF d h N (fun h' => aex P (.blt b tys ty xs) ⟨t, h'⟩) := by show (_ ∧ _ ∧ _) = _; simp [AOp.soft, AOp.clsX, AOp.quiet, AOp.looks]
theorem QX1_bld {d z ps} : QX1 P ann U d ⟨t, h⟩ N (.bld z ps) = afterF d h N (fun h' => aex P (.bld z ps) ⟨t, h'⟩) := by show (_ ∧ _ ∧ _) = _; simp [AOp.soft, AOp.clsX, AOp.quiet, AOp.looks]
theorem QX1_lit {d sz n z ps} : QX1 P ann U d ⟨t, h⟩ N (.lit false sz n z ps) = afterF d h N (fun h' => aex P (.lit false sz n z ps) ⟨t, h'⟩) := by show (_ ∧ _ ∧ _) = _; simp [AOp.soft, AOp.clsX, AOp.quiet, AOp.looks]
theorem QX1_app {d sz b z x y} : QX1 P ann U d ⟨t, h⟩ N (.app false sz b z x y) = afterF d h N (fun h' => aex P (.app false sz b z x y) ⟨t, h'⟩) := by show (_ ∧ _ ∧ _) = _; simp [AOp.soft, AOp.clsX, AOp.quiet, AOp.looks]
end

end Go.Am
