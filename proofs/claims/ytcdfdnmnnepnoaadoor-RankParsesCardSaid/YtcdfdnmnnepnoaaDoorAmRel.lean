/- How the abstract machine's values and states stand to the model's. -/
import Derived.Test.YtcdfdnmnnepnoaaDoorAmDef
set_option linter.unusedVariables false
set_option linter.unusedSimpArgs false
namespace Go.Am


inductive Loc where
  | slot (i : Nat)
  | cell (o c : Nat)
  | ret
  deriving DecidableEq


structure Gh where
  pub : Nat → Nat → Option Value
  own : Nat → Option Loc

inductive VRel (G : Gh) : AV → Value → Prop
  | sc {v} : scalarV v = true → VRel G (.sc v) v
  | bs {own sz es lim b o cap} (cv : Nat → Value) : (∀ e ∈ es, e.length = sz) → (∀ c ∈ es.flatten, c.one = true) →
      (∀ m c, es.flatten[m]? = some c → G.pub b (o + m) = some (cv m)) → (∀ m c, es.flatten[m]? = some c → VRel G c (cv m)) →
      es.length ≤ cap → (∀ c, lim = some c → cap = c) → VRel G (.bs own sz es lim) (.slice (some ⟨b, o, none⟩) es.length cap)
  | bz {sz lim a} : (∀ c, lim = some c → c = 0) → VRel G (.bs false sz [] lim) (.slice (some a) 0 0)
  | cp {cs b o} (cv : Nat → Value) : (∀ c ∈ cs, c.one = true) → (∀ m c, cs[m]? = some c → G.pub b (o + m) = some (cv m)) → (∀ m c, cs[m]? = some c → VRel G c (cv m)) →
      VRel G (.cp cs) (.pointer (some ⟨b, o, none⟩))
  | op {o c} : VRel G (.op o c) (.pointer (some ⟨o, c, none⟩))
  | rs {o c sz len lim a cap} : (a = ⟨o, c, none⟩ ∨ (len = 0 ∧ cap = 0)) → len ≤ cap → (∀ c, lim = some c → cap = c) → VRel G (.rs o c sz len lim) (.slice (some a) len cap)
  | mp {o} : VRel G (.mp o) (.map (some o))
  | it {o} : VRel G (.it o) (.pointer (some ⟨o, 0, none⟩))
  | fn {f fs cs fs' cs'} : fs'.size = fs.length → cs'.size = cs.length → (∀ m c, fs[m]? = some c → VRel G c (fs'.getD m undef)) →
      (∀ m c, cs[m]? = some c → VRel G c (cs'.getD m undef)) → VRel G (.fn f fs cs) (.func (.func f) fs' cs')
  | ag {cs ds} : (∀ c ∈ cs, c.one = true) → ds.size = cs.length → (∀ m c, cs[m]? = some c → VRel G c (ds.getD m undef)) → VRel G (.ag cs) (.agg ds)
  | tu {cs ds} : ds.size = cs.length → (∀ m c, cs[m]? = some c → VRel G c (ds.getD m undef)) → VRel G (.tu cs) (.tuple ds)

theorem VRel.mono {G G' : Gh} (hp : ∀ b i v, G.pub b i = some v → G'.pub b i = some v) {v : AV} {cv : Value} (h : VRel G v cv) : VRel G' v cv := by
  induction h with
  | sc h => exact .sc h
  | bs cv h1 h0 h2 _ h4 h5 ih => exact .bs cv h1 h0 (fun m c hm => hp _ _ _ (h2 m c hm)) (fun m c hm => ih m c hm) h4 h5
  | bz h => exact .bz h
  | cp cv h0 h1 _ ih => exact .cp cv h0 (fun m c hm => hp _ _ _ (h1 m c hm)) (fun m c hm => ih m c hm)
  | op => exact .op
  | rs h1 h2 h3 => exact .rs h1 h2 h3
  | mp => exact .mp
  | it => exact .it
  | fn h1 h2 _ _ ih1 ih2 => exact .fn h1 h2 ih1 ih2
  | ag h0 h1 _ ih => exact .ag h0 h1 ih
  | tu h1 _ ih => exact .tu h1 ih

theorem VRel.own_irrel {G : Gh} {own : Bool} {sz es lim cv} (h : VRel G (.bs own sz es lim) cv) : VRel G (.bs false sz es lim) cv := by
  cases h with
  | bs cv h1 h0 h2 h3 h4 h5 => exact .bs cv h1 h0 h2 h3 h4 h5
  | bz h => exact .bz h

theorem VRel.disc {G : Gh} {v cv} (h : VRel G v cv) : VRel G v.disc cv := by
  cases v <;> first | exact h | exact h.own_irrel

theorem disc_one (v : AV) : v.disc.one = v.one := by cases v <;> rfl

theorem disc_own (v : AV) : v.disc.isOwn = false := by cases v <;> rfl

theorem VRel.dis {G : Gh} {v cv} (h : VRel G v cv) : VRel G v.dis cv := by
  cases h with
  | ag h0 h1 h2 =>
    refine .ag (fun c hc => ?_) (by rw [h1, List.length_map]) ?_
    · obtain ⟨c', h3, rfl⟩ := List.mem_map.1 hc
      rw [disc_one]
      exact h0 c' h3
    intro m c hm
    rw [List.getElem?_map, Option.map_eq_some_iff] at hm
    obtain ⟨c', h3, rfl⟩ := hm
    exact (h2 m c' h3).disc
  | tu h1 h2 =>
    refine .tu (by rw [h1, List.length_map]) ?_
    intro m c hm
    rw [List.getElem?_map, Option.map_eq_some_iff] at hm
    obtain ⟨c', h3, rfl⟩ := hm
    exact (h2 m c' h3).disc
  | bs cv h1 h0 h2 h3 h4 h5 => exact .bs cv h1 h0 h2 h3 h4 h5
  | bz h => exact .bz h
  | sc h => exact .sc h
  | cp cv h0 h1 h2 => exact .cp cv h0 h1 h2
  | op => exact .op
  | rs h1 h2 h3 => exact .rs h1 h2 h3
  | mp => exact .mp
  | it => exact .it
  | fn h1 h2 h3 h4 => exact .fn h1 h2 h3 h4

theorem dis_own (v : AV) : v.dis.isOwn = false := by cases v <;> rfl

def unfrozen (n : Nat) (fz : Nat × Nat) : Prop := fz.1 = fz.2 ∨ n ≤ fz.1

def unmarked (n : Nat) (fz : Nat × Nat) : Prop := fz.1 = fz.2
theorem unmarked.un {n : Nat} {fz : Nat × Nat} (h : unmarked n fz) : unfrozen n fz := .inl h
theorem unmarked_zero (k : Nat) : unmarked k (0, 0) := rfl
theorem unfrozen.get {n : Nat} {fz : Nat × Nat} (h : unfrozen n fz) (i : Nat) (hi : i < n) : ¬ (fz.1 ≤ i ∧ i < fz.2) := by
  unfold unfrozen at h
  omega


def OwnOk (G : Gh) (w : World) (loc : Loc) (v : AV) (cv : Value) : Prop :=
  ∀ sz es lim, v = .bs true sz es lim → ∀ a len cap, cv = .slice (some a) len cap →
    G.own a.block = some loc ∧ (∀ i, a.off + len * sz ≤ i → G.pub a.block i = none) ∧
    ∃ ds e fz, w.heap[a.block]? = some (.cells ds e fz) ∧ unfrozen ds.size fz ∧ a.off + cap * sz ≤ ds.size ∧ a.off = 0

theorem OwnOk.of_not {G w loc v cv} (h : v.isOwn = false) : OwnOk G w loc v cv := by
  intro sz es lim e
  subst e
  simp [AV.isOwn] at h

theorem OwnOk.dis {G w loc v cv} : OwnOk G w loc (AV.dis v) cv := .of_not (dis_own v)

structure Inv (G : Gh) (h : Heap) (w : World) : Prop where
  pub : ∀ b i v, G.pub b i = some v → w.cell? ⟨b, i, none⟩ = some v
  arr : ∀ o cs, h o = some (.arr cs) → (∀ i, G.pub o i = none) ∧ G.own o = none ∧ ∃ ds e fz, w.heap[o]? = some (.cells ds e fz) ∧ unmarked ds.size fz ∧ cs.length ≤ ds.size ∧ (∀ c ∈ cs, c.one = true) ∧
    ∀ m c, cs[m]? = some c → ∃ cv, ds[m]? = some cv ∧ VRel G c cv ∧ OwnOk G w (.cell o m) c cv
  map : ∀ o es, h o = some (.map es) → (∀ i, G.pub o i = none) ∧ G.own o = none ∧ ∃ (ents : Array MapEntry) (clock : Nat), w.heap[o]? = some (.map ents clock) ∧ ents.size = es.length ∧
    (∀ (m : Nat) (e : Value × AV), es[m]? = some e → ∃ x : MapEntry, ents[m]? = some x ∧ x.key = e.1 ∧ keyOk e.1 = true ∧ VRel G e.2 x.val ∧ e.2.isOwn = false ∧ x.born < clock) ∧
    (∀ (m n : Nat) (x y : MapEntry), ents[m]? = some x → ents[n]? = some y → x.born = y.born → m = n)
  own : ∀ b loc, G.own b = some loc → b < w.heap.size


structure FRel (G : Gh) (w : World) (n : Nat) (t : Nat → AV) (a : Act) : Prop where
  size : a.tmps.size = n
  defers : a.defers = []
  val : ∀ i, VRel G (t i) (a.tmps.getD i undef)
  own : ∀ i, OwnOk G w (.slot i) (t i) (a.tmps.getD i undef)


structure Kept (G : Gh) (h : Heap) (w : World) (G' : Gh) (h' : Heap) (w' : World) : Prop where
  pub : ∀ b i v, G.pub b i = some v → G'.pub b i = some v
  os : w'.os = w.os
  output : w'.output = w.output
  tape : w'.tape = w.tape
  size : w.heap.size ≤ w'.heap.size
  keep : ∀ b, b < w.heap.size → G.own b = none → h b = none → w'.heap[b]? = w.heap[b]? ∧ (∀ i, G'.pub b i = G.pub b i) ∧ G'.own b = none ∧ h' b = none
  live : ∀ b, b < w.heap.size → h b = none → h' b = none

theorem Kept.refl (G : Gh) (h : Heap) (w : World) : Kept G h w G h w :=
  ⟨fun _ _ _ h => h, rfl, rfl, rfl, Nat.le_refl _, fun _ _ h1 h2 => ⟨rfl, fun _ => rfl, h1, h2⟩, fun _ _ h => h⟩

theorem Kept.trans {G G1 G2 : Gh} {h h1 h2 : Heap} {w w1 w2 : World} (a : Kept G h w G1 h1 w1) (b : Kept G1 h1 w1 G2 h2 w2) : Kept G h w G2 h2 w2 where
  pub := fun x i v hv => b.pub _ _ _ (a.pub _ _ _ hv)
  os := b.os.trans a.os
  output := b.output.trans a.output
  tape := b.tape.trans a.tape
  size := Nat.le_trans a.size b.size
  keep := fun x hx ho hh => by
    obtain ⟨e1, e2, e3, e4⟩ := a.keep x hx ho hh
    obtain ⟨f1, f2, f3, f4⟩ := b.keep x (Nat.lt_of_lt_of_le hx a.size) e3 e4
    exact ⟨f1.trans e1, fun i => (f2 i).trans (e2 i), f3, f4⟩
  live := fun x hx hh => b.live x (Nat.lt_of_lt_of_le hx a.size) (a.live x hx hh)


theorem VRel.sc_inv {G v cv} (h : VRel G (.sc v) cv) : cv = v ∧ scalarV v = true := by cases h with | sc h => exact ⟨rfl, h⟩

theorem VRel.oneCell {G : Gh} {v cv} (h : VRel G v cv) (h1 : v.one = true) : cv.oneCell' = true := by
  cases h with
  | sc hs => cases cv <;> first | rfl | (simp [scalarV] at hs)
  | ag => simp [AV.one] at h1
  | tu => simp [AV.one] at h1
  | _ => rfl

theorem scs_spec : ∀ (cs : List AV) (l : List Value), scs cs = some l → l.length = cs.length ∧ ∀ (m : Nat) (c : AV), cs[m]? = some c → ∃ v : Value, c = AV.sc v ∧ l[m]? = some v
  | [], l, h => by
    simp [scs] at h
    subst h
    exact ⟨rfl, fun m c h => by simp at h⟩
  | c :: r, l, h => by
    simp only [scs] at h
    split at h
    · rename_i v l' h1 h2
      simp at h
      subst h
      obtain ⟨e1, e2⟩ := scs_spec r l' h2
      refine ⟨by simp [e1], ?_⟩
      intro m c' hm
      cases m with
      | zero =>
        simp at hm
        subst hm
        cases c <;> simp [AV.sc?] at h1
        exact ⟨_, rfl, by simp [h1]⟩
      | succ m => simpa using e2 m c' (by simpa using hm)
    · simp at h

theorem toV_rel {G v cv x} (h : VRel G v cv) (hx : v.toV = some x) : cv = x := by
  cases h with
  | sc h => simp [AV.toV] at hx; exact hx
  | @ag cs ds h0 h1 h2 =>
    simp only [AV.toV, Option.map_eq_some_iff] at hx
    obtain ⟨l, hl, rfl⟩ := hx
    obtain ⟨e1, e2⟩ := scs_spec cs l hl
    congr 1
    apply Array.ext
    · simp [h1, e1]
    · intro i hi1 hi2
      have hi : i < cs.length := by omega
      obtain ⟨v, e3, e4⟩ := e2 i cs[i] (by simp [hi])
      have := h2 i cs[i] (by simp [hi])
      rw [e3] at this
      have := this.sc_inv.1
      simp [Array.getD, hi1] at this
      rw [this]
      have : l[i]? = some v := e4
      simp
      rw [List.getElem?_eq_some_iff] at this
      exact this.2.symm
  | _ => simp [AV.toV] at hx

theorem pureRun_run {α : Type} (P : Program) (w : World) : ∀ (s : Sem α) (r : α), pureRun P s = some r → s.run P w = .ok r w
  | .pure a, r, h => by simp [pureRun] at h; subst h; rfl
  | .program k, r, h => by simp only [pureRun] at h; simp only [Sem.run]; exact pureRun_run P w (k P) r h
  | .load .., r, h | .store .., r, h | .new .., r, h | .shape .., r, h | .freeze .., r, h | .frozen .., r, h | .getObj .., r, h | .setObj .., r, h
  | .choose .., r, h | .sys .., r, h | .mark .., r, h | .halt .., r, h => by simp [pureRun] at h

theorem asI_rel {G v cv n} (h : VRel G v cv) (hn : asI v = some n) : ∃ k, cv = .int k n ∧ v = .sc (.int k n) := by
  cases v <;> simp [asI] at hn
  rename_i x
  cases x <;> simp at hn
  subst hn
  exact ⟨_, h.sc_inv.1, rfl⟩

theorem asB_rel {G v cv b} (h : VRel G v cv) (hn : asB v = some b) : cv = .bool b ∧ v = .sc (.bool b) := by
  cases v <;> simp [asB] at hn
  rename_i x
  cases x <;> simp at hn
  subst hn
  exact ⟨h.sc_inv.1, rfl⟩


structure ARel (G : Gh) (w : World) (args : List AV) (vals : Array Value) : Prop where
  size : vals.size = args.length
  val : ∀ i, VRel G (args.getD i .undef) (vals.getD i undef)
  own : ∀ i, OwnOk G w (.slot i) (args.getD i .undef) (vals.getD i undef)


def CallPost (G : Gh) (h : Heap) (w : World) (Q : AV → Heap → Prop) : Ending → World → Prop :=
  fun e w' => ∃ v cv h' G', e = .returned cv ∧ Q v h' ∧ VRel G' v cv ∧ OwnOk G' w' .ret v cv ∧ Inv G' h' w' ∧ Kept G h w G' h' w'


def M5 (P : Program) (f : Nat) (args : List AV) (h : Heap) (Q : AV → Heap → Prop) : Prop :=
  (∃ fn, P.funcs[f]? = some fn ∧ fn.body.isSome = true ∧ (fn.name == "runtime.NumGoroutine") = false) ∧
    ∀ G w vals, ARel G w args vals → Inv G h w → Calls P f vals w (CallPost G h w Q)


def M6 (P : Program) (f : Nat) (args : List AV) (h : Heap) (Q : AV → Heap → Prop) : Prop :=
  (∀ fn, P.funcs[f]? = some fn → fn.body.isSome = false) ∧ ∀ G w vals, ARel G w args vals → Inv G h w → ∃ cv w', (callFunc f vals).run P w = .ok (.value cv) w' ∧ CallPost G h w Q (.returned cv) w'

theorem CallPost.mono {G : Gh} {h : Heap} {w : World} {Q Q' : AV → Heap → Prop} (hq : ∀ v h, Q v h → Q' v h) {e : Ending} {w' : World} (H : CallPost G h w Q e w') : CallPost G h w Q' e w' := by
  obtain ⟨v, cv, h', G', e1, e2, e3⟩ := H
  exact ⟨v, cv, h', G', e1, hq _ _ e2, e3⟩

theorem M6.mono {P : Program} {f : Nat} {args : List AV} {h : Heap} {Q Q' : AV → Heap → Prop} (hq : ∀ v h, Q v h → Q' v h) (H : M6 P f args h Q) : M6 P f args h Q' :=
  ⟨H.1, fun G w vals ha hi => (H.2 G w vals ha hi).imp fun cv ⟨w', h1, h2⟩ => ⟨w', h1, h2.mono hq⟩⟩

theorem M5.mono {P : Program} {f : Nat} {args : List AV} {h : Heap} {Q Q' : AV → Heap → Prop} (hq : ∀ v h, Q v h → Q' v h) (H : M5 P f args h Q) : M5 P f args h Q' :=
  ⟨H.1, fun G w vals ha hi => (H.2 G w vals ha hi).mono fun e w' ⟨v, cv, h', G', e1, e2, e3⟩ => ⟨v, cv, h', G', e1, hq _ _ e2, e3⟩⟩

end Go.Am
