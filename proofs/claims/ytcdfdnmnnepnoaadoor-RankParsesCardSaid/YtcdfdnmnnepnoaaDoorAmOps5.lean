/- Cells in a row: structs by value, reading, functions. -/
import Derived.Test.YtcdfdnmnnepnoaaDoorAmOps4
set_option linter.unusedVariables false
set_option linter.unusedSimpArgs false
namespace Go.Am
variable {P : Program} {G : Gh} {h : Heap} {w : World} {n : Nat} {t : Nat → AV} {a : Act}


def CRel (G : Gh) (cs : List AV) (ds : Array Value) : Prop := ds.size = cs.length ∧ ∀ m c, cs[m]? = some c → VRel G c (ds.getD m Go.undef)

theorem VRel.cells {v : AV} {cv : Value} (hv : VRel G v cv) : CRel G v.cells cv.cells := by
  cases hv with
  | ag h0 h1 h2 => exact ⟨h1, h2⟩
  | tu h1 h2 =>
    refine ⟨rfl, ?_⟩
    intro m c hm
    cases m with
    | zero => simp [AV.cells] at hm; subst hm; exact .tu h1 h2
    | succ m => simp [AV.cells] at hm
  | sc hs =>
    have : Value.cells cv = #[cv] := by cases cv <;> first | rfl | (exact absurd hs (by decide)) | (simp [scalarV] at hs)
    rw [this]
    refine ⟨rfl, ?_⟩
    intro m c hm
    cases m with
    | zero => simp [AV.cells] at hm; subst hm; exact .sc hs
    | succ m => simp [AV.cells] at hm
  | bs cv h1 h0 h2 h3 h4 h5 =>
    refine ⟨rfl, ?_⟩
    intro m c hm
    cases m with
    | zero => simp [AV.cells] at hm; subst hm; exact .bs cv h1 h0 h2 h3 h4 h5
    | succ m => simp [AV.cells] at hm
  | bz hz =>
    refine ⟨rfl, ?_⟩
    intro m c hm
    cases m with
    | zero => simp [AV.cells] at hm; subst hm; exact .bz hz
    | succ m => simp [AV.cells] at hm
  | cp cv h0 h1 h2 =>
    refine ⟨rfl, ?_⟩
    intro m c hm
    cases m with
    | zero => simp [AV.cells] at hm; subst hm; exact .cp cv h0 h1 h2
    | succ m => simp [AV.cells] at hm
  | op =>
    refine ⟨rfl, ?_⟩
    intro m c hm
    cases m with
    | zero => simp [AV.cells] at hm; subst hm; exact .op
    | succ m => simp [AV.cells] at hm
  | rs h1 h2 h3 =>
    refine ⟨rfl, ?_⟩
    intro m c hm
    cases m with
    | zero => simp [AV.cells] at hm; subst hm; exact .rs h1 h2 h3
    | succ m => simp [AV.cells] at hm
  | mp =>
    refine ⟨rfl, ?_⟩
    intro m c hm
    cases m with
    | zero => simp [AV.cells] at hm; subst hm; exact .mp
    | succ m => simp [AV.cells] at hm
  | it =>
    refine ⟨rfl, ?_⟩
    intro m c hm
    cases m with
    | zero => simp [AV.cells] at hm; subst hm; exact .it
    | succ m => simp [AV.cells] at hm
  | fn h1 h2 h3 h4 =>
    refine ⟨rfl, ?_⟩
    intro m c hm
    cases m with
    | zero => simp [AV.cells] at hm; subst hm; exact .fn h1 h2 h3 h4
    | succ m => simp [AV.cells] at hm

theorem setRange_get (cs vs : List AV) (off m : Nat) (h : off + vs.length ≤ cs.length) : (setRange cs off vs)[m]? = if off ≤ m ∧ m < off + vs.length then vs[m - off]? else cs[m]? := by
  unfold setRange
  rw [List.append_assoc]
  rcases Nat.lt_or_ge m off with h1 | h1
  · rw [List.getElem?_append_left (by rw [List.length_take]; omega), List.getElem?_take, if_pos h1, if_neg (by omega)]
  · rw [List.getElem?_append_right (by rw [List.length_take]; omega), List.length_take, Nat.min_eq_left (by omega)]
    rcases Nat.lt_or_ge m (off + vs.length) with h2 | h2
    · rw [List.getElem?_append_left (by omega), if_pos ⟨h1, h2⟩]
    · rw [List.getElem?_append_right (by omega), List.getElem?_drop, if_neg (by omega)]
      congr 1
      omega

theorem setRange_length (cs vs : List AV) (off : Nat) (h : off + vs.length ≤ cs.length) : (setRange cs off vs).length = cs.length := by
  simp [setRange]
  omega

theorem fold_set (off : Nat) : ∀ (vs : List Value) (k : Nat) (cs : Array Value), off + k + vs.length ≤ cs.size →
    ((vs.zipIdx k).foldl (fun (cs : Array Value) (x : Value × Nat) => cs.setIfInBounds (off + x.2) x.1) cs).size = cs.size ∧
    ∀ m, ((vs.zipIdx k).foldl (fun (cs : Array Value) (x : Value × Nat) => cs.setIfInBounds (off + x.2) x.1) cs)[m]? =
      if off + k ≤ m ∧ m < off + k + vs.length then vs[m - off - k]? else cs[m]?
  | [], k, cs, _ => by
    refine ⟨rfl, ?_⟩
    intro m
    rw [if_neg (by simp only [List.length_nil]; omega)]
    rfl
  | v :: r, k, cs, h => by
    simp only [List.zipIdx_cons, List.foldl_cons]
    simp only [List.length_cons] at h ⊢
    obtain ⟨e1, e2⟩ := fold_set off r (k + 1) (cs.setIfInBounds (off + k) v) (by simp; omega)
    refine ⟨by rw [e1]; simp, ?_⟩
    intro m
    rw [e2 m]
    by_cases h1 : off + (k + 1) ≤ m ∧ m < off + (k + 1) + r.length
    · rw [if_pos h1, if_pos (by omega)]
      have : m - off - k = (m - off - (k + 1)) + 1 := by omega
      rw [this, List.getElem?_cons_succ]
    · rw [if_neg h1]
      by_cases h2 : m = off + k
      · subst h2
        have hlt : off + k < cs.size := by omega
        rw [if_pos (by omega), Array.getElem?_setIfInBounds, if_pos rfl, if_pos hlt]
        have : off + k - off - k = 0 := by omega
        rw [this]
        rfl
      · rw [if_neg (by omega)]
        rw [Array.getElem?_setIfInBounds, if_neg (by omega)]

theorem foldA_set (off : Nat) (vs cs : Array Value) (h : off + vs.size ≤ cs.size) :
    (vs.zipIdx.foldl (fun (cs : Array Value) (x : Value × Nat) => cs.setIfInBounds (off + x.2) x.1) cs).size = cs.size ∧
    ∀ m, (vs.zipIdx.foldl (fun (cs : Array Value) (x : Value × Nat) => cs.setIfInBounds (off + x.2) x.1) cs)[m]? = if off ≤ m ∧ m < off + vs.size then vs[m - off]? else cs[m]? := by
  have := fold_set off vs.toList 0 cs (by simpa using h)
  rw [← Array.foldl_toList, Array.toList_zipIdx]
  simpa using this

theorem CRel.get {cs : List AV} {ds : Array Value} (hr : CRel G cs ds) {m : Nat} {c : AV} (hc : cs[m]? = some c) : ∃ d, ds[m]? = some d ∧ VRel G c d := by
  have hlt : m < ds.size := by
    rcases Nat.lt_or_ge m cs.length with h | h
    · rw [hr.1]; exact h
    · rw [List.getElem?_eq_none h] at hc; cases hc
  have := hr.2 _ _ hc
  simp [Array.getD_eq_getD_getElem?, hlt] at this
  exact ⟨ds[m], by simp [hlt], this⟩

theorem CRel.of_get {cs : List AV} {ds : Array Value} (hs : ds.size = cs.length) (hg : ∀ (m : Nat) (c : AV), cs[m]? = some c → ∃ d, ds[m]? = some d ∧ VRel G c d) : CRel G cs ds := by
  refine ⟨hs, ?_⟩
  intro m c hm
  obtain ⟨d, h1, h2⟩ := hg m c hm
  simp [Array.getD_eq_getD_getElem?, h1]
  exact h2

theorem VRel.cells_one {v : AV} {cv : Value} (hv : VRel G v cv) (ht : v.isTu = false) : ∀ c ∈ v.cells, c.one = true := by
  cases hv with
  | ag h0 h1 h2 => exact h0
  | tu h1 h2 => simp [AV.isTu] at ht
  | _ => intro c hc; simp [AV.cells] at hc; subst hc; rfl

theorem setRange_mem {cs vs : List AV} {off : Nat} {c : AV} (hc : c ∈ setRange cs off vs) : c ∈ cs ∨ c ∈ vs := by
  simp only [setRange, List.mem_append] at hc
  rcases hc with (hc | hc) | hc
  · exact .inl (List.mem_of_mem_take hc)
  · exact .inr hc
  · exact .inl (List.mem_of_mem_drop hc)

theorem CRel.set {cs vs : List AV} {ds us : Array Value} (hr : CRel G cs ds) (hv : CRel G vs us) {off : Nat} (h : off + vs.length ≤ cs.length) :
    CRel G (setRange cs off vs) (us.zipIdx.foldl (fun (cs : Array Value) (x : Value × Nat) => cs.setIfInBounds (off + x.2) x.1) ds) := by
  obtain ⟨e1, e2⟩ := foldA_set off us ds (by rw [hr.1, hv.1]; exact h)
  refine .of_get (by rw [e1, setRange_length _ _ _ h, hr.1]) ?_
  intro m c hm
  rw [setRange_get _ _ _ _ h] at hm
  rw [e2 m, hv.1]
  split at hm
  · rename_i hc; rw [if_pos hc]; exact hv.get hm
  · rename_i hc; rw [if_neg hc]; exact hr.get hm


theorem fill_rel {place : Nat → Option (Nat × Nat)} : ∀ (ps : List (Nat × Nat × AV)) (qs : List (Nat × Value)) (cs cs' : List AV) (ds : Array Value), CRel G cs ds →
    ps.length = qs.length → (∀ (k off s : Nat) (v : AV) (i : Nat) (u : Value), ps[k]? = some (off, s, v) → qs[k]? = some (i, u) → place i = some (off, s) ∧ VRel G v u) → fillL cs ps = some cs' →
    (∀ c ∈ cs, c.one = true) → ∃ ds', Instr.fill place ds qs = some ds' ∧ CRel G cs' ds' ∧ ∀ c ∈ cs', c.one = true
  | [], [], cs, cs', ds, hr, _, _, hf, h1 => by simp [fillL] at hf; subst hf; exact ⟨ds, rfl, hr, h1⟩
  | (off, s, v) :: ps, (i, u) :: qs, cs, cs', ds, hr, hl, hp, hf, hone => by
    simp only [fillL] at hf
    split at hf
    · rename_i hc
      obtain ⟨h1, h2⟩ := hp 0 off s v i u rfl rfl
      have hv := h2.cells
      have hsz : u.cells.size = s := by rw [hv.1, hc.1]
      obtain ⟨ds', e1, e2⟩ := fill_rel ps qs _ cs' _ (hr.set hv (by rw [hc.1]; exact hc.2.1)) (by simpa using hl) (fun k off s v i u a b => hp (k + 1) off s v i u (by simpa using a) (by simpa using b)) hf (fun c hm => by
        rcases setRange_mem hm with hm | hm
        · exact hone c hm
        · exact h2.cells_one hc.2.2 c hm)
      refine ⟨ds', ?_, e2⟩
      simp only [Instr.fill, h1]
      rw [if_neg]
      · exact e1
      · have := hr.1
        simp [hsz]
        omega
    · simp at hf
  | [], _ :: _, _, _, _, _, hl, _, _, _ => by simp at hl
  | _ :: _, [], _, _, _, _, hl, _, _, _ => by simp at hl

theorem zero_rel {ty : TypeId} {z : AV} (hz : zeroT P ty = some z) : ∃ v, (zeroValue ty).run P w = .ok v w ∧ VRel G z v ∧ z.isOwn = false ∧ (∀ c ∈ z.cells, c.one = true) := by
  simp only [zeroT, Option.bind_eq_some_iff] at hz
  obtain ⟨i, hi, v, hv, hz⟩ := hz
  refine ⟨v, by simp [zeroValue, typeInfo, hi, hv], (ofV_rel hz).1, (ofV_rel (G := G) hz).2, (ofV_rel (G := G) hz).1.cells_one ?_⟩
  unfold AV.ofV at hz
  split at hz <;> (split at hz <;> simp at hz <;> subst hz <;> rfl)

theorem cParts_spec : ∀ (ps : List (Nat × Operand)) (qs : List (Nat × Opd)), cParts ps = some qs → qs.length = ps.length ∧ ∀ (k i : Nat) (x : Operand), ps[k]? = some (i, x) → ∃ y, qs[k]? = some (i, y) ∧ cOpd x = some y
  | [], qs, hc => by simp [cParts] at hc; subst hc; exact ⟨rfl, fun k i x h => by simp at h⟩
  | (i, x) :: r, qs, hc => by
    simp only [cParts] at hc
    split at hc
    · rename_i y l h1 h2
      simp at hc
      subst hc
      obtain ⟨e1, e2⟩ := cParts_spec r l h2
      refine ⟨by simp [e1], ?_⟩
      intro k j z hk
      cases k with
      | zero => simp at hk; obtain ⟨rfl, rfl⟩ := hk; exact ⟨y, rfl, h1⟩
      | succ k => simpa using e2 k j z (by simpa using hk)
    · simp at hc

theorem cOpds_spec : ∀ (ps : List Operand) (qs : List Opd), cOpds ps = some qs → qs.length = ps.length ∧ ∀ (k : Nat) x, ps[k]? = some x → ∃ y, qs[k]? = some y ∧ cOpd x = some y
  | [], qs, hc => by simp [cOpds] at hc; subst hc; exact ⟨rfl, fun k x h => by simp at h⟩
  | x :: r, qs, hc => by
    simp only [cOpds] at hc
    split at hc
    · rename_i y l h1 h2
      simp at hc
      subst hc
      obtain ⟨e1, e2⟩ := cOpds_spec r l h2
      refine ⟨by simp [e1], ?_⟩
      intro k z hk
      cases k with
      | zero => simp at hk; subst hk; exact ⟨y, rfl, h1⟩
      | succ k => simpa using e2 k z (by simpa using hk)
    · simp at hc

theorem placesT_spec : ∀ (fs : List Field) (l : List (Nat × Nat)), placesT P fs = some l →
    (fs.mapM (m := Sem) fun f => do pure (f.offset, ← sizeOf f.type)).run P w = .ok l w
  | [], l, hp => by simp [placesT] at hp; subst hp; simp
  | f :: r, l, hp => by
    simp only [placesT] at hp
    split at hp
    · rename_i s q h1 h2
      simp at hp
      subst hp
      have := placesT_spec r q h2
      simp only [List.mapM_cons, Sem.run_bind, run_sizeOfA h1, Result.andThen_ok, Sem.run_pure, this]
    · simp at hp

theorem atPlaces_spec (l : List (Nat × Nat)) : ∀ (ps : List (Nat × Opd)) (qs : List (Nat × Nat × Opd)), atPlaces l ps = some qs → qs.length = ps.length ∧
    ∀ (k i : Nat) x, ps[k]? = some (i, x) → ∃ off s, l[i]? = some (off, s) ∧ qs[k]? = some (off, s, x)
  | [], qs, hc => by simp [atPlaces] at hc; subst hc; exact ⟨rfl, fun k i x h => by simp at h⟩
  | (i, x) :: r, qs, hc => by
    simp only [atPlaces] at hc
    split at hc
    · rename_i off s q h1 h2
      simp at hc
      subst hc
      obtain ⟨e1, e2⟩ := atPlaces_spec l r q h2
      refine ⟨by simp [e1], ?_⟩
      intro k j z hk
      cases k with
      | zero => simp at hk; obtain ⟨rfl, rfl⟩ := hk; exact ⟨off, s, h1, rfl⟩
      | succ k => simpa using e2 k j z (by simpa using hk)
    · simp at hc

theorem run_mapA {α β : Type} (f : α → Sem β) (xs : Array α) (l : List β) (h : (xs.toList.mapM (m := Sem) f).run P w = .ok l w) : (xs.mapM f).run P w = .ok l.toArray w := by
  rw [Array.mapM_eq_mapM_toList]
  simp [h]

theorem ok_bldS (hf : FRel G w n t a) (hi : Inv G h w) {o : Oper} {ty : TypeId} {parts : Array (Nat × Operand)} {z : AV} {ps : List (Nat × Opd)} {fs : Array Field} {l : List (Nat × Nat)} {qs : List (Nat × Nat × Opd)}
    {dst : Option Nat} {v : AV} {t' : Nat → AV} {h' : Heap}
    (hop : o.op = .build ty parts) (hz : zeroT P ty = some z) (hps : cParts parts.toList = some ps) (ht : P.underlying ty = some (.struct fs)) (hl : placesT P fs.toList = some l) (hq : atPlaces l ps = some qs)
    (hd : ∀ d, dst = some d → d < n) (hv : aex P (.bld z.cells qs) ⟨t, h⟩ = some (.val v t' h')) : OpOk P G h w n a o dst v t' h' := by
  simp only [aex, Option.bind_eq_bind, Option.bind_eq_some_iff] at hv
  obtain ⟨cs, hcs, hv⟩ := hv
  simp at hv
  obtain ⟨rfl, rfl, rfl⟩ := hv
  obtain ⟨zv, hz1, hz2, _, hzo⟩ := zero_rel (P := P) (G := G) (w := w) hz
  obtain ⟨p1, p2⟩ := cParts_spec _ _ hps
  obtain ⟨q1, q2⟩ := atPlaces_spec l _ _ hq
  have hqs : ∀ (k : Nat) p, qs[k]? = some p → ∃ i x, parts.toList[k]? = some (i, x) ∧ cOpd x = some p.2.2 ∧ l[i]? = some (p.1, p.2.1) := by
    intro k p hp
    have hk : k < parts.toList.length := by
      rcases Nat.lt_or_ge k qs.length with h | h
      · omega
      · rw [List.getElem?_eq_none h] at hp; cases hp
    cases hxx : parts.toList[k] with | mk i x => ?_
    have hx : parts.toList[k]? = some (i, x) := by rw [List.getElem?_eq_getElem hk, hxx]
    obtain ⟨y, hy1, hy2⟩ := p2 k i x hx
    obtain ⟨off, s, e1, e2⟩ := q2 k i y hy1
    rw [e2] at hp
    simp at hp
    subst hp
    exact ⟨i, x, hx, hy2, e1⟩
  obtain ⟨ds, e1, e2⟩ := fill_rel (G := G) (place := fun i => l[i]?) (qs.map fun p => (p.1, p.2.1, (p.2.2.ev t).dis)) (parts.toList.map fun p => (p.1, a.eval p.2)) z.cells cs zv.cells
    hz2.cells (by simp [q1, p1]) (by
      intro k off s u i x h1 h2
      rw [List.getElem?_map] at h1 h2
      cases hk : qs[k]? with
      | none => simp [hk] at h1
      | some p =>
        obtain ⟨i', x', f1, f2, f3⟩ := hqs k p hk
        simp [hk] at h1
        simp [f1] at h2
        obtain ⟨rfl, rfl, rfl⟩ := h1
        obtain ⟨rfl, rfl⟩ := h2
        exact ⟨f3, (opd_rel hf f2).dis⟩) hcs hzo
  obtain ⟨e2, e3⟩ := e2
  refine .plain hf hi hd (cv := .agg ds) ?_ (.ag e3 e2.1 e2.2) rfl
  have hpl := run_mapA (P := P) (w := w) _ _ _ (placesT_spec fs.toList l hl)
  simp only [execOp, hop, Instr.build, Sem.run_bind, hz1, Result.andThen_ok, run_underlyingA ht, hpl]
  simp only [List.getElem?_toArray, Array.toList_map]
  rw [e1]
  rfl

end Go.Am
