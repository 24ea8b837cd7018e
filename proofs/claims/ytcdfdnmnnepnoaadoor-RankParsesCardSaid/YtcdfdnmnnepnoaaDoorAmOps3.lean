/- Slices of slices and strings; parts of tuples; nil; functions; literals by value. -/
import Derived.Test.YtcdfdnmnnepnoaaDoorAmOps2
set_option linter.unusedVariables false
set_option linter.unusedSimpArgs false
namespace Go.Am
variable {P : Program} {G : Gh} {h : Heap} {w : World} {n : Nat} {t : Nat → AV} {a : Act}

theorem run_bound (hf : FRel G w n t a) {x : Operand} {y : Opd} (hx : cOpd x = some y) {i : Int} (hi : asI (y.ev t) = some i) {m : Nat} (h0 : 0 ≤ i) (h1 : i ≤ m) (code : BoundsCode) :
    (Instr.sliceBound (a.eval x) m code).run P w = .ok i.toNat w := by
  obtain ⟨k, e, _⟩ := asI_rel (opd_rel hf hx) hi
  simp [Instr.sliceBound, e, asIntOf, h0, h1]

theorem cOpt_none {y : Option Opd} (h : cOpt none = some y) : y = none := by simpa [cOpt] using h.symm
theorem cOpt_some {x : Operand} {y : Option Opd} (h : cOpt (some x) = some y) : ∃ z, y = some z ∧ cOpd x = some z := by
  simp [cOpt] at h
  obtain ⟨z, hz, rfl⟩ := h
  exact ⟨z, rfl, hz⟩

theorem bHi_spec {len u : Nat} {hi : Option AV} (hb : bHi len hi = some u) : (hi = none ∧ u = len) ∨ ∃ v i, hi = some v ∧ asI v = some i ∧ 0 ≤ i ∧ i ≤ (len : Int) ∧ u = i.toNat := by
  cases hi with
  | none => simp [bHi] at hb; exact .inl ⟨rfl, hb.symm⟩
  | some v =>
    simp only [bHi, Option.bind_eq_some_iff] at hb
    obtain ⟨i, h1, h2⟩ := hb
    split at h2
    · rename_i hc; simp at h2; exact .inr ⟨v, i, rfl, h1, hc.1, hc.2, h2.symm⟩
    · simp at h2

theorem bLo_spec {len u : Nat} {hi : Option AV} (hb : bLo len hi = some u) : (hi = none ∧ u = 0) ∨ ∃ v i, hi = some v ∧ asI v = some i ∧ 0 ≤ i ∧ i ≤ (len : Int) ∧ u = i.toNat := by
  cases hi with
  | none => simp [bLo] at hb; exact .inl ⟨rfl, hb.symm⟩
  | some v =>
    simp only [bLo, Option.bind_eq_some_iff] at hb
    obtain ⟨i, h1, h2⟩ := hb
    split at h2
    · rename_i hc; simp at h2; exact .inr ⟨v, i, rfl, h1, hc.1, hc.2, h2.symm⟩
    · simp at h2

theorem bounds_spec {len : Nat} {lo hi : Option AV} {l u : Nat} (hb : bounds len lo hi = some (l, u)) : bHi len hi = some u ∧ bLo u lo = some l := by
  simp only [bounds, Option.bind_eq_some_iff] at hb
  obtain ⟨u', h1, l', h2, h3⟩ := hb
  simp at h3
  obtain ⟨rfl, rfl⟩ := h3
  exact ⟨h1, h2⟩

theorem bounds_le {len : Nat} {lo hi : Option AV} {l u : Nat} (hb : bounds len lo hi = some (l, u)) : l ≤ u ∧ u ≤ len := by
  obtain ⟨h1, h2⟩ := bounds_spec hb
  obtain ⟨_, _⟩ | ⟨_, i, _, _, _, _, _⟩ := bHi_spec h1 <;> obtain ⟨_, _⟩ | ⟨_, j, _, _, _, _, _⟩ := bLo_spec h2 <;> omega

theorem run_bounds (hf : FRel G w n t a) {lo hi : Option Operand} {lo' hi' : Option Opd} (hlo : cOpt lo = some lo') (hhi : cOpt hi = some hi') {len cap l u : Nat} {isS : Bool}
    (hb : bounds len (lo'.map (Opd.ev t)) (hi'.map (Opd.ev t)) = some (l, u)) (hc : len ≤ cap) :
    (Instr.sliceBounds isS len cap (lo.map a.eval) (hi.map a.eval) none).run P w = .ok (l, u, cap) w := by
  obtain ⟨h1, h2⟩ := bounds_spec hb
  unfold Instr.sliceBounds
  cases hi with
  | none =>
    have := cOpt_none hhi; subst this
    simp [bHi] at h1
    subst h1
    cases lo with
    | none =>
      have := cOpt_none hlo; subst this
      simp [bLo] at h2
      subst h2
      simp
    | some y =>
      obtain ⟨z', rfl, hz'⟩ := cOpt_some hlo
      obtain ⟨hx, _⟩ | ⟨v, i, hx, e1, e2, e3, rfl⟩ := bLo_spec h2
      · simp at hx
      · simp at hx
        subst hx
        have := fun code => run_bound (P := P) (w := w) hf hz' e1 e2 e3 code
        simp [this]
  | some x =>
    obtain ⟨z, rfl, hz⟩ := cOpt_some hhi
    obtain ⟨hx, _⟩ | ⟨v, i, hx, e1, e2, e3, rfl⟩ := bHi_spec h1
    · simp at hx
    · simp at hx
      subst hx
      have q1 := fun code => run_bound (P := P) (w := w) hf hz e1 e2 (m := cap) (by omega) code
      cases lo with
      | none =>
        have := cOpt_none hlo; subst this
        simp [bLo] at h2
        subst h2
        simp [q1]
      | some y =>
        obtain ⟨z', rfl, hz'⟩ := cOpt_some hlo
        obtain ⟨hx, _⟩ | ⟨v, j, hx, f1, f2, f3, rfl⟩ := bLo_spec h2
        · simp at hx
        · simp at hx
          subst hx
          have q2 := fun code => run_bound (P := P) (w := w) hf hz' f1 f2 f3 code
          simp [q1, q2]

theorem boundsC_none {n m : Nat} {lo : Option AV} : boundsC n m lo none = bounds n lo none := rfl
theorem boundsC_some {n m : Nat} {lo : Option AV} {v : AV} : boundsC n m lo (some v) = bounds m lo (some v) := rfl
theorem boundsC_le {n m : Nat} {lo hi : Option AV} {l u : Nat} (hb : boundsC n m lo hi = some (l, u)) (hnm : n ≤ m) : l ≤ u ∧ u ≤ m := by
  cases hi with
  | none => rw [boundsC_none] at hb; have := bounds_le hb; omega
  | some v => rw [boundsC_some] at hb; exact bounds_le hb
theorem run_boundsC (hf : FRel G w n t a) {lo hi : Option Operand} {lo' hi' : Option Opd} (hlo : cOpt lo = some lo') (hhi : cOpt hi = some hi') {len lm cap l u : Nat} {isS : Bool}
    (hb : boundsC len lm (lo'.map (Opd.ev t)) (hi'.map (Opd.ev t)) = some (l, u)) (hlc : len ≤ cap) (hc : lm ≤ cap) :
    (Instr.sliceBounds isS len cap (lo.map a.eval) (hi.map a.eval) none).run P w = .ok (l, u, cap) w := by
  cases hi with
  | none =>
    have := cOpt_none hhi; subst this
    exact run_bounds hf hlo hhi hb hlc
  | some x =>
    obtain ⟨z, rfl, hz⟩ := cOpt_some hhi
    have e : Instr.sliceBounds isS len cap (lo.map a.eval) ((some x).map a.eval) none = Instr.sliceBounds isS lm cap (lo.map a.eval) ((some x).map a.eval) none := by
      unfold Instr.sliceBounds
      rfl
    rw [e]
    exact run_bounds hf hlo hhi hb hc

theorem run_bounds3 (hf : FRel G w n t a) {lo : Option Operand} {hi mx : Operand} {lo' : Option Opd} {hi' mx' : Opd} (hlo : cOpt lo = some lo') (hhi : cOpd hi = some hi') (hmx : cOpd mx = some mx') {len cap l u : Nat} {isS : Bool}
    (hb : bounds len (lo'.map (Opd.ev t)) (some (hi'.ev t)) = some (l, u)) {m : Int} (hm : asI (mx'.ev t) = some m) (h1m : (u : Int) ≤ m) (h2m : m ≤ cap) :
    (Instr.sliceBounds isS len cap (lo.map a.eval) (some (a.eval hi)) (some (a.eval mx))).run P w = .ok (l, u, m.toNat) w := by
  obtain ⟨h1, h2⟩ := bounds_spec hb
  obtain ⟨hx, _⟩ | ⟨v, i, hx, e1, e2, e3, rfl⟩ := bHi_spec h1
  · simp at hx
  · simp at hx
    subst hx
    have q0 := fun code => run_bound (P := P) (w := w) hf hmx hm (m := cap) (by omega) h2m code
    have q1 := fun code => run_bound (P := P) (w := w) hf hhi e1 e2 (m := m.toNat) (by omega) code
    unfold Instr.sliceBounds
    cases lo with
    | none =>
      have := cOpt_none hlo; subst this
      simp [bLo] at h2
      subst h2
      simp [q0, q1]
    | some y =>
      obtain ⟨z', rfl, hz'⟩ := cOpt_some hlo
      obtain ⟨hx, _⟩ | ⟨v, j, hx, f1, f2, f3, rfl⟩ := bLo_spec h2
      · simp at hx
      · simp at hx
        subst hx
        have q2 := fun code => run_bound (P := P) (w := w) hf hz' f1 f2 f3 code
        simp [q0, q1, q2]

theorem run_bounds3C (hf : FRel G w n t a) {lo : Option Operand} {hi mx : Operand} {lo' : Option Opd} {hi' mx' : Opd} (hlo : cOpt lo = some lo') (hhi : cOpd hi = some hi') (hmx : cOpd mx = some mx') {len lm cap l u : Nat} {isS : Bool}
    (hb : boundsC len lm (lo'.map (Opd.ev t)) (some (hi'.ev t)) = some (l, u)) {m : Int} (hm : asI (mx'.ev t) = some m) (h1m : (u : Int) ≤ m) (h2m : m ≤ cap) :
    (Instr.sliceBounds isS len cap (lo.map a.eval) (some (a.eval hi)) (some (a.eval mx))).run P w = .ok (l, u, m.toNat) w := by
  have e : Instr.sliceBounds isS len cap (lo.map a.eval) (some (a.eval hi)) (some (a.eval mx)) = Instr.sliceBounds isS lm cap (lo.map a.eval) (some (a.eval hi)) (some (a.eval mx)) := by
    unfold Instr.sliceBounds
    rfl
  rw [e]
  exact run_bounds3 hf hlo hhi hmx hb hm h1m h2m

theorem ok_sls (hf : FRel G w n t a) (hi : Inv G h w) {o : Oper} {ty : TypeId} {x : Operand} {lo hh : Option Operand} {x' : Opd} {lo' hh' : Option Opd} {dst : Option Nat} {v : AV} {t' : Nat → AV} {h' : Heap}
    (hop : o.op = .slice ty x lo hh none) (hx : cOpd x = some x') (hlo : cOpt lo = some lo') (hhi : cOpt hh = some hh') (ht : P.underlying ty = some .string)
    (hd : ∀ d, dst = some d → d < n) (hv : aex P (.sls x' lo' hh') ⟨t, h⟩ = some (.val v t' h')) : OpOk P G h w n a o dst v t' h' := by
  have hrel := opd_rel hf hx
  simp only [aex] at hv
  split at hv
  · rename_i b hb
    simp only [Option.bind_eq_bind, Option.bind_eq_some_iff] at hv
    obtain ⟨⟨l, u⟩, hlu, hv⟩ := hv
    simp at hv
    obtain ⟨rfl, rfl, rfl⟩ := hv
    rw [hb] at hrel
    have e2 := hrel.sc_inv.1
    have hr := run_bounds (P := P) (isS := false) hf hlo hhi hlu (Nat.le_refl _)
    refine .plain hf hi hd (cv := .string (b.extract l u)) ?_ (.sc rfl) rfl
    simp [execOp, hop, e2, Instr.sliceAt, Instr.slice, run_underlyingA ht, hr]
  · simp at hv

theorem ok_slp (hf : FRel G w n t a) (hi : Inv G h w) {o : Oper} {ty e : TypeId} {x : Operand} {lo hh : Option Operand} {x' : Opd} {lo' hh' : Option Opd} {len sz : Nat} {dst : Option Nat} {v : AV} {t' : Nat → AV} {h' : Heap}
    (hop : o.op = .slice ty x lo hh none) (hx : cOpd x = some x') (hlo : cOpt lo = some lo') (hhi : cOpt hh = some hh') (ht : P.underlying ty = some (.array len e)) (hs : sizeT P e = some sz)
    (hd : ∀ d, dst = some d → d < n) (hv : aex P (.slp len sz x' lo' hh') ⟨t, h⟩ = some (.val v t' h')) : OpOk P G h w n a o dst v t' h' := by
  have hrel := opd_rel hf hx
  simp only [aex] at hv
  split at hv
  · rename_i ob c hb
    simp only [Option.bind_eq_bind, Option.bind_eq_some_iff] at hv
    obtain ⟨⟨l, u⟩, hlu, hv⟩ := hv
    simp at hv
    obtain ⟨rfl, rfl, rfl⟩ := hv
    rw [hb] at hrel
    have hr := run_bounds (P := P) (isS := false) hf hlo hhi hlu (Nat.le_refl _)
    have hle := bounds_le hlu
    generalize hc : a.eval x = cx at hrel
    cases hrel with
    | op =>
      refine .plain hf hi hd (cv := .slice (some (if len = l then ⟨ob, c, none⟩ else ⟨ob, c + l * sz, none⟩)) (u - l) (len - l)) ?_ (.rs ?_ (by omega) (by intro c hc; simp at hc; exact hc)) rfl
      · simp [execOp, hop, hc, Instr.sliceAt, run_underlyingA ht, Instr.sureAddr, hr, run_sizeOfA hs, add_at]
      · split
        · exact .inr (by omega)
        · exact .inl rfl
  · simp at hv

theorem flatten_drop {α : Type} {sz : Nat} : ∀ (es : List (List α)) (l : Nat), (∀ e ∈ es, e.length = sz) → l ≤ es.length → es.flatten.drop (l * sz) = (es.drop l).flatten
  | _, 0, _, _ => by simp
  | [], l + 1, _, h => by simp at h
  | e :: r, l + 1, hl, h => by
    have h1 : e.length = sz := hl e (by simp)
    rw [List.flatten_cons, List.drop_succ_cons, ← flatten_drop r l (fun e he => hl e (by simp [he])) (by simpa using h), Nat.add_mul, Nat.one_mul, Nat.add_comm, ← List.drop_drop]
    congr 1
    rw [← h1, List.drop_left]

theorem flatten_take_get {α : Type} (es : List (List α)) (k m : Nat) (c : α) (h : (es.take k).flatten[m]? = some c) : es.flatten[m]? = some c := by
  have e : es.flatten = (es.take k).flatten ++ (es.drop k).flatten := by rw [← List.flatten_append, List.take_append_drop]
  rw [e]
  have hlt : m < (es.take k).flatten.length := by
    rcases Nat.lt_or_ge m (es.take k).flatten.length with h1 | h1
    · exact h1
    · rw [List.getElem?_eq_none h1] at h; cases h
  rw [List.getElem?_append_left hlt]
  exact h


theorem VRel.cut {own : Bool} {sz : Nat} {es : List (List AV)} {lim : Option Nat} {cv : Value} (hr : VRel G (.bs own sz es lim) cv) {l u : Nat} (hl : l ≤ u) (hu : u ≤ es.length) :
    ∃ (ad0 : Addr) (cap : Nat), cv = .slice (some ad0) es.length cap ∧ es.length ≤ cap ∧ (∀ c, lim = some c → cap = c) ∧
      ∀ cap' lim', u - l ≤ cap' → cap' ≤ cap → (∀ c, lim' = some c → cap' = c) → ∀ ad, (ad = ad0.add (l * sz) ∨ (ad = ad0 ∧ u = l)) →
        VRel G (.bs false sz ((es.drop l).take (u - l)) lim') (.slice (some ad) (u - l) cap') := by
  cases hr with
  | @bz _ _ ad0 hz =>
    refine ⟨ad0, 0, rfl, Nat.le_refl _, fun c hc => (hz c hc).symm, ?_⟩
    intro cap' lim' hcap hcc hlim ad had
    obtain rfl : cap' = 0 := by omega
    obtain rfl : u = 0 := by simpa using hu
    obtain rfl : l = 0 := by omega
    exact .bz (fun c hc => (hlim c hc).symm)
  | @bs _ _ _ _ b o cap cv h1 h01 h2 h3 h4 h5 =>
    refine ⟨⟨b, o, none⟩, cap, rfl, h4, h5, ?_⟩
    intro cap' lim' hcap hcc hlim ad had
    rw [add_at] at had
    have hlen : ((es.drop l).take (u - l)).length = u - l := by simp; omega
    have hmem : ∀ e ∈ (es.drop l).take (u - l), e.length = sz := fun e he => h1 e (List.mem_of_mem_drop (List.mem_of_mem_take he))
    rcases had with rfl | ⟨rfl, rfl⟩
    · have get : ∀ m c, ((es.drop l).take (u - l)).flatten[m]? = some c → es.flatten[l * sz + m]? = some c := by
        intro m c hm
        have := flatten_take_get _ _ _ _ hm
        rw [← flatten_drop es l h1 (by omega)] at this
        rw [List.getElem?_drop] at this
        exact this
      have := VRel.bs (G := G) (own := false) (sz := sz) (es := (es.drop l).take (u - l)) (lim := lim') (b := b) (o := o + l * sz) (cap := cap') (fun m => cv (l * sz + m)) hmem
        (fun c hc => by
          obtain ⟨e, he, hce⟩ := List.mem_flatten.1 hc
          exact h01 c (List.mem_flatten.2 ⟨e, List.mem_of_mem_drop (List.mem_of_mem_take he), hce⟩))
        (fun m c hm => by rw [Nat.add_assoc]; exact h2 _ _ (get m c hm)) (fun m c hm => h3 _ _ (get m c hm)) (by rw [hlen]; exact hcap) hlim
      rw [hlen] at this
      exact this
    · have e : (es.drop u).take (u - u) = [] := by simp
      rw [e]
      have := VRel.bs (G := G) (own := false) (sz := sz) (es := []) (lim := lim') (b := b) (o := o) (cap := cap') (fun _ => Go.undef) (by simp) (by simp) (fun m c hm => by simp at hm) (fun m c hm => by simp at hm) (by simp) hlim
      simpa using this

theorem ok_slc (hf : FRel G w n t a) (hi : Inv G h w) {o : Oper} {ty e : TypeId} {x : Operand} {lo hh mx : Option Operand} {x' : Opd} {lo' hh' mx' : Option Opd} {sz : Nat} {dst : Option Nat} {v : AV} {t' : Nat → AV} {h' : Heap}
    (hop : o.op = .slice ty x lo hh mx) (hx : cOpd x = some x') (hlo : cOpt lo = some lo') (hhi : cOpt hh = some hh') (hmx : cOpt mx = some mx') (h3 : mx.isSome = true → hh.isSome = true)
    (ht : P.underlying ty = some (.slice e)) (hs : sizeT P e = some sz)
    (hd : ∀ d, dst = some d → d < n) (hv : aex P (.slc sz x' lo' hh' mx') ⟨t, h⟩ = some (.val v t' h')) : OpOk P G h w n a o dst v t' h' := by
  have hrel := opd_rel hf hx
  have key : ∀ ad len cap l u m, a.eval x = .slice ad len cap → (Instr.sliceBounds true len cap (lo.map a.eval) (hh.map a.eval) (mx.map a.eval)).run P w = .ok (l, u, m) w →
      (execOp a.eval o).run P w = .ok (.value (.slice (if m = l then ad else ad.map (·.add (l * sz))) (u - l) (m - l))) w := by
    intro ad len cap l u m e1 e2
    simp [execOp, hop, e1, Instr.sliceAt, Instr.slice, run_underlyingA ht, e2, run_sizeOfA hs]
  simp only [aex] at hv
  split at hv
  ·
    rename_i hb
    rw [hb] at hrel
    have e2 := hrel.sc_inv.1
    simp only [Option.bind_eq_bind, Option.bind_eq_some_iff] at hv
    obtain ⟨⟨l, u⟩, hlu, hv⟩ := hv
    have hle := bounds_le hlu
    cases mx with
    | none =>
      have := cOpt_none hmx
      subst this
      simp at hv
      obtain ⟨rfl, rfl, rfl⟩ := hv
      have hr := key _ _ _ _ _ _ e2 (run_bounds (P := P) (isS := true) hf hlo hhi hlu (Nat.le_refl _))
      refine .plain hf hi hd hr ?_ rfl
      obtain rfl : u = 0 := by omega
      obtain rfl : l = 0 := by omega
      exact .sc rfl
    | some m =>
      obtain ⟨z, rfl, hz⟩ := cOpt_some hmx
      simp only [Option.bind_eq_some_iff] at hv
      obtain ⟨q, hq, hv⟩ := hv
      split at hv
      · rename_i hc
        obtain ⟨rfl, rfl⟩ := hc
        simp at hv
        obtain ⟨rfl, rfl, rfl⟩ := hv
        cases hh with
        | none => simp at h3
        | some hh =>
          obtain ⟨zz, rfl, hzz⟩ := cOpt_some hhi
          have hr := key _ _ _ _ _ _ e2 (run_bounds3 (P := P) (isS := true) hf hlo hzz hz hlu hq (by simp) (by simp))
          refine .plain hf hi hd hr ?_ rfl
          obtain rfl : l = 0 := by omega
          exact .sc rfl
      · simp at hv
  · rename_i own sz' es lim hb
    rw [hb] at hrel
    split at hv
    · simp at hv
    · rename_i hsz
      obtain rfl : sz' = sz := by omega
      simp only [Option.bind_eq_bind, Option.bind_eq_some_iff] at hv
      obtain ⟨⟨l, u⟩, hlu, hv⟩ := hv
      have hle := bounds_le hlu
      obtain ⟨ad0, cap, e2, hcap, hlim, hcut⟩ := hrel.cut hle.1 hle.2
      cases mx with
      | none =>
        have := cOpt_none hmx
        subst this
        simp at hv
        obtain ⟨rfl, rfl, rfl⟩ := hv
        have hr := key _ _ _ _ _ _ e2 (run_bounds (P := P) (isS := true) hf hlo hhi hlu hcap)
        have e3 : (if cap = l then (some ad0 : Option Addr) else (some ad0 : Option Addr).map (·.add (l * sz'))) = some (if cap = l then ad0 else ad0.add (l * sz')) := by
          split <;> simp
        rw [e3] at hr
        refine .plain hf hi hd hr (hcut _ _ (by omega) (by omega) ?_ _ ?_) rfl
        · intro c hc
          cases lim with
          | none => simp at hc
          | some q => simp at hc; have := hlim q rfl; omega
        · split
          · exact .inr ⟨rfl, by omega⟩
          · exact .inl rfl
      | some m =>
        obtain ⟨z, rfl, hz⟩ := cOpt_some hmx
        simp only [Option.bind_eq_some_iff] at hv
        obtain ⟨q, hq, hv⟩ := hv
        split at hv
        · rename_i hc
          simp at hv
          obtain ⟨rfl, rfl, rfl⟩ := hv
          cases hh with
          | none => simp at h3
          | some hh =>
            obtain ⟨zz, rfl, hzz⟩ := cOpt_some hhi
            have hr := key _ _ _ _ _ _ e2 (run_bounds3 (P := P) (isS := true) hf hlo hzz hz hlu hq hc.1 (by omega))
            have e3 : (if q.toNat = l then (some ad0 : Option Addr) else (some ad0 : Option Addr).map (·.add (l * sz'))) = some (if q.toNat = l then ad0 else ad0.add (l * sz')) := by
              split <;> simp
            rw [e3] at hr
            refine .plain hf hi hd hr (hcut _ _ (by omega) (by omega) ?_ _ ?_) rfl
            · intro c hc; simp at hc; omega
            · split
              · exact .inr ⟨rfl, by omega⟩
              · exact .inl rfl
        · simp at hv
  · rename_i ob c sz' len lim hb
    rw [hb] at hrel
    split at hv
    · simp at hv
    · rename_i hsz
      obtain rfl : sz' = sz := by omega
      simp only [Option.bind_eq_bind, Option.bind_eq_some_iff] at hv
      obtain ⟨⟨l, u⟩, hlu, hv⟩ := hv
      generalize hcx : a.eval x = cx at hrel
      cases hrel with
      | @rs _ _ _ _ _ ad cap g1 g2 g3 =>
        have hlm : len ≤ lim.getD len ∧ lim.getD len ≤ cap := by
          cases lim with
          | none => exact ⟨Nat.le_refl _, g2⟩
          | some q => have := g3 q rfl; subst this; exact ⟨g2, Nat.le_refl _⟩
        have hle := boundsC_le hlu hlm.1
        cases mx with
        | none =>
          have := cOpt_none hmx
          subst this
          simp at hv
          obtain ⟨rfl, rfl, rfl⟩ := hv
          have hr := key _ _ _ _ _ _ hcx (run_boundsC (P := P) (isS := true) hf hlo hhi hlu g2 hlm.2)
          have e3 : (if cap = l then (some ad : Option Addr) else (some ad : Option Addr).map (·.add (l * sz'))) = some (if cap = l then ad else ad.add (l * sz')) := by split <;> simp
          rw [e3] at hr
          refine .plain hf hi hd hr (.rs ?_ (by omega) ?_) rfl
          · split
            · exact .inr (by omega)
            · rcases g1 with rfl | g1
              · exact .inl (add_at _ _ _)
              · omega
          · intro c hc
            cases lim with
            | none => simp at hc
            | some q => simp at hc; have := g3 q rfl; omega
        | some m =>
          obtain ⟨z, rfl, hz⟩ := cOpt_some hmx
          simp only [Option.bind_eq_some_iff] at hv
          obtain ⟨q, hq, hv⟩ := hv
          split at hv
          · rename_i hc
            simp at hv
            obtain ⟨rfl, rfl, rfl⟩ := hv
            cases hh with
            | none => simp at h3
            | some hh =>
              obtain ⟨zz, rfl, hzz⟩ := cOpt_some hhi
              have hr := key _ _ _ _ _ _ hcx (run_bounds3C (P := P) (isS := true) hf hlo hzz hz hlu hq hc.1 (by omega))
              have e3 : (if q.toNat = l then (some ad : Option Addr) else (some ad : Option Addr).map (·.add (l * sz'))) = some (if q.toNat = l then ad else ad.add (l * sz')) := by split <;> simp
              rw [e3] at hr
              refine .plain hf hi hd hr (.rs ?_ (by omega) ?_) rfl
              · split
                · exact .inr (by omega)
                · rcases g1 with rfl | g1
                  · exact .inl (add_at _ _ _)
                  · omega
              · intro c hc; simp at hc; omega
          · simp at hv
  · simp at hv

end Go.Am
