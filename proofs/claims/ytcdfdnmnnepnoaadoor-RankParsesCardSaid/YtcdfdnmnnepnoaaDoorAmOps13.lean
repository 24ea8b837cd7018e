/- Arrays by value; bytes to strings; literals' bytes; calls. -/
import Derived.Test.YtcdfdnmnnepnoaaDoorAmOps12
import Derived.Test.YtcdfdnmnnepnoaaDoorAmCall
set_option linter.unusedVariables false
set_option linter.unusedSimpArgs false
namespace Go.Am
variable {P : Program} {G : Gh} {h : Heap} {w : World} {n : Nat} {t : Nat → AV} {a : Act}

theorem ok_bldA (hf : FRel G w n t a) (hi : Inv G h w) {o : Oper} {ty e : TypeId} {parts : Array (Nat × Operand)} {z : AV} {ps : List (Nat × Opd)} {k sz : Nat}
    {dst : Option Nat} {v : AV} {t' : Nat → AV} {h' : Heap}
    (hop : o.op = .build ty parts) (hz : zeroT P ty = some z) (hps : cParts parts.toList = some ps) (ht : P.underlying ty = some (.array k e)) (hs : sizeT P e = some sz)
    (hd : ∀ d, dst = some d → d < n) (hv : aex P (.bld z.cells (ps.map fun (i, x) => (i * sz, sz, x))) ⟨t, h⟩ = some (.val v t' h')) : OpOk P G h w n a o dst v t' h' := by
  simp only [aex, Option.bind_eq_bind, Option.bind_eq_some_iff] at hv
  obtain ⟨cs, hcs, hv⟩ := hv
  simp at hv
  obtain ⟨rfl, rfl, rfl⟩ := hv
  obtain ⟨zv, hz1, hz2, _, hzo⟩ := zero_rel (P := P) (G := G) (w := w) hz
  obtain ⟨p1, p2⟩ := cParts_spec _ _ hps
  rw [List.map_map] at hcs
  have hcs : fillL z.cells (ps.map fun p => (p.1 * sz, sz, (p.2.ev t).dis)) = some cs := hcs
  obtain ⟨ds, e1, e2, e3⟩ := fill_rel (G := G) (place := fun i => some (i * sz, sz)) (ps.map fun p => (p.1 * sz, sz, (p.2.ev t).dis)) (parts.toList.map fun p => (p.1, a.eval p.2)) z.cells cs zv.cells
    hz2.cells (by simp [p1]) (by
      intro k off s u i x h1 h2
      rw [List.getElem?_map] at h1 h2
      cases hk : ps[k]? with
      | none => simp [hk] at h1
      | some p =>
        have hkl : k < parts.toList.length := by
          rcases Nat.lt_or_ge k ps.length with h | h
          · omega
          · rw [List.getElem?_eq_none h] at hk; cases hk
        cases hxx : parts.toList[k] with | mk i' x' => ?_
        have hx : parts.toList[k]? = some (i', x') := by rw [List.getElem?_eq_getElem hkl, hxx]
        obtain ⟨y, hy1, hy2⟩ := p2 k i' x' hx
        rw [hk] at hy1
        cases hy1
        simp [hk] at h1
        rw [hx] at h2
        simp at h2
        obtain ⟨rfl, rfl, rfl⟩ := h1
        obtain ⟨rfl, rfl⟩ := h2
        exact ⟨rfl, (opd_rel hf hy2).dis⟩) hcs hzo
  refine .plain hf hi hd (cv := .agg ds) ?_ (.ag e3 e2.1 e2.2) rfl
  simp only [execOp, hop, Instr.build, Sem.run_bind, hz1, Result.andThen_ok, run_underlyingA ht, run_sizeOfA hs]
  simp only [Array.toList_map]
  rw [e1]
  rfl


theorem mapM_bytes : ∀ (es : List (List AV)) (bs : List UInt8), es.mapM (fun | [.sc (.int .u8 n)] => some (UInt8.ofNat n.toNat) | _ => none) = some bs →
    ∃ ns : List Int, es.flatten = ns.map (fun n => AV.sc (.int .u8 n)) ∧ es.length = ns.length ∧ bs = ns.map fun n => UInt8.ofNat n.toNat
  | [], bs, h => by simp at h; subst h; exact ⟨[], rfl, rfl, rfl⟩
  | e :: r, bs, h => by
    simp only [List.mapM_cons, Option.bind_eq_bind, Option.bind_eq_some_iff] at h
    obtain ⟨b, hb, bs', hbs, h⟩ := h
    cases h
    obtain ⟨ns, e1, e2, e3⟩ := mapM_bytes r bs' hbs
    split at hb
    · rename_i n
      cases hb
      exact ⟨n :: ns, by simp [e1], by simp [e2], by simp [e3]⟩
    · cases hb

theorem foldl_push (ns : List Int) : ∀ (s : ByteArray), ns.foldl (fun r n => r.push (UInt8.ofNat n.toNat)) s = ⟨s.data ++ (ns.map fun n => UInt8.ofNat n.toNat).toArray⟩ := by
  induction ns with
  | nil => intro s; simp
  | cons n r ih =>
    intro s
    rw [List.foldl_cons, ih]
    congr 1
    apply Array.toList_inj.1
    simp [ByteArray.push]

theorem ok_b2s (hf : FRel G w n t a) (hi : Inv G h w) {o : Oper} {src ty e : TypeId} {x : Operand} {x' : Opd} {dst : Option Nat} {v : AV} {t' : Nat → AV} {h' : Heap}
    (hop : o.op = .convert src ty x) (h1 : P.underlying src = some (.slice e)) (h2 : P.underlying ty = some .string) (h3 : P.underlying e = some (.int .u8)) (hx : cOpd x = some x')
    (hd : ∀ d, dst = some d → d < n) (hv : aex P (.b2s x') ⟨t, h⟩ = some (.val v t' h')) : OpOk P G h w n a o dst v t' h' := by
  have hrel := opd_rel hf hx
  have hrun : ∀ s, a.eval x = .slice none 0 0 ∨ (∃ b l c, a.eval x = .slice (some b) l c) → (Conv.bytesToString (a.eval x)).run P w = .ok (.string s) w → (execOp a.eval o).run P w = .ok (.value (.string s)) w := by
    intro s hc hr
    rcases hc with hc | ⟨b, l, c, hc⟩ <;> rw [hc] at hr <;> simp [execOp, hop, convert, hc, run_underlyingA h1, run_underlyingA h2, run_underlyingA h3, hr]
  simp only [aex] at hv
  split at hv
  · rename_i hx0
    simp at hv
    obtain ⟨rfl, rfl, rfl⟩ := hv
    rw [hx0] at hrel
    have he := hrel.sc_inv.1
    exact .plain hf hi hd (hrun _ (.inl he) (by rw [he]; rfl)) (.sc rfl) rfl
  · rename_i hx0
    simp only [Option.bind_eq_bind, Option.bind_eq_some_iff] at hv
    obtain ⟨es, hes, bs, hbs, hv⟩ := hv
    split at hv
    · cases hv
    · rename_i y hy
      simp at hv
      obtain ⟨rfl, rfl, rfl⟩ := hv
      obtain ⟨ns, e1, e2, e3⟩ := mapM_bytes es bs hbs
      have key : ∀ b l c, a.eval x = .slice (some b) l c → l = es.length → (∀ (m : Nat) q, es.flatten[m]? = some q → ∃ d, w.cell? (b.add m) = some d ∧ VRel G q d) → OpOk P G h w n a o dst (.str ⟨bs.toArray⟩) t h := by
        intro b l c hc hl hcell
        have hload : (loadCells b l).run P w = .ok (ns.map (Value.int .u8)).toArray w := by
          have := run_loadCells_list (P := P) (w := w) b (ns.map (Value.int .u8)) (fun j u hj => by
            rw [List.getElem?_map, Option.map_eq_some_iff] at hj
            obtain ⟨m, hm, rfl⟩ := hj
            obtain ⟨d, q1, q2⟩ := hcell j (.sc (.int .u8 m)) (by rw [e1, List.getElem?_map, hm]; rfl)
            rw [q1, q2.sc_inv.1])
          rw [hl, e2]
          simpa using this
        have hr := run_bytesToString (P := P) w b l c ns hload
        rw [foldl_push] at hr
        have hs : (⟨(ByteArray.empty).data ++ (ns.map fun n => UInt8.ofNat n.toNat).toArray⟩ : ByteArray) = ⟨bs.toArray⟩ := by
          rw [e3]
          have he : (ByteArray.empty).data = #[] := rfl
          rw [he, Array.empty_append]
        rw [hs] at hr
        refine .plain hf hi hd (hrun _ (.inr ⟨b, l, c, hc⟩) (by rw [hc]; exact hr)) (.sc rfl) rfl
      generalize hxv : x'.ev t = xv at *
      generalize hcx : a.eval x = cx at *
      cases hrel with
      | sc hs => exact absurd rfl (hy _)
      | bz hz =>
        simp only [elemsOf] at hes
        split at hes
        · cases hes
          exact key _ _ _ rfl rfl (fun m q hm => by simp at hm)
        · cases hes
      | @bs own sz es' lim b ofs cap cv g1 g2 g3 g4 g5 g6 =>
        simp only [elemsOf] at hes
        split at hes
        · cases hes
          refine key _ _ _ rfl rfl ?_
          intro m q hm
          rw [add_at]
          exact ⟨cv m, hi.pub _ _ _ (g3 m q hm), g4 m q hm⟩
        · cases hes
      | @rs ob c sz len lim ad cap g1 g2 g3 =>
        simp only [elemsOf] at hes
        split at hes
        · rename_i hsz
          split at hes
          · rename_i cs hcs
            split at hes
            · rename_i hlen
              cases hes
              have hlc : (chunks sz len ((cs.drop c).map AV.disc)).length = len := by
                subst hsz
                exact (chunks_flatten 1 len _ (by simp; omega)).2.1
              refine key _ _ _ rfl (by subst hsz; simpa using hlc.symm) ?_
              intro m q hm
              subst hsz
              have hfl := (chunks_flatten 1 len ((cs.drop c).map AV.disc) (by simp; omega)).1
              rw [hfl, List.getElem?_take] at hm
              split at hm
              · rename_i hlt
                rw [List.getElem?_map, List.getElem?_drop, Option.map_eq_some_iff] at hm
                obtain ⟨q', hq', rfl⟩ := hm
                obtain ⟨d, r1, r2, _⟩ := hi.cell hcs hq'
                rcases g1 with rfl | ⟨rfl, _⟩
                · rw [add_at]
                  exact ⟨d, r1, r2.disc⟩
                · omega
              · cases hm
            · cases hes
          · cases hes
        · cases hes
      | _ => simp [elemsOf] at hes


theorem ok_stg (hf : FRel G w n t a) (hi : Inv G h w) {o : Oper} {src ty e : TypeId} {x : Operand} {x' : Opd} {dst : Option Nat} {v : AV} {t' : Nat → AV} {h' : Heap}
    (hop : o.op = .convert src ty x) (h1 : P.underlying src = some (.slice e)) (hst : (src == ty) = true) (h3 : P.underlying e = some (.int .u8)) (hx : cOpd x = some x')
    (hd : ∀ d, dst = some d → d < n) (hv : aex P (.stg x') ⟨t, h⟩ = some (.val v t' h')) : OpOk P G h w n a o dst v t' h' := by
  have hst' : src = ty := by simpa using hst
  subst hst'
  simp only [aex] at hv
  split at hv
  · rename_i sz es lim hxv
    simp at hv
    obtain ⟨rfl, rfl, rfl⟩ := hv
    obtain ⟨s, rfl, rfl⟩ := opd_own hf hx (by rw [hxv]; rfl)
    have hrel := hf.val s
    have hown := hf.own s
    have hxv' : t s = .bs true sz es lim := hxv
    rw [hxv'] at hrel hown
    generalize hcx : a.tmps.getD s Go.undef = cx at hrel hown
    have hev : a.eval (.tmp s) = cx := hcx
    cases hrel with
    | @bs _ _ _ _ b ofs cap cv g1 g2 g3 g4 g5 g6 =>
      obtain ⟨r1, r2, ds, el, fz, r3, r4, r5⟩ := hown sz es lim rfl _ _ _ rfl
      have r3 : w.heap[b]? = some (.cells ds el fz) := r3
      have hshape : w.shape? b = some (el, ds.size) := by simp [World.shape?, r3]
      let w' := w.freeze ⟨b, ds.size, none⟩ 1
      have hrun : (execOp a.eval o).run P w = .ok (.value (.slice (some ⟨b, ofs, none⟩) es.length cap)) w' := by
        simp [execOp, hop, convert, hev, run_underlyingA h1, run_underlyingA h3, markStringish, hshape, w']
      obtain ⟨fz', hb', hfz'⟩ : ∃ fz', w'.heap[b]? = some (.cells ds el fz') ∧ unfrozen ds.size fz' := by
        obtain ⟨lo, hi'⟩ := fz
        refine ⟨if lo == hi' then (ds.size, ds.size + 1) else (min lo ds.size, max hi' (ds.size + 1)), ?_, ?_⟩
        · simp only [w', World.freeze]
          rw [if_neg (by omega)]
          simp only [Array.getElem?_modify, r3]
          rfl
        · unfold unfrozen at r4 ⊢
          split
          · right; exact Nat.le_refl _
          · rename_i hne
            simp at hne r4
            right
            have : ds.size ≤ lo := by
              rcases r4 with r4 | r4
              · exact absurd r4 hne
              · exact r4
            show ds.size ≤ min lo ds.size
            omega
      have hother : ∀ y, y ≠ b → w'.heap[y]? = w.heap[y]? := by
        intro y hy
        simp only [w', World.freeze]
        rw [if_neg (by omega)]
        simp only [Array.getElem?_modify]
        rw [if_neg (fun e => hy e.symm)]
      have hsize : w'.heap.size = w.heap.size := by simp [w', World.freeze]
      have hrest : w'.os = w.os ∧ w'.output = w.output ∧ w'.tape = w.tape := by simp [w', World.freeze]
      have hcell : ∀ y i, w'.cell? ⟨y, i, none⟩ = w.cell? ⟨y, i, none⟩ := by
        intro y i
        by_cases hy : y = b
        · subst hy; rw [cell_of_heap hb', cell_of_heap r3]
        · simp only [World.cell?, hother y hy]
      have hok : ∀ {loc : Loc} {v : AV} {c : Value}, OwnOk G w loc v c → OwnOk G w' loc v c := by
        intro loc v c ho sz2 es2 lim2 q1 ad len2 cap2 q2
        obtain ⟨p1, p2, ds2, el2, fz2, p3, p4, p5⟩ := ho sz2 es2 lim2 q1 ad len2 cap2 q2
        by_cases hy : ad.block = b
        · rw [hy, r3] at p3
          cases p3
          exact ⟨p1, p2, ds, el, fz', by rw [hy]; exact hb', hfz', p5⟩
        · exact ⟨p1, p2, ds2, el2, fz2, by rw [hother _ hy]; exact p3, p4, p5⟩
      have hI : Inv G h w' := by
        refine ⟨fun y i u hu => by rw [hcell]; exact hi.pub y i u hu, ?_, ?_, fun y l hl => by rw [hsize]; exact hi.own y l hl⟩
        · intro y cs hy
          obtain ⟨p1, p2, ds2, el2, fz2, p3, p4, p5, p50, p6⟩ := hi.arr y cs hy
          have hne : y ≠ b := by
            intro e
            subst e
            have p2' : G.own y = none := p2
            have r1' : G.own y = some (.slot s) := r1
            rw [p2'] at r1'
            cases r1'
          refine ⟨p1, p2, ds2, el2, fz2, by rw [hother y hne]; exact p3, p4, p5, p50, ?_⟩
          intro m c hm
          obtain ⟨cv', p7, p8, p9⟩ := p6 m c hm
          exact ⟨cv', p7, p8, hok p9⟩
        · intro y em hy
          obtain ⟨p1, p2, ents, clock, p3, p4⟩ := hi.map y em hy
          have hne : y ≠ b := by
            intro e
            subst e
            have p2' : G.own y = none := p2
            have r1' : G.own y = some (.slot s) := r1
            rw [p2'] at r1'
            cases r1'
          exact ⟨p1, p2, ents, clock, by rw [hother y hne]; exact p3, p4⟩
      have hF : FRel G w' n t a := ⟨hf.size, hf.defers, hf.val, fun i => hok (hf.own i)⟩
      have hK : Kept G h w G h w' := by
        refine ⟨fun _ _ _ h => h, hrest.1, hrest.2.1, hrest.2.2, by omega, ?_, fun _ _ h => h⟩
        intro y hy p1 p2
        refine ⟨hother y ?_, fun _ => rfl, p1, p2⟩
        intro e
        subst e
        have r1' : G.own y = some (.slot s) := r1
        rw [p1] at r1'
        cases r1'

      let l : Loc := match dst with | some d => .slot d | none => .ret
      refine ⟨_, _, w', G.moveTo (.slot s) l, hrun, rfl, ?_, ?_, hK.trans ((Kept.refl G h w').moveTo _ _)⟩
      · refine FRel.put ⟨hf.size, hf.defers, fun i => ((hF.strip (.t s)).val i).moveTo, fun i => ?_⟩ dst hd ?_ ?_
        · by_cases ei : i = s
          · subst ei
            simp only [Am.strip, upd, if_true]
            exact .dis
          · exact ((hF.strip (.t s)).own i).moved (by simpa using ei)
        · show VRel _ (t s) _
          have := (hf.val s).moveTo (a := .slot s) (b := l)
          rwa [hcx] at this
        · intro d e
          subst e
          have := (hF.own s).moveTo (b := .slot d)
          rw [hcx] at this
          exact this
      · refine ⟨hI.pub, ?_, ?_, ?_⟩
        · intro y cs hy
          obtain ⟨p1, p2, ds2, el2, fz2, p3, p4, p5, p50, p6⟩ := hI.arr y cs hy
          refine ⟨p1, moveTo_none p2, ds2, el2, fz2, p3, p4, p5, p50, ?_⟩
          intro m c hm
          obtain ⟨cv', p7, p8, p9⟩ := p6 m c hm
          exact ⟨cv', p7, p8.moveTo, p9.moved (by simp)⟩
        · intro y em hy
          obtain ⟨p1, p2, ents, clock, p3, p4, p5, p6⟩ := hI.map y em hy
          refine ⟨p1, moveTo_none p2, ents, clock, p3, p4, ?_, p6⟩
          intro m e hm
          obtain ⟨q, h7, h8, h9, h10, h11⟩ := p5 m e hm
          exact ⟨q, h7, h8, h9, h10.moveTo, h11⟩
        · intro y loc hb
          have : (if G.own y = some (.slot s) then some l else G.own y) = some loc := hb
          split at this
          · exact hI.own y _ ‹_›
          · exact hI.own y _ this
  · simp at hv


theorem one_own {xs : List AV} (h : (xs.filter AV.isOwn).length ≤ 1) : ∀ (i j : Nat) u v, xs[i]? = some u → xs[j]? = some v → u.isOwn = true → v.isOwn = true → i = j := by
  induction xs with
  | nil => intro i j u v hi; simp at hi
  | cons x r ih =>
    intro i j u v hi hj hu hv
    have none_of : x.isOwn = true → ∀ (k : Nat) y, r[k]? = some y → y.isOwn = true → False := by
      intro hx k y hk hy
      have hm : y ∈ r.filter AV.isOwn := List.mem_filter.2 ⟨List.mem_of_getElem? hk, hy⟩
      rw [List.filter_cons_of_pos hx] at h
      have := List.length_pos_of_mem hm
      simp only [List.length_cons] at h
      omega
    have hr : (r.filter AV.isOwn).length ≤ 1 := by
      refine Nat.le_trans ?_ h
      by_cases hx : x.isOwn = true
      · rw [List.filter_cons_of_pos hx]; simp
      · rw [List.filter_cons_of_neg hx]; exact Nat.le_refl _
    cases i with
    | zero =>
      simp at hi
      subst hi
      cases j with
      | zero => rfl
      | succ j => exact (none_of hu j v (by simpa using hj) hv).elim
    | succ i =>
      cases j with
      | zero =>
        simp at hj
        subst hj
        exact (none_of hv i u (by simpa using hi) hu).elim
      | succ j => exact congrArg Nat.succ (ih hr i j u v (by simpa using hi) (by simpa using hj) hu hv)

theorem strips_at : ∀ (xs : List Opd) (t : Nat → AV) (s : Nat), Opd.t s ∈ xs → (strips t xs s).isOwn = false
  | [], t, s, h => by simp at h
  | x :: r, t, s, h => by
    have keep : ∀ (ys : List Opd) (t : Nat → AV), (t s).isOwn = false → (strips t ys s).isOwn = false := by
      intro ys
      induction ys with
      | nil => intro t h; exact h
      | cons y q ih =>
        intro t h
        refine ih _ ?_
        cases y with
        | c v => exact h
        | t k =>
          simp only [strip, upd]
          split
          · rename_i e; subst e; exact dis_own _
          · exact h
    rcases List.mem_cons.1 h with rfl | h
    · refine keep r _ ?_
      simp only [strip, upd, if_true]
      exact dis_own _
    · exact strips_at r _ s h

theorem own_get {xs : List AV} {i : Nat} (h : (xs.getD i .undef).isOwn = true) : ∃ u, xs[i]? = some u ∧ u.isOwn = true := by
  rw [List.getD_eq_getElem?_getD] at h
  cases hx : xs[i]? with
  | none => rw [hx] at h; simp [AV.undef, AV.isOwn] at h
  | some u => rw [hx] at h; exact ⟨u, rfl, h⟩


theorem args_rel (hf : FRel G w n t a) {xs : List Operand} {ys : List Opd} (hx : cOpds xs = some ys) (h1 : ((ys.map (Opd.ev t)).filter AV.isOwn).length ≤ 1) :
    ys.length = xs.length ∧ (∀ i, VRel G ((ys.map (Opd.ev t)).getD i .undef) ((xs.map a.eval).getD i undef)) ∧
    ∃ s j, (strips t ys s).isOwn = false ∧ ∀ i, ((ys.map (Opd.ev t)).getD i .undef).isOwn = true → i = j ∧ OwnOk G w (.slot s) ((ys.map (Opd.ev t)).getD i .undef) ((xs.map a.eval).getD i undef) := by
  obtain ⟨e1, e2⟩ := cOpds_spec _ _ hx
  have hrel : ∀ i, VRel G ((ys.map (Opd.ev t)).getD i .undef) ((xs.map a.eval).getD i undef) := by
    intro i
    rw [List.getD_eq_getElem?_getD, List.getD_eq_getElem?_getD, List.getElem?_map, List.getElem?_map]
    cases hxi : xs[i]? with
    | none =>
      have : ys[i]? = none := by
        rw [List.getElem?_eq_none_iff] at hxi ⊢
        omega
      rw [this]
      exact undef_rel G
    | some x =>
      obtain ⟨y, h2, h3⟩ := e2 i x hxi
      rw [h2]
      exact opd_rel hf h3
  refine ⟨e1, hrel, ?_⟩
  by_cases hex : ∃ j, ((ys.map (Opd.ev t)).getD j .undef).isOwn = true
  · obtain ⟨j, hj⟩ := hex
    obtain ⟨u, hu1, hu2⟩ := own_get hj
    rw [List.getElem?_map, Option.map_eq_some_iff] at hu1
    obtain ⟨y, hy1, rfl⟩ := hu1
    have hlt : j < xs.length := by
      rcases Nat.lt_or_ge j ys.length with h | h
      · omega
      · rw [List.getElem?_eq_none h] at hy1; cases hy1
    obtain ⟨y', h2, h3⟩ := e2 j xs[j] (by simp)
    rw [hy1] at h2
    cases h2
    obtain ⟨s, rfl, hxs⟩ := opd_own hf h3 hu2
    refine ⟨s, j, strips_at ys t s (List.mem_of_getElem? hy1), ?_⟩
    intro i hi'
    obtain ⟨u', hu1', hu2'⟩ := own_get hi'
    have hij : i = j := one_own h1 i j u' _ hu1' (by rw [List.getElem?_map, hy1]; rfl) hu2' hu2
    subst hij
    refine ⟨rfl, ?_⟩
    have q1 : (ys.map (Opd.ev t)).getD i .undef = t s := by
      rw [List.getD_eq_getElem?_getD, List.getElem?_map, hy1]; rfl
    have q2 : (xs.map a.eval).getD i undef = a.tmps.getD s undef := by
      rw [List.getD_eq_getElem?_getD, List.getElem?_map, List.getElem?_eq_getElem hlt, hxs]; rfl
    rw [q1, q2]
    exact hf.own s
  · refine ⟨n, 0, ?_, fun i hi' => absurd ⟨i, hi'⟩ hex⟩
    have hv := (hf.strips ys).val n
    have : a.tmps.getD n undef = undef := by
      rw [Array.getD_eq_getD_getElem?, Array.getElem?_eq_none (by rw [hf.size]; exact Nat.le_refl _)]; rfl
    rw [this] at hv
    cases hq : strips t ys n with
    | bs own sz es lim =>
      rw [hq] at hv
      cases hv
    | _ => rfl

theorem ok_call (hf : FRel G w n t a) {o : Oper} {c : Call} {f : FuncId} {xs : List Opd} {k k' f' : Nat} {args : List AV} {t' : Nat → AV}
    (hop : o.op = .call c) (hb : c.callee = .value (.func f)) (hx : cOpds c.args.toList = some xs) (hv : aex P (.call k f xs) ⟨t, h⟩ = some (.call k' f' args t')) : CallOk P G w n a o f' args t' := by
  simp only [aex] at hv
  split at hv
  · rename_i h1
    simp at hv
    obtain ⟨rfl, rfl, rfl, rfl⟩ := hv
    obtain ⟨e1, e2, s, j, e3, e4⟩ := args_rel hf hx h1
    have hg : ∀ i, (c.args.map a.eval).getD i undef = (c.args.toList.map a.eval).getD i undef := by
      intro i
      rw [Array.getD_eq_getD_getElem?, List.getD_eq_getElem?_getD, ← Array.toList_map, Array.getElem?_toList]
    refine ⟨c.args.map a.eval, s, j, ?_, by simp [execOp, hop, resolve, hb, Act.eval, Deferred.ofValue, invoke], by simp [e1], fun i => by rw [hg]; exact e2 i, hf.strips xs, e3, fun i hi' => by rw [hg]; exact e4 i hi'⟩
    intro fn g1 g2 g3
    have g2' : fn.body.isNone = false := by
      cases hbd : fn.body with
      | none => rw [hbd] at g2; cases g2
      | some b => rfl
    have g2'' : ¬ fn.body = none := by intro e; rw [e] at g2; cases g2
    have g3' : ¬ fn.name = "runtime.NumGoroutine" := by simpa using g3
    simp [execOp, hop, resolve, hb, Act.eval, Deferred.ofValue, invoke, callFunc, g1, g2'', g3']
  · cases hv

theorem dis_map_own (l : List AV) : ∀ v ∈ l.map AV.dis, v.isOwn = false := by
  intro v hv
  obtain ⟨u, _, rfl⟩ := List.mem_map.1 hv
  exact dis_own u

theorem ok_dyn (hf : FRel G w n t a) {o : Oper} {c : Call} {f : Operand} {y : Opd} {xs : List Opd} {k k' f' : Nat} {args : List AV} {t' : Nat → AV}
    (hop : o.op = .call c) (hb : c.callee = .value f) (hy : cOpd f = some y) (hx : cOpds c.args.toList = some xs) (hv : aex P (.dyn k y xs) ⟨t, h⟩ = some (.call k' f' args t')) : CallOk P G w n a o f' args t' := by
  have hrel := opd_rel hf hy
  simp only [aex] at hv
  split at hv
  · rename_i g first captured hyv
    split at hv
    · rename_i h1
      simp at hv
      obtain ⟨rfl, rfl, rfl, rfl⟩ := hv
      rw [hyv] at hrel
      generalize hcf : a.eval f = cf at hrel
      cases hrel with
      | @fn _ _ _ fs' cs' f1 f2 f3 f4 =>
        obtain ⟨e1, e2, s, j, e3, e4⟩ := args_rel hf hx h1
        have hlen : (xs.map (Opd.ev t)).length = (c.args.map a.eval).size := by simp [e1]

        have hval : ∀ i, (first.map AV.dis ++ (xs.map (Opd.ev t) ++ captured.map AV.dis)).getD i .undef =
            (if i < first.length then (first.map AV.dis).getD i .undef else if i < first.length + (xs.map (Opd.ev t)).length then (xs.map (Opd.ev t)).getD (i - first.length) .undef else (captured.map AV.dis).getD (i - first.length - (xs.map (Opd.ev t)).length) .undef) := by
          intro i
          simp only [List.getD_eq_getElem?_getD, List.getElem?_append, List.length_map]
          split
          · rfl
          · split
            · rw [if_pos (by omega)]
            · rw [if_neg (by omega)]
        have hvals : ∀ i, (fs' ++ c.args.map a.eval ++ cs').getD i undef =
            (if i < first.length then fs'.getD i undef else if i < first.length + (xs.map (Opd.ev t)).length then (c.args.toList.map a.eval).getD (i - first.length) undef else cs'.getD (i - first.length - (xs.map (Opd.ev t)).length) undef) := by
          intro i
          have hg : ∀ (i : Nat), (c.args.map a.eval)[i]? = (c.args.toList.map a.eval)[i]? := by
            intro i
            rw [← Array.toList_map, Array.getElem?_toList]
          simp only [Array.getD_eq_getD_getElem?, Array.getElem?_append, Array.size_append, f1, ← hlen, List.getD_eq_getElem?_getD, hg]
          by_cases q1 : i < first.length
          · rw [if_pos (by omega), if_pos q1, if_pos q1]
          · rw [if_neg q1, if_neg q1]
            by_cases q2 : i < first.length + (xs.map (Opd.ev t)).length
            · rw [if_pos q2, if_pos q2]
            · rw [if_neg q2, if_neg q2]
              congr 2
              omega
        have part : ∀ {l : List AV} {vs : Array Value}, vs.size = l.length → (∀ m q, l[m]? = some q → VRel G q (vs.getD m undef)) → ∀ i, VRel G ((l.map AV.dis).getD i .undef) (vs.getD i undef) := by
          intro l vs hs hl i
          rw [List.getD_eq_getElem?_getD, List.getElem?_map]
          cases hli : l[i]? with
          | none =>
            rw [List.getElem?_eq_none_iff] at hli
            have : vs.getD i undef = undef := by rw [Array.getD_eq_getD_getElem?, Array.getElem?_eq_none (by omega)]; rfl
            rw [this]
            exact undef_rel G
          | some q => exact (hl i q hli).dis
        have noOwn : ∀ (l : List AV) i, ((l.map AV.dis).getD i .undef).isOwn = false := by
          intro l i
          rw [List.getD_eq_getElem?_getD, List.getElem?_map]
          cases l[i]? with
          | none => rfl
          | some q => exact dis_own q
        refine ⟨fs' ++ c.args.map a.eval ++ cs', s, first.length + j, ?_, by simp [execOp, hop, resolve, hb, hcf, Deferred.ofValue, invoke], ?_, ?_, hf.strips xs, e3, ?_⟩
        · intro fn g1 g2 g3
          have g2'' : ¬ fn.body = none := by intro e; rw [e] at g2; cases g2
          have g3' : ¬ fn.name = "runtime.NumGoroutine" := by simpa using g3
          simp [execOp, hop, resolve, hb, hcf, Deferred.ofValue, invoke, callFunc, g1, g2'', g3']
        · simp [f1, f2, e1]
        · intro i
          rw [hval, hvals]
          split
          · exact part f1 f3 i
          · split
            · exact e2 _
            · exact part f2 f4 _
        · intro i hi'
          rw [hval] at hi' ⊢
          rw [hvals]
          split at hi'
          · rw [noOwn] at hi'; cases hi'
          · rename_i q1
            split at hi'
            · rename_i q2
              rw [if_neg q1, if_pos q2, if_neg q1, if_pos q2]
              obtain ⟨r1, r2⟩ := e4 _ hi'
              exact ⟨by omega, r2⟩
            · rw [noOwn] at hi'; cases hi'
    · cases hv
  · cases hv

end Go.Am
