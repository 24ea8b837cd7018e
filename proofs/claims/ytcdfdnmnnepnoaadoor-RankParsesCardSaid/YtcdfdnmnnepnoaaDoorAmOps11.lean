/- Literals, make, conversions between strings and bytes. -/
import Derived.Test.YtcdfdnmnnepnoaaDoorAmOps10
import Derived.Lib.ConvBytes
set_option linter.unusedVariables false
set_option linter.unusedSimpArgs false
namespace Go.Am
variable {P : Program} {G : Gh} {h : Heap} {w : World} {n : Nat} {t : Nat → AV} {a : Act}

theorem fillL_len : ∀ (ps : List (Nat × Nat × AV)) (cs cs' : List AV), fillL cs ps = some cs' → cs'.length = cs.length
  | [], cs, cs', hf => by simp [fillL] at hf; rw [hf]
  | (off, s, v) :: r, cs, cs', hf => by
    simp only [fillL] at hf
    split at hf
    · rename_i hc
      rw [fillL_len r _ _ hf, setRange_length _ _ _ (by rw [hc.1]; exact hc.2.1)]
    · simp at hf

theorem dis_cells_own {v : AV} (ht : v.isTu = false) : ∀ c ∈ v.dis.cells, c.isOwn = false := by
  intro c hc
  cases v with
  | ag cs =>
    simp only [AV.dis, AV.cells] at hc
    obtain ⟨c', _, rfl⟩ := List.mem_map.1 hc
    exact disc_own c'
  | tu cs => simp [AV.isTu] at ht
  | _ => simp [AV.dis, AV.cells] at hc; subst hc; rfl

theorem dis_tu (v : AV) : v.dis.isTu = v.isTu := by cases v <;> rfl

theorem fillL_own : ∀ (ps : List (Nat × Nat × AV)) (cs cs' : List AV), fillL cs ps = some cs' → (∀ c ∈ cs, c.isOwn = false) → (∀ p ∈ ps, ∃ v, p.2.2 = AV.dis v) → ∀ c ∈ cs', c.isOwn = false
  | [], cs, cs', hf, h1, _ => by simp [fillL] at hf; subst hf; exact h1
  | (off, s, v) :: r, cs, cs', hf, h1, h2 => by
    simp only [fillL] at hf
    split at hf
    · rename_i hc
      refine fillL_own r _ _ hf ?_ (fun p hp => h2 p (by simp [hp]))
      intro c hcm
      rcases setRange_mem hcm with hm | hm
      · exact h1 c hm
      · obtain ⟨v', hv'⟩ := h2 _ List.mem_cons_self
        have hv' : v = v'.dis := hv'
        subst hv'
        have : v'.isTu = false := by rw [← dis_tu]; exact hc.2.2
        exact dis_cells_own this c hm
    · simp at hf

theorem lit_run (hf : FRel G w n t a) {o : Oper} {ty e : TypeId} {len sz : Nat} {parts : Array (Nat × Operand)} {ps : List (Nat × Opd)} {z : AV} {cs : List AV}
    (hop : o.op = .buildSlice ty len parts) (ht : P.underlying ty = some (.slice e)) (hs : sizeT P e = some sz) (hz : zeroT P e = some z) (hzl : z.cells.length = sz) (hps : cParts parts.toList = some ps) (hsm : len * sz ≤ 2 ^ 24)
    (hcs : fillL ((List.replicate len z.cells).flatten) (ps.map fun p => (p.1 * sz, sz, (p.2.ev t).dis)) = some cs) :
    ∃ ds, (execOp a.eval o).run P w = .ok (.value (.slice (some ⟨w.heap.size, 0, none⟩) len len)) (w.alloc (.cells ds e)) ∧ CRel G cs ds ∧ (∀ c ∈ cs, c.one = true) ∧ cs.length = len * sz ∧ ∀ c ∈ cs, c.isOwn = false := by
  obtain ⟨zv, hz1, hz2, _, hzo⟩ := zero_rel (P := P) (G := G) (w := w) hz
  obtain ⟨p1, p2⟩ := cParts_spec _ _ hps
  have hzs : zv.cells.size = sz := by rw [hz2.cells.1, hzl]
  have hzr := zeros_rel (G := G) hz2 len
  rw [hzs] at hzr
  obtain ⟨ds, e1, e2, e3⟩ := fill_rel (G := G) (place := fun i => some (i * sz, sz)) (ps.map fun p => (p.1 * sz, sz, (p.2.ev t).dis)) (parts.toList.map fun p => (p.1, a.eval p.2)) _ cs _
    hzr (by simp [p1]) (by
      intro k off s u i x h1 h2
      rw [List.getElem?_map] at h1 h2
      cases hk : ps[k]? with
      | none => simp [hk] at h1
      | some p =>
        have hkl : k < parts.toList.length := by
          rcases Nat.lt_or_ge k ps.length with h | h
          · omega
          · rw [List.getElem?_eq_none h] at hk; cases hk
        cases hxx : parts.toList[k] with | mk i' x' => ?_
        have hx : parts.toList[k]? = some (i', x') := by rw [List.getElem?_eq_getElem hkl, hxx]
        obtain ⟨y, hy1, hy2⟩ := p2 k i' x' hx
        rw [hk] at hy1
        cases hy1
        simp [hk] at h1
        rw [hx] at h2
        simp at h2
        obtain ⟨rfl, rfl, rfl⟩ := h1
        obtain ⟨rfl, rfl⟩ := h2
        exact ⟨rfl, (opd_rel hf hy2).dis⟩) hcs (zeros_one hzo len)
  refine ⟨ds, ?_, e2, e3, by rw [fillL_len _ _ _ hcs, replicate_len, hzl], ?_⟩
  · have hsm' : ¬ (16777216 < len * sz) := by omega
    by_cases h0 : len * sz = 0
    · have e1' : Instr.fill (fun i => some (i * sz, sz)) ((Array.range (len * sz)).map fun i => (#[] : Array Value)[i % (#[] : Array Value).size]!) (parts.toList.map fun p => (p.1, a.eval p.2)) = some ds := by
        rw [← e1]
        congr 1
        rw [h0]
        simp
      rw [h0] at e1'
      simp only [execOp, hop, Instr.buildSlice, Sem.run_bind, run_underlyingA ht, Result.andThen_ok, run_sizeOfA hs]
      rw [if_neg (by omega), if_pos h0]
      simp only [Sem.run_pure, Result.andThen_ok, Array.toList_map, h0, pure_bind]
      rw [e1']
      simp [run_newRow]
    · simp only [execOp, hop, Instr.buildSlice, Sem.run_bind, run_underlyingA ht, Result.andThen_ok, run_sizeOfA hs]
      rw [if_neg (by omega), if_neg h0]
      simp only [Sem.run_bind, hz1, Result.andThen_ok, Sem.run_pure, Array.toList_map, hzs]
      rw [e1]
      simp [run_newRow]
  · refine fillL_own _ _ _ hcs ?_ ?_
    · intro c hc
      obtain ⟨l, h1, h2⟩ := List.mem_flatten.1 hc
      rw [List.mem_replicate] at h1
      rw [h1.2] at h2
      exact zero_cells_own hz c h2
    · intro p hp
      obtain ⟨q, _, rfl⟩ := List.mem_map.1 hp
      exact ⟨_, rfl⟩

theorem ok_lit (hf : FRel G w n t a) (hi : Inv G h w) {o : Oper} {ty e : TypeId} {len sz : Nat} {parts : Array (Nat × Operand)} {ps : List (Nat × Opd)} {z : AV} {dst : Option Nat} {obj : Bool} {v : AV} {t' : Nat → AV} {h' : Heap}
    (hop : o.op = .buildSlice ty len parts) (ht : P.underlying ty = some (.slice e)) (hs : sizeT P e = some sz) (hz : zeroT P e = some z) (hzl : z.cells.length = sz) (hps : cParts parts.toList = some ps) (hsm : len * sz ≤ 2 ^ 24)
    (hd : ∀ d, dst = some d → d < n) (hv : aex P (.lit obj sz len z.cells ps) ⟨t, h⟩ = some (.val v t' h')) : OpOk P G h w n a o dst v t' h' := by
  simp only [aex, Option.bind_eq_bind, Option.bind_eq_some_iff] at hv
  obtain ⟨cs, hcs, hv⟩ := hv
  rw [if_pos hzl] at hv
  split at hv
  · simp at hv
  · simp only [Option.some.injEq, AR.val.injEq] at hv
    obtain ⟨rfl, rfl, rfl⟩ := hv
    obtain ⟨ds, e1, e2, e3, e4, e5⟩ := lit_run (P := P) hf hop ht hs hz hzl hps hsm hcs
    obtain ⟨f1, f2, f3⟩ := chunks_flatten sz len cs (by omega)
    have hfl : (chunks sz len cs).flatten = cs := by rw [f1, ← e4, List.take_length]
    have := OpOk.fresh (P := P) (own := true) (es := chunks sz len cs) (lim := some len) (cap := len) (sz := sz) hf hi (o := o) hd (More.alloc w (.cells ds e)) (alloc_heap _ _) (unfrozen_zero _) (by rw [e2.1, e4]; exact Nat.le_refl _)
      (by rw [f2]; exact e1) f3 (by rw [hfl]; exact e3) (by rw [hfl]; exact fun m c hm => e2.get hm) (by omega) (by simp)
    exact this

theorem ok_lit_new (hf : FRel G w n t a) (hi : Inv G h w) {o : Oper} {ty e : TypeId} {len sz : Nat} {parts : Array (Nat × Operand)} {ps : List (Nat × Opd)} {z : AV} {dst : Option Nat} {obj : Bool} {k : Nat → AV} {ob : AObj} {t' : Nat → AV}
    (hop : o.op = .buildSlice ty len parts) (ht : P.underlying ty = some (.slice e)) (hs : sizeT P e = some sz) (hz : zeroT P e = some z) (hzl : z.cells.length = sz) (hps : cParts parts.toList = some ps) (hsm : len * sz ≤ 2 ^ 24)
    (hd : ∀ d, dst = some d → d < n) (hv : aex P (.lit obj sz len z.cells ps) ⟨t, h⟩ = some (.new k ob t')) : NewOk P G h w n a o dst k ob t' := by
  simp only [aex, Option.bind_eq_bind, Option.bind_eq_some_iff] at hv
  obtain ⟨cs, hcs, hv⟩ := hv
  rw [if_pos hzl] at hv
  split at hv
  · simp only [Option.some.injEq, AR.new.injEq] at hv
    obtain ⟨rfl, rfl, rfl⟩ := hv
    obtain ⟨ds, e1, e2, e3, e4, e5⟩ := lit_run (P := P) hf hop ht hs hz hzl hps hsm hcs
    exact .arr hf hi hd (More.alloc w (.cells ds e)) e1 (alloc_heap _ _) (unmarked_zero _) (by rw [e2.1]; exact Nat.le_refl _) e3 (fun m c hm => e2.get hm) e5 (.rs (.inl rfl) (Nat.le_refl _) (by simp)) rfl
  · simp at hv

theorem wrap_i64 {x : Int} (h0 : 0 ≤ x) (h1 : x < 2 ^ 63) : IntKind.i64.wrap x = x := by
  unfold IntKind.wrap
  simp [IntKind.bits, IntKind.signed]
  omega

theorem mks_run (hf : FRel G w n t a) {o : Oper} {ty e : TypeId} {sz bytes : Nat} {l c : Operand} {l' c' : Opd} {z : AV} {li ci : Int}
    (hop : o.op = .makeSlice ty l c) (ht : P.underlying ty = some (.slice e)) (hs : sizeT P e = some sz) (hby : bytesT P e = some bytes) (hz : zeroT P e = some z) (hzl : z.cells.length = sz) (h0 : 0 < sz)
    (hl : cOpd l = some l') (hc : cOpd c = some c') (hli : asI (l'.ev t) = some li) (hci : asI (c'.ev t) = some ci) (g0 : 0 ≤ li) (g1 : li ≤ ci) (g2 : ci * bytes ≤ 2 ^ 47) (g3 : ci < 2 ^ 62) :
    ∃ ds, (execOp a.eval o).run P w = .ok (.value (.slice (some ⟨w.heap.size, 0, none⟩) li.toNat ci.toNat)) (w.alloc (.cells ds e)) ∧ CRel G (List.replicate ci.toNat z.cells).flatten ds ∧
      ∀ c ∈ (List.replicate ci.toNat z.cells).flatten, c.one = true := by
  obtain ⟨zv, hz1, hz2, _, hzo⟩ := zero_rel (P := P) (G := G) (w := w) hz
  have hzs : zv.cells.size = sz := by rw [hz2.cells.1, hzl]
  have hzr := zeros_rel (G := G) hz2 ci.toNat
  rw [hzs] at hzr
  obtain ⟨k1, e1, _⟩ := asI_rel (opd_rel hf hl) hli
  obtain ⟨k2, e2, _⟩ := asI_rel (opd_rel hf hc) hci
  simp only [bytesT, Option.map_eq_some_iff] at hby
  obtain ⟨i, hii, hib⟩ := hby
  have w1 := wrap_i64 g0 (by omega)
  have w2 := wrap_i64 (x := ci) (by omega) (by omega)
  refine ⟨_, ?_, hzr, zeros_one hzo _⟩
  have c1 : (decide (ci < 0) || decide ((i.bytes : Int) * ci > 2 ^ 48) || decide (li < 0) || decide (li > ci)) = false := by
    have : (i.bytes : Int) * ci ≤ 2 ^ 47 := by rw [hib, Int.mul_comm]; exact g2
    simp
    omega
  simp only [execOp, hop, Instr.makeSlice, Sem.run_bind, run_underlyingA ht, Result.andThen_ok, e1, e2, asInt, asIntOf, Sem.run_pure, typeInfo, run_program, hii, w1, w2]
  simp only [c1, Bool.false_eq_true, if_false, Sem.run_ite, Sem.run_bind, run_askRoom, Result.andThen_ok, run_sizeOfA hs]
  by_cases h00 : ci.toNat * sz = 0
  · rw [if_pos h00]
    have e0 : ∀ f : Nat → Value, (Array.range 0).map f = #[] := fun f => by
      apply Array.ext
      · simp
      · intro i h1; simp at h1
    simp only [Sem.run_bind, Sem.run_pure, Result.andThen_ok, run_newRow, h00, e0]
  · rw [if_neg h00]
    simp only [Sem.run_bind, hz1, Sem.run_pure, Result.andThen_ok, run_newRow, hzs]

theorem ok_mks (hf : FRel G w n t a) (hi : Inv G h w) {o : Oper} {ty e : TypeId} {sz bytes : Nat} {l c : Operand} {l' c' : Opd} {z : AV} {dst : Option Nat} {obj : Bool} {v : AV} {t' : Nat → AV} {h' : Heap}
    (hop : o.op = .makeSlice ty l c) (ht : P.underlying ty = some (.slice e)) (hs : sizeT P e = some sz) (hby : bytesT P e = some bytes) (hz : zeroT P e = some z) (hzl : z.cells.length = sz) (h0 : 0 < sz)
    (hl : cOpd l = some l') (hc : cOpd c = some c') (hd : ∀ d, dst = some d → d < n) (hv : aex P (.mks obj sz bytes z.cells l' c') ⟨t, h⟩ = some (.val v t' h')) : OpOk P G h w n a o dst v t' h' := by
  simp only [aex, Option.bind_eq_bind, Option.bind_eq_some_iff] at hv
  obtain ⟨li, hli, ci, hci, hv⟩ := hv
  split at hv
  · rename_i hcond
    obtain ⟨g0, g1, g2, g3, _⟩ := hcond
    split at hv
    · simp at hv
    · simp only [Option.some.injEq, AR.val.injEq] at hv
      obtain ⟨rfl, rfl, rfl⟩ := hv
      obtain ⟨ds, e1, e2, e3⟩ := mks_run (P := P) (G := G) hf hop ht hs hby hz hzl h0 hl hc hli hci g0 g1 g2 g3
      have hlen := replicate_len z.cells ci.toNat
      have hle : li.toNat ≤ ci.toNat := by omega
      have pre : ∀ (m : Nat) c, (List.replicate li.toNat z.cells).flatten[m]? = some c → (List.replicate ci.toNat z.cells).flatten[m]? = some c := by
        intro m c hm
        rw [replicate_get] at hm ⊢
        split at hm
        · rename_i hlt
          rw [if_pos (Nat.lt_of_lt_of_le hlt (Nat.mul_le_mul_right _ hle))]
          exact hm
        · cases hm
      exact OpOk.fresh (P := P) (own := true) (es := List.replicate li.toNat z.cells) (lim := some ci.toNat) (cap := ci.toNat) (sz := sz) hf hi hd (More.alloc w (.cells ds e)) (alloc_heap _ _) (unfrozen_zero _)
        (by rw [e2.1, hlen, hzl]; exact Nat.le_refl _) (by rw [List.length_replicate]; exact e1) (fun x hx => by rw [(List.mem_replicate.1 hx).2]; exact hzl)
        (fun c hc => by
          obtain ⟨m, hm⟩ := List.getElem?_of_mem hc
          exact e3 c (List.mem_of_getElem? (pre m c hm))) (fun m c hm => e2.get (pre m c hm)) (by rw [List.length_replicate]; exact hle) (by simp)
  · simp at hv

theorem ok_mks_new (hf : FRel G w n t a) (hi : Inv G h w) {o : Oper} {ty e : TypeId} {sz bytes : Nat} {l c : Operand} {l' c' : Opd} {z : AV} {dst : Option Nat} {obj : Bool} {k : Nat → AV} {ob : AObj} {t' : Nat → AV}
    (hop : o.op = .makeSlice ty l c) (ht : P.underlying ty = some (.slice e)) (hs : sizeT P e = some sz) (hby : bytesT P e = some bytes) (hz : zeroT P e = some z) (hzl : z.cells.length = sz) (h0 : 0 < sz)
    (hl : cOpd l = some l') (hc : cOpd c = some c') (hd : ∀ d, dst = some d → d < n) (hv : aex P (.mks obj sz bytes z.cells l' c') ⟨t, h⟩ = some (.new k ob t')) : NewOk P G h w n a o dst k ob t' := by
  simp only [aex, Option.bind_eq_bind, Option.bind_eq_some_iff] at hv
  obtain ⟨li, hli, ci, hci, hv⟩ := hv
  split at hv
  · rename_i hcond
    obtain ⟨g0, g1, g2, g3, _⟩ := hcond
    split at hv
    · simp only [Option.some.injEq, AR.new.injEq] at hv
      obtain ⟨rfl, rfl, rfl⟩ := hv
      obtain ⟨ds, e1, e2, e3⟩ := mks_run (P := P) (G := G) hf hop ht hs hby hz hzl h0 hl hc hli hci g0 g1 g2 g3
      exact .arr hf hi hd (More.alloc w (.cells ds e)) e1 (alloc_heap _ _) (unmarked_zero _) (by rw [e2.1]; exact Nat.le_refl _) e3 (fun m c hm => e2.get hm)
        (fun c hc => by
          obtain ⟨l, q1, q2⟩ := List.mem_flatten.1 hc
          rw [(List.mem_replicate.1 q1).2] at q2
          exact zero_cells_own hz c q2) (.rs (.inl rfl) (by omega) (by simp)) rfl
    · simp at hv
  · simp at hv


theorem bytes_flat (l : List UInt8) : (l.map fun b => [AV.int .u8 b.toNat]).flatten = l.map fun b => AV.int .u8 b.toNat := by
  induction l with
  | nil => rfl
  | cons x r ih => simp [ih]

theorem ok_s2b_parts (hi : Inv G h w) {o : Oper} {src ty e : TypeId} {x : Operand} {s : ByteArray} (hop : o.op = .convert src ty x) (h1 : P.underlying src = some .string) (h2 : P.underlying ty = some (.slice e)) (h3 : P.underlying e = some (.int .u8))
    (hx : a.eval x = .string s) :
    ∃ w' ds fz cap, More w w' ∧ w'.heap[w.heap.size]? = some (.cells ds e fz) ∧ unfrozen ds.size fz ∧ s.size ≤ cap ∧ ds.size = cap ∧
      (execOp a.eval o).run P w = .ok (.value (.slice (some ⟨w.heap.size, 0, none⟩) s.size cap)) w' ∧ ∀ (m : Nat) (c : AV), (s.data.toList.map fun (b : UInt8) => AV.int .u8 b.toNat)[m]? = some c → ∃ d, ds[m]? = some d ∧ VRel G c d := by
  have hge : s.size ≤ grownCap w s.size 0 e := grownCap_ge w s.size 0 e
  have hat := Lib.bytesWorld_at_new w e s
  have hsz : (Lib.bytesCells w e s).size = grownCap w s.size 0 e := by
    have : s.data.size = s.size := rfl
    simp [Lib.bytesCells]
    omega
  refine ⟨Lib.bytesWorld w e s, Lib.bytesCells w e s, _, grownCap w s.size 0 e, ⟨rfl, rfl, rfl, ?_, fun b hb => Lib.bytesWorld_at_old w e s b hb⟩, hat, ?_, hge, hsz, ?_, ?_⟩
  · rw [Lib.bytesWorld_size]; omega
  · unfold unfrozen
    omega
  · have := Lib.run_convert_string_bytes (P := P) w src ty e s h1 h2 h3
    simp only [execOp, hop, hx, Sem.run_bind, this, Result.andThen_ok, Sem.run_pure]
  · intro m c hm
    rw [List.getElem?_map, Option.map_eq_some_iff] at hm
    obtain ⟨y, hy, rfl⟩ := hm
    have hlt : m < s.size := by
      rcases Nat.lt_or_ge m s.data.toList.length with h | h
      · rw [Array.length_toList] at h; exact h
      · rw [List.getElem?_eq_none h] at hy; cases hy
    have hc := Lib.bytesWorld_cell w e s m hlt
    rw [cell_of_heap hat] at hc
    refine ⟨_, hc, ?_⟩
    have : s.data.toList.getD m 0 = y := by simp [List.getD, hy]
    rw [this]
    exact .sc rfl

theorem ok_s2b (hf : FRel G w n t a) (hi : Inv G h w) {o : Oper} {src ty e : TypeId} {x : Operand} {x' : Opd} {dst : Option Nat} {obj : Bool} {v : AV} {t' : Nat → AV} {h' : Heap}
    (hop : o.op = .convert src ty x) (h1 : P.underlying src = some .string) (h2 : P.underlying ty = some (.slice e)) (h3 : P.underlying e = some (.int .u8)) (hx : cOpd x = some x')
    (hd : ∀ d, dst = some d → d < n) (hv : aex P (.s2b obj x') ⟨t, h⟩ = some (.val v t' h')) : OpOk P G h w n a o dst v t' h' := by
  have hrel := opd_rel hf hx
  simp only [aex] at hv
  split at hv
  · rename_i b hb
    rw [hb] at hrel
    have e2 := hrel.sc_inv.1
    split at hv
    · simp at hv
    · simp only [Option.some.injEq, AR.val.injEq] at hv
      obtain ⟨rfl, rfl, rfl⟩ := hv
      obtain ⟨w', ds, fz, cap, q1, q2, q3, q4, q5, q6, q7⟩ := ok_s2b_parts (P := P) (G := G) hi hop h1 h2 h3 e2
      have hl : (b.data.toList.map fun (c : UInt8) => [AV.int .u8 c.toNat]).length = b.size := by rw [List.length_map, Array.length_toList]; rfl
      refine .fresh (sz := 1) (cap := cap) hf hi hd q1 q2 q3 (by omega) (by rw [hl]; exact q6) ?_ ?_ ?_ (by rw [hl]; exact q4) (by simp)
      · intro x hx
        obtain ⟨_, _, rfl⟩ := List.mem_map.1 hx
        rfl
      · intro c hc
        rw [bytes_flat] at hc
        obtain ⟨_, _, rfl⟩ := List.mem_map.1 hc
        rfl
      · rw [bytes_flat]; exact q7
  · simp at hv

theorem ok_s2b_new (hf : FRel G w n t a) (hi : Inv G h w) {o : Oper} {src ty e : TypeId} {x : Operand} {x' : Opd} {dst : Option Nat} {obj : Bool} {k : Nat → AV} {ob : AObj} {t' : Nat → AV}
    (hop : o.op = .convert src ty x) (h1 : P.underlying src = some .string) (h2 : P.underlying ty = some (.slice e)) (h3 : P.underlying e = some (.int .u8)) (hx : cOpd x = some x')
    (hd : ∀ d, dst = some d → d < n) (hv : aex P (.s2b obj x') ⟨t, h⟩ = some (.new k ob t')) : NewOk P G h w n a o dst k ob t' := by
  have hrel := opd_rel hf hx
  simp only [aex] at hv
  split at hv
  · rename_i b hb
    rw [hb] at hrel
    have e2 := hrel.sc_inv.1
    split at hv <;> cases hv
  · simp at hv

end Go.Am
