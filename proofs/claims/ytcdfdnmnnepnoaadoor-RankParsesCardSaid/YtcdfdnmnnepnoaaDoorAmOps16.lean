/- copy, clear, cap. -/
import Derived.Test.YtcdfdnmnnepnoaaDoorAmOps12
set_option linter.unusedVariables false
set_option linter.unusedSimpArgs false
namespace Go.Am
variable {P : Program} {G : Gh} {h : Heap} {w : World} {n : Nat} {t : Nat → AV} {a : Act}


theorem ok_write (hf : FRel G w n t a) (hi : Inv G h w) {o : Oper} {dst : Option Nat} (hd : ∀ d, dst = some d → d < n) {ob c0 : Nat} {cs vs : List AV} {us : List Value} {v : AV} {cv : Value} (hcs : h ob = some (.arr cs))
    (hlen : c0 + vs.length ≤ cs.length) (hus : us.length = vs.length) (hvs : ∀ (m : Nat) v, vs[m]? = some v → v.one = true ∧ v.isOwn = false ∧ ∃ u, us[m]? = some u ∧ VRel G v u)
    (hr : (execOp a.eval o).run P w = .ok (.value cv) (w.setCells ob c0 us)) (hv : VRel G v cv) (hvo : v.isOwn = false) : OpOk P G h w n a o dst v t (upd h ob (some (.arr (setRange cs c0 vs)))) := by
  obtain ⟨h1, h2, ds, e', fz, h3, h4, h5, h50, h6⟩ := hi.arr ob cs hcs
  have hst := hi.store (la := .ret) (l := .ret) (by simp) hcs hlen hus (fun m v hm => by
    obtain ⟨q1, q2, u, q3, q4⟩ := hvs m v hm
    exact ⟨q1, u, q3, q4, .of_not q2⟩)
  have hkp := Kept.store (G := G) (h := h) (w := w) (la := .ret) (l := .ret) (cs := cs) (o := ob) (c := c0) (us := us) (by rw [hcs]; simp) (.arr (setRange cs c0 vs))
  rw [moveTo_self] at hst hkp
  exact ⟨_, cv, _, G, hr, rfl, (hf.move (fun _ _ _ h => h) (fun i v cv ho => ho.setCells h2)).put dst hd hv (fun _ _ => .of_not hvo), hst, hkp⟩

theorem run_stcells {b o : Nat} {us : List Value} {ds : Array Value} {e : TypeId} {fz : Nat × Nat} (hb : w.heap[b]? = some (.cells ds e fz)) (hfz : unfrozen ds.size fz) (hlen : o + us.length ≤ ds.size) (h1 : ∀ u ∈ us, u.oneCell' = true) :
    (storeCells ⟨b, o, none⟩ us).run P w = .ok () (w.setCells b o us) := by
  have := run_storeCells_cells (P := P) b o us 0 w (fun j hj => by
    rw [cell_of_heap hb]
    simp
    omega) (fun j hj => by
    have := hfz.get (o + 0 + j) (by omega)
    simp only [World.frozen?, hb]
    simp at this ⊢
    omega) h1
  simpa using this

theorem chunks_take (sz : Nat) : ∀ (n k : Nat) (cs : List AV), k ≤ n → (chunks sz n cs).take k = chunks sz k cs
  | n, 0, cs, _ => by simp [chunks]
  | 0, k + 1, cs, h => by omega
  | n + 1, k + 1, cs, h => by rw [chunks, chunks, List.take_succ_cons, chunks_take sz n k _ (by omega)]


theorem elems_pre (hi : Inv G h w) {sz : Nat} {tx e' : TypeId} (htx : P.underlying tx = some (.slice e')) {y : AV} {cv : Value} (hv : VRel G y cv) {ys : List (List AV)} (hns : ∀ s, y ≠ .sc (.string s)) (hy : elemsOf h sz y = some ys) {k : Nat} (hk : k ≤ ys.length) :
    (Builtin.lenOf cv).run P w = .ok ys.length w ∧ ∃ us : List Value, us.length = k * sz ∧ (Builtin.firstCells sz k cv).run P w = .ok us.toArray w ∧ (∀ (m : Nat) c, (ys.take k).flatten[m]? = some c → ∃ d, us[m]? = some d ∧ VRel G c d) ∧
      (∀ u ∈ us, u.oneCell' = true) ∧ (∀ e ∈ ys, e.length = sz) ∧ ∀ c ∈ ys.flatten, c.one = true := by
  obtain ⟨news0, hsrc0, hn0, hw1, hw2⟩ := elems_src (P := P) (tx := tx) hi (.inl ⟨_, htx⟩) hv hy
  have main : ∀ (y' : AV) (cv' : Value), VRel G y' cv' → elemsOf h sz y' = some (ys.take k) → (Builtin.firstCells sz k cv').run P w = (Builtin.firstCells sz k cv).run P w →
      (Builtin.lenOf cv).run P w = .ok ys.length w ∧ ∃ us : List Value, us.length = k * sz ∧ (Builtin.firstCells sz k cv).run P w = .ok us.toArray w ∧ (∀ (m : Nat) c, (ys.take k).flatten[m]? = some c → ∃ d, us[m]? = some d ∧ VRel G c d) ∧
      (∀ u ∈ us, u.oneCell' = true) ∧ (∀ e ∈ ys, e.length = sz) ∧ ∀ c ∈ ys.flatten, c.one = true := by
    intro y' cv' hv' hy' hrun
    obtain ⟨news, hsrc, hn, _, _⟩ := elems_src (P := P) (tx := tx) hi (.inl ⟨_, htx⟩) hv' hy'
    have hl : (ys.take k).length = k := by rw [List.length_take]; omega
    rw [hl] at hsrc
    exact ⟨hsrc0.len w, news, hsrc.newsLen, by rw [← hrun]; exact hsrc.cells, hn, hsrc.one, hw1, hw2⟩
  unfold elemsOf at hy
  split at hy
  · simp at hy
    subst hy
    exact main _ _ hv (by simp [elemsOf]) rfl
  · rename_i s
    exact absurd rfl (hns s)
  · rename_i own sz' es lim
    split at hy
    · rename_i e1
      subst e1
      simp at hy
      subst hy
      obtain ⟨ad0, cap, rfl, q1, q2, q3⟩ := hv.cut (Nat.zero_le k) hk
      have := q3 cap none (by omega) (Nat.le_refl _) (by simp) (ad0.add (0 * sz')) (.inl rfl)
      refine main _ _ this (by simp [elemsOf]) ?_
      have : ad0.add (0 * sz') = ad0 := by cases ad0; simp [Addr.add]
      rw [this]
      rfl
    · simp at hy
  · rename_i ob c sz' n0 lim
    split at hy
    · rename_i e1
      subst e1
      split at hy
      · rename_i cs hcs
        split at hy
        · rename_i hle
          obtain rfl := Option.some.inj hy
          have hkn : k ≤ n0 := by
            rw [(chunks_flatten sz' n0 ((cs.drop c).map AV.disc) (by rw [List.length_map, List.length_drop]; omega)).2.1] at hk
            exact hk
          cases hv with
          | @rs _ _ _ _ _ ad cap g1 g2 g3 =>
            refine main (.rs ob c sz' k none) (.slice (some ad) k cap) ?_ ?_ rfl
            · refine .rs ?_ (by omega) (by simp)
              rcases g1 with g1 | ⟨g1, g4⟩
              · exact .inl g1
              · exact .inr ⟨by omega, g4⟩
            · have : c + k * sz' ≤ cs.length := by
                have := Nat.mul_le_mul_right sz' hkn
                omega
              simp only [elemsOf, if_true, hcs, this]
              rw [chunks_take _ _ _ _ hkn]
        · simp at hy
      · simp at hy
    · simp at hy
  · simp at hy

theorem ok_cpy (hf : FRel G w n t a) (hi : Inv G h w) {o : Oper} {c : Call} {ty tx e e' : TypeId} {x y : Operand} {x' y' : Opd} {sz : Nat} {dst : Option Nat} {v : AV} {t' : Nat → AV} {h' : Heap}
    (hop : o.op = .call c) (hb : c.callee = .builtin .copy) (hargs : c.args.toList = [x, y]) (hty : c.argTypes.toList = [ty, tx]) (hx : cOpd x = some x') (hy : cOpd y = some y')
    (ht : P.underlying ty = some (.slice e)) (hk : P.underlying tx = some (.slice e')) (hs : sizeT P e = some sz) (hd : ∀ d, dst = some d → d < n)
    (hv : aex P (.cpy sz x' y') ⟨t, h⟩ = some (.val v t' h')) : OpOk P G h w n a o dst v t' h' := by
  have hrx := opd_rel hf hx
  have hry := opd_rel hf hy
  have ha : c.args = #[x, y] := by rw [← Array.toArray_toList (xs := c.args), hargs]
  have hat : c.argTypes = #[ty, tx] := by rw [← Array.toArray_toList (xs := c.argTypes), hty]
  simp only [aex, Option.bind_eq_bind, Option.bind_eq_some_iff] at hv
  obtain ⟨ys, hys, hv⟩ := hv
  split at hv
  · cases hv
  · rename_i hxn hns
    simp only [Option.some.injEq, AR.val.injEq] at hv
    obtain ⟨rfl, rfl, rfl⟩ := hv
    rw [hxn] at hrx
    have e2 := hrx.sc_inv.1
    obtain ⟨hlen, us, u1, u2, _⟩ := elems_pre (P := P) hi hk hry (fun s hs => hns s hs) hys (Nat.zero_le _)
    refine .plain hf hi hd (cv := .int .i64 0) ?_ (.sc rfl) rfl
    simp [execOp, hop, resolve, hb, invoke, builtin, ha, hat, Builtin.copy_, run_underlyingA ht, e2, hlen, run_sizeOfA hs, u2, goInt]
  · rename_i ob c0 sz' n0 lim hxb hns
    split at hv
    · rename_i cs hcs
      split at hv
      · rename_i hcond
        obtain ⟨rfl, hle⟩ := hcond
        simp only [Option.some.injEq, AR.val.injEq] at hv
        obtain ⟨rfl, rfl, rfl⟩ := hv
        rw [hxb] at hrx
        generalize hcx : a.eval x = cx at hrx
        cases hrx with
        | @rs _ _ _ _ _ ad cap g1 g2 g3 =>
          have hmin : min ys.length n0 ≤ ys.length := Nat.min_le_left _ _
          obtain ⟨hlen, us, u1, u2, u3, u4, u5, u6⟩ := elems_pre (P := P) hi hk hry (fun s hs => hns s hs) hys hmin
          obtain ⟨h1, h2, ds, e', fz, h3, h4, h5, h50, h6⟩ := hi.arr ob cs hcs
          have htk : ys.take (min ys.length n0) = ys.take n0 := by
            rcases Nat.le_total ys.length n0 with q | q
            · rw [Nat.min_eq_left q, List.take_of_length_le (Nat.le_refl _), List.take_of_length_le q]
            · rw [Nat.min_eq_right q]
          rw [htk] at u3
          have hwd : ∀ e ∈ ys.take n0, e.length = sz' := fun e he => u5 e (List.mem_of_mem_take he)
          have hfl := flatten_len (ys.take n0) hwd
          rw [List.length_take, Nat.min_comm] at hfl
          have hfit : min ys.length n0 * sz' ≤ n0 * sz' := Nat.mul_le_mul_right _ (Nat.min_le_right _ _)
          refine ok_write hf hi hd (us := us) hcs (by rw [List.length_map, hfl]; omega) (by rw [u1, List.length_map, hfl]) ?_ (cv := .int .i64 (min ys.length n0 : Nat)) ?_ (.sc rfl) rfl
          · intro m v hm
            rw [List.getElem?_map, Option.map_eq_some_iff] at hm
            obtain ⟨q, hq, rfl⟩ := hm
            obtain ⟨d, r1, r2⟩ := u3 m q hq
            refine ⟨?_, disc_own q, d, r1, r2.disc⟩
            rw [disc_one]
            obtain ⟨l, hl1, hl2⟩ := List.mem_flatten.1 (List.mem_of_getElem? hq)
            exact u6 q (List.mem_flatten.2 ⟨l, List.mem_of_mem_take hl1, hl2⟩)
          · have hst : (storeCells ad us).run P w = .ok () (w.setCells ob c0 us) := by
              rcases g1 with rfl | ⟨q1, q2⟩
              · exact run_stcells h3 h4.un (by omega) u4
              · subst q1
                have : us = [] := List.eq_nil_of_length_eq_zero (by rw [u1]; simp)
                rw [this]
                simp [storeCells, World.setCells]
            simp [execOp, hop, resolve, hb, invoke, builtin, ha, hat, Builtin.copy_, run_underlyingA ht, hcx, hlen, run_sizeOfA hs, u2, hst, goInt]
      · cases hv
    · cases hv
  · cases hv

theorem ok_clr (hf : FRel G w n t a) (hi : Inv G h w) {o : Oper} {c : Call} {ty e : TypeId} {x : Operand} {x' : Opd} {sz : Nat} {z : AV} {dst : Option Nat} {v : AV} {t' : Nat → AV} {h' : Heap}
    (hop : o.op = .call c) (hb : c.callee = .builtin .clear) (hargs : c.args.toList = [x]) (hty : c.argTypes.toList = [ty]) (hx : cOpd x = some x')
    (ht : P.underlying ty = some (.slice e)) (hz : zeroT P e = some z) (hzl : z.cells.length = sz) (hd : ∀ d, dst = some d → d < n)
    (hv : aex P (.clr sz z.cells x') ⟨t, h⟩ = some (.val v t' h')) : OpOk P G h w n a o dst v t' h' := by
  have hrx := opd_rel hf hx
  have ha : c.args = #[x] := by rw [← Array.toArray_toList (xs := c.args), hargs]
  have hat : c.argTypes = #[ty] := by rw [← Array.toArray_toList (xs := c.argTypes), hty]
  simp only [aex] at hv
  split at hv
  · rename_i hxn
    simp only [Option.some.injEq, AR.val.injEq] at hv
    obtain ⟨rfl, rfl, rfl⟩ := hv
    rw [hxn] at hrx
    have e2 := hrx.sc_inv.1
    refine .plain hf hi hd (cv := .tuple #[]) ?_ (.tu rfl (fun m c h => by simp at h)) rfl
    simp [execOp, hop, resolve, hb, invoke, builtin, ha, hat, Builtin.clear_, run_underlyingA ht, e2]
  · rename_i ob c0 sz' n0 lim hxb
    split at hv
    · rename_i cs hcs
      split at hv
      · rename_i hcond
        obtain ⟨rfl, hle⟩ := hcond
        simp only [Option.some.injEq, AR.val.injEq] at hv
        obtain ⟨rfl, rfl, rfl⟩ := hv
        rw [hxb] at hrx
        generalize hcx : a.eval x = cx at hrx
        obtain ⟨zv, hz1, hz2, _, hz3⟩ := zero_rel (P := P) (G := G) (w := w) hz
        have hzo := zero_cells_own hz
        have hzr := zeros_rel (G := G) hz2 n0
        have hz1' := zeros_one hz3 n0
        have hrl := replicate_len z.cells n0
        have hmem : ∀ c ∈ (List.replicate n0 z.cells).flatten, c ∈ z.cells := by
          intro c hc
          obtain ⟨l, q1, q2⟩ := List.mem_flatten.1 hc
          rw [(List.mem_replicate.1 q1).2] at q2
          exact q2
        cases hrx with
        | @rs _ _ _ _ _ ad cap g1 g2 g3 =>
          obtain ⟨h1, h2, ds, e', fz, h3, h4, h5, h50, h6⟩ := hi.arr ob cs hcs
          have hul : (Builtin.zeroCells zv.cells n0).toList.length = n0 * sz' := by
            rw [Array.length_toList, ← hzl, ← hrl]
            exact hzr.1
          refine ok_write hf hi hd (us := (Builtin.zeroCells zv.cells n0).toList) hcs (by rw [hrl, hzl]; exact hle) (by rw [hul, hrl, hzl]) ?_ (cv := .tuple #[]) ?_ (.tu rfl (fun m c h => by simp at h)) rfl
          · intro m v hm
            obtain ⟨d, r1, r2⟩ := hzr.get hm
            exact ⟨hz1' v (List.mem_of_getElem? hm), hzo v (hmem v (List.mem_of_getElem? hm)), d, by rw [Array.getElem?_toList]; exact r1, r2⟩
          · have h1c : ∀ u ∈ (Builtin.zeroCells zv.cells n0).toList, u.oneCell' = true := by
              intro u hu
              obtain ⟨j, hj⟩ := List.getElem?_of_mem hu
              have hlt : j < (List.replicate n0 z.cells).flatten.length := by
                have := (List.getElem?_eq_some_iff.1 hj).1
                rw [hul] at this
                rw [hrl, hzl]
                exact this
              obtain ⟨d, r1, r2⟩ := hzr.get (List.getElem?_eq_getElem hlt)
              have r1' : (Builtin.zeroCells zv.cells n0)[j]? = some d := r1
              rw [Array.getElem?_toList, r1'] at hj
              cases hj
              exact r2.oneCell (hz1' _ (List.getElem_mem hlt))
            by_cases hn0 : n0 = 0
            · subst hn0
              have hu : (Builtin.zeroCells zv.cells 0).toList = [] := List.eq_nil_of_length_eq_zero (by rw [hul]; simp)
              rw [hu]
              simp [execOp, hop, resolve, hb, invoke, builtin, ha, hat, Builtin.clear_, run_underlyingA ht, hcx, World.setCells]
            · obtain rfl : ad = ⟨ob, c0, none⟩ := by
                rcases g1 with g1 | ⟨g1, _⟩
                · exact g1
                · exact absurd g1 hn0
              have hst := run_stcells (P := P) (o := c0) h3 h4.un (us := (Builtin.zeroCells zv.cells n0).toList) (by omega) h1c
              obtain ⟨m0, rfl⟩ : ∃ m0, n0 = m0 + 1 := ⟨n0 - 1, by omega⟩
              simp [execOp, hop, resolve, hb, invoke, builtin, ha, hat, Builtin.clear_, run_underlyingA ht, hcx, hz1, hst]
      · cases hv
    · cases hv
  · cases hv

theorem ok_cap (hf : FRel G w n t a) (hi : Inv G h w) {o : Oper} {c : Call} {ty e : TypeId} {x : Operand} {x' : Opd} {dst : Option Nat} {v : AV} {t' : Nat → AV} {h' : Heap}
    (hop : o.op = .call c) (hb : c.callee = .builtin .cap) (hargs : c.args.toList = [x]) (hty : c.argTypes.toList = [ty]) (hx : cOpd x = some x')
    (ht : P.underlying ty = some (.slice e)) (hd : ∀ d, dst = some d → d < n)
    (hv : aex P (.cap x') ⟨t, h⟩ = some (.val v t' h')) : OpOk P G h w n a o dst v t' h' := by
  have hrx := opd_rel hf hx
  have ha : c.args = #[x] := by rw [← Array.toArray_toList (xs := c.args), hargs]
  have hat : c.argTypes = #[ty] := by rw [← Array.toArray_toList (xs := c.argTypes), hty]
  have fin : ∀ (ad : Option Addr) (m k : Nat), a.eval x = .slice ad m k → v = .int .i64 k → t' = t → h' = h → OpOk P G h w n a o dst v t' h' := by
    rintro ad m k hq rfl rfl rfl
    refine .plain hf hi hd (cv := .int .i64 k) ?_ (.sc rfl) rfl
    simp [execOp, hop, resolve, hb, invoke, builtin, ha, hat, Builtin.cap_, run_underlyingA ht, hq, goInt]
  simp only [aex] at hv
  split at hv
  · rename_i hxn
    simp only [Option.some.injEq, AR.val.injEq] at hv
    obtain ⟨rfl, rfl, rfl⟩ := hv
    rw [hxn] at hrx
    exact fin _ _ _ hrx.sc_inv.1 rfl rfl rfl
  · rename_i ob c0 sz' n0 k hxb
    simp only [Option.some.injEq, AR.val.injEq] at hv
    obtain ⟨rfl, rfl, rfl⟩ := hv
    rw [hxb] at hrx
    generalize hcx : a.eval x = cx at hrx
    cases hrx with
    | @rs _ _ _ _ _ ad cap g1 g2 g3 =>
      have := g3 k rfl
      subst this
      exact fin _ _ _ hcx rfl rfl rfl
  · rename_i own sz' es k hxb
    simp only [Option.some.injEq, AR.val.injEq] at hv
    obtain ⟨rfl, rfl, rfl⟩ := hv
    rw [hxb] at hrx
    generalize hcx : a.eval x = cx at hrx
    cases hrx with
    | @bs _ _ _ _ b o cap cv h1 h01 h2 h3 h4 h5 =>
      have := h5 k rfl
      subst this
      exact fin _ _ _ hcx rfl rfl rfl
    | bz hz =>
      have := hz k rfl
      subst this
      exact fin _ _ _ hcx rfl rfl rfl
  · cases hv

end Go.Am
