/- append, put together. -/
import Derived.Test.YtcdfdnmnnepnoaaDoorAmStore
set_option linter.unusedVariables false
set_option linter.unusedSimpArgs false
namespace Go.Am
variable {P : Program} {G : Gh} {h : Heap} {w : World} {n : Nat} {t : Nat → AV} {a : Act}

theorem run_app {o : Oper} {c : Call} {ty tx : TypeId} {x y : Operand} {w' : World} (hop : o.op = .call c) (hb : c.callee = .builtin .append) (hargs : c.args.toList = [x, y]) (hty : c.argTypes.toList = [ty, tx])
    {r : Value} (hr : (Builtin.append_ #[ty, tx] o.type #[a.eval x, a.eval y]).run P w = .ok r w') : (execOp a.eval o).run P w = .ok (.value r) w' := by
  have ha : c.args = #[x, y] := by rw [← Array.toArray_toList (xs := c.args), hargs]
  have hat : c.argTypes = #[ty, tx] := by rw [← Array.toArray_toList (xs := c.argTypes), hty]
  simp [execOp, hop, resolve, hb, invoke, builtin, ha, hat, hr]


theorem app_grow {ty tx e : TypeId} {sz bytes : Nat} {z : AV} (rty : TypeId) (ht : P.underlying ty = some (.slice e)) (hs : sizeT P e = some sz) (hby : bytesT P e = some bytes) (hz : zeroT P e = some z) (hzl : z.cells.length = sz) (hb0 : 0 < bytes)
    {base : Option Addr} {len cap : Nat} {es ys : List (List AV)} {olds news : List Value} {vy : Value}
    (hold : (Builtin.firstCells sz len (.slice base len cap)).run P w.drew = .ok olds.toArray w.drew) (hol : olds.length = len * sz) (hlen : es.length = len)
    (ho : ∀ (m : Nat) c, es.flatten[m]? = some c → ∃ d, olds[m]? = some d ∧ VRel G c d) (hes : ∀ x ∈ es, x.length = sz) (h1 : ∀ c ∈ es.flatten, c.one = true)
    {i : TypeInfo} (hii : P.info? e = some i) (hsrc : Sr P ty tx e i vy ys.length news w) (hn : ∀ (m : Nat) c, ys.flatten[m]? = some c → ∃ d, news[m]? = some d ∧ VRel G c d) (hys : ∀ x ∈ ys, x.length = sz) (h2 : ∀ c ∈ ys.flatten, c.one = true)
    (hg : cap < len + ys.length) (hfit : (len + ys.length) * bytes ≤ 2 ^ 47) :
    ∃ w' ds cap', More w w' ∧ w'.heap[w.heap.size]? = some (.cells ds e (0, 0)) ∧ cap' * sz ≤ ds.size ∧ (es ++ ys).length ≤ cap' ∧
      (Builtin.append_ #[ty, tx] rty #[.slice base len cap, vy]).run P w = .ok (.slice (some ⟨w.heap.size, 0, none⟩) (es ++ ys).length cap') w' ∧
      (∀ x ∈ es ++ ys, x.length = sz) ∧ (∀ c ∈ (es ++ ys).flatten, c.one = true) ∧ (∀ (m : Nat) c, (es ++ ys).flatten[m]? = some c → ∃ d, ds[m]? = some d ∧ VRel G c d) := by
  simp only [sizeT, Option.map_eq_some_iff] at hs
  obtain ⟨i1, hi, rfl⟩ := hs
  rw [hii] at hi
  cases hi
  have hi := hii
  simp only [bytesT, Option.map_eq_some_iff] at hby
  obtain ⟨i', hi', rfl⟩ := hby
  rw [hi] at hi'
  cases hi'
  simp only [zeroT, Option.bind_eq_some_iff] at hz
  obtain ⟨i', hi', zv, hzv, hz⟩ := hz
  rw [hi] at hi'
  cases hi'
  have hzr := (ofV_rel (G := G) hz).1.cells
  have hzs : zv.cells.size = i.size := by rw [hzr.1]; exact hzl
  have hle : len + ys.length ≤ 2 ^ 47 := by
    have : (len + ys.length) * 1 ≤ (len + ys.length) * i.bytes := Nat.mul_le_mul_left _ hb0
    omega
  have hrun := hsrc.grow rty zv base len cap olds hzv hold hg (by omega) (growslice_fits hg (by omega))
  have hge := grownCap_ge w (len + ys.length) cap e
  have hfl1 := flatten_len es hes
  have hfl2 := flatten_len ys hys
  refine ⟨_, _, grownCap w (len + ys.length) cap e, (More.drew w).trans (More.alloc _ _), heap_alloc_new w.drew _, ?_, by rw [List.length_append, hlen]; exact hge, by rw [List.length_append, hlen]; exact hrun, ?_, ?_, ?_⟩
  · simp only [Array.size_append, List.size_toArray, List.length_append, size_zeroCells, hzs, hol, hsrc.newsLen, ← Nat.add_mul]
    apply Nat.mul_le_mul_right
    omega
  · intro x hx
    rcases List.mem_append.1 hx with hx | hx
    · exact hes x hx
    · exact hys x hx
  · intro c hc
    rw [List.flatten_append] at hc
    rcases List.mem_append.1 hc with hc | hc
    · exact h1 c hc
    · exact h2 c hc
  · intro m c hm
    rw [List.flatten_append] at hm
    have hlt : m < (olds ++ news).length := by
      rcases Nat.lt_or_ge m (es.flatten ++ ys.flatten).length with h | h
      · rw [List.length_append] at h ⊢
        rw [hol, hsrc.newsLen]
        rw [hfl1, hfl2, hlen] at h
        exact h
      · rw [List.getElem?_eq_none h] at hm; cases hm
    rw [Array.getElem?_append_left (by simpa using hlt), List.getElem?_toArray]
    rcases Nat.lt_or_ge m es.flatten.length with hm1 | hm1
    · rw [List.getElem?_append_left hm1] at hm
      rw [List.getElem?_append_left (by rw [hol, ← hlen, ← hfl1]; exact hm1)]
      exact ho m c hm
    · rw [List.getElem?_append_right hm1] at hm
      have e1 : es.flatten.length = olds.length := by rw [hol, ← hlen, hfl1]
      rw [List.getElem?_append_right (by omega), ← e1]
      exact hn _ c hm


theorem app_grow2 {ty tx e : TypeId} {sz bytes : Nat} {z : AV} (rty : TypeId) (ht : P.underlying ty = some (.slice e)) (hs : sizeT P e = some sz) (hby : bytesT P e = some bytes) (hz : zeroT P e = some z) (hzl : z.cells.length = sz) (hb0 : 0 < bytes)
    {base : Option Addr} {len cap : Nat} {es ys : List (List AV)} {olds news : List Value} {vy : Value}
    (hold : (Builtin.firstCells sz len (.slice base len cap)).run P w.drew = .ok olds.toArray w.drew) (hol : olds.length = len * sz) (hlen : es.length = len)
    (ho : ∀ (m : Nat) c, es.flatten[m]? = some c → ∃ d, olds[m]? = some d ∧ VRel G c d) (hes : ∀ x ∈ es, x.length = sz) (h1 : ∀ c ∈ es.flatten, c.one = true)
    {i : TypeInfo} (hii : P.info? e = some i) (hsrc : Sr P ty tx e i vy ys.length news w) (hn : ∀ (m : Nat) c, ys.flatten[m]? = some c → ∃ d, news[m]? = some d ∧ VRel G c d) (hys : ∀ x ∈ ys, x.length = sz) (h2 : ∀ c ∈ ys.flatten, c.one = true)
    (hg : cap < len + ys.length) (hfit : (len + ys.length) * bytes ≤ 2 ^ 47) :
    ∃ w' ds cap', More w w' ∧ w'.heap[w.heap.size]? = some (.cells ds e (0, 0)) ∧ cap' * sz ≤ ds.size ∧ (es ++ ys).length ≤ cap' ∧
      (Builtin.append_ #[ty, tx] rty #[.slice base len cap, vy]).run P w = .ok (.slice (some ⟨w.heap.size, 0, none⟩) (es ++ ys).length cap') w' ∧
      (∀ x ∈ es ++ ys, x.length = sz) ∧ (∀ c ∈ (es ++ ys).flatten, c.one = true) ∧ (∀ (m : Nat) c, ((es ++ ys).flatten ++ (List.replicate (cap' - (es ++ ys).length) z.cells).flatten)[m]? = some c → ∃ d, ds[m]? = some d ∧ VRel G c d) := by
  simp only [sizeT, Option.map_eq_some_iff] at hs
  obtain ⟨i1, hi, rfl⟩ := hs
  rw [hii] at hi
  cases hi
  have hi := hii
  simp only [bytesT, Option.map_eq_some_iff] at hby
  obtain ⟨i', hi', rfl⟩ := hby
  rw [hi] at hi'
  cases hi'
  simp only [zeroT, Option.bind_eq_some_iff] at hz
  obtain ⟨i', hi', zv, hzv, hz⟩ := hz
  rw [hi] at hi'
  cases hi'
  have hzr := (ofV_rel (G := G) hz).1.cells
  have hzs : zv.cells.size = i.size := by rw [hzr.1]; exact hzl
  have hle : len + ys.length ≤ 2 ^ 47 := by
    have : (len + ys.length) * 1 ≤ (len + ys.length) * i.bytes := Nat.mul_le_mul_left _ hb0
    omega
  have hrun := hsrc.grow rty zv base len cap olds hzv hold hg (by omega) (growslice_fits hg (by omega))
  have hge := grownCap_ge w (len + ys.length) cap e
  have hfl1 := flatten_len es hes
  have hfl2 := flatten_len ys hys
  refine ⟨_, _, grownCap w (len + ys.length) cap e, (More.drew w).trans (More.alloc _ _), heap_alloc_new w.drew _, ?_, by rw [List.length_append, hlen]; exact hge, by rw [List.length_append, hlen]; exact hrun, ?_, ?_, ?_⟩
  · simp only [Array.size_append, List.size_toArray, List.length_append, size_zeroCells, hzs, hol, hsrc.newsLen, ← Nat.add_mul]
    apply Nat.mul_le_mul_right
    omega
  · intro x hx
    rcases List.mem_append.1 hx with hx | hx
    · exact hes x hx
    · exact hys x hx
  · intro c hc
    rw [List.flatten_append] at hc
    rcases List.mem_append.1 hc with hc | hc
    · exact h1 c hc
    · exact h2 c hc
  · intro m c hm
    rw [List.length_append, hlen] at hm
    have hbig : (es ++ ys).flatten.length = (olds ++ news).length := by
      rw [List.flatten_append, List.length_append, List.length_append, hol, hsrc.newsLen, hfl1, hfl2, hlen]
    rcases Nat.lt_or_ge m (es ++ ys).flatten.length with hlt | hge2
    · rw [List.getElem?_append_left hlt, List.flatten_append] at hm
      rw [hbig] at hlt
      rw [Array.getElem?_append_left (by rw [List.size_toArray]; exact hlt), List.getElem?_toArray]
      rcases Nat.lt_or_ge m es.flatten.length with hm1 | hm1
      · rw [List.getElem?_append_left hm1] at hm
        rw [List.getElem?_append_left (by rw [hol, ← hlen, ← hfl1]; exact hm1)]
        exact ho m c hm
      · rw [List.getElem?_append_right hm1] at hm
        have e1 : es.flatten.length = olds.length := by rw [hol, ← hlen, hfl1]
        rw [List.getElem?_append_right (by omega), ← e1]
        exact hn _ c hm
    · rw [List.getElem?_append_right hge2] at hm
      rw [Array.getElem?_append_right (by rw [List.size_toArray, ← hbig]; exact hge2)]
      obtain ⟨d, q1, q2⟩ := (zeros_rel (G := G) (ofV_rel (G := G) hz).1 (grownCap w (len + ys.length) cap e - (len + ys.length))).get hm
      refine ⟨d, ?_, q2⟩
      rw [List.size_toArray, ← hbig]
      exact q1


theorem VRel.olds (hi : Inv G h w) {own : Bool} {sz : Nat} {es : List (List AV)} {lim : Option Nat} {cv : Value} (hv : VRel G (.bs own sz es lim) cv) :
    ∃ (ad : Addr) (cap : Nat) (olds : List Value), cv = .slice (some ad) es.length cap ∧ es.length ≤ cap ∧ (∀ c, lim = some c → cap = c) ∧ (∀ e ∈ es, e.length = sz) ∧ (∀ c ∈ es.flatten, c.one = true) ∧ olds.length = es.length * sz ∧
      (Builtin.firstCells sz es.length (.slice (some ad) es.length cap)).run P w.drew = .ok olds.toArray w.drew ∧ (∀ (m : Nat) c, es.flatten[m]? = some c → ∃ d, olds[m]? = some d ∧ VRel G c d) ∧ (ad = ⟨ad.block, ad.off, none⟩ ∨ (cap = 0 ∧ own = false)) := by
  cases hv with
  | @bz _ _ ad hz =>
    exact ⟨ad, 0, [], rfl, Nat.le_refl _, fun c hc => (hz c hc).symm, by simp, by simp, by simp, run_firstCells_some w.drew sz 0 ad 0 0 [] (by simp) (fun j u hj => by simp at hj), fun m c hm => by simp at hm, .inr ⟨rfl, rfl⟩⟩
  | @bs _ _ _ _ b o cap cv h1 h01 h2 h3 h4 h5 =>
    obtain ⟨olds, e1, e2⟩ := choose_cells (cs := es.flatten) (R := fun m c d => d = cv m ∧ VRel G c d) (fun m c hm => ⟨cv m, rfl, h3 m c hm⟩)
    have hlen := flatten_len es h1
    refine ⟨⟨b, o, none⟩, cap, olds, rfl, h4, h5, h1, h01, by rw [e1, hlen], ?_, fun m c hm => by obtain ⟨d, q1, _, q2⟩ := e2 m c hm; exact ⟨d, q1, q2⟩, .inl rfl⟩
    refine run_firstCells_some w.drew sz es.length ⟨b, o, none⟩ es.length cap olds (by rw [e1, hlen]) ?_
    intro j u hj
    have hlt : j < es.flatten.length := by
      rcases Nat.lt_or_ge j olds.length with h | h
      · omega
      · rw [List.getElem?_eq_none h] at hj; cases hj
    obtain ⟨d, q1, q2, _⟩ := e2 j _ (List.getElem?_eq_getElem hlt)
    rw [q1] at hj
    cases hj
    rw [add_at, q2]
    have := hi.pub _ _ _ (h2 j _ (List.getElem?_eq_getElem hlt))
    simpa using this


theorem app_inplace (hf : FRel G w n t a) (hi : Inv G h w) {o : Oper} {s : Nat} {dst : Option Nat} (hd : ∀ d, dst = some d → d < n) {sz : Nat} {es ys : List (List AV)} {lim lim' : Option Nat} {b cap : Nat} {news : List Value}
    (hts : t s = .bs true sz es lim) (has : a.eval (.tmp s) = .slice (some ⟨b, 0, none⟩) es.length cap) (hl' : ∀ c, lim' = some c → cap = c)
    (hnl : news.length = ys.length * sz) (hn : ∀ (m : Nat) c, ys.flatten[m]? = some c → ∃ d, news[m]? = some d ∧ VRel G c d) (hys : ∀ x ∈ ys, x.length = sz) (h2 : ∀ c ∈ ys.flatten, c.one = true)
    (hroom : es.length + ys.length ≤ cap)
    (hr : (execOp a.eval o).run P w = .ok (.value (.slice (some ⟨b, 0, none⟩) (es.length + ys.length) cap)) (w.setCells b (es.length * sz) news)) :
    OpOk P G h w n a o dst (.bs true sz (es ++ ys) lim') (strip t (.t s)) h := by
  have hrel : VRel G (t s) (a.eval (.tmp s)) := hf.val s
  have hown := hf.own s
  rw [hts] at hrel hown
  have has' : a.tmps.getD s Go.undef = .slice (some ⟨b, 0, none⟩) es.length cap := has
  rw [has'] at hown
  rw [has] at hrel
  obtain ⟨g1, g2, ds, e, fz, g3, g4, g5, g6⟩ := hown sz es lim rfl ⟨b, 0, none⟩ es.length cap rfl
  simp only [Nat.zero_add] at g2 g5
  let l' : Loc := match dst with | some d => .slot d | none => .ret
  have hfit : es.length * sz + news.length ≤ ds.size := by
    rw [hnl, ← Nat.add_mul]
    exact Nat.le_trans (Nat.mul_le_mul_right _ hroom) g5
  have hpub := grow_pub (news := news) (b := b) (k := es.length * sz) (G := G) g2 (.slot s) l'
  obtain ⟨o1, o2, o3, o4, o5⟩ := setCells_other b news (es.length * sz) w
  obtain ⟨ds', e1, e2, e3⟩ := setCells_at b news (es.length * sz) w ds e fz g3 hfit
  have hflat : es.flatten.length = es.length * sz ∧ (∀ e ∈ es, e.length = sz) := by
    cases hrel with
    | bs cv h1 h01 h2 h3 h4 h5 => exact ⟨flatten_len es h1, h1⟩

  have hv : VRel (G.grow b (es.length * sz) news (.slot s) l') (.bs true sz (es ++ ys) lim') (.slice (some ⟨b, 0, none⟩) (es.length + ys.length) cap) := by
    cases hrel with
    | @bs _ _ _ _ _ _ _ cv h1 h01 q2 q3 h4 h5 =>
      have hlen : (es ++ ys).length = es.length + ys.length := List.length_append
      rw [← hlen]
      obtain ⟨vs, w1, w2⟩ := choose_cells (cs := (es ++ ys).flatten) (R := fun m c d => (G.grow b (es.length * sz) news (.slot s) l').pub b (0 + m) = some d ∧ VRel G c d) (by
        intro m c hm
        rw [List.flatten_append] at hm
        rcases Nat.lt_or_ge m es.flatten.length with hm1 | hm1
        · rw [List.getElem?_append_left hm1] at hm
          exact ⟨cv m, hpub _ _ _ (q2 m c hm), q3 m c hm⟩
        · rw [List.getElem?_append_right hm1] at hm
          obtain ⟨d, r1, r2⟩ := hn _ c hm
          refine ⟨d, ?_, r2⟩
          show (if b = b ∧ es.length * sz ≤ 0 + m ∧ 0 + m < es.length * sz + news.length then news[0 + m - es.length * sz]? else G.pub b (0 + m)) = some d
          have hlt : m - es.flatten.length < news.length := by
            rcases Nat.lt_or_ge (m - es.flatten.length) news.length with h | h
            · exact h
            · rw [List.getElem?_eq_none h] at r1; cases r1
          rw [if_pos ⟨rfl, by omega, by omega⟩]
          have : 0 + m - es.length * sz = m - es.flatten.length := by omega
          rw [this]
          exact r1)
      refine .bs (fun m => vs.getD m Go.undef) ?_ ?_ ?_ ?_ (by rw [hlen]; exact hroom) hl'
      · intro x hx
        rcases List.mem_append.1 hx with hx | hx
        · exact h1 x hx
        · exact hys x hx
      · intro c hc
        rw [List.flatten_append] at hc
        rcases List.mem_append.1 hc with hc | hc
        · exact h01 c hc
        · exact h2 c hc
      · intro m c hm
        obtain ⟨d, r1, r2, r3⟩ := w2 m c hm
        rw [r2]
        simp [List.getD, r1]
      · intro m c hm
        obtain ⟨d, r1, r2, r3⟩ := w2 m c hm
        have : vs.getD m Go.undef = d := by simp [List.getD, r1]
        rw [this]
        exact r3.mono hpub
  refine ⟨_, _, _, G.grow b (es.length * sz) news (.slot s) l', hr, rfl, ?_, hi.grow g3 hfit g1 g2, .grow hi g1 g2⟩
  refine ⟨by rw [put_size, hf.size], by rw [put_defers, hf.defers], ?_, ?_⟩
  · intro i
    cases dst with
    | none => exact ((hf.strip (.t s)).val i).mono hpub
    | some d =>
      simp only [putd, Act.put]
      rw [getD_set _ _ _ _ _ (by rw [hf.size]; exact hd d rfl)]
      unfold upd
      split
      · exact hv
      · exact ((hf.strip (.t s)).val i).mono hpub
  · have other : ∀ i, OwnOk (G.grow b (es.length * sz) news (.slot s) l') (w.setCells b (es.length * sz) news) (.slot i) (strip t (.t s) i) (a.tmps.getD i Go.undef) := by
      intro i
      by_cases ei : i = s
      · subst ei
        simp only [Am.strip, upd, if_true]
        exact .dis
      · exact ((hf.strip (.t s)).own i).grow g1 (by simpa using ei)
    intro i
    cases dst with
    | none => exact other i
    | some d =>
      simp only [putd, Act.put]
      rw [getD_set _ _ _ _ _ (by rw [hf.size]; exact hd d rfl)]
      by_cases ei : i = d
      · subst ei
        simp only [upd, if_true]
        intro sz2 es2 lim2 q1 ad len2 cap2 q2
        cases q1
        cases q2
        refine ⟨?_, ?_, ds', e, fz, e1, by rw [e2]; exact g4, by rw [e2]; simpa using g5, rfl⟩
        · show (if G.own b = some (.slot s) then some l' else G.own b) = some (.slot i)
          rw [if_pos g1]
        · intro j hj
          show (if b = b ∧ es.length * sz ≤ j ∧ j < es.length * sz + news.length then news[j - es.length * sz]? else G.pub b j) = none
          have hj : 0 + (es.length + ys.length) * sz ≤ j := hj
          rw [Nat.add_mul] at hj
          rw [if_neg (by rw [hnl]; omega)]
          exact g2 j (by omega)
      · simp only [upd, if_neg ei]
        exact other i

theorem strip_val (t : Nat → AV) (y : Opd) (h : (y.ev t).isOwn = false) (h2 : ∀ cs, y.ev t ≠ .ag cs) (h3 : ∀ cs, y.ev t ≠ .tu cs) : strip t y = t := by
  cases y with
  | c v => rfl
  | t s =>
    have : (t s).dis = t s := by
      have h : (t s).isOwn = false := h
      cases hts : t s with
      | bs own sz es lim => rw [hts] at h; simp [AV.isOwn] at h; subst h; rfl
      | ag cs => exact absurd hts (h2 cs)
      | tu cs => exact absurd hts (h3 cs)
      | _ => rfl
    simp only [Am.strip, this]
    exact upd_ext t s

theorem ok_app_core (hf : FRel G w n t a) (hi : Inv G h w) {o : Oper} {c : Call} {ty tx e : TypeId} {x y : Operand} {x' : Opd} {sz bytes : Nat} {z : AV} {dst : Option Nat} {v : AV} {t' : Nat → AV} {h' : Heap} {obj : Bool} {ys : List (List AV)} {news : List Value} {i : TypeInfo}
    (hop : o.op = .call c) (hb : c.callee = .builtin .append) (hargs : c.args.toList = [x, y]) (hty : c.argTypes.toList = [ty, tx]) (hx : cOpd x = some x')
    (ht : P.underlying ty = some (.slice e))
    (hs : sizeT P e = some sz) (hby : bytesT P e = some bytes) (hz : zeroT P e = some z) (hzl : z.cells.length = sz) (hb0 : 0 < bytes) (hd : ∀ d, dst = some d → d < n)
    (hii : P.info? e = some i) (hisz : i.size = sz) (hsrc : Sr P ty tx e i (a.eval y) ys.length news w) (hn : ∀ (m : Nat) c, ys.flatten[m]? = some c → ∃ d, news[m]? = some d ∧ VRel G c d) (hyl : ∀ x ∈ ys, x.length = sz) (hy1 : ∀ c ∈ ys.flatten, c.one = true)
    (hv : appW obj sz bytes z.cells t h x' ys = some (.val v t' h')) : OpOk P G h w n a o dst v t' h' := by
  have hrx := opd_rel hf hx
  unfold appW at hv
  have hnl : news.length = ys.length * sz := by rw [hsrc.newsLen, hisz]
  split at hv
  · rename_i hxn
    rw [hxn] at hrx
    have e2 := hrx.sc_inv.1
    split at hv
    · rename_i hl0
      simp at hv
      obtain ⟨rfl, rfl, rfl⟩ := hv
      refine .plain hf hi hd (run_app hop hb hargs hty (r := .slice none 0 0) ?_) (.sc rfl) rfl
      rw [e2]
      exact hsrc.nothing hl0 _ _ _ _ (Nat.le_refl _)
    · split at hv
      · simp at hv
      · split at hv
        · simp at hv
        · rename_i hl0 hbig hobj
          simp at hv
          obtain ⟨rfl, rfl, rfl⟩ := hv
          obtain ⟨w', ds, cap', q1, q2, q3, q4, q5, q6, q7, q8⟩ := app_grow (P := P) (G := G) (w := w) o.type ht hs hby hz hzl hb0 (base := none) (len := 0) (cap := 0) (es := []) (olds := [])
            (run_firstCells_none w.drew sz 0 0 0) (by simp) rfl (fun m c hm => by simp at hm) (by simp) (by simp) hii hsrc hn hyl hy1 (by omega) (by rw [Nat.zero_add]; omega)
          simp only [List.nil_append] at q4 q5 q6 q7 q8
          exact .fresh hf hi hd q1 q2 (unfrozen_zero _) q3 (run_app hop hb hargs hty (by rw [e2]; exact q5)) q6 q7 q8 q4 (by simp)
  · rename_i own sz' es lim hxb
    rw [hxb] at hrx
    split at hv
    · simp at hv
    · rename_i hc
      obtain rfl : sz' = sz := by omega
      have hbig : (es.length + ys.length) * bytes ≤ 2 ^ 47 := by omega
      obtain ⟨ad, cap, olds, f1, f2, f3, f4, f5, f6, f7, f8, f9⟩ := hrx.olds (P := P) hi
      have grow := fun (hg : cap < es.length + ys.length) => app_grow (P := P) (G := G) (w := w) o.type ht hs hby hz hzl hb0 (base := some ad) (len := es.length) (cap := cap) (es := es) (olds := olds)
            f7 f6 rfl f8 f4 f5 hii hsrc hn hyl hy1 hg hbig
      have roomz : ys.length = 0 → (execOp a.eval o).run P w = .ok (.value (a.eval x)) w := by
        intro hl0
        rw [f1]
        refine run_app hop hb hargs hty ?_
        rw [f1]
        exact hsrc.nothing hl0 _ _ _ _ f2
      obtain ⟨b, o', hadeq⟩ : ∃ b o', own = true → ad = ⟨b, o', none⟩ := ⟨ad.block, ad.off, fun ho => by
        rcases f9 with f9 | ⟨_, f9⟩
        · exact f9
        · rw [ho] at f9; cases f9⟩
      have room : own = true → es.length + ys.length ≤ cap → (∀ j, j < news.length → (w.cell? ⟨b, o' + es.length * sz' + j, none⟩).isSome = true) → (∀ j, j < news.length → w.frozen? ⟨b, o' + es.length * sz' + j, none⟩ = false) →
          (execOp a.eval o).run P w = .ok (.value (.slice (some ⟨b, o', none⟩) (es.length + ys.length) cap)) (w.setCells b (o' + es.length * sz') news) := by
        intro ho hroom c1 c2
        have := hadeq ho
        subst this
        subst hisz
        exact run_app hop hb hargs hty (by rw [f1]; exact hsrc.room o.type b o' es.length cap hroom c1 c2)
      split at hv
      · rename_i hl0
        simp at hv
        obtain ⟨rfl, rfl, rfl⟩ := hv
        have := OpOk.take (P := P) (dst := dst) hf hi hx hd (o := o) (roomz hl0)
        rw [hxb] at this
        exact this
      · rename_i hl0
        have inplace : own = true → ∀ lim', (∀ c, lim' = some c → cap = c) → es.length + ys.length ≤ cap → OpOk P G h w n a o dst (.bs true sz' (es ++ ys) lim') (strip t x') h := by
          intro ho lim' hl' hroom
          have hade := hadeq ho
          subst hade
          subst ho
          have room := room rfl
          obtain ⟨s, rfl, rfl⟩ := opd_own hf hx (by rw [hxb]; rfl)
          have hown := hf.own s
          have hts : t s = .bs true sz' es lim := hxb
          rw [hts] at hown
          have has' : a.tmps.getD s Go.undef = .slice (some ⟨b, o', none⟩) es.length cap := f1
          rw [has'] at hown
          obtain ⟨g1, g2, ds, e0, fz, g3, g4, g5, g6⟩ := hown _ _ _ rfl _ _ _ rfl
          have : o' = 0 := g6
          subst this
          simp only [Nat.zero_add] at g5 room
          have hfit : es.length * sz' + news.length ≤ ds.size := by
            rw [hnl, ← Nat.add_mul]
            exact Nat.le_trans (Nat.mul_le_mul_right _ hroom) g5
          refine app_inplace hf hi hd hts f1 hl' hnl hn hyl hy1 hroom (room hroom ?_ ?_)
          · intro j hj
            rw [cell_of_heap g3]
            simp
            omega
          · intro j hj
            have := g4.get (es.length * sz' + j) (by omega)
            simp only [World.frozen?, g3]
            simp
            omega
        have fresh : cap < es.length + ys.length → ∀ lim' : Option Nat, lim' = none → OpOk P G h w n a o dst (.bs true sz' (es ++ ys) lim') (strip t x') h := by
          intro hg lim' hl'
          obtain ⟨w', ds, cap', q1, q2, q3, q4, q5, q6, q7, q8⟩ := grow hg
          exact .fresh (hf.strip x') hi hd q1 q2 (unfrozen_zero _) q3 (run_app hop hb hargs hty (by rw [f1]; exact q5)) q6 q7 q8 q4 (by rw [hl']; simp)
        split at hv
        · rename_i cc
          have hcc := f3 cc rfl
          split at hv
          · rename_i hlt
            split at hv
            · simp at hv
            · simp at hv
              obtain ⟨rfl, rfl, rfl⟩ := hv
              exact fresh (by omega) none rfl
          · rename_i hlt
            split at hv
            · rename_i ho
              simp at hv
              obtain ⟨rfl, rfl, rfl⟩ := hv
              simp at ho
              exact inplace ho.1 (some cc) (by intro c hc; cases hc; exact hcc) (by omega)
            · simp at hv
        · split at hv
          · rename_i ho
            simp at hv
            obtain ⟨rfl, rfl, rfl⟩ := hv
            simp at ho
            rcases Nat.lt_or_ge cap (es.length + ys.length) with hg | hg
            · exact fresh hg none rfl
            · exact inplace ho.1 none (by simp) hg
          · simp at hv
  · rename_i ob c0 sz' n0 lim hxb
    rw [hxb] at hrx
    generalize hcx : a.eval x = cx at hrx
    cases hrx with
    | @rs _ _ _ _ _ ad cap g1 g2 g3 =>
    split at hv
    · simp at hv
    · rename_i hc
      obtain rfl : sz' = sz := by
        by_cases h : sz' = sz
        · exact h
        · exact absurd (.inl h) hc
      split at hv
      · rename_i hl0
        simp at hv
        obtain ⟨rfl, rfl, rfl⟩ := hv
        refine .plain hf hi hd (run_app hop hb hargs hty (r := .slice (some ad) n0 cap) ?_) (.rs g1 g2 g3) rfl
        rw [hcx]
        exact hsrc.nothing hl0 _ _ _ _ g2
      · rename_i hl0
        split at hv
        · rename_i cap' cs hcs
          have hcap := g3 cap' rfl
          subst hcap
          split at hv
          · rename_i hcond
            split at hv
            · rename_i hroom
              simp only [Option.some.injEq, AR.val.injEq] at hv
              obtain ⟨rfl, rfl, rfl⟩ := hv
              obtain rfl : ad = ⟨ob, c0, none⟩ := by
                rcases g1 with g1 | ⟨_, g1⟩
                · exact g1
                · omega
              obtain ⟨h1, h2, ds, e', fz, h3, h4, h5, h50, h6⟩ := hi.arr ob cs hcs
              have hfl := flatten_len ys hyl
              have hfit : c0 + n0 * sz' + ys.length * sz' ≤ cs.length := by
                have := Nat.mul_le_mul_right sz' hroom
                rw [Nat.add_mul] at this
                omega
              have hrun := hsrc.room o.type ob c0 n0 cap hroom (fun j hj => by
                rw [cell_of_heap h3, hisz]
                simp
                omega) (fun j hj => by
                have := h4.un.get (c0 + n0 * sz' + j) (by omega)
                simp only [World.frozen?, h3, hisz]
                simp
                omega)
              rw [hisz] at hrun
              have hst := hi.store (la := .ret) (l := .ret) (by simp) (c := c0 + n0 * sz') (vs := ys.flatten.map AV.disc) (us := news) hcs (by rw [List.length_map, hfl]; omega) (by rw [List.length_map, hfl, hnl])
                (fun m v hm => by
                  rw [List.getElem?_map, Option.map_eq_some_iff] at hm
                  obtain ⟨u, hu, rfl⟩ := hm
                  refine ⟨by rw [disc_one]; exact hy1 u (List.mem_of_getElem? hu), ?_⟩
                  obtain ⟨d, q1, q2⟩ := hn m u hu
                  exact ⟨d, q1, q2.disc, .of_not (disc_own u)⟩)
              have hkp := Kept.store (G := G) (h := h) (w := w) (la := .ret) (l := .ret) (cs := cs) (o := ob) (c := c0 + n0 * sz') (us := news) (by rw [hcs]; simp) (.arr (setRange cs (c0 + n0 * sz') (ys.flatten.map AV.disc)))
              rw [moveTo_self] at hst hkp
              refine ⟨_, .slice (some ⟨ob, c0, none⟩) (n0 + ys.length) cap, _, G, run_app hop hb hargs hty (by rw [hcx]; exact hrun), rfl, ?_, hst, hkp⟩
              exact (hf.move (fun _ _ _ h => h) (fun i v cv ho => ho.setCells h2)).put dst hd (.rs (.inl rfl) hroom (by simp)) (fun _ _ => .of_not rfl)
            · split at hv <;> simp at hv
          · simp at hv
        · simp at hv
  · simp at hv

theorem ok_app (hf : FRel G w n t a) (hi : Inv G h w) {o : Oper} {c : Call} {ty tx e : TypeId} {x y : Operand} {x' y' : Opd} {sz bytes : Nat} {z : AV} {dst : Option Nat} {v : AV} {t' : Nat → AV} {h' : Heap} {obj : Bool}
    (hop : o.op = .call c) (hb : c.callee = .builtin .append) (hargs : c.args.toList = [x, y]) (hty : c.argTypes.toList = [ty, tx]) (hx : cOpd x = some x') (hy : cOpd y = some y')
    (ht : P.underlying ty = some (.slice e)) (hk : (∃ e', P.underlying tx = some (.slice e')) ∨ P.underlying tx = some .string)
    (hs : sizeT P e = some sz) (hby : bytesT P e = some bytes) (hz : zeroT P e = some z) (hzl : z.cells.length = sz) (hb0 : 0 < bytes) (hd : ∀ d, dst = some d → d < n)
    (hv : aex P (.app obj sz bytes z.cells x' y') ⟨t, h⟩ = some (.val v t' h')) : OpOk P G h w n a o dst v t' h' := by
  have hry := opd_rel hf hy
  simp only [aex, Option.bind_eq_bind, Option.bind_eq_some_iff] at hv
  obtain ⟨ys, hys, hv⟩ := hv
  obtain ⟨news, hsrc, hn, hyl, hy1⟩ := elems_src (tx := tx) hi hk hry hys
  obtain ⟨i, hii, hisz⟩ : ∃ i, P.info? e = some i ∧ i.size = sz := by simpa [sizeT] using hs
  subst hisz
  exact ok_app_core hf hi hop hb hargs hty hx ht hs hby hz hzl hb0 hd hii rfl (.ofSrc ht hii hsrc) hn hyl hy1 hv

theorem new_obj (hf : FRel G w n t a) (hi : Inv G h w) {o : Oper} {dst : Option Nat} (hd : ∀ d, dst = some d → d < n) {w' : World} {ds : Array Value} {e : TypeId} {sz cap : Nat} {es : List (List AV)}
    (hm : More w w') (hh : w'.heap[w.heap.size]? = some (.cells ds e (0, 0))) (hcap : cap * sz ≤ ds.size)
    (hr : (execOp a.eval o).run P w = .ok (.value (.slice (some ⟨w.heap.size, 0, none⟩) es.length cap)) w')
    (hl : ∀ x ∈ es, x.length = sz) (hone : ∀ c ∈ es.flatten, c.one = true) (hc : ∀ (m : Nat) c, es.flatten[m]? = some c → ∃ d, ds[m]? = some d ∧ VRel G c d) (hcap2 : es.length ≤ cap)
    {k : Nat → AV} (hk : k = fun o => .rs o 0 sz es.length none := by rfl) : NewOk P G h w n a o dst k (.arr (es.flatten.map AV.disc)) t := by
  subst hk
  refine .arr hf hi hd hm hr hh (unmarked_zero _) ?_ ?_ ?_ ?_ (.rs (.inl rfl) hcap2 (by simp)) rfl
  · rw [List.length_map, flatten_len es hl]
    exact Nat.le_trans (Nat.mul_le_mul_right _ hcap2) hcap
  · intro c hc
    obtain ⟨c', h1, rfl⟩ := List.mem_map.1 hc
    rw [disc_one]
    exact hone c' h1
  · intro m c hm
    rw [List.getElem?_map, Option.map_eq_some_iff] at hm
    obtain ⟨c', h1, rfl⟩ := hm
    obtain ⟨d, h2, h3⟩ := hc m c' h1
    exact ⟨d, h2, h3.disc⟩
  · intro c hc
    obtain ⟨c', h1, rfl⟩ := List.mem_map.1 hc
    exact disc_own c'


def NewcOk (P : Program) (G : Gh) (h : Heap) (w : World) (n : Nat) (a : Act) (o : Oper) (dst : Option Nat) (lo : Nat) (k : Nat → Nat → AV) (ob : Nat → AObj) (t' : Nat → AV) : Prop :=
  ∃ nx cv w' G' b c, (execOp a.eval o).run P w = .ok nx w' ∧ nextVal nx = some cv ∧ h b = none ∧ lo ≤ c ∧ FRel G' w' n (putd t' dst (k b c)) (a.put dst cv) ∧ Inv G' (upd h b (some (ob c))) w' ∧ Kept G h w G' (upd h b (some (ob c))) w'

theorem grown_obj (hf : FRel G w n t a) (hi : Inv G h w) {o : Oper} {dst : Option Nat} (hd : ∀ d, dst = some d → d < n) {w' : World} {ds : Array Value} {e : TypeId} {sz cap : Nat} {es : List (List AV)} {z : List AV}
    (hm : More w w') (hh : w'.heap[w.heap.size]? = some (.cells ds e (0, 0))) (hcap : cap * sz ≤ ds.size) (hzl : z.length = sz) (hz1 : ∀ c ∈ z, c.one = true) (hzo : ∀ c ∈ z, c.isOwn = false)
    (hr : (execOp a.eval o).run P w = .ok (.value (.slice (some ⟨w.heap.size, 0, none⟩) es.length cap)) w')
    (hl : ∀ x ∈ es, x.length = sz) (hone : ∀ c ∈ es.flatten, c.one = true) (hc : ∀ (m : Nat) c, (es.flatten ++ (List.replicate (cap - es.length) z).flatten)[m]? = some c → ∃ d, ds[m]? = some d ∧ VRel G c d) (hcap2 : es.length ≤ cap) :
    ∃ k ob, grownO sz z es.flatten es.length t = .newc es.length k ob t ∧ NewcOk P G h w n a o dst es.length k ob t := by
  refine ⟨_, _, rfl, ?_⟩
  have hfl := flatten_len es hl
  have hrl := replicate_len z (cap - es.length)
  have hlen : (es.flatten.map AV.disc ++ (List.replicate (cap - es.length) z).flatten).length = cap * sz := by
    rw [List.length_append, List.length_map, hfl, hrl, hzl, ← Nat.add_mul]
    congr 1
    omega
  have hmem : ∀ c ∈ (List.replicate (cap - es.length) z).flatten, c ∈ z := by
    intro c hc
    obtain ⟨l, q1, q2⟩ := List.mem_flatten.1 hc
    rw [(List.mem_replicate.1 q1).2] at q2
    exact q2
  have hinv : NewOk P G h w n a o dst (fun o => .rs o 0 sz es.length (some cap)) (.arr (es.flatten.map AV.disc ++ (List.replicate (cap - es.length) z).flatten)) t := by
    refine .arr hf hi hd hm hr hh (unmarked_zero _) ?_ ?_ ?_ ?_ (.rs (.inl rfl) hcap2 (by simp)) rfl
    · rw [hlen]; exact hcap
    · intro c hc
      rcases List.mem_append.1 hc with hc | hc
      · obtain ⟨c', h1, rfl⟩ := List.mem_map.1 hc
        rw [disc_one]
        exact hone c' h1
      · exact hz1 c (hmem c hc)
    · intro m c hm
      rcases Nat.lt_or_ge m es.flatten.length with hlt | hge
      · rw [List.getElem?_append_left (by rw [List.length_map]; exact hlt), List.getElem?_map, Option.map_eq_some_iff] at hm
        obtain ⟨c', h1, rfl⟩ := hm
        obtain ⟨d, h2, h3⟩ := hc m c' (by rw [List.getElem?_append_left hlt]; exact h1)
        exact ⟨d, h2, h3.disc⟩
      · rw [List.getElem?_append_right (by rw [List.length_map]; exact hge), List.length_map] at hm
        exact hc m c (by rw [List.getElem?_append_right hge]; exact hm)
    · intro c hc
      rcases List.mem_append.1 hc with hc | hc
      · obtain ⟨c', h1, rfl⟩ := List.mem_map.1 hc
        exact disc_own c'
      · exact hzo c (hmem c hc)
  obtain ⟨nx, cv, w2, G', b, r1, r2, r3, r4, r5, r6⟩ := hinv
  exact ⟨nx, cv, w2, G', b, cap, r1, r2, r3, hcap2, r4, r5, r6⟩

theorem ok_app_newcore (hf : FRel G w n t a) (hi : Inv G h w) {o : Oper} {c : Call} {ty tx e : TypeId} {x y : Operand} {x' : Opd} {sz bytes : Nat} {z : AV} {dst : Option Nat} {lo : Nat} {k : Nat → Nat → AV} {ob : Nat → AObj} {t' : Nat → AV} {obj : Bool} {ys : List (List AV)} {news : List Value} {i : TypeInfo}
    (hop : o.op = .call c) (hb : c.callee = .builtin .append) (hargs : c.args.toList = [x, y]) (hty : c.argTypes.toList = [ty, tx]) (hx : cOpd x = some x')
    (ht : P.underlying ty = some (.slice e))
    (hs : sizeT P e = some sz) (hby : bytesT P e = some bytes) (hz : zeroT P e = some z) (hzl : z.cells.length = sz) (hb0 : 0 < bytes) (hd : ∀ d, dst = some d → d < n)
    (hii : P.info? e = some i) (hisz : i.size = sz) (hsr : Sr P ty tx e i (a.eval y) ys.length news w) (hn : ∀ (m : Nat) c, ys.flatten[m]? = some c → ∃ d, news[m]? = some d ∧ VRel G c d) (hyl : ∀ x ∈ ys, x.length = sz) (hy1 : ∀ c ∈ ys.flatten, c.one = true)
    (hv : appW obj sz bytes z.cells t h x' ys = some (.newc lo k ob t')) : NewcOk P G h w n a o dst lo k ob t' := by
  have hrx := opd_rel hf hx
  obtain ⟨zv, _, _, _, hz1⟩ := zero_rel (P := P) (G := G) (w := w) hz
  have hzo := zero_cells_own hz
  unfold appW at hv
  split at hv
  · rename_i hxn
    rw [hxn] at hrx
    have e2 := hrx.sc_inv.1
    split at hv
    · simp at hv
    · split at hv
      · simp at hv
      · split at hv
        · rename_i hl0 hbig hobj
          simp only [Option.some.injEq] at hv
          obtain ⟨w', ds, cap', q1, q2, q3, q4, q5, q6, q7, q8⟩ := app_grow2 (P := P) (G := G) (w := w) o.type ht hs hby hz hzl hb0 (base := none) (len := 0) (cap := 0) (es := []) (olds := [])
            (run_firstCells_none w.drew sz 0 0 0) (by simp) rfl (fun m c hm => by simp at hm) (by simp) (by simp) hii hsr hn hyl hy1 (by omega) (by rw [Nat.zero_add]; omega)
          simp only [List.nil_append] at q4 q5 q6 q7 q8
          obtain ⟨k2, ob2, r1, r2⟩ := grown_obj hf hi hd q1 q2 q3 hzl hz1 hzo (run_app hop hb hargs hty (by rw [e2]; exact q5)) q6 q7 q8 q4
          rw [r1] at hv
          cases hv
          exact r2
        · simp at hv
  · rename_i own sz' es lim hxb
    rw [hxb] at hrx
    split at hv
    · simp at hv
    · rename_i hc
      obtain rfl : sz' = sz := by omega
      have hbig : (es.length + ys.length) * bytes ≤ 2 ^ 47 := by omega
      obtain ⟨ad, cap, olds, f1, f2, f3, f4, f5, f6, f7, f8, f9⟩ := hrx.olds (P := P) hi
      have grow := fun (hg : cap < es.length + ys.length) => app_grow2 (P := P) (G := G) (w := w) o.type ht hs hby hz hzl hb0 (base := some ad) (len := es.length) (cap := cap) (es := es) (olds := olds)
            f7 f6 rfl f8 f4 f5 hii hsr hn hyl hy1 hg hbig
      split at hv
      · simp at hv
      · split at hv
        · rename_i cc
          have hcc := f3 cc rfl
          split at hv
          · rename_i hlt
            split at hv
            · simp only [Option.some.injEq] at hv
              obtain ⟨w', ds, cap', q1, q2, q3, q4, q5, q6, q7, q8⟩ := grow (by omega)
              obtain ⟨k2, ob2, r1, r2⟩ := grown_obj (hf.strip x') hi hd q1 q2 q3 hzl hz1 hzo (run_app hop hb hargs hty (by rw [f1]; exact q5)) q6 q7 q8 q4
              rw [List.length_append, List.flatten_append] at r1
              rw [List.length_append] at r2
              rw [r1] at hv
              cases hv
              exact r2
            · simp at hv
          · split at hv <;> simp at hv
        · split at hv <;> simp at hv
  · rename_i o1 c0 sz' n0 lim hxb
    rw [hxb] at hrx
    generalize hcx : a.eval x = cx at hrx
    cases hrx with
    | @rs _ _ _ _ _ ad cap g1 g2 g3 =>
    split at hv
    · simp at hv
    · rename_i hc
      obtain rfl : sz' = sz := by
        by_cases h : sz' = sz
        · exact h
        · exact absurd (.inl h) hc
      split at hv
      · simp at hv
      · rename_i hl0
        split at hv
        · rename_i cap' cs hcs
          have hcap := g3 cap' rfl
          subst hcap
          split at hv
          · rename_i hcond
            split at hv
            · simp at hv
            · rename_i hroom
              split at hv
              · simp at hv
              · rename_i hbig
                simp only [Option.some.injEq] at hv
                have hle : n0 * sz' ≤ (cs.drop c0).length := by
                  have := Nat.mul_le_mul_right sz' hcond.2
                  rw [List.length_drop]
                  omega
                obtain ⟨hch, hchl, hchw⟩ := chunks_flatten sz' n0 (cs.drop c0) hle
                obtain ⟨h1, h2, ds, e', fz, h3, h4, h5, h50, h6⟩ := hi.arr o1 cs hcs
                have hget : ∀ (m : Nat) c, (chunks sz' n0 (cs.drop c0)).flatten[m]? = some c → ∃ d, ds[c0 + m]? = some d ∧ VRel G c d := by
                  intro m c hm
                  rw [hch] at hm
                  have hlt : m < n0 * sz' := by
                    rcases Nat.lt_or_ge m (n0 * sz') with q | q
                    · exact q
                    · rw [List.getElem?_eq_none (by rw [List.length_take]; omega)] at hm; cases hm
                  rw [List.getElem?_take_of_lt hlt, List.getElem?_drop] at hm
                  obtain ⟨cv, q1, q2, _⟩ := h6 _ c hm
                  exact ⟨cv, q1, q2⟩
                obtain ⟨olds, u1, u2⟩ := choose_cells (cs := (chunks sz' n0 (cs.drop c0)).flatten) (R := fun m c d => ds[c0 + m]? = some d ∧ VRel G c d) (fun m c hm => hget m c hm)
                have hol : olds.length = n0 * sz' := by rw [u1, hch, List.length_take]; omega
                have hold : (Builtin.firstCells sz' n0 (.slice (some ad) n0 cap)).run P w.drew = .ok olds.toArray w.drew := by
                  refine run_firstCells_some w.drew sz' n0 ad n0 cap olds hol ?_
                  intro j u hj
                  rcases g1 with rfl | ⟨q1, q2⟩
                  · have hlt : j < (chunks sz' n0 (cs.drop c0)).flatten.length := by
                      rcases Nat.lt_or_ge j olds.length with h | h
                      · omega
                      · rw [List.getElem?_eq_none h] at hj; cases hj
                    obtain ⟨d, r1, r2, _⟩ := u2 j _ (List.getElem?_eq_getElem hlt)
                    rw [r1] at hj
                    cases hj
                    rw [add_at]
                    show w.cell? _ = _
                    rw [cell_of_heap h3]
                    exact r2
                  · subst q1
                    have : olds = [] := List.eq_nil_of_length_eq_zero (by omega)
                    rw [this] at hj
                    simp at hj
                obtain ⟨w', ds2, cap2, q1, q2, q3, q4, q5, q6, q7, q8⟩ := app_grow2 (P := P) (G := G) (w := w) o.type ht hs hby hz hzl hb0 (base := some ad) (len := n0) (cap := cap) (es := chunks sz' n0 (cs.drop c0)) (olds := olds)
                  hold hol hchl (fun m c hm => by obtain ⟨d, r1, _, r2⟩ := u2 m c hm; exact ⟨d, r1, r2⟩) hchw (fun c hc => by
                    rw [hch] at hc
                    exact h50 c (List.mem_of_mem_drop (List.mem_of_mem_take hc))) hii hsr hn hyl hy1 (by omega) (by omega)
                obtain ⟨k2, ob2, r1, r2⟩ := grown_obj hf hi hd q1 q2 q3 hzl hz1 hzo (run_app hop hb hargs hty (by rw [hcx]; rw [List.length_append, hchl] at q5 ⊢; exact q5)) q6 q7 q8 q4
                rw [List.length_append, List.flatten_append, hch, hchl] at r1
                rw [List.length_append, hchl] at r2
                rw [r1] at hv
                cases hv
                exact r2
          · simp at hv
        · simp at hv
  · simp at hv

theorem ok_app_newc (hf : FRel G w n t a) (hi : Inv G h w) {o : Oper} {c : Call} {ty tx e : TypeId} {x y : Operand} {x' y' : Opd} {sz bytes : Nat} {z : AV} {dst : Option Nat} {lo : Nat} {k : Nat → Nat → AV} {ob : Nat → AObj} {t' : Nat → AV} {obj : Bool}
    (hop : o.op = .call c) (hb : c.callee = .builtin .append) (hargs : c.args.toList = [x, y]) (hty : c.argTypes.toList = [ty, tx]) (hx : cOpd x = some x') (hy : cOpd y = some y')
    (ht : P.underlying ty = some (.slice e)) (hk : (∃ e', P.underlying tx = some (.slice e')) ∨ P.underlying tx = some .string)
    (hs : sizeT P e = some sz) (hby : bytesT P e = some bytes) (hz : zeroT P e = some z) (hzl : z.cells.length = sz) (hb0 : 0 < bytes) (hd : ∀ d, dst = some d → d < n)
    (hv : aex P (.app obj sz bytes z.cells x' y') ⟨t, h⟩ = some (.newc lo k ob t')) : NewcOk P G h w n a o dst lo k ob t' := by
  have hry := opd_rel hf hy
  simp only [aex, Option.bind_eq_bind, Option.bind_eq_some_iff] at hv
  obtain ⟨ys, hys, hv⟩ := hv
  obtain ⟨news, hsrc, hn, hyl, hy1⟩ := elems_src (tx := tx) hi hk hry hys
  obtain ⟨i, hii, hisz⟩ : ∃ i, P.info? e = some i ∧ i.size = sz := by simpa [sizeT] using hs
  have hsr : Sr P ty tx e i (a.eval y) ys.length news w := by
    subst hisz
    exact .ofSrc ht hii hsrc
  exact ok_app_newcore hf hi hop hb hargs hty hx ht hs hby hz hzl hb0 hd hii hisz hsr hn hyl hy1 hv

end Go.Am
