/- More operations that only look: addresses, indexes, slices, lengths. -/
import Derived.Test.YtcdfdnmnnepnoaaDoorAmOps1
set_option linter.unusedVariables false
set_option linter.unusedSimpArgs false
namespace Go.Am
variable {P : Program} {G : Gh} {h : Heap} {w : World} {n : Nat} {t : Nat → AV} {a : Act}

theorem add_at (b o k : Nat) : (⟨b, o, none⟩ : Addr).add k = ⟨b, o + k, none⟩ := by
  unfold Addr.add
  split
  · rename_i e; subst e; rfl
  · rfl

theorem flatten_get {α : Type} {sz : Nat} : ∀ (es : List (List α)) (i m : Nat) (cs : List α) (c : α), (∀ e ∈ es, e.length = sz) → es[i]? = some cs → cs[m]? = some c →
    es.flatten[i * sz + m]? = some c
  | [], i, m, cs, c, _, h, _ => by simp at h
  | e :: r, 0, m, cs, c, hl, h, hc => by
    simp at h
    subst h
    rw [List.flatten_cons, Nat.zero_mul, Nat.zero_add, List.getElem?_append_left]
    · exact hc
    · rcases Nat.lt_or_ge m e.length with h | h
      · exact h
      · rw [List.getElem?_eq_none h] at hc; cases hc
  | e :: r, i + 1, m, cs, c, hl, h, hc => by
    have h1 : e.length = sz := hl e (by simp)
    rw [List.flatten_cons, List.getElem?_append_right (by rw [h1, Nat.add_mul]; omega), h1]
    have : (i + 1) * sz + m - sz = i * sz + m := by rw [Nat.add_mul]; omega
    rw [this]
    exact flatten_get r i m cs c (fun e he => hl e (by simp [he])) (by simpa using h) hc

theorem flatten_len {α : Type} {sz : Nat} : ∀ (es : List (List α)), (∀ e ∈ es, e.length = sz) → es.flatten.length = es.length * sz
  | [], _ => by simp
  | e :: r, h => by
    rw [List.flatten_cons, List.length_append, flatten_len r (fun e he => h e (by simp [he])), h e (by simp), List.length_cons, Nat.add_mul]
    omega

theorem ok_fad (hf : FRel G w n t a) (hi : Inv G h w) {o : Oper} {ty : TypeId} {x : Operand} {x' : Opd} {i : Nat} {fs : Array Field} {f : Field} {sz : Nat} {dst : Option Nat} {v : AV} {t' : Nat → AV} {h' : Heap}
    (hop : o.op = .fieldAddr ty x i) (hx : cOpd x = some x') (ht : P.underlying ty = some (.struct fs)) (hfi : fs[i]? = some f) (hs : sizeT P f.type = some sz) (h0 : sz ≠ 0)
    (hd : ∀ d, dst = some d → d < n) (hv : aex P (.fad f.offset x') ⟨t, h⟩ = some (.val v t' h')) : OpOk P G h w n a o dst v t' h' := by
  have hrel := opd_rel hf hx
  have key : ∀ b c, a.eval x = .pointer (some ⟨b, c, none⟩) → (execOp a.eval o).run P w = .ok (.value (.pointer (some ⟨b, c + f.offset, none⟩))) w := by
    intro b c e
    simp [execOp, hop, e, Instr.fieldAt, run_underlyingA ht, hfi, Instr.sureAddr, fieldPlace, run_sizeOfA hs, h0, add_at]
  simp only [aex] at hv
  split at hv
  · rename_i cs hcs
    simp at hv
    obtain ⟨rfl, rfl, rfl⟩ := hv
    rw [hcs] at hrel
    generalize hc : a.eval x = cx at hrel
    cases hrel with
    | @cp _ b c cv h0' h1 h2 =>
      refine .plain hf hi hd (key _ _ hc) (.cp (fun m => cv (f.offset + m)) (fun c hc => h0' c (List.mem_of_mem_drop hc)) ?_ ?_) rfl
      · intro m c' hm
        rw [List.getElem?_drop] at hm
        rw [Nat.add_assoc]
        exact h1 _ _ hm
      · intro m c' hm
        rw [List.getElem?_drop] at hm
        exact h2 _ _ hm
  · rename_i ob c hcs
    simp at hv
    obtain ⟨rfl, rfl, rfl⟩ := hv
    rw [hcs] at hrel
    generalize hc : a.eval x = cx at hrel
    cases hrel with
    | op => exact .plain hf hi hd (key _ _ hc) .op rfl
  · simp at hv

theorem ok_iad (hf : FRel G w n t a) (hi : Inv G h w) {o : Oper} {ty e : TypeId} {x i : Operand} {x' i' : Opd} {sz : Nat} {dst : Option Nat} {v : AV} {t' : Nat → AV} {h' : Heap}
    (hop : o.op = .indexAddr ty x i) (hx : cOpd x = some x') (hix : cOpd i = some i') (ht : P.underlying ty = some (.slice e)) (hs : sizeT P e = some sz)
    (hd : ∀ d, dst = some d → d < n) (hv : aex P (.iad sz x' i') ⟨t, h⟩ = some (.val v t' h')) : OpOk P G h w n a o dst v t' h' := by
  have hrel := opd_rel hf hx
  simp only [aex, Option.bind_eq_bind, Option.bind_eq_some_iff] at hv
  obtain ⟨j, hj, hv⟩ := hv
  obtain ⟨k, e1, _⟩ := asI_rel (opd_rel hf hix) hj
  have key : ∀ ad len cap, a.eval x = .slice (some ad) len cap → 0 ≤ j → j < len → (execOp a.eval o).run P w = .ok (.value (.pointer (some (ad.add (j.toNat * sz))))) w := by
    intro ad len cap ee h0 h1
    simp [execOp, hop, ee, e1, Instr.indexAt, asIntOf, run_underlyingA ht, run_sizeOfA hs, h0, h1]
  split at hv
  · rename_i own sz' es lim hcs
    split at hv
    · rename_i hc
      obtain ⟨rfl, h0⟩ := hc
      simp only [Option.bind_eq_some_iff] at hv
      obtain ⟨cs, hcs', hv⟩ := hv
      simp at hv
      obtain ⟨rfl, rfl, rfl⟩ := hv
      rw [hcs] at hrel
      generalize hc : a.eval x = cx at hrel
      cases hrel with
      | bz => simp at hcs'
      | @bs _ _ _ _ b c cap cv h1 h01 h2 h3 h4 h5 =>
        have hlt : j.toNat < es.length := by
          rcases Nat.lt_or_ge j.toNat es.length with h | h
          · exact h
          · rw [List.getElem?_eq_none h] at hcs'; cases hcs'
        have hr := key _ _ _ hc h0 (by omega)
        rw [add_at] at hr
        refine .plain hf hi hd hr (.cp (fun m => cv (j.toNat * sz' + m)) (fun c hc => h01 c (List.mem_flatten.2 ⟨cs, List.mem_of_getElem? hcs', hc⟩)) ?_ ?_) rfl
        · intro m c' hm
          rw [Nat.add_assoc]
          exact h2 _ _ (flatten_get es _ m cs c' h1 hcs' hm)
        · intro m c' hm
          exact h3 _ _ (flatten_get es _ m cs c' h1 hcs' hm)
    · simp at hv
  · rename_i ob c sz' len lim hcs
    split at hv
    · rename_i hc
      obtain ⟨rfl, h0, h1⟩ := hc
      simp at hv
      obtain ⟨rfl, rfl, rfl⟩ := hv
      rw [hcs] at hrel
      generalize hc : a.eval x = cx at hrel
      cases hrel with
      | @rs _ _ _ _ _ ad cap h2 h3 h4 =>
        have : ad = ⟨ob, c, none⟩ := by
          rcases h2 with h2 | h2
          · exact h2
          · omega
        subst this
        have hr := key _ _ _ hc h0 h1
        rw [add_at] at hr
        exact .plain hf hi hd hr .op rfl
    · simp at hv
  · simp at hv

theorem ok_iap (hf : FRel G w n t a) (hi : Inv G h w) {o : Oper} {ty e : TypeId} {x i : Operand} {x' i' : Opd} {sz len : Nat} {dst : Option Nat} {v : AV} {t' : Nat → AV} {h' : Heap}
    (hop : o.op = .indexAddr ty x i) (hx : cOpd x = some x') (hix : cOpd i = some i') (ht : P.underlying ty = some (.array len e)) (hs : sizeT P e = some sz)
    (hd : ∀ d, dst = some d → d < n) (hv : aex P (.iap len sz x' i') ⟨t, h⟩ = some (.val v t' h')) : OpOk P G h w n a o dst v t' h' := by
  have hrel := opd_rel hf hx
  simp only [aex, Option.bind_eq_bind, Option.bind_eq_some_iff] at hv
  obtain ⟨j, hj, hv⟩ := hv
  obtain ⟨k, e1, _⟩ := asI_rel (opd_rel hf hix) hj
  split at hv
  · rename_i hb
    obtain ⟨h0, h1⟩ := hb
    have key : ∀ ad, a.eval x = .pointer (some ad) → (execOp a.eval o).run P w = .ok (.value (.pointer (some (ad.add (j.toNat * sz))))) w := by
      intro ad ee
      simp [execOp, hop, ee, e1, Instr.indexAt, asIntOf, run_underlyingA ht, run_sizeOfA hs, h0, h1, Instr.sureAddr]
    split at hv
    · rename_i cs hcs
      simp at hv
      obtain ⟨rfl, rfl, rfl⟩ := hv
      rw [hcs] at hrel
      generalize hc : a.eval x = cx at hrel
      cases hrel with
      | @cp _ b c cv h01 h1 h2 =>
        have hr := key _ hc
        rw [add_at] at hr
        refine .plain hf hi hd hr (.cp (fun m => cv (j.toNat * sz + m)) (fun c hc => h01 c (List.mem_of_mem_drop hc)) ?_ ?_) rfl
        · intro m c' hm
          rw [List.getElem?_drop] at hm
          rw [Nat.add_assoc]
          exact h1 _ _ hm
        · intro m c' hm
          rw [List.getElem?_drop] at hm
          exact h2 _ _ hm
    · rename_i ob c hcs
      simp at hv
      obtain ⟨rfl, rfl, rfl⟩ := hv
      rw [hcs] at hrel
      generalize hc : a.eval x = cx at hrel
      cases hrel with
      | op =>
        have hr := key _ hc
        rw [add_at] at hr
        exact .plain hf hi hd hr .op rfl
    · simp at hv
  · simp at hv

theorem ok_ixs (hf : FRel G w n t a) (hi : Inv G h w) {o : Oper} {ty : TypeId} {x i : Operand} {x' i' : Opd} {dst : Option Nat} {v : AV} {t' : Nat → AV} {h' : Heap}
    (hop : o.op = .index ty x i) (hx : cOpd x = some x') (hix : cOpd i = some i') (ht : P.underlying ty = some .string)
    (hd : ∀ d, dst = some d → d < n) (hv : aex P (.ixs x' i') ⟨t, h⟩ = some (.val v t' h')) : OpOk P G h w n a o dst v t' h' := by
  have hrel := opd_rel hf hx
  simp only [aex, Option.bind_eq_bind, Option.bind_eq_some_iff] at hv
  obtain ⟨j, hj, hv⟩ := hv
  obtain ⟨k, e1, _⟩ := asI_rel (opd_rel hf hix) hj
  split at hv
  · rename_i b hb
    split at hv
    · rename_i h0
      simp only [Option.bind_eq_some_iff] at hv
      obtain ⟨c, hc, hv⟩ := hv
      simp at hv
      obtain ⟨rfl, rfl, rfl⟩ := hv
      rw [hb] at hrel
      have e2 := hrel.sc_inv.1
      refine .plain hf hi hd (cv := .int .u8 c.toNat) ?_ (.sc rfl) rfl
      simp [execOp, hop, e1, e2, Instr.index, asIntOf, run_underlyingA ht, h0, hc]
    · simp at hv
  · simp at hv

theorem ok_ixa (hf : FRel G w n t a) (hi : Inv G h w) {o : Oper} {ty e : TypeId} {x i : Operand} {x' i' : Opd} {agg : Bool} {sz len : Nat} {dst : Option Nat} {v : AV} {t' : Nat → AV} {h' : Heap}
    (hop : o.op = .index ty x i) (hx : cOpd x = some x') (hix : cOpd i = some i') (ht : P.underlying ty = some (.array len e)) (hs : sizeT P e = some sz) (hg : isAggT P e = some agg)
    (hd : ∀ d, dst = some d → d < n) (h1 : agg = false → sz = 1) (hv : aex P (.ixa len agg sz x' i') ⟨t, h⟩ = some (.val v t' h')) : OpOk P G h w n a o dst v t' h' := by
  have hrel := opd_rel hf hx
  simp only [aex, Option.bind_eq_bind, Option.bind_eq_some_iff] at hv
  obtain ⟨j, hj, hv⟩ := hv
  obtain ⟨k, e1, _⟩ := asI_rel (opd_rel hf hix) hj
  split at hv
  · rename_i cs hcs
    split at hv
    · rename_i hb
      obtain ⟨h0, hl, hlen⟩ := hb
      simp only [Option.bind_eq_some_iff] at hv
      obtain ⟨u, hu, hv⟩ := hv
      simp at hv
      obtain ⟨rfl, rfl, rfl⟩ := hv
      rw [hcs] at hrel
      generalize hc : a.eval x = cx at hrel
      have hk : (if agg then sz else 1) = sz := by cases agg <;> simp_all
      cases hrel with
      | @ag _ ds h00 h2 h3 =>
        obtain ⟨cv, e2, e3⟩ := single_part (P := P) (w := w) (off := j.toNat * sz) hg hs h00 h2 h3 (by rw [hk]; exact hlen) (by rw [hk]; exact hu)
        refine .plain hf hi hd (cv := cv) ?_ e3.dis (dis_own _)
        simp [execOp, hop, hc, e1, Instr.index, asIntOf, run_underlyingA ht, h0, hl, run_sizeOfA hs, e2]
    · simp at hv
  · simp at hv

theorem run_len {o : Oper} {c : Call} {ty : TypeId} {x : Operand} (hop : o.op = .call c) (hb : c.callee = .builtin .len) (hargs : c.args.toList = [x]) (hty : c.argTypes.toList = [ty])
    {r : Value} (hr : (Builtin.len_ #[ty] o.type #[a.eval x]).run P w = .ok r w) : (execOp a.eval o).run P w = .ok (.value r) w := by
  have ha : c.args = #[x] := by rw [← Array.toArray_toList (xs := c.args), hargs]
  have hat : c.argTypes = #[ty] := by rw [← Array.toArray_toList (xs := c.argTypes), hty]
  simp [execOp, hop, resolve, hb, invoke, builtin, ha, hat, hr]

theorem ok_len (hf : FRel G w n t a) (hi : Inv G h w) {o : Oper} {c : Call} {ty : TypeId} {x : Operand} {x' : Opd} {d0 : TypeDesc} {k : Nat} {dst : Option Nat} {v : AV} {t' : Nat → AV} {h' : Heap}
    (hop : o.op = .call c) (hb : c.callee = .builtin .len) (hargs : c.args.toList = [x]) (hty : c.argTypes.toList = [ty]) (hx : cOpd x = some x')
    (ht : P.underlying ty = some d0) (hd0 : (k = 0 ∧ ∃ e, d0 = .slice e) ∨ (k = 1 ∧ d0 = .string) ∨ (k = 2 ∧ ∃ k e, d0 = .map k e))
    (hd : ∀ d, dst = some d → d < n) (hv : aex P (.len k x') ⟨t, h⟩ = some (.val v t' h')) : OpOk P G h w n a o dst v t' h' := by
  have hrel := opd_rel hf hx
  simp only [aex] at hv
  split at hv
  · rename_i hs
    simp at hv
    obtain ⟨rfl, rfl, rfl⟩ := hv
    rw [hs] at hrel
    have e2 := hrel.sc_inv.1
    refine .plain hf hi hd (run_len hop hb hargs hty ?_) (.sc (v := .int .i64 0) rfl) rfl
    obtain ⟨_, e, rfl⟩ | ⟨h1, _⟩ | ⟨h1, _⟩ := hd0 <;> first | (simp at h1; done) | simp [Builtin.len_, run_underlyingA ht, e2, goInt]
  · rename_i hs
    simp at hv
    obtain ⟨rfl, rfl, rfl⟩ := hv
    rw [hs] at hrel
    have e2 := hrel.sc_inv.1
    refine .plain hf hi hd (run_len hop hb hargs hty ?_) (.sc (v := .int .i64 0) rfl) rfl
    obtain ⟨h1, _⟩ | ⟨h1, _⟩ | ⟨_, kk, e, rfl⟩ := hd0 <;> first | (simp at h1; done) | simp [Builtin.len_, run_underlyingA ht, e2, goInt]
  · rename_i b hs
    simp at hv
    obtain ⟨rfl, rfl, rfl⟩ := hv
    rw [hs] at hrel
    have e2 := hrel.sc_inv.1
    refine .plain hf hi hd (run_len hop hb hargs hty ?_) (.sc (v := .int .i64 b.size) rfl) rfl
    obtain ⟨h1, _⟩ | ⟨_, rfl⟩ | ⟨h1, _⟩ := hd0 <;> first | (simp at h1; done) | simp [Builtin.len_, run_underlyingA ht, e2, goInt]
  · rename_i own sz es lim hs
    simp at hv
    obtain ⟨rfl, rfl, rfl⟩ := hv
    rw [hs] at hrel
    generalize hc : a.eval x = cx at hrel
    cases hrel with
    | bz hz =>
      refine .plain hf hi hd (run_len hop hb hargs hty ?_) (.sc (v := .int .i64 0) rfl) rfl
      obtain ⟨_, e, rfl⟩ | ⟨h1, _⟩ | ⟨h1, _⟩ := hd0 <;> first | (simp at h1; done) | simp [Builtin.len_, run_underlyingA ht, hc, goInt]
    | @bs _ _ _ _ b o' cap cv h1 h01 h2 h3 h4 h5 =>
      refine .plain hf hi hd (run_len hop hb hargs hty ?_) (.sc (v := .int .i64 es.length) rfl) rfl
      obtain ⟨_, e, rfl⟩ | ⟨h1, _⟩ | ⟨h1, _⟩ := hd0 <;> first | (simp at h1; done) | simp [Builtin.len_, run_underlyingA ht, hc, goInt]
  · rename_i o' c' sz len lim hs
    simp at hv
    obtain ⟨rfl, rfl, rfl⟩ := hv
    rw [hs] at hrel
    generalize hc : a.eval x = cx at hrel
    cases hrel with
    | @rs _ _ _ _ _ ad cap h2 h3 h4 =>
      refine .plain hf hi hd (run_len hop hb hargs hty ?_) (.sc (v := .int .i64 len) rfl) rfl
      obtain ⟨_, e, rfl⟩ | ⟨h1, _⟩ | ⟨h1, _⟩ := hd0 <;> first | (simp at h1; done) | simp [Builtin.len_, run_underlyingA ht, hc, goInt]
  · rename_i o' hs
    split at hv
    · rename_i es hes
      simp at hv
      obtain ⟨rfl, rfl, rfl⟩ := hv
      rw [hs] at hrel
      generalize hc : a.eval x = cx at hrel
      cases hrel with
      | mp =>
        obtain ⟨_, _, ents, clock, h3, h4, _⟩ := hi.map _ _ hes
        refine .plain hf hi hd (run_len hop hb hargs hty ?_) (.sc (v := .int .i64 es.length) rfl) rfl
        obtain ⟨h1, _⟩ | ⟨h1, _⟩ | ⟨_, kk, e, rfl⟩ := hd0 <;> first | (simp at h1; done) | simp [Builtin.len_, run_underlyingA ht, hc, goInt, getObj, Sem.run, h3, h4]
    · simp at hv
  · simp at hv

end Go.Am
