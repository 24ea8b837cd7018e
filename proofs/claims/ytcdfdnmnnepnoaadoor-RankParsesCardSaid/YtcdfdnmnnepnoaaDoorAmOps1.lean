/- Operations that only look: what the abstract machine says of them is what the model does. -/
import Derived.Test.YtcdfdnmnnepnoaaDoorAmBase
set_option linter.unusedVariables false
set_option linter.unusedSimpArgs false
namespace Go.Am
variable {P : Program} {G : Gh} {h : Heap} {w : World} {n : Nat} {t : Nat → AV} {a : Act}

def nextVal : Next → Option Value
  | .value v => some v
  | .skip => some undef
  | _ => none


def OpOk (P : Program) (G : Gh) (h : Heap) (w : World) (n : Nat) (a : Act) (o : Oper) (dst : Option Nat) (v : AV) (t' : Nat → AV) (h' : Heap) : Prop :=
  ∃ nx cv w' G', (execOp a.eval o).run P w = .ok nx w' ∧ nextVal nx = some cv ∧ FRel G' w' n (putd t' dst v) (a.put dst cv) ∧ Inv G' h' w' ∧ Kept G h w G' h' w'

theorem OpOk.plain (hf : FRel G w n t a) (hi : Inv G h w) {o : Oper} {dst : Option Nat} (hd : ∀ d, dst = some d → d < n) {v : AV} {cv : Value}
    (hr : (execOp a.eval o).run P w = .ok (.value cv) w) (hv : VRel G v cv) (ho : v.isOwn = false) : OpOk P G h w n a o dst v t h :=
  ⟨_, cv, w, G, hr, rfl, hf.put dst hd hv (fun _ _ => .of_not ho), hi, .refl _ _ _⟩


theorem OpOk.take (hf : FRel G w n t a) (hi : Inv G h w) {o : Oper} {x : Operand} {y : Opd} {dst : Option Nat}
    (hx : cOpd x = some y) (hd : ∀ d, dst = some d → d < n) (hr : (execOp a.eval o).run P w = .ok (.value (a.eval x)) w) : OpOk P G h w n a o dst (y.ev t) (strip t y) h := by
  have hrel := opd_rel hf hx
  cases ho : (y.ev t).isOwn with
  | false => exact .plain (hf.strip y) hi hd hr hrel ho
  | true =>
    obtain ⟨s, rfl, rfl⟩ := opd_own hf hx ho
    cases dst with
    | none => exact ⟨_, _, w, G, hr, rfl, (hf.strip (.t s)).put none (by simp) hrel (by simp), hi, .refl _ _ _⟩
    | some d =>
      refine ⟨_, _, w, G.moveTo (.slot s) (.slot d), hr, rfl, ?_, hi.moveSlot s d, (Kept.refl G h w).moveTo _ _⟩
      have hown := hf.own s
      have hdn := hd d rfl
      refine ⟨by rw [put_size, hf.size], by rw [put_defers, hf.defers], ?_, ?_⟩
      · intro i
        simp only [putd, Act.put]
        rw [getD_set _ _ _ _ _ (by rw [hf.size]; exact hdn)]
        unfold upd
        split
        · exact hrel.moveTo
        · exact ((hf.strip (.t s)).val i).moveTo
      · intro i
        simp only [putd, Act.put]
        rw [getD_set _ _ _ _ _ (by rw [hf.size]; exact hdn)]
        unfold upd
        split
        · rename_i e
          subst e
          exact hown.moveTo
        · by_cases e : i = s
          · subst e
            simp only [Am.strip, upd, if_true]
            exact .dis
          · exact ((hf.strip (.t s)).own i).moved (by simpa using e)

theorem ok_move (hf : FRel G w n t a) (hi : Inv G h w) {o : Oper} {x : Operand} {y : Opd} {tk : Bool} {dst : Option Nat} {v : AV} {t' : Nat → AV} {h' : Heap}
    (hop : o.op = .move x ∨ o.op = .assign x) (hx : cOpd x = some y) (hd : ∀ d, dst = some d → d < n)
    (hv : aex P (.mov tk y) ⟨t, h⟩ = some (.val v t' h')) : OpOk P G h w n a o dst v t' h' := by
  have hr : (execOp a.eval o).run P w = .ok (.value (a.eval x)) w := by
    rcases hop with hop | hop <;> simp [execOp, hop]
  simp only [aex] at hv
  cases tk with
  | false =>
    simp at hv
    obtain ⟨rfl, rfl, rfl⟩ := hv
    exact .plain hf hi hd hr (opd_rel hf hx).dis (dis_own _)
  | true =>
    simp at hv
    obtain ⟨rfl, rfl, rfl⟩ := hv
    exact .take hf hi hx hd hr


theorem ok_pick (hf : FRel G w n t a) (hi : Inv G h w) {o : Oper} {c x y : Operand} {c' x' y' : Opd} {dst : Option Nat} {v : AV} {t' : Nat → AV} {h' : Heap}
    (hop : o.op = .pick c x y) (hc : cOpd c = some c') (hx : cOpd x = some x') (hy : cOpd y = some y') (hd : ∀ d, dst = some d → d < n)
    (hv : aex P (.pick c' x' y') ⟨t, h⟩ = some (.val v t' h')) : OpOk P G h w n a o dst v t' h' := by
  simp only [aex, Option.bind_eq_bind, Option.bind_eq_some_iff] at hv
  obtain ⟨q, hq, hv⟩ := hv
  simp at hv
  obtain ⟨rfl, rfl, rfl⟩ := hv
  obtain ⟨e, _⟩ := asB_rel (opd_rel hf hc) hq
  refine .plain hf hi hd (cv := if q then a.eval x else a.eval y) ?_ ?_ ?_
  · simp [execOp, hop, e, asBool]
  · split
    · exact (opd_rel hf hx).dis
    · exact (opd_rel hf hy).dis
  · split <;> exact dis_own _

theorem eqGuard_irrel (op : BinOp) (ty : TypeId) (x y x' y' : Operand) (a b : Value) (h : a ≠ .nilIface) : eqGuard op ty x y a b = eqGuard op ty x' y' a b := by
  unfold eqGuard
  cases a <;> first | exact absurd rfl h | (cases b <;> rfl)

theorem ok_bin (hf : FRel G w n t a) (hi : Inv G h w) {o : Oper} {op : BinOp} {ty ty' : TypeId} {x y : Operand} {x' y' : Opd} {dst : Option Nat} {v : AV} {t' : Nat → AV} {h' : Heap}
    (hop : o.op = .binOp op ty x y ty') (hx : cOpd x = some x') (hy : cOpd y = some y') (hd : ∀ d, dst = some d → d < n)
    (hv : aex P (.bin op ty x' y') ⟨t, h⟩ = some (.val v t' h')) : OpOk P G h w n a o dst v t' h' := by
  simp only [aex, Option.bind_eq_bind, Option.bind_eq_some_iff] at hv
  obtain ⟨u, hu, z, hz, r, hr, hv⟩ := hv
  have e1 := toV_rel (opd_rel hf hx) hu
  have e2 := toV_rel (opd_rel hf hy) hz
  split at hv
  · rename_i hs
    simp at hv
    obtain ⟨rfl, rfl, rfl⟩ := hv
    refine .plain hf hi hd (cv := r) ?_ (.sc hs) rfl
    unfold scalarBin at hr
    split at hr
    · simp at hr
    · rename_i q hq
      have hr := pureRun_run P w _ _ hr
      simp only [execOp, hop, e1, e2]
      rw [eqGuard_irrel op ty x y (.tmp 0) (.tmp 0) u z (fun e => hq e)]
      simp only [Sem.run_bind, hr, Result.andThen_ok, Sem.run_pure]
  · simp at hv

theorem ok_un (hf : FRel G w n t a) (hi : Inv G h w) {o : Oper} {op : UnOp} {ty : TypeId} {x : Operand} {x' : Opd} {dst : Option Nat} {v : AV} {t' : Nat → AV} {h' : Heap}
    (hop : o.op = .unOp op ty x) (hx : cOpd x = some x') (hd : ∀ d, dst = some d → d < n)
    (hv : aex P (.un op x') ⟨t, h⟩ = some (.val v t' h')) : OpOk P G h w n a o dst v t' h' := by
  simp only [aex, Option.bind_eq_bind, Option.bind_eq_some_iff] at hv
  obtain ⟨u, hu, r, hr, hv⟩ := hv
  have e1 := toV_rel (opd_rel hf hx) hu
  split at hv
  · rename_i hs
    simp at hv
    obtain ⟨rfl, rfl, rfl⟩ := hv
    refine .plain hf hi hd (cv := r) ?_ (.sc hs) rfl
    simp only [execOp, hop, e1, Sem.run_bind, pureRun_run P w _ _ hr, Result.andThen_ok, Sem.run_pure]
  · simp at hv

theorem ok_conv (hf : FRel G w n t a) (hi : Inv G h w) {o : Oper} {src ty : TypeId} {x : Operand} {x' : Opd} {dst : Option Nat} {v : AV} {t' : Nat → AV} {h' : Heap}
    (hop : o.op = .convert src ty x) (hx : cOpd x = some x') (hd : ∀ d, dst = some d → d < n)
    (hv : aex P (.conv src ty x') ⟨t, h⟩ = some (.val v t' h')) : OpOk P G h w n a o dst v t' h' := by
  simp only [aex] at hv
  split at hv
  · rename_i u hu
    simp only [Option.bind_eq_bind, Option.bind_eq_some_iff] at hv
    obtain ⟨r, hr, hv⟩ := hv
    have hrel := opd_rel hf hx
    rw [hu] at hrel
    have e1 := hrel.sc_inv.1
    split at hv
    · rename_i hs
      simp at hv
      obtain ⟨rfl, rfl, rfl⟩ := hv
      refine .plain hf hi hd (cv := r) ?_ (.sc hs) rfl
      simp only [execOp, hop, e1, Sem.run_bind, pureRun_run P w _ _ hr, Result.andThen_ok, Sem.run_pure]
    · simp at hv
  · simp at hv

theorem run_underlyingA {ty : TypeId} {d : TypeDesc} (hd : P.underlying ty = some d) : (underlying ty).run P w = .ok d w := by
  simp [underlying, hd]

theorem run_sizeOfA {ty : TypeId} {s : Nat} (hs : sizeT P ty = some s) : (sizeOf ty).run P w = .ok s w := by
  simp only [sizeT, Option.map_eq_some_iff] at hs
  obtain ⟨i, hi, rfl⟩ := hs
  simp [sizeOf, typeInfo, hi]

theorem run_isAggA {ty : TypeId} {g : Bool} (hg : isAggT P ty = some g) : (isAgg ty).run P w = .ok g w := by
  simp only [isAggT, Option.map_eq_some_iff] at hg
  obtain ⟨d, hd, rfl⟩ := hg
  simp only [isAgg, Sem.run_bind, run_underlyingA hd, Result.andThen_ok]
  split <;> simp_all


theorem single_part {agg : Bool} {sz off : Nat} {cs : List AV} {ds : Array Value} {v : AV} {ty : TypeId} (hg : isAggT P ty = some agg) (hs : sizeT P ty = some sz)
    (hone : ∀ c ∈ cs, c.one = true) (hrel : ds.size = cs.length) (hv : ∀ m c, cs[m]? = some c → VRel G c (ds.getD m Go.undef)) (hlen : off + (if agg then sz else 1) ≤ cs.length)
    (h1 : single agg ((cs.drop off).take (if agg then sz else 1)) = some v) : ∃ cv, (part ty ds off).run P w = .ok cv w ∧ VRel G v cv := by
  simp only [part, Sem.run_bind, run_isAggA hg, Result.andThen_ok]
  cases agg with
  | true =>
    simp only [single, if_true] at h1
    simp at h1
    subst h1
    refine ⟨.agg (ds.extract off (off + sz)), ?_, .ag (fun c hc => hone c (List.mem_of_mem_drop (List.mem_of_mem_take hc))) ?_ ?_⟩
    · simp [run_sizeOfA hs]
    · simp at hlen
      simp
      omega
    · intro m c hm
      simp only [if_true] at hlen
      have hm' : m < sz := by
        rcases Nat.lt_or_ge m sz with h | h
        · exact h
        · rw [List.getElem?_eq_none (by rw [List.length_take]; omega)] at hm; cases hm
      have hc : cs[off + m]? = some c := by
        rw [List.getElem?_take, if_pos hm', List.getElem?_drop] at hm
        exact hm
      have := hv _ _ hc
      have e : (ds.extract off (off + sz)).getD m Go.undef = ds.getD (off + m) Go.undef := by
        simp only [Array.getD_eq_getD_getElem?]
        rw [Array.getElem?_extract]
        rw [if_pos (by omega)]
      rw [e]
      exact this
  | false =>
    simp only [single, Bool.false_eq_true, if_false] at h1 hlen
    have hlt : off < cs.length := by omega
    have hc : cs[off]? = some v := by
      have e : (cs.drop off).take 1 = [cs[off]] := by
        rw [List.drop_eq_getElem_cons hlt]; rfl
      rw [e] at h1
      have h1 : some cs[off] = some v := h1
      rw [← h1]
      exact List.getElem?_eq_getElem hlt
    have hlt' : off < ds.size := by omega
    refine ⟨ds.getD off Go.undef, ?_, hv _ _ hc⟩
    simp [hlt', Array.getD_eq_getD_getElem?]

theorem ok_fld (hf : FRel G w n t a) (hi : Inv G h w) {o : Oper} {ty : TypeId} {x : Operand} {x' : Opd} {i : Nat} {fs : Array Field} {f : Field} {agg : Bool} {sz : Nat} {dst : Option Nat} {v : AV} {t' : Nat → AV} {h' : Heap}
    (hop : o.op = .field ty x i) (hx : cOpd x = some x') (ht : P.underlying ty = some (.struct fs)) (hfi : fs[i]? = some f) (hs : sizeT P f.type = some sz) (hg : isAggT P f.type = some agg)
    (hd : ∀ d, dst = some d → d < n) {k : Nat} (hk : k = if agg then sz else 1) (hv : aex P (.fld agg f.offset k x') ⟨t, h⟩ = some (.val v t' h')) : OpOk P G h w n a o dst v t' h' := by
  simp only [aex] at hv
  split at hv
  · rename_i cs hcs
    split at hv
    · rename_i hlen
      rw [hk] at hlen hv
      simp only [Option.bind_eq_bind, Option.bind_eq_some_iff] at hv
      obtain ⟨u, hu, hv⟩ := hv
      simp at hv
      obtain ⟨rfl, rfl, rfl⟩ := hv
      have hrel := opd_rel hf hx
      rw [hcs] at hrel
      generalize hc : a.eval x = cx at hrel
      cases hrel with
      | @ag _ ds h0 h1 h2 =>
        obtain ⟨cv, e1, e2⟩ := single_part (P := P) (w := w) hg hs h0 h1 h2 hlen hu
        refine .plain hf hi hd (cv := cv) ?_ e2.dis (dis_own _)
        simp [execOp, hop, hc, Instr.field, run_underlyingA ht, hfi, asAgg, e1]
    · simp at hv
  · simp at hv

end Go.Am
