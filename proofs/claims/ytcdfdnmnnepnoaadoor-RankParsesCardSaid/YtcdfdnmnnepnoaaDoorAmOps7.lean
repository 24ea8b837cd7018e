/- Operations that make blocks. -/
import Derived.Test.YtcdfdnmnnepnoaaDoorAmMem
set_option linter.unusedVariables false
set_option linter.unusedSimpArgs false
namespace Go.Am
variable {P : Program} {G : Gh} {h : Heap} {w : World} {n : Nat} {t : Nat → AV} {a : Act}


def NewOk (P : Program) (G : Gh) (h : Heap) (w : World) (n : Nat) (a : Act) (o : Oper) (dst : Option Nat) (k : Nat → AV) (ob : AObj) (t' : Nat → AV) : Prop :=
  ∃ nx cv w' G' b, (execOp a.eval o).run P w = .ok nx w' ∧ nextVal nx = some cv ∧ h b = none ∧ FRel G' w' n (putd t' dst (k b)) (a.put dst cv) ∧ Inv G' (upd h b (some ob)) w' ∧ Kept G h w G' (upd h b (some ob)) w'

theorem NewOk.arr (hf : FRel G w n t a) (hi : Inv G h w) {o : Oper} {dst : Option Nat} (hd : ∀ d, dst = some d → d < n) {k : Nat → AV} {cs : List AV} {w' : World} {ds : Array Value} {e : TypeId} {fz : Nat × Nat} {cv : Value}
    (hm : More w w') (hr : (execOp a.eval o).run P w = .ok (.value cv) w') (hh : w'.heap[w.heap.size]? = some (.cells ds e fz)) (hfz : unmarked ds.size fz) (hlen : cs.length ≤ ds.size) (hone : ∀ c ∈ cs, c.one = true)
    (hc : ∀ (m : Nat) c, cs[m]? = some c → ∃ d, ds[m]? = some d ∧ VRel G c d) (hown : ∀ c ∈ cs, c.isOwn = false) (hk : VRel G (k w.heap.size) cv) (hko : (k w.heap.size).isOwn = false) :
    NewOk P G h w n a o dst k (.arr cs) t :=
  ⟨_, cv, w', G, w.heap.size, hr, rfl, hi.free (Nat.le_refl _), (hf.more hm).put dst hd hk (fun _ _ => .of_not hko),
    hi.newArr hm (Nat.le_refl _) hh hfz hlen hone (fun m c hmc => by
      obtain ⟨d, h1, h2⟩ := hc m c hmc
      exact ⟨d, h1, h2, .of_not (hown c (List.mem_of_getElem? hmc))⟩), .newObj hi hm (Nat.le_refl _) _⟩

theorem zero_cells_own {ty : TypeId} {z : AV} (hz : zeroT P ty = some z) : ∀ c ∈ z.cells, c.isOwn = false := by
  simp only [zeroT, Option.bind_eq_some_iff] at hz
  obtain ⟨i, hi, v, hv, hz⟩ := hz
  unfold AV.ofV at hz
  split at hz
  · split at hz
    · simp at hz
      subst hz
      intro c hc
      simp [AV.cells] at hc
      obtain ⟨x, _, rfl⟩ := hc
      rfl
    · simp at hz
  · split at hz
    · simp at hz
      subst hz
      intro c hc
      simp [AV.cells] at hc
      subst hc
      rfl
    · simp at hz

theorem alloc_heap (w : World) (o : Obj) : (w.alloc o).heap[w.heap.size]? = some o := heap_alloc_new w o

theorem run_newRow (w : World) (e : TypeId) (ds : Array Value) : (newRow e ds).run P w = .ok ⟨w.heap.size, 0, none⟩ (w.alloc (.cells ds e)) := by
  simp [newRow]

theorem ok_new (hf : FRel G w n t a) (hi : Inv G h w) {o : Oper} {ty : TypeId} {z : AV} {dst : Option Nat}
    (hop : o.op = .alloc ty) (hz : zeroT P ty = some z) (hd : ∀ d, dst = some d → d < n) : NewOk P G h w n a o dst (fun o => .op o 0) (.arr z.cells) t := by
  obtain ⟨zv, hz1, hz2, _, hzo⟩ := zero_rel (P := P) (G := G) (w := w) hz
  have hr := hz2.cells
  refine .arr hf hi hd (More.alloc w (.cells zv.cells ty)) (cv := .pointer (some ⟨w.heap.size, 0, none⟩)) ?_ (alloc_heap _ _) (unmarked_zero _) (by rw [hr.1]; exact Nat.le_refl _) hzo (fun m c hm => hr.get hm) (zero_cells_own hz) .op rfl
  simp [execOp, hop, Instr.alloc, hz1, newVar, run_newRow]

theorem cellsD_rel {v : AV} {cv : Value} (hv : VRel G v cv) : CRel G v.cellsD cv.cells := by
  have h1 := hv.cells
  cases v with
  | ag cs =>
    refine ⟨by rw [h1.1]; simp [AV.cellsD, AV.cells], ?_⟩
    intro m c hm
    simp only [AV.cellsD, List.getElem?_map, Option.map_eq_some_iff] at hm
    obtain ⟨c', h3, rfl⟩ := hm
    exact (h1.2 m c' h3).disc
  | _ => exact h1

theorem cellsD_one {v : AV} {cv : Value} (hv : VRel G v cv) (ht : v.isTu = false) : ∀ c ∈ v.cellsD, c.one = true := by
  have h1 := hv.cells_one ht
  cases v with
  | ag cs =>
    intro c hc
    simp only [AV.cellsD] at hc
    obtain ⟨c', h3, rfl⟩ := List.mem_map.1 hc
    rw [disc_one]
    exact h1 c' h3
  | _ => exact h1

theorem cellsD_own {v : AV} {m : Nat} {c : AV} (hm : (v.cellsD)[m]? = some c) (ho : c.isOwn = true) : m = 0 ∧ c = v ∧ v.isOwn = true := by
  cases v with
  | ag cs =>
    simp only [AV.cellsD, List.getElem?_map, Option.map_eq_some_iff] at hm
    obtain ⟨c', h3, rfl⟩ := hm
    rw [disc_own] at ho
    cases ho
  | _ =>
    cases m with
    | zero => simp [AV.cellsD] at hm; subst hm; exact ⟨rfl, rfl, ho⟩
    | succ m => simp [AV.cellsD] at hm

theorem ok_box (hf : FRel G w n t a) (hi : Inv G h w) {o : Oper} {ty : TypeId} {x : Operand} {x' : Opd} {dst : Option Nat}
    (hop : o.op = .box ty x) (hx : cOpd x = some x') (htu : (x'.ev t).isTu = false) (hd : ∀ d, dst = some d → d < n) : NewOk P G h w n a o dst (fun o => .op o 0) (.arr (x'.ev t).cellsD) (strip t x') := by
  have hrel := opd_rel hf hx
  have hr := cellsD_rel hrel
  have hm := More.alloc w (.cells (a.eval x).cells ty)
  have hrun : (execOp a.eval o).run P w = .ok (.value (.pointer (some ⟨w.heap.size, 0, none⟩))) (w.alloc (.cells (a.eval x).cells ty)) := by
    simp [execOp, hop, Instr.box, newVar, run_newRow]
  cases ho : (x'.ev t).isOwn with
  | false =>
    exact .arr (hf.strip x') hi hd hm hrun (alloc_heap _ _) (unmarked_zero _) (by rw [hr.1]; exact Nat.le_refl _) (cellsD_one hrel htu) (fun m c hmc => hr.get hmc)
      (fun c hc => by
        cases hco : c.isOwn with
        | false => rfl
        | true =>
          obtain ⟨m, hmc⟩ := List.getElem?_of_mem hc
          have := (cellsD_own hmc hco).2.2
          rw [ho] at this
          cases this) .op rfl
  | true =>
    obtain ⟨s, rfl, rfl⟩ := opd_own hf hx ho
    have hown := hf.own s

    have hb := Nat.le_refl w.heap.size
    let G' := G.moveTo (.slot s) (.cell w.heap.size 0)
    refine ⟨_, _, _, G', w.heap.size, hrun, rfl, hi.free hb, ?_, ?_, ?_⟩
    · refine ⟨by rw [put_size, hf.size], by rw [put_defers, hf.defers], ?_, ?_⟩
      · intro i
        exact (((hf.strip (.t s)).put dst hd (v := .op w.heap.size 0) (cv := .pointer (some ⟨w.heap.size, 0, none⟩)) .op (fun _ _ => .of_not rfl)).val i).moveTo
      · intro i
        have h1 := (((hf.strip (.t s)).more hm).put dst hd (v := .op w.heap.size 0) (cv := .pointer (some ⟨w.heap.size, 0, none⟩)) .op (fun _ _ => .of_not rfl)).own i
        by_cases e : i = s
        · subst e
          refine OwnOk.of_not ?_
          cases dst with
          | none => simp only [putd, Am.strip, upd, if_true]; exact dis_own _
          | some d =>
            simp only [putd, Am.strip, upd]
            split
            · rfl
            · simp only [if_true]; exact dis_own _
        · exact h1.moved (by simpa using e)
    · have base := hi.moveSlot s s
      refine ⟨(hi.more hm).pub, ?_, ?_, ?_⟩
      · intro ob cs hob
        unfold upd at hob
        split at hob
        · rename_i e
          subst e
          simp at hob
          subst hob
          refine ⟨hi.unpub hb, moveTo_none (hi.unown hb), _, _, _, alloc_heap _ _, unmarked_zero _, by rw [hr.1]; exact Nat.le_refl _, cellsD_one hrel htu, ?_⟩
          intro m c hmc
          obtain ⟨d, h1, h2⟩ := hr.get hmc
          refine ⟨d, h1, h2.moveTo, ?_⟩
          cases hco : c.isOwn with
          | false => exact .of_not hco
          | true =>
            obtain ⟨rfl, rfl, _⟩ := cellsD_own hmc hco
            have hd' : d = a.tmps.getD s Go.undef := by
              have e1 : (a.eval (.tmp s)).cells = #[a.eval (.tmp s)] := by
                have hv : VRel G (t s) (a.eval (.tmp s)) := hrel
                have hco' : (t s).isOwn = true := hco
                cases hts : t s with
                | bs own sz es lim =>
                  rw [hts] at hv
                  generalize hq : a.eval (.tmp s) = q at hv
                  cases hv <;> rfl
                | _ => rw [hts] at hco'; simp [AV.isOwn] at hco'
              rw [e1] at h1
              simp at h1
              exact h1.symm
            rw [hd']
            exact (hown.more hm).moveTo
        · obtain ⟨h1, h2, ds, e', fz, h3, h4, h5, h50, h6⟩ := (hi.more hm).arr ob cs hob
          refine ⟨h1, moveTo_none h2, ds, e', fz, h3, h4, h5, h50, ?_⟩
          intro m c hmc
          obtain ⟨cv, h7, h8, h9⟩ := h6 m c hmc
          exact ⟨cv, h7, h8.moveTo, h9.moved (by simp)⟩
      · intro ob es hob
        unfold upd at hob
        split at hob
        · simp at hob
        · obtain ⟨h1, h2, ents, clock, h3, h4, h5, h6⟩ := (hi.more hm).map ob es hob
          refine ⟨h1, moveTo_none h2, ents, clock, h3, h4, ?_, h6⟩
          intro m e hme
          obtain ⟨y, h7, h8, h9, h10, h11⟩ := h5 m e hme
          exact ⟨y, h7, h8, h9, h10.moveTo, h11⟩
      · intro b loc hbl
        have hbl2 : (if G.own b = some (.slot s) then some (Loc.cell w.heap.size 0) else G.own b) = some loc := hbl
        split at hbl2
        · exact (hi.more hm).own b _ ‹_›
        · exact (hi.more hm).own b _ hbl2
    · have k := Kept.newObj hi hm hb (.arr ((Opd.t s).ev t).cellsD)
      exact ⟨k.pub, k.os, k.output, k.tape, k.size, fun x hx h1 h2 => by
        obtain ⟨e1, e2, e3, e4⟩ := k.keep x hx h1 h2
        exact ⟨e1, e2, moveTo_none e3, e4⟩, k.live⟩

theorem ok_mkm (hf : FRel G w n t a) (hi : Inv G h w) {o : Oper} {ty : TypeId} {dst : Option Nat}
    (hop : o.op = .makeMap ty none) (hd : ∀ d, dst = some d → d < n) : NewOk P G h w n a o dst .mp (.map []) t := by
  have hm := More.alloc w (.map #[] 0)
  have hb := Nat.le_refl w.heap.size
  refine ⟨.value (.map (some w.heap.size)), .map (some w.heap.size), w.alloc (.map #[] 0), G, w.heap.size, ?_, rfl, hi.free hb, (hf.more hm).put dst hd .mp (fun _ _ => .of_not rfl), ?_, .newObj hi hm hb _⟩
  · simp [execOp, hop, Instr.makeMap]
  · refine ⟨(hi.more hm).pub, ?_, ?_, (hi.more hm).own⟩
    · intro ob cs hob
      unfold upd at hob
      split at hob
      · simp at hob
      · exact (hi.more hm).arr ob cs hob
    · intro ob es hob
      unfold upd at hob
      split at hob
      · rename_i e
        subst e
        simp at hob
        subst hob
        exact ⟨hi.unpub hb, hi.unown hb, #[], 0, alloc_heap _ _, rfl, fun m e h => by simp at h, fun m k x y h => by simp at h⟩
      · exact (hi.more hm).map ob es hob


theorem OpOk.fresh (hf : FRel G w n t a) (hi : Inv G h w) {o : Oper} {dst : Option Nat} (hd : ∀ d, dst = some d → d < n) {w' : World} {ds : Array Value} {e : TypeId} {fz : Nat × Nat} {sz cap : Nat} {own : Bool}
    {es : List (List AV)} {lim : Option Nat} (hm : More w w') (hh : w'.heap[w.heap.size]? = some (.cells ds e fz)) (hfz : unfrozen ds.size fz) (hcap : cap * sz ≤ ds.size)
    (hr : (execOp a.eval o).run P w = .ok (.value (.slice (some ⟨w.heap.size, 0, none⟩) es.length cap)) w')
    (hl : ∀ x ∈ es, x.length = sz) (hone : ∀ c ∈ es.flatten, c.one = true) (hc : ∀ (m : Nat) (c : AV), es.flatten[m]? = some c → ∃ d, ds[m]? = some d ∧ VRel G c d) (hcap2 : es.length ≤ cap) (hlim : ∀ c, lim = some c → cap = c) :
    OpOk P G h w n a o dst (.bs own sz es lim) t h := by
  have hb := Nat.le_refl w.heap.size
  let loc : Option Loc := dst.map Loc.slot
  refine ⟨_, _, w', G.publish w.heap.size (es.length * sz) ds loc, hr, rfl, (hf.publish hi hm hb loc).put dst hd (VRel.published hi hb hl hone hc hcap2 hlim) ?_, hi.publish hm hb (lt_of_heap hh) hh loc, .publish hi hm hb loc⟩
  intro d e'
  subst e'
  exact OwnOk.published hh hfz hcap

end Go.Am
