/- Reading a variable; functions; builtins over scalars; maps that are looked up. -/
import Derived.Test.YtcdfdnmnnepnoaaDoorAmOps5
set_option linter.unusedVariables false
set_option linter.unusedSimpArgs false
namespace Go.Am
variable {P : Program} {G : Gh} {h : Heap} {w : World} {n : Nat} {t : Nat → AV} {a : Act}


theorem run_loadVar {ty : TypeId} {agg : Bool} {sz b o : Nat} {cs : List AV} {v : AV} (hg : isAggT P ty = some agg) (hs : sizeT P ty = some sz)
    (hc : ∀ m c, m < (if agg then sz else 1) → cs[m]? = some c → ∃ d, w.cell? ⟨b, o + m, none⟩ = some d ∧ VRel G c d)
    (hone : ∀ c ∈ cs, c.one = true) (hlen : (if agg then sz else 1) ≤ cs.length) (h1 : single agg (cs.take (if agg then sz else 1)) = some v) :
    ∃ cv, (loadVar ty ⟨b, o, none⟩).run P w = .ok cv w ∧ VRel G v cv := by
  cases agg with
  | true =>
    simp only [if_true] at hc hlen h1
    simp [single] at h1
    subst h1
    have hex : ∀ m, ∃ d, m < sz → ∃ c, cs[m]? = some c ∧ w.cell? ⟨b, o + m, none⟩ = some d ∧ VRel G c d := by
      intro m
      by_cases hm : m < sz
      · obtain ⟨d, h2, h3⟩ := hc m cs[m] hm (by simp)
        exact ⟨d, fun _ => ⟨cs[m], by simp, h2, h3⟩⟩
      · exact ⟨Go.undef, fun h => absurd h hm⟩
    let f := fun m => Classical.choose (hex m)
    have hf : ∀ m, m < sz → ∃ c, cs[m]? = some c ∧ w.cell? ⟨b, o + m, none⟩ = some (f m) ∧ VRel G c (f m) := fun m hm => Classical.choose_spec (hex m) hm
    refine ⟨.agg ((List.range sz).map f).toArray, ?_, .ag (fun c hc => hone c (List.mem_of_mem_take hc)) ?_ ?_⟩
    · have hr := run_loadCells (P := P) w ⟨b, o, none⟩ sz f (fun j hj => by rw [add_at]; obtain ⟨c, _, h2, _⟩ := hf j hj; exact h2)
      simp [loadVar, run_isAggA hg, run_sizeOfA hs, hr]
    · simp
      omega
    · intro m c hm
      have hlt : m < sz := by
        rcases Nat.lt_or_ge m sz with h | h
        · exact h
        · rw [List.getElem?_eq_none (by rw [List.length_take]; omega)] at hm; cases hm
      rw [List.getElem?_take, if_pos hlt] at hm
      obtain ⟨c', h2, h3, h4⟩ := hf m hlt
      rw [h2] at hm
      cases hm
      simp [Array.getD_eq_getD_getElem?, hlt]
      exact h4
  | false =>
    simp only [Bool.false_eq_true, if_false] at hc hlen h1
    cases cs with
    | nil => simp at hlen
    | cons c r =>
      simp [single] at h1
      subst h1
      obtain ⟨d, h2, h3⟩ := hc 0 c (by omega) rfl
      refine ⟨d, ?_, h3⟩
      have h2 : w.cell? ⟨b, o, none⟩ = some d := h2
      simp [loadVar, run_isAggA hg, h2]

theorem cell_of_heap {w : World} {b i : Nat} {ds : Array Value} {e : TypeId} {fz : Nat × Nat} (hb : w.heap[b]? = some (.cells ds e fz)) : w.cell? ⟨b, i, none⟩ = ds[i]? := by
  simp [World.cell?, hb]


theorem Inv.cell (hi : Inv G h w) {o : Nat} {cs : List AV} (ho : h o = some (.arr cs)) {m : Nat} {c : AV} (hm : cs[m]? = some c) :
    ∃ d, w.cell? ⟨o, m, none⟩ = some d ∧ VRel G c d ∧ OwnOk G w (.cell o m) c d := by
  obtain ⟨_, _, ds, e, fz, h3, _, _, _, h6⟩ := hi.arr o cs ho
  obtain ⟨cv, h7, h8, h9⟩ := h6 m c hm
  exact ⟨cv, by rw [cell_of_heap h3]; exact h7, h8, h9⟩

theorem ok_ld (hf : FRel G w n t a) (hi : Inv G h w) {o : Oper} {ty : TypeId} {x : Operand} {x' : Opd} {agg : Bool} {sz k : Nat} {dst : Option Nat} {v : AV} {t' : Nat → AV} {h' : Heap}
    (hop : o.op = .load ty x) (hx : cOpd x = some x') (hg : isAggT P ty = some agg) (hs : sizeT P ty = some sz) (hk : k = if agg then sz else 1)
    (hd : ∀ d, dst = some d → d < n) (hv : aex P (.ld false agg k x') ⟨t, h⟩ = some (.val v t' h')) : OpOk P G h w n a o dst v t' h' := by
  subst hk
  have hrel := opd_rel hf hx
  have key : ∀ b c cv, a.eval x = .pointer (some ⟨b, c, none⟩) → (loadVar ty ⟨b, c, none⟩).run P w = .ok cv w → (execOp a.eval o).run P w = .ok (.value cv) w := by
    intro b c cv e1 e2
    simp [execOp, hop, e1, Instr.loadAt, Instr.sureAddr, e2]
  simp only [aex] at hv
  split at hv
  · rename_i cs hcs
    generalize hkk : (if agg = true then sz else 1) = k at hv
    split at hv
    · rename_i hlen
      simp only [Option.bind_eq_bind, Option.bind_eq_some_iff] at hv
      obtain ⟨u, hu, hv⟩ := hv
      simp at hv
      obtain ⟨rfl, rfl, rfl⟩ := hv
      rw [hcs] at hrel
      generalize hc : a.eval x = cx at hrel
      subst hkk
      cases hrel with
      | @cp _ b c cv h0 h1 h2 =>
        obtain ⟨cv', e1, e2⟩ := run_loadVar (P := P) (G := G) (w := w) (b := b) (o := c) hg hs (fun m c' _ hm => ⟨_, hi.pub _ _ _ (h1 m c' hm), h2 m c' hm⟩) h0 hlen hu
        exact .plain hf hi hd (key _ _ _ hc e1) e2.dis (dis_own _)
    · simp at hv
  · rename_i ob c hcs
    split at hv
    · rename_i cs hcs'
      generalize hkk : (if agg = true then sz else 1) = k at hv
      split at hv
      · rename_i hlen
        simp only [Option.bind_eq_bind, Option.bind_eq_some_iff] at hv
        obtain ⟨u, hu, hv⟩ := hv
        simp at hv
        obtain ⟨rfl, rfl, rfl⟩ := hv
        rw [hcs] at hrel
        generalize hc : a.eval x = cx at hrel
        subst hkk
        cases hrel with
        | op =>
          obtain ⟨cv', e1, e2⟩ := run_loadVar (P := P) (G := G) (w := w) (b := ob) (o := c) (cs := cs.drop c) hg hs (fun m c' _ hm => by
            rw [List.getElem?_drop] at hm
            obtain ⟨d, e1, e2, _⟩ := hi.cell hcs' hm
            exact ⟨d, e1, e2⟩) (fun c hc => (hi.arr _ _ hcs').2.2.choose_spec.choose_spec.choose_spec.2.2.2.1 c (List.mem_of_mem_drop hc)) (by rw [List.length_drop]; omega) hu
          exact .plain hf hi hd (key _ _ _ hc e1) e2.dis (dis_own _)
      · simp at hv
    · simp at hv
  · simp at hv

theorem list_rel (hf : FRel G w n t a) {xs : List Operand} {ys : List Opd} (hx : cOpds xs = some ys) (f : AV → AV) (hfv : ∀ v cv, VRel G v cv → VRel G (f v) cv) :
    (xs.map a.eval).length = (ys.map fun y => f (y.ev t)).length ∧ ∀ (m : Nat) c, (ys.map fun y => f (y.ev t))[m]? = some c → VRel G c ((xs.map a.eval).toArray.getD m Go.undef) := by
  obtain ⟨e1, e2⟩ := cOpds_spec _ _ hx
  refine ⟨by simp [e1], ?_⟩
  intro m c hm
  rw [List.getElem?_map] at hm
  cases hy : ys[m]? with
  | none => simp [hy] at hm
  | some y =>
    simp [hy] at hm
    subst hm
    have hlt : m < xs.length := by
      rcases Nat.lt_or_ge m ys.length with h | h
      · omega
      · rw [List.getElem?_eq_none h] at hy; cases hy
    obtain ⟨y', h1, h2⟩ := e2 m xs[m] (by simp)
    rw [hy] at h1
    cases h1
    simp [Array.getD_eq_getD_getElem?, hlt]
    exact hfv _ _ (opd_rel hf h2)

theorem ok_fnc (hf : FRel G w n t a) (hi : Inv G h w) {o : Oper} {f : FuncId} {fs cs : Array Operand} {fs' cs' : List Opd} {dst : Option Nat} {v : AV} {t' : Nat → AV} {h' : Heap}
    (hop : o.op = .makeFunc (.func f) fs cs) (hfs : cOpds fs.toList = some fs') (hcs : cOpds cs.toList = some cs')
    (hd : ∀ d, dst = some d → d < n) (hv : aex P (.fnc f fs' cs') ⟨t, h⟩ = some (.val v t' h')) : OpOk P G h w n a o dst v t' h' := by
  simp [aex] at hv
  obtain ⟨rfl, rfl, rfl⟩ := hv
  obtain ⟨e1, e2⟩ := list_rel hf hfs AV.dis (fun _ _ h => h.dis)
  obtain ⟨e3, e4⟩ := list_rel hf hcs AV.dis (fun _ _ h => h.dis)
  refine .plain hf hi hd (cv := .func (.func f) (fs.map a.eval) (cs.map a.eval)) ?_ (.fn ?_ ?_ ?_ ?_) rfl
  · simp [execOp, hop, Instr.makeFunc]
  · simpa using e1
  · simpa using e3
  · intro m c hm
    have := e2 m c hm
    rwa [← Array.toList_map, Array.toArray_toList] at this
  · intro m c hm
    have := e4 m c hm
    rwa [← Array.toList_map, Array.toArray_toList] at this

theorem mapM_toV (hf : FRel G w n t a) : ∀ (xs : List Operand) (ys : List Opd) (vs : List Value), cOpds xs = some ys → (ys.map (Opd.ev t)).mapM AV.toV = some vs → xs.map a.eval = vs
  | [], ys, vs, hx, hv => by simp [cOpds] at hx; subst hx; simp at hv; simp [hv]
  | x :: r, ys, vs, hx, hv => by
    simp only [cOpds] at hx
    split at hx
    · rename_i y l h1 h2
      simp at hx
      subst hx
      simp only [List.map_cons, List.mapM_cons, Option.bind_eq_bind, Option.bind_eq_some_iff] at hv
      obtain ⟨u, hu, us, hus, hv⟩ := hv
      simp at hv
      subst hv
      rw [List.map_cons, toV_rel (opd_rel hf h1) hu, mapM_toV hf r l us h2 hus]
    · simp at hx

theorem ok_blt (hf : FRel G w n t a) (hi : Inv G h w) {o : Oper} {c : Call} {b : Builtin} {xs : List Opd} {dst : Option Nat} {v : AV} {t' : Nat → AV} {h' : Heap}
    (hop : o.op = .call c) (hb : c.callee = .builtin b) (hb' : b = .min ∨ b = .max ∨ b = .real ∨ b = .imag ∨ b = .complex) (hxs : cOpds c.args.toList = some xs)
    (hd : ∀ d, dst = some d → d < n) (hv : aex P (.blt b c.argTypes o.type xs) ⟨t, h⟩ = some (.val v t' h')) : OpOk P G h w n a o dst v t' h' := by
  simp only [aex, Option.bind_eq_bind, Option.bind_eq_some_iff] at hv
  obtain ⟨vs, hvs, r, hr, hv⟩ := hv
  split at hv
  · rename_i r'
    split at hv
    · rename_i hs
      simp at hv
      obtain ⟨rfl, rfl, rfl⟩ := hv
      have e := mapM_toV hf _ _ _ hxs hvs
      refine .plain hf hi hd (cv := r') ?_ (.sc hs) rfl
      have hr := pureRun_run P w _ _ hr
      have ea : c.args.map a.eval = vs.toArray := by rw [← e, ← Array.toList_map, Array.toArray_toList]
      have : ∀ consts, builtin b c.argTypes o.type consts vs.toArray = builtin b c.argTypes o.type #[] vs.toArray := by
        intro consts
        obtain rfl | rfl | rfl | rfl | rfl := hb' <;> rfl
      simp [execOp, hop, resolve, hb, invoke, ea, this, hr]
    · simp at hv
  · simp at hv

end Go.Am
