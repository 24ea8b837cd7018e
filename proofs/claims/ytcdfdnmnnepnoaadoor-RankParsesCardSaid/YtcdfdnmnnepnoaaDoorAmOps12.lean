/- Objects: writing into them, taking a row out of them. -/
import Derived.Test.YtcdfdnmnnepnoaaDoorAmOps11
set_option linter.unusedVariables false
set_option linter.unusedSimpArgs false
namespace Go.Am
variable {P : Program} {G : Gh} {h : Heap} {w : World} {n : Nat} {t : Nat → AV} {a : Act}

theorem ok_st (hf : FRel G w n t a) (hi : Inv G h w) {o : Oper} {ty : TypeId} {p x : Operand} {p' x' : Opd} {sz : Nat} {dst : Option Nat} {v : AV} {t' : Nat → AV} {h' : Heap}
    (hop : o.op = .store ty p x) (hp : cOpd p = some p') (hx : cOpd x = some x') (hs : sizeT P ty = some sz)
    (hd : ∀ d, dst = some d → d < n) (hv : aex P (.st sz p' x') ⟨t, h⟩ = some (.val v t' h')) : OpOk P G h w n a o dst v t' h' := by
  have hrp := opd_rel hf hp
  have hrx := opd_rel hf hx
  simp only [aex] at hv
  split at hv
  · rename_i ob c hcs
    split at hv
    · rename_i cs hcs'
      split at hv
      · rename_i hcond
        obtain ⟨hl1, hl2, htu⟩ := hcond
        simp at hv
        obtain ⟨rfl, rfl, rfl⟩ := hv
        rw [hcs] at hrp
        generalize hc : a.eval p = cp at hrp
        cases hrp with
        | op =>
          have hr := cellsD_rel hrx
          obtain ⟨h1, h2, ds, e, fz, h3, h4, h5, h50, h6⟩ := hi.arr ob cs hcs'
          have hsize : (a.eval x).cells.size = sz := by rw [hr.1]; exact hl2
          have hone := cellsD_one hrx htu
          have hrun : (execOp a.eval o).run P w = .ok .skip (w.setCells ob c (a.eval x).cells.toList) := by
            have hst := run_storeCells_cells (P := P) ob c (a.eval x).cells.toList 0 w
              (fun j hj => by
                rw [cell_of_heap h3]
                have : c + 0 + j < ds.size := by simp at hj; omega
                have : c + j < ds.size := by omega
                simp [this])
              (fun j hj => by
                simp at hj
                have hlt : c + 0 + j < ds.size := by omega
                have := h4.un.get (c + 0 + j) hlt
                simp only [World.frozen?, h3]
                simpa using this)
              (fun u hu => by
                obtain ⟨m, hm⟩ := List.getElem?_of_mem hu
                have hlt : m < (x'.ev t).cellsD.length := by
                  rcases Nat.lt_or_ge m (a.eval x).cells.toList.length with h | h
                  · simp at h; omega
                  · rw [List.getElem?_eq_none h] at hm; cases hm
                obtain ⟨d, q1, q2⟩ := hr.get (m := m) (c := (x'.ev t).cellsD[m]) (by simp)
                have : u = d := by
                  rw [Array.getElem?_toList] at hm
                  rw [hm] at q1
                  cases q1
                  rfl
                subst this
                exact q2.oneCell (hone _ (List.getElem_mem hlt)))
            have hne : ¬ (a.eval x).cells.size ≠ sz := by simp [hsize]
            simp only [Nat.add_zero] at hst
            simp [execOp, hop, hc, Instr.storeAt, Instr.sureAddr, storeVar, run_sizeOfA hs, hsize, hst]
          cases ho : (x'.ev t).isOwn with
          | false =>
            have hI := hi.store (la := .ret) (l := .ret) (fun _ _ => by simp) hcs' (c := c) (vs := (x'.ev t).cellsD) (us := (a.eval x).cells.toList) (by omega) (by simp [hr.1]) (fun m q hq => by
              obtain ⟨d, q1, q2⟩ := hr.get hq
              refine ⟨hone q (List.mem_of_getElem? hq), d, by rw [Array.getElem?_toList]; exact q1, q2, .of_not ?_⟩
              cases hqo : q.isOwn with
              | false => rfl
              | true =>
                have := (cellsD_own hq hqo).2.2
                rw [ho] at this
                cases this)
            have hK := Kept.store (G := G) (h := h) (w := w) (la := .ret) (l := .ret) (o := ob) (c := c) (cs := cs) (us := (a.eval x).cells.toList) (by rw [hcs']; simp) (.arr (setRange cs c (x'.ev t).cellsD))
            rw [moveTo_self] at hI hK
            refine ⟨_, Go.undef, _, G, hrun, rfl, ?_, hI, hK⟩
            have hf2 : FRel G (w.setCells ob c (a.eval x).cells.toList) n (strip t x') a := ⟨hf.size, hf.defers, (hf.strip x').val, fun i => ((hf.strip x').own i).setCells h2⟩
            exact hf2.put dst hd (undef_rel G) (fun _ _ => .of_not rfl)
          | true =>
            obtain ⟨s, rfl, rfl⟩ := opd_own hf hx ho
            have hown := hf.own s
            have hI := hi.store (la := .slot s) (l := .cell ob c) (fun _ _ => by simp) hcs' (c := c) (vs := ((Opd.t s).ev t).cellsD) (us := (a.eval (.tmp s)).cells.toList) (by omega) (by simp [hr.1]) (fun m q hq => by
              obtain ⟨d, q1, q2⟩ := hr.get hq
              refine ⟨hone q (List.mem_of_getElem? hq), d, by rw [Array.getElem?_toList]; exact q1, q2, ?_⟩
              cases hqo : q.isOwn with
              | false => exact .of_not hqo
              | true =>
                obtain ⟨rfl, rfl, _⟩ := cellsD_own hq hqo
                have hd' : d = a.tmps.getD s Go.undef := by
                  have e1 : (a.eval (.tmp s)).cells = #[a.eval (.tmp s)] := by
                    have hv : VRel G (t s) (a.eval (.tmp s)) := hrx
                    have hco' : (t s).isOwn = true := hqo
                    cases hts : t s with
                    | bs own sz es lim =>
                      rw [hts] at hv
                      generalize hq : a.eval (.tmp s) = q at hv
                      cases hv <;> rfl
                    | _ => rw [hts] at hco'; simp [AV.isOwn] at hco'
                  rw [e1] at q1
                  simp at q1
                  exact q1.symm
                rw [hd']
                exact hown.moveTo)
            have hK := Kept.store (G := G) (h := h) (w := w) (la := .slot s) (l := .cell ob c) (o := ob) (c := c) (cs := cs) (us := (a.eval (.tmp s)).cells.toList) (by rw [hcs']; simp) (.arr (setRange cs c ((Opd.t s).ev t).cellsD))
            refine ⟨_, Go.undef, _, _, hrun, rfl, ?_, hI, hK⟩
            have hf2 : FRel (G.moveTo (.slot s) (.cell ob c)) (w.setCells ob c (a.eval (.tmp s)).cells.toList) n (strip t (.t s)) a := by
              refine ⟨hf.size, hf.defers, fun i => ((hf.strip (.t s)).val i).moveTo, fun i => ?_⟩
              by_cases ei : i = s
              · subst ei
                simp only [Am.strip, upd, if_true]
                exact .dis
              · exact (((hf.strip (.t s)).own i).moved (by simpa using ei)).setCells (moveTo_none h2)
            exact hf2.put dst hd (undef_rel _) (fun _ _ => .of_not rfl)
      · simp at hv
    · simp at hv
  · simp at hv


theorem Inv.takeCell (hi : Inv G h w) {o c : Nat} {cs : List AV} {v : AV} (ho : h o = some (.arr cs)) (hc : cs[c]? = some v) (l : Loc) :
    Inv (G.moveTo (.cell o c) l) (upd h o (some (.arr (setRange cs c [v.dis])))) w := by
  obtain ⟨h1, h2, ds, e, fz, h3, h4, h5, h50, h6⟩ := hi.arr o cs ho
  have hlt : c + [v.dis].length ≤ cs.length := by
    rcases Nat.lt_or_ge c cs.length with h | h
    · simp only [List.length_cons, List.length_nil]; omega
    · rw [List.getElem?_eq_none h] at hc; cases hc
  refine ⟨hi.pub, ?_, ?_, ?_⟩
  · intro x cs' hx
    unfold upd at hx
    split at hx
    · rename_i ex
      subst ex
      simp at hx
      subst hx
      refine ⟨h1, moveTo_none h2, ds, e, fz, h3, h4, by rw [setRange_length _ _ _ hlt]; exact h5, ?_, ?_⟩
      · intro q hq
        rcases setRange_mem hq with hq | hq
        · exact h50 q hq
        · simp at hq
          subst hq
          have := h50 v (List.mem_of_getElem? hc)
          cases v <;> first | exact this | rfl
      · intro m q hm
        rw [setRange_get _ _ _ _ hlt] at hm
        split at hm
        · rename_i hcm
          simp at hcm
          have em : m = c := by omega
          subst em
          simp at hm
          subst hm
          obtain ⟨cv, h7, h8, h9⟩ := h6 m v hc
          exact ⟨cv, h7, h8.dis.moveTo, .dis⟩
        · rename_i hcm
          simp at hcm
          obtain ⟨cv, h7, h8, h9⟩ := h6 m q hm
          refine ⟨cv, h7, h8.moveTo, h9.moved ?_⟩
          intro e
          cases e
          omega
    · rename_i ex
      obtain ⟨g1, g2, ds2, e2', fz2, g3, g4, g5, g50, g6⟩ := hi.arr x cs' hx
      refine ⟨g1, moveTo_none g2, ds2, e2', fz2, g3, g4, g5, g50, ?_⟩
      intro m q hm
      obtain ⟨cv, h7, h8, h9⟩ := g6 m q hm
      refine ⟨cv, h7, h8.moveTo, h9.moved ?_⟩
      intro e
      cases e
      exact ex rfl
  · intro x es hx
    unfold upd at hx
    split at hx
    · simp at hx
    · obtain ⟨g1, g2, ents, clock, g3, g4, g5, g6⟩ := hi.map x es hx
      refine ⟨g1, moveTo_none g2, ents, clock, g3, g4, ?_, g6⟩
      intro m y hy
      obtain ⟨z, q1, q2, q3, q4, q5⟩ := g5 m y hy
      exact ⟨z, q1, q2, q3, q4.moveTo, q5⟩
  · intro x lx hl
    have hl : (if G.own x = some (.cell o c) then some l else G.own x) = some lx := hl
    split at hl
    · exact hi.own x _ ‹_›
    · exact hi.own x _ hl

theorem ok_ld_tk (hf : FRel G w n t a) (hi : Inv G h w) {o : Oper} {ty : TypeId} {x : Operand} {x' : Opd} {dst : Option Nat} {v : AV} {t' : Nat → AV} {h' : Heap}
    (hop : o.op = .load ty x) (hx : cOpd x = some x') (hg : isAggT P ty = some false)
    (hd : ∀ d, dst = some d → d < n) (hv : aex P (.ld true false 1 x') ⟨t, h⟩ = some (.val v t' h')) : OpOk P G h w n a o dst v t' h' := by
  have hrel := opd_rel hf hx
  have key : ∀ b c cv, a.eval x = .pointer (some ⟨b, c, none⟩) → w.cell? ⟨b, c, none⟩ = some cv → (execOp a.eval o).run P w = .ok (.value cv) w := by
    intro b c cv e1 e2
    simp [execOp, hop, e1, Instr.loadAt, Instr.sureAddr, loadVar, run_isAggA hg, e2]
  simp only [aex] at hv
  split at hv
  · rename_i cs hcs
    split at hv
    · rename_i hlen
      simp only [Option.bind_eq_bind, Option.bind_eq_some_iff] at hv
      obtain ⟨u, hu, hv⟩ := hv
      simp at hv
      obtain ⟨rfl, rfl, rfl⟩ := hv
      rw [hcs] at hrel
      generalize hc : a.eval x = cx at hrel
      cases hrel with
      | @cp _ b c cv h0 h1 h2 =>
        cases cs with
        | nil => simp at hlen
        | cons q r =>
          simp [single] at hu
          subst hu
          have e1 := h1 0 q rfl
          have e2 := h2 0 q rfl
          exact .plain hf hi hd (key _ _ _ hc (hi.pub _ _ _ e1)) e2.dis (dis_own _)
    · simp at hv
  · rename_i ob c hcs
    split at hv
    · rename_i cs hcs'
      split at hv
      · rename_i hlen
        simp only [Option.bind_eq_bind, Option.bind_eq_some_iff] at hv
        obtain ⟨u, hu, hv⟩ := hv
        simp at hv
        obtain ⟨rfl, rfl, rfl⟩ := hv
        rw [hcs] at hrel
        generalize hc : a.eval x = cx at hrel
        cases hrel with
        | op =>
          have hcu : cs[c]? = some u := by
            have h0 : (cs.drop c)[0]? = cs[c]? := by rw [List.getElem?_drop]; rfl
            rw [← h0]
            cases hdr : cs.drop c with
            | nil => rw [hdr] at hu; simp [single] at hu
            | cons q r =>
              rw [hdr] at hu
              simp [single] at hu
              subst hu
              rfl
          obtain ⟨cv, e1, e2, e3⟩ := hi.cell hcs' hcu
          let l : Loc := match dst with | some d => .slot d | none => .ret
          have hne : h ob ≠ none := by rw [hcs']; simp
          refine ⟨_, cv, w, G.moveTo (.cell ob c) l, key _ _ _ hc e1, rfl, ?_, hi.takeCell hcs' hcu l, ⟨fun _ _ _ h => h, rfl, rfl, rfl, Nat.le_refl _, fun x hx h1 h2 => ⟨rfl, fun _ => rfl, moveTo_none h1, upd_none hne h2⟩, fun x hx h1 => upd_none hne h1⟩⟩
          have hf2 : FRel (G.moveTo (.cell ob c) l) w n t a := ⟨hf.size, hf.defers, fun i => (hf.val i).moveTo, fun i => (hf.own i).moved (by simp)⟩
          refine hf2.put dst hd e2.moveTo ?_
          intro d e
          subst e
          exact e3.moveTo
      · simp at hv
    · simp at hv
  · simp at hv

end Go.Am
