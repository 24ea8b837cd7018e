/- Maps: sought in, set, deleted from. -/
import Derived.Test.YtcdfdnmnnepnoaaDoorAmOps12
import Derived.MapKept
set_option linter.unusedVariables false
set_option linter.unusedSimpArgs false
namespace Go.Am
variable {P : Program} {G : Gh} {h : Heap} {w : World} {n : Nat} {t : Nat → AV} {a : Act}


def KeyT (ks : Bool) (d : TypeDesc) : Prop := (ks = false ∧ ∃ k, d = .int k) ∨ (ks = true ∧ d = .string)

theorem sameNow_like {ks : Bool} {d : TypeDesc} (hd : KeyT ks d) {k k' : Value} (h1 : keyFits ks k = true) (h2 : likeK k k' = true) : Instr.sameNow d k k' = some (sameK k k') := by
  rcases hd with ⟨rfl, q, rfl⟩ | ⟨rfl, rfl⟩
  · cases k <;> simp [keyFits] at h1
    cases k' <;> simp [likeK] at h2
    subst h2
    simp [Instr.sameNow, sameK]
  · cases k <;> simp [keyFits] at h1
    cases k' <;> simp [likeK] at h2
    simp [Instr.sameNow, sameK]

theorem sameK_eq {k k' : Value} (h : sameK k k' = true) : k' = k := by
  cases k <;> cases k' <;> simp [sameK] at h
  · obtain ⟨rfl, rfl⟩ := h; rfl
  · rw [Go.MapKept.bytes_beq] at h; rw [h]

theorem run_checkKeyA {ks : Bool} {kt : TypeId} {d : TypeDesc} (ht : P.underlying kt = some d) (hd : KeyT ks d) (k : Value) (e : Bool) (m : Nat) : (Instr.checkKey e (m + 1) kt k).run P w = .ok () w := by
  unfold Instr.checkKey
  simp only [Sem.run_bind, run_underlyingA ht, Result.andThen_ok]
  rcases hd with ⟨rfl, q, rfl⟩ | ⟨rfl, rfl⟩ <;> cases k <;> rfl

theorem run_findKeyA {kt : TypeId} {d : TypeDesc} {k : Value} {l : List MapEntry} {r : Option (Nat × Value)} (hd : P.underlying kt = some d) (h : Instr.findNow d k l 0 = some r) : (Instr.findKey kt k l).run P w = .ok r w := by
  simp [Instr.findKey, run_underlyingA hd, h]


theorem find_rel {ks : Bool} {d : TypeDesc} (hd : KeyT ks d) {k : Value} (hk : keyFits ks k = true) : ∀ (es : List (Value × AV)) (l : List MapEntry) (i : Nat), l.length = es.length →
    (∀ (m : Nat) e, es[m]? = some e → ∃ x : MapEntry, l[m]? = some x ∧ x.key = e.1 ∧ VRel G e.2 x.val) → (∀ p ∈ es, likeK k p.1 = true) →
    (Instr.findNow d k l i = some none ∧ findK k es = none ∧ (∀ v, setK k v es = es ++ [(k, v)]) ∧ delK k es = es) ∨
    ∃ j x v, Instr.findNow d k l i = some (some (i + j, x.val)) ∧ l[j]? = some x ∧ x.key = k ∧ findK k es = some v ∧ VRel G v x.val ∧ j < es.length ∧ (∀ v', setK k v' es = es.set j (k, v')) ∧ delK k es = es.eraseIdx j
  | [], l, i, hl, _, _ => by
    simp at hl
    subst hl
    exact .inl ⟨rfl, rfl, fun v => rfl, rfl⟩
  | e :: es, l, i, hl, hr, hlike => by
    cases l with
    | nil => simp at hl
    | cons x l =>
      obtain ⟨x', h1, h2, h3⟩ := hr 0 e rfl
      simp at h1
      subst h1
      have hlk := hlike e (List.mem_cons_self ..)
      have hsn := sameNow_like hd hk (h2 ▸ hlk : likeK k x.key = true)
      obtain ⟨ek, ev⟩ := e
      simp only at h2 h3 hlk
      cases hs : sameK k ek with
      | true =>
        rw [h2, hs] at hsn
        refine .inr ⟨0, x, ev, ?_, rfl, by rw [h2]; exact sameK_eq hs, ?_, h3, by simp, ?_, ?_⟩
        · simp [Instr.findNow, h2, hsn]
        · simp [findK, hs]
        · intro v'; simp [setK, hs]
        · simp [delK, hs]
      | false =>
        rw [h2, hs] at hsn
        rcases find_rel hd hk es l (i + 1) (by simpa using hl) (fun m e hm => by simpa using hr (m + 1) e (by simpa using hm)) (fun p hp => hlike p (List.mem_cons_of_mem _ hp)) with ⟨q1, q2, q3, q4⟩ | ⟨j, y, v, q1, q2, q3, q4, q5, q6, q7, q8⟩
        · refine .inl ⟨?_, ?_, ?_, ?_⟩
          · simp [Instr.findNow, h2, hsn, q1]
          · simp [findK, hs, q2]
          · intro v; simp [setK, hs, q3]
          · simp [delK, hs, q4]
        · refine .inr ⟨j + 1, y, v, ?_, by simpa using q2, q3, ?_, q5, by simp; exact q6, ?_, ?_⟩
          · simp [Instr.findNow, h2, hsn, q1]
            omega
          · simp [findK, hs, q4]
          · intro v'; simp [setK, hs, q7]
          · simp [delK, hs, q8]

theorem mapFits_spec {ks : Bool} {k : Value} {es : List (Value × AV)} (h : mapFits ks k es = true) : keyFits ks k = true ∧ ∀ p ∈ es, likeK k p.1 = true := by
  simp [mapFits] at h
  exact ⟨h.1, fun p hp => h.2 p.1 p.2 hp⟩

theorem map_find (hi : Inv G h w) {ks : Bool} {d : TypeDesc} (hd : KeyT ks d) {o : Nat} {es : List (Value × AV)} (ho : h o = some (.map es)) {k : Value} (hk : mapFits ks k es = true) :
    ∃ (ents : Array MapEntry) (clock : Nat), w.heap[o]? = some (.map ents clock) ∧ ents.size = es.length ∧
    ((Instr.findNow d k ents.toList 0 = some none ∧ findK k es = none ∧ (∀ v, setK k v es = es ++ [(k, v)]) ∧ delK k es = es) ∨
    ∃ (j : Nat) (x : MapEntry) (v : AV), Instr.findNow d k ents.toList 0 = some (some (j, x.val)) ∧ ents[j]? = some x ∧ x.key = k ∧ findK k es = some v ∧ VRel G v x.val ∧ j < es.length ∧ (∀ v', setK k v' es = es.set j (k, v')) ∧ delK k es = es.eraseIdx j) := by
  obtain ⟨h1, h2, ents, clock, h3, h4, h5, h6⟩ := hi.map o es ho
  obtain ⟨k1, k2⟩ := mapFits_spec hk
  refine ⟨ents, clock, h3, h4, ?_⟩
  rcases find_rel (G := G) hd k1 es ents.toList 0 (by simpa using h4) (fun m e hm => by
    obtain ⟨x, q1, q2, q3, q4, _⟩ := h5 m e hm
    exact ⟨x, by rw [Array.getElem?_toList]; exact q1, q2, q4⟩) k2 with h | ⟨j, x, v, q1, q2, q3⟩
  · exact .inl h
  · exact .inr ⟨j, x, v, by simpa using q1, by rw [Array.getElem?_toList] at q2; exact q2, q3⟩

theorem ok_lkp (hf : FRel G w n t a) (hi : Inv G h w) {o : Oper} {ty key e : TypeId} {d : TypeDesc} {m k : Operand} {m' k' : Opd} {ks ok : Bool} {z : AV} {dst : Option Nat} {v : AV} {t' : Nat → AV} {h' : Heap}
    (hop : o.op = .lookup ty m k ok) (ht : P.underlying ty = some (.map key e)) (hkt : P.underlying key = some d) (hd0 : KeyT ks d) (hz : zeroT P e = some z) (hm : cOpd m = some m') (hk : cOpd k = some k')
    (hd : ∀ d, dst = some d → d < n) (hv : aex P (.lkp ok ks z m' k') ⟨t, h⟩ = some (.val v t' h')) : OpOk P G h w n a o dst v t' h' := by
  obtain ⟨zv, hz1, hz2, hz3, _⟩ := zero_rel (P := P) (G := G) (w := w) hz
  have hrm := opd_rel hf hm
  have hrk := opd_rel hf hk
  have tup : ∀ (ok : Bool) (v : AV) (cv : Value) (b : Bool), VRel G v cv → VRel G (if ok then .tu [v, .bool b] else v) (if ok then .tuple #[cv, .bool b] else cv) := by
    intro ok v cv b hv
    cases ok with
    | false => exact hv
    | true =>
      refine .tu rfl ?_
      intro i c hc
      match i with
      | 0 => simp at hc; subst hc; exact hv
      | 1 => simp at hc; subst hc; exact .sc rfl
      | i + 2 => simp at hc
  have own : ∀ (ok : Bool) (v : AV) (b : Bool), v.isOwn = false → (if ok then AV.tu [v, .bool b] else v).isOwn = false := by
    intro ok v b hv
    cases ok with
    | false => exact hv
    | true => rfl
  simp only [aex] at hv
  split at hv
  · rename_i kv hkv
    rw [hkv] at hrk
    have hke := hrk.sc_inv.1
    split at hv
    · rename_i hmv
      rw [hmv] at hrm
      have hme := hrm.sc_inv.1
      split at hv
      · simp at hv
        obtain ⟨rfl, rfl, rfl⟩ := hv
        refine .plain hf hi hd ?_ (tup ok z zv false hz2) (own ok z false hz3)
        have hfk : (Instr.findKey key kv []).run P w = .ok none w := run_findKeyA hkt rfl
        simp [execOp, hop, hke, hme, Instr.lookup, run_underlyingA ht, run_checkKeyA hkt hd0, hfk, hz1]
      · cases hv
    · rename_i ob hmv
      split at hv
      · rename_i es hes
        split at hv
        · rename_i hfit
          rw [hmv] at hrm
          generalize hcm : a.eval m = cm at hrm
          cases hrm with
          | mp =>
            obtain ⟨ents, clock, q1, q2, q3⟩ := map_find hi hd0 hes hfit
            have hg := Go.MapKept.run_getObj_map (P := P) q1
            rcases q3 with ⟨r1, r2, _⟩ | ⟨j, x, u, r1, r2, r3, r4, r5, _⟩
            · rw [r2] at hv
              simp at hv
              obtain ⟨rfl, rfl, rfl⟩ := hv
              refine .plain hf hi hd ?_ (tup ok z zv false hz2) (own ok z false hz3)
              have hfk : (Instr.findKey key kv ents.toList).run P w = .ok none w := run_findKeyA hkt r1
              simp [execOp, hop, hke, hcm, Instr.lookup, run_underlyingA ht, run_checkKeyA hkt hd0, hfk, hz1, hg]
            · rw [r4] at hv
              simp at hv
              obtain ⟨rfl, rfl, rfl⟩ := hv
              refine .plain hf hi hd ?_ (tup ok u.dis x.val true r5.dis) (own ok u.dis true (dis_own _))
              have hfk : (Instr.findKey key kv ents.toList).run P w = .ok (some (j, x.val)) w := run_findKeyA hkt r1
              simp [execOp, hop, hke, hcm, Instr.lookup, run_underlyingA ht, run_checkKeyA hkt hd0, hfk, hg]
        · cases hv
      · cases hv
    · cases hv
  · cases hv


theorem Inv.setMap (hi : Inv G h w) {o : Nat} {es es' : List (Value × AV)} {ents ents' : Array MapEntry} {clock clock' : Nat} (ho : h o = some (.map es)) (hb : w.heap[o]? = some (.map ents clock)) (hs : ents'.size = es'.length)
    (hr : ∀ (m : Nat) (e : Value × AV), es'[m]? = some e → ∃ x : MapEntry, ents'[m]? = some x ∧ x.key = e.1 ∧ keyOk e.1 = true ∧ VRel G e.2 x.val ∧ e.2.isOwn = false ∧ x.born < clock')
    (hu : ∀ (m n : Nat) (x y : MapEntry), ents'[m]? = some x → ents'[n]? = some y → x.born = y.born → m = n) :
    Inv G (upd h o (some (.map es'))) { w with heap := w.heap.setIfInBounds o (.map ents' clock') } ∧ Kept G h w G (upd h o (some (.map es'))) { w with heap := w.heap.setIfInBounds o (.map ents' clock') } ∧
    ∀ {loc : Loc} {v : AV} {cv : Value}, OwnOk G w loc v cv → OwnOk G { w with heap := w.heap.setIfInBounds o (.map ents' clock') } loc v cv := by
  obtain ⟨h1, h2, _⟩ := hi.map o es ho
  obtain ⟨g1, g2⟩ := Go.MapKept.heap_set (w := w) (o' := .map ents' clock') hb
  have hne : h o ≠ none := by rw [ho]; simp
  have hok : ∀ {loc : Loc} {v : AV} {cv : Value}, OwnOk G w loc v cv → OwnOk G { w with heap := w.heap.setIfInBounds o (.map ents' clock') } loc v cv := by
    intro loc v cv hv sz es lim e ad len cap e'
    obtain ⟨r1, r2, ds, el, fz, r3, r4⟩ := hv sz es lim e ad len cap e'
    have hx : ad.block ≠ o := by
      intro e
      rw [e, h2] at r1
      cases r1
    exact ⟨r1, r2, ds, el, fz, by show (w.heap.setIfInBounds o _)[ad.block]? = _; rw [g2 _ hx]; exact r3, r4⟩
  refine ⟨⟨?_, ?_, ?_, ?_⟩, ⟨fun _ _ _ h => h, rfl, rfl, rfl, by simp, ?_, ?_⟩, hok⟩
  · intro b i v hp
    have hx : b ≠ o := by
      intro e
      subst e
      rw [h1] at hp
      cases hp
    have := hi.pub b i v hp
    simp only [World.cell?, g2 b hx]
    simpa only [World.cell?] using this
  · intro x cs hx
    unfold upd at hx
    split at hx
    · simp at hx
    · rename_i ex
      obtain ⟨p1, p2, ds, e, fz, p3, p4, p5, p50, p6⟩ := hi.arr x cs hx
      refine ⟨p1, p2, ds, e, fz, by show (w.heap.setIfInBounds o _)[x]? = _; rw [g2 x ex]; exact p3, p4, p5, p50, ?_⟩
      intro m c hm
      obtain ⟨cv, p7, p8, p9⟩ := p6 m c hm
      exact ⟨cv, p7, p8, hok p9⟩
  · intro x es2 hx
    unfold upd at hx
    split at hx
    · rename_i ex
      subst ex
      simp at hx
      subst hx
      exact ⟨h1, h2, ents', clock', g1, hs, hr, hu⟩
    · rename_i ex
      obtain ⟨p1, p2, ents2, clock2, p3, p4⟩ := hi.map x es2 hx
      exact ⟨p1, p2, ents2, clock2, by show (w.heap.setIfInBounds o _)[x]? = _; rw [g2 x ex]; exact p3, p4⟩
  · intro b l hb
    show b < (w.heap.setIfInBounds o _).size
    simpa using hi.own b l hb
  · intro b hb' q1 q2
    have hx : b ≠ o := by
      intro e
      subst e
      exact hne q2
    exact ⟨g2 b hx, fun _ => rfl, q1, upd_none hne q2⟩
  · intro b _ q2
    exact upd_none hne q2

theorem keyOk_of {ks : Bool} {k : Value} (h : keyFits ks k = true) : keyOk k = true := by
  cases ks <;> cases k <;> simp_all [keyFits, keyOk]

theorem sameBits_key {ks : Bool} {k : Value} (h : keyFits ks k = true) (m : Nat) : Instr.sameBits (m + 1) k k = true := by
  cases ks <;> cases k <;> simp_all [keyFits, Instr.sameBits, Go.MapKept.bytes_beq]

theorem ok_mup (hf : FRel G w n t a) (hi : Inv G h w) {o : Oper} {ty key e : TypeId} {d : TypeDesc} {m k x : Operand} {m' k' x' : Opd} {ks : Bool} {dst : Option Nat} {v : AV} {t' : Nat → AV} {h' : Heap}
    (hop : o.op = .mapUpdate ty m k x) (ht : P.underlying ty = some (.map key e)) (hkt : P.underlying key = some d) (hd0 : KeyT ks d) (hm : cOpd m = some m') (hk : cOpd k = some k') (hx : cOpd x = some x')
    (hd : ∀ d, dst = some d → d < n) (hv : aex P (.mup ks m' k' x') ⟨t, h⟩ = some (.val v t' h')) : OpOk P G h w n a o dst v t' h' := by
  have hrm := opd_rel hf hm
  have hrk := opd_rel hf hk
  have hrx := opd_rel hf hx
  simp only [aex] at hv
  split at hv
  · rename_i kv ob hkv hmv
    rw [hkv] at hrk
    have hke := hrk.sc_inv.1
    split at hv
    · rename_i es hes
      split at hv
      · rename_i hfit
        simp at hv
        obtain ⟨rfl, rfl, rfl⟩ := hv
        rw [hmv] at hrm
        generalize hcm : a.eval m = cm at hrm
        cases hrm with
        | mp =>
          obtain ⟨ents, clock, q1, q2, q3⟩ := map_find hi hd0 hes hfit
          obtain ⟨_, _, ents0, clock0, p3, p4, p5, p6⟩ := hi.map ob es hes
          rw [q1] at p3
          cases p3
          have hkf := (mapFits_spec hfit).1
          have hg := Go.MapKept.run_getObj_map (P := P) q1
          have fin : ∀ (ents' : Array MapEntry) (clock' : Nat), (execOp a.eval o).run P w = .ok .skip { w with heap := w.heap.setIfInBounds ob (.map ents' clock') } → ents'.size = (setK kv (x'.ev t).dis es).length →
              (∀ (m : Nat) (e : Value × AV), (setK kv (x'.ev t).dis es)[m]? = some e → ∃ y : MapEntry, ents'[m]? = some y ∧ y.key = e.1 ∧ keyOk e.1 = true ∧ VRel G e.2 y.val ∧ e.2.isOwn = false ∧ y.born < clock') →
              (∀ (m n : Nat) (x y : MapEntry), ents'[m]? = some x → ents'[n]? = some y → x.born = y.born → m = n) → OpOk P G h w n a o dst .undef t (upd h ob (some (.map (setK kv (x'.ev t).dis es)))) := by
            intro ents' clock' hrun hs hr hu
            obtain ⟨i1, i2, i3⟩ := hi.setMap hes q1 hs hr hu
            exact ⟨_, Go.undef, _, G, hrun, rfl, FRel.put ⟨hf.size, hf.defers, hf.val, fun i => i3 (hf.own i)⟩ dst hd (undef_rel G) (fun _ _ => .of_not rfl), i1, i2⟩
          rcases q3 with ⟨r1, r2, r3, _⟩ | ⟨j, y, u, r1, r2, r3, r4, r5, r6, r7, _⟩
          · refine fin (ents.push { key := kv, val := a.eval x, born := clock }) (clock + 1) ?_ ?_ ?_ ?_
            · have hfk : (Instr.findKey key kv ents.toList).run P w = .ok none w := run_findKeyA hkt r1
              have hset := Go.MapKept.run_setObj_map (P := P) (.map (ents.push { key := kv, val := a.eval x, born := clock }) (clock + 1)) q1
              simp [execOp, hop, hke, hcm, Instr.mapUpdate, run_underlyingA ht, run_checkKeyA hkt hd0, hfk, hg, hset]
            · rw [r3]; simp [q2]
            · intro i e hie
              rw [r3] at hie
              rcases Nat.lt_or_ge i es.length with hlt | hge
              · rw [List.getElem?_append_left hlt] at hie
                obtain ⟨z, z1, z2, z3, z4, z5, z6⟩ := p5 i e hie
                exact ⟨z, by rw [Array.getElem?_push, if_neg (by omega)]; exact z1, z2, z3, z4, z5, by omega⟩
              · rw [List.getElem?_append_right hge] at hie
                have h0 : i - es.length = 0 := by
                  rcases Nat.lt_or_ge (i - es.length) 1 with h | h
                  · omega
                  · rw [List.getElem?_eq_none (by simpa using h)] at hie; cases hie
                rw [h0] at hie
                simp at hie
                subst hie
                exact ⟨_, by rw [Array.getElem?_push, if_pos (by omega)], rfl, keyOk_of hkf, hrx.dis, dis_own _, by show clock < clock + 1; omega⟩
            · intro i k2 x1 y1 hx1 hy1 he
              have born : ∀ (i : Nat) (x1 : MapEntry), ents[i]? = some x1 → x1.born < clock := by
                intro i x1 hx1
                have hlt : i < es.length := by
                  rcases Nat.lt_or_ge i ents.size with h | h
                  · omega
                  · rw [Array.getElem?_eq_none h] at hx1; cases hx1
                obtain ⟨z, z1, _, _, _, _, z6⟩ := p5 i es[i] (by simp)
                rw [hx1] at z1
                cases z1
                exact z6
              rw [Array.getElem?_push] at hx1 hy1
              split at hx1
              · split at hy1
                · omega
                · cases hx1
                  have := born _ _ hy1
                  simp only at he
                  omega
              · split at hy1
                · cases hy1
                  have := born _ _ hx1
                  simp only at he
                  omega
                · exact p6 i k2 x1 y1 hx1 hy1 he
          · refine fin (ents.modify j fun e => { e with key := kv, val := a.eval x }) clock ?_ ?_ ?_ ?_
            · have hfk : (Instr.findKey key kv ents.toList).run P w = .ok (some (j, y.val)) w := run_findKeyA hkt r1
              have hset := Go.MapKept.run_setObj_map (P := P) (.map (ents.modify j fun e => { e with key := kv, val := a.eval x }) clock) q1
              have hst : (Instr.keyThatStays (((ents[j]?).map (·.key)).getD kv) kv).run P w = .ok kv w := by
                rw [r2]
                simp only [Option.map_some, Option.getD_some, r3]
                simp [Instr.keyThatStays, sameBits_key hkf 9999]
              simp [execOp, hop, hke, hcm, Instr.mapUpdate, run_underlyingA ht, run_checkKeyA hkt hd0, hfk, hg, hset, hst]
            · rw [r7]; simp [q2]
            · intro i e hie
              rw [r7, List.getElem?_set] at hie
              split at hie
              · rename_i hij
                subst hij
                cases hie
                obtain ⟨z, z1, z2, z3, z4, z5, z6⟩ := p5 j es[j] (by simp)
                rw [r2] at z1
                cases z1
                refine ⟨{ y with key := kv, val := a.eval x }, by rw [Array.getElem?_modify, if_pos rfl, r2]; rfl, rfl, keyOk_of hkf, hrx.dis, dis_own _, z6⟩
              · rename_i hij
                obtain ⟨z, z1, z2⟩ := p5 i e hie
                exact ⟨z, by rw [Array.getElem?_modify, if_neg hij]; exact z1, z2⟩
            · intro i k2 x1 y1 hx1 hy1 he
              have born : ∀ (i : Nat) (x1 : MapEntry), (ents.modify j fun e => { e with key := kv, val := a.eval x })[i]? = some x1 → ∃ x0, ents[i]? = some x0 ∧ x0.born = x1.born := by
                intro i x1 hx1
                rw [Array.getElem?_modify] at hx1
                split at hx1
                · rw [Option.map_eq_some_iff] at hx1
                  obtain ⟨x0, e1, rfl⟩ := hx1
                  exact ⟨x0, e1, rfl⟩
                · exact ⟨x1, hx1, rfl⟩
              obtain ⟨x0, e1, e2⟩ := born _ _ hx1
              obtain ⟨y0, e3, e4⟩ := born _ _ hy1
              exact p6 i k2 x0 y0 e1 e3 (by rw [e2, e4]; exact he)
      · cases hv
    · cases hv
  · cases hv

theorem ok_del (hf : FRel G w n t a) (hi : Inv G h w) {o : Oper} {c : Call} {ty key e ty2 : TypeId} {d : TypeDesc} {m k : Operand} {m' k' : Opd} {ks : Bool} {dst : Option Nat} {v : AV} {t' : Nat → AV} {h' : Heap}
    (hop : o.op = .call c) (hb : c.callee = .builtin .delete) (hargs : c.args.toList = [m, k]) (hty : c.argTypes.toList = [ty, ty2])
    (ht : P.underlying ty = some (.map key e)) (hkt : P.underlying key = some d) (hd0 : KeyT ks d) (hm : cOpd m = some m') (hk : cOpd k = some k')
    (hd : ∀ d, dst = some d → d < n) (hv : aex P (.del ks m' k') ⟨t, h⟩ = some (.val v t' h')) : OpOk P G h w n a o dst v t' h' := by
  have hrm := opd_rel hf hm
  have hrk := opd_rel hf hk
  have ea : c.args = #[m, k] := by rw [← Array.toList_inj]; exact hargs
  have et : c.argTypes = #[ty, ty2] := by rw [← Array.toList_inj]; exact hty
  simp only [aex] at hv
  split at hv
  · rename_i kv ob hkv hmv
    rw [hkv] at hrk
    have hke := hrk.sc_inv.1
    split at hv
    · rename_i es hes
      split at hv
      · rename_i hfit
        simp at hv
        obtain ⟨rfl, rfl, rfl⟩ := hv
        rw [hmv] at hrm
        generalize hcm : a.eval m = cm at hrm
        cases hrm with
        | mp =>
          obtain ⟨ents, clock, q1, q2, q3⟩ := map_find hi hd0 hes hfit
          obtain ⟨_, _, ents0, clock0, p3, p4, p5, p6⟩ := hi.map ob es hes
          rw [q1] at p3
          cases p3
          have hg := Go.MapKept.run_getObj_map (P := P) q1
          have fin : ∀ (ents' : Array MapEntry), (execOp a.eval o).run P w = .ok (.value (.tuple #[])) { w with heap := w.heap.setIfInBounds ob (.map ents' clock) } → ents'.size = (delK kv es).length →
              (∀ (m : Nat) (e : Value × AV), (delK kv es)[m]? = some e → ∃ y : MapEntry, ents'[m]? = some y ∧ y.key = e.1 ∧ keyOk e.1 = true ∧ VRel G e.2 y.val ∧ e.2.isOwn = false ∧ y.born < clock) →
              (∀ (m n : Nat) (x y : MapEntry), ents'[m]? = some x → ents'[n]? = some y → x.born = y.born → m = n) → OpOk P G h w n a o dst (.tu []) t (upd h ob (some (.map (delK kv es)))) := by
            intro ents' hrun hs hr hu
            obtain ⟨i1, i2, i3⟩ := hi.setMap hes q1 hs hr hu
            exact ⟨_, .tuple #[], _, G, hrun, rfl, FRel.put ⟨hf.size, hf.defers, hf.val, fun i => i3 (hf.own i)⟩ dst hd (undef_rel G) (fun _ _ => .of_not rfl), i1, i2⟩
          rcases q3 with ⟨r1, r2, _, r4⟩ | ⟨j, y, u, r1, r2, r3, _, r5, r6, _, r7⟩
          · refine fin ents ?_ (by rw [r4]; exact q2) (by rw [r4]; exact p5) p6
            have hfk : (Instr.findKey key kv ents.toList).run P w = .ok none w := run_findKeyA hkt r1
            have hset := Go.MapKept.run_setObj_map (P := P) (.map ents clock) q1
            simp [execOp, hop, resolve, hb, ea, et, invoke, builtin, Builtin.delete_, hke, hcm, run_underlyingA ht, run_checkKeyA hkt hd0, hfk, hg, hset]
          · have hjl : j < ents.size := by omega
            have hget : ∀ (i : Nat), (ents.eraseIdxIfInBounds j)[i]? = if i < j then ents[i]? else ents[i + 1]? := by
              intro i
              unfold Array.eraseIdxIfInBounds
              rw [dif_pos hjl, Array.getElem?_eraseIdx]
            refine fin (ents.eraseIdxIfInBounds j) ?_ ?_ ?_ ?_
            · have hfk : (Instr.findKey key kv ents.toList).run P w = .ok (some (j, y.val)) w := run_findKeyA hkt r1
              have hset := Go.MapKept.run_setObj_map (P := P) (.map (ents.eraseIdxIfInBounds j) clock) q1
              simp [execOp, hop, resolve, hb, ea, et, invoke, builtin, Builtin.delete_, hke, hcm, run_underlyingA ht, run_checkKeyA hkt hd0, hfk, hg, hset]
            · rw [r7, List.length_eraseIdx, if_pos r6]
              unfold Array.eraseIdxIfInBounds
              rw [dif_pos hjl, Array.size_eraseIdx, q2]
            · intro i e hie
              rw [r7, List.getElem?_eraseIdx] at hie
              rw [hget]
              split at hie
              · rename_i hlt
                rw [if_pos hlt]
                exact p5 i e hie
              · rename_i hlt
                rw [if_neg hlt]
                exact p5 (i + 1) e hie
            · intro i k2 x1 y1 hx1 hy1 he
              rw [hget] at hx1 hy1
              split at hx1 <;> split at hy1
              · exact p6 _ _ _ _ hx1 hy1 he
              · have := p6 _ _ _ _ hx1 hy1 he
                omega
              · have := p6 _ _ _ _ hx1 hy1 he
                omega
              · have := p6 _ _ _ _ hx1 hy1 he
                omega
      · cases hv
    · cases hv
  · cases hv

end Go.Am
