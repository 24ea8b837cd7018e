/- The abstract machine is sound: the whole. -/
import Derived.Test.YtcdfdnmnnepnoaaDoorAmSound
set_option linter.unusedVariables false
set_option linter.unusedSimpArgs false
namespace Go.Am
variable {P : Program} {ann : Ann}

theorem Post.mono {G G' : Gh} {h h' : Heap} {w w' : World} {n : Nat} {Q Q' : Ex → St → Prop} (hk : Kept G h w G' h' w') (hq : ∀ e s, Q e s → Q' e s) {e : Exit} {a : Act} {u : World}
    (hp : Post G' h' w' n Q e a u) : Post G h w n Q' e a u := by
  obtain ⟨x, s', G2, e1, e2, e3, e4, e5⟩ := hp
  exact ⟨x, s', G2, e1, hq _ _ e2, e3, e4, hk.trans e5⟩

theorem wpIn.mono {c : Code} {Q Q' : Exit → Act → World → Prop} {a : Act} {w : World} (hq : ∀ e a w, Q e a w → Q' e a w) (h : wpIn P Q a w c) : wpIn P Q' a w c := by
  cases c with
  | loop c =>
    intro b k cs
    obtain ⟨e, a', w', q, r⟩ := h b k cs
    exact ⟨e, a', w', hq _ _ _ q, r⟩
  | _ => exact wp_mono h hq

theorem exOf_normal {x : Ex} (h : Exit.normal = exOf x) : x = .normal := by cases x <;> first | rfl | cases h
theorem exOf_exit {id : Nat} {x : Ex} (h : Exit.exit id = exOf x) : x = .exit id := by
  cases x with
  | exit i => cases h; rfl
  | _ => cases h
theorem exOf_goto {id : Nat} {x : Ex} (h : Exit.goto id = exOf x) : x = .goto id := by
  cases x with
  | goto i => cases h; rfl
  | _ => cases h
theorem exOf_ret {x : Ex} (h : Exit.ret = exOf x) : x = .ret := by cases x <;> first | rfl | cases h
theorem exOf_panic {c} {x : Ex} (h : Exit.panic c = exOf x) : False := by cases x <;> cases h
theorem exOf_outgrown {x : Ex} (h : Exit.outgrown = exOf x) : False := by cases x <;> cases h


theorem post_then {G : Gh} {h : Heap} {w : World} {n : Nat} {R Q : Ex → St → Prop} {next : Act → World → Prop}
    (hn : ∀ s' G' a' w', R .normal s' → FRel G' w' n s'.t a' → Inv G' s'.h w' → Kept G h w G' s'.h w' → next a' w')
    (hq : ∀ e s', e ≠ .normal → R e s' → Q e s') {e : Exit} {a' : Act} {w' : World} (hp : Post G h w n R e a' w') : Exit.then next (Post G h w n Q) e a' w' := by
  obtain ⟨x, s', G', e1, e2, e3, e4, e5⟩ := hp
  cases e with
  | normal =>
    have := exOf_normal e1
    subst this
    exact hn s' G' a' w' e2 e3 e4 e5
  | exit id =>
    have := exOf_exit e1
    subst this
    exact ⟨_, s', G', rfl, hq _ _ (by simp) e2, e3, e4, e5⟩
  | goto l =>
    have := exOf_goto e1
    subst this
    exact ⟨_, s', G', rfl, hq _ _ (by simp) e2, e3, e4, e5⟩
  | ret =>
    have := exOf_ret e1
    subst this
    exact ⟨_, s', G', rfl, hq _ _ (by simp) e2, e3, e4, e5⟩
  | panic c => exact (exOf_panic e1).elim
  | outgrown => exact (exOf_outgrown e1).elim

theorem post_block {G : Gh} {h : Heap} {w : World} {n id : Nat} {R Q : Ex → St → Prop}
    (hn : ∀ s', R (.exit id) s' → Q .normal s') (hq : ∀ e s', e ≠ .exit id → R e s' → Q e s') {e : Exit} {a' : Act} {w' : World} (hp : Post G h w n R e a' w') : Exit.inBlock id (Post G h w n Q) e a' w' := by
  obtain ⟨x, s', G', e1, e2, e3, e4, e5⟩ := hp
  cases e with
  | normal =>
    have := exOf_normal e1
    subst this
    exact ⟨_, s', G', rfl, hq _ _ (by simp) e2, e3, e4, e5⟩
  | exit id' =>
    have := exOf_exit e1
    subst this
    show (if id' = id then _ else _)
    split
    · rename_i e
      subst e
      exact ⟨.normal, s', G', rfl, hn _ e2, e3, e4, e5⟩
    · rename_i e
      exact ⟨_, s', G', rfl, hq _ _ (by simpa using e) e2, e3, e4, e5⟩
  | goto l =>
    have := exOf_goto e1
    subst this
    exact ⟨_, s', G', rfl, hq _ _ (by simp) e2, e3, e4, e5⟩
  | ret =>
    have := exOf_ret e1
    subst this
    exact ⟨_, s', G', rfl, hq _ _ (by simp) e2, e3, e4, e5⟩
  | panic c => exact (exOf_panic e1).elim
  | outgrown => exact (exOf_outgrown e1).elim


def M1 (P : Program) (ann : Ann) (c : AC) (s : St) (Q : Ex → St → Prop) : Prop :=
  (∀ code nt an, cCode P nt an code = some c → ∀ G w a, FRel G w nt s.t a → Inv G s.h w → wpIn P (Post G s.h w nt Q) a w code) ∧
    ∀ body cur nt an x y, c = .scope x y → cCode P nt an body = some x → cCode P nt an cur = some y → ∀ G w a, FRel G w nt s.t a → Inv G s.h w → wpScope P (Post G s.h w nt Q) a w body cur

def Behind (G : Gh) (s : St) (w : World) (nt : Nat) (Q : St → Prop) (K : Act → World → Prop) : Prop :=
  ∀ s' G' a' w', Q s' → FRel G' w' nt s'.t a' → Inv G' s'.h w' → Kept G s.h w G' s'.h w' → K a' w'

def M2 (P : Program) (A : AOper) (s : St) (Q : St → Prop) : Prop :=
  ∀ (ops : Array Oper) i o k nt, ops[i]? = some o → cOper P nt k ops o = some A → ∀ G w a K Qx, FRel G w nt s.t a → Inv G s.h w → Behind G s w nt Q K → wpOp P ops Qx i K a w

inductive Pairs {α β : Type} (R : α → β → Prop) : List α → List β → Prop
  | nil : Pairs R [] []
  | cons {a b l m} : R a b → Pairs R l m → Pairs R (a :: l) (b :: m)

def MatchOf (P : Program) (nt : Nat) (ops : Array Oper) (i : Nat) (A : AOper) : Prop := ∃ o k, ops[i]? = some o ∧ cOper P nt k ops o = some A

def M3 (P : Program) (As : List AOper) (s : St) (Q : St → Prop) : Prop :=
  ∀ (ops : Array Oper) nt (js : List Nat), Pairs (MatchOf P nt ops) js As → ∀ G w a Qx, FRel G w nt s.t a → Inv G s.h w → Behind G s w nt Q (Qx .normal) → wpOps P ops Qx js a w

def M4 (P : Program) (As : List AOper) (pre : List (List Nat)) (l : Nat → Bool) (s : St) (Q : St → Prop) : Prop :=
  ∀ (ops : Array Oper) nt, preOf ops = pre → As.length = ops.size → (∀ (m : Nat) A, As[m]? = some A → MatchOf P nt ops m A) → ∀ fuel (listed : Array Bool), listed.size = ops.size → (∀ i, l i = listed.getD i false) →
    listed.toList.count false ≤ fuel → ∀ G w a Qx, FRel G w nt s.t a → Inv G s.h w → Behind G s w nt Q (Qx .normal) → wpAny P .any ops Qx fuel listed a w

theorem count_set : ∀ (l : List Bool) (i : Nat), l[i]? = some false → (l.set i true).count false + 1 = l.count false
  | [], i, h => by simp at h
  | b :: l, 0, h => by simp at h; subst h; simp
  | b :: l, i + 1, h => by
    have := count_set l i (by simpa using h)
    simp only [List.set_cons_succ, List.count_cons]
    omega


section one
variable {A : AOper} {s : St} {Q : St → Prop}

theorem m2_start (hop : ∀ (o : Oper) k nt ops G w a, cOper P nt k ops o = some A → FRel G w nt s.t a → Inv G s.h w → ∀ (K : Act → World → Prop) (Qx : Exit → Act → World → Prop), Behind G s w nt Q K → o.wp P a w K Qx)
    (hw : wantedA A s.t = true) : M2 P A s Q := by
  intro ops i o k nt ho hc G w a K Qx hf hi hb
  unfold wpOp
  simp only [ho]
  rw [wanted_rel hf hc, hw]
  simp only [if_true]
  exact .inl (hop o k nt ops G w a hc hf hi K Qx hb)

theorem m2_pass (hw : wantedA A s.t = false) (hq : Q ⟨putd s.t A.dst .undef, s.h⟩) : M2 P A s Q := by
  intro ops i o k nt ho hc G w a K Qx hf hi hb
  unfold wpOp
  simp only [ho]
  rw [wanted_rel hf hc, hw]
  simp only [Bool.false_eq_true, if_false]
  obtain ⟨hd, hlt⟩ := cOper_dst hc
  rw [← hd]
  exact hb _ G _ w hq (hf.put A.dst hlt (undef_rel G) (fun _ _ => .of_not rfl)) hi (.refl _ _ _)

theorem upon_next {o : Oper} {a : Act} {w w' : World} {nx : Next} {cv : Value} {K : Act → World → Prop} {Qx : Exit → Act → World → Prop} (hr : (execOp a.eval o).run P w = .ok nx w') (hn : nextVal nx = some cv) (hk : K (a.put o.dst cv) w') : o.wp P a w K Qx := by
  unfold Oper.wp
  rw [hr]
  cases nx <;> simp [nextVal] at hn
  · subst hn; exact hk
  · subst hn; exact hk

theorem m2_val (hs : OpsSound P) (hw : wantedA A s.t = true) {v t h} (hx : aex P A.op s = some (.val v t h)) (hq : Q ⟨putd t A.dst v, h⟩) : M2 P A s Q :=
  m2_start (fun o k nt ops G w a hc hf hi K Qx hb => by
    obtain ⟨nx, cv, w', G', h1, h2, h3, h4, h5⟩ := hs.val hf hi hc hx
    refine upon_next h1 h2 ?_
    rw [← (cOper_dst hc).1]
    exact hb _ G' _ w' hq h3 h4 h5) hw

theorem m2_new (hs : OpsSound P) (hw : wantedA A s.t = true) {kk ob t} (hx : aex P A.op s = some (.new kk ob t)) (hq : ∀ b, s.h b = none → Q ⟨putd t A.dst (kk b), upd s.h b (some ob)⟩) : M2 P A s Q :=
  m2_start (fun o k nt ops G w a hc hf hi K Qx hb => by
    obtain ⟨nx, cv, w', G', b, h1, h2, h0, h3, h4, h5⟩ := hs.new hf hi hc hx
    refine upon_next h1 h2 ?_
    rw [← (cOper_dst hc).1]
    exact hb _ G' _ w' (hq b h0) h3 h4 h5) hw

theorem m2_newc (hs : OpsSound P) (hw : wantedA A s.t = true) {lo kk ob t} (hx : aex P A.op s = some (.newc lo kk ob t)) (hq : ∀ b c, s.h b = none → lo ≤ c → Q ⟨putd t A.dst (kk b c), upd s.h b (some (ob c))⟩) : M2 P A s Q :=
  m2_start (fun o k nt ops G w a hc hf hi K Qx hb => by
    obtain ⟨nx, cv, w', G', b, c, h1, h2, h0, hle, h3, h4, h5⟩ := hs.newc hf hi hc hx
    refine upon_next h1 h2 ?_
    rw [← (cOper_dst hc).1]
    exact hb _ G' _ w' (hq b c h0 hle) h3 h4 h5) hw

theorem m2_ext (hs : OpsSound P) (hw : wantedA A s.t = true) {k' f args t} {R : AV → Heap → Prop} (hx : aex P A.op s = some (.call k' f args t)) (hc6 : M6 P f args s.h R)
    (hq : ∀ v h, R v h → Q ⟨putd t A.dst v, h⟩) : M2 P A s Q :=
  m2_start (fun o k nt ops G w a hc hf hi K Qx hb => by
    obtain ⟨vals, sl, j, _, h1, h2, h3, h4, h5, h6⟩ := hs.call hf hi hc hx
    obtain ⟨cv0, w', hrun, v, cv, h', G', q0, q1, q2, q3, q4, q5⟩ := hc6.2 (G.enter sl j) w vals (ARel.enter h2 h3 h6) (hi.enter sl j)
    cases q0
    obtain ⟨hd, hlt⟩ := cOper_dst hc
    refine upon_next (cv := cv0) (h1.trans hrun) rfl ?_
    have hfb : FRel (G.back sl (A.dst.getD 0) G') w' nt (putd t A.dst v) (a.put A.dst cv0) :=
      (h4.back hi q5 h5).put A.dst hlt q2.back (fun d hd' => by
        have : A.dst.getD 0 = d := by rw [hd']; rfl
        rw [this]
        exact q3.back hi q5)
    rw [← hd]
    exact hb ⟨putd t A.dst v, h'⟩ _ _ w' (hq v h' q1) hfb (hi.back q4 q5) (q5.back hi)) hw

theorem m2_call (hs : OpsSound P) (hw : wantedA A s.t = true) {k' f args t} {R : AV → Heap → Prop} (hx : aex P A.op s = some (.call k' f args t)) (hc5 : M5 P f args s.h R)
    (hq : ∀ v h, R v h → Q ⟨putd t A.dst v, h⟩) : M2 P A s Q :=
  m2_start (fun o k nt ops G w a hc hf hi K Qx hb => by
    obtain ⟨vals, sl, j, h1, _, h2, h3, h4, h5, h6⟩ := hs.call hf hi hc hx
    obtain ⟨⟨fn, e1, e2, e3⟩, hcalls⟩ := hc5
    have hcall := hcalls (G.enter sl j) w vals (ARel.enter h2 h3 h6) (hi.enter sl j)
    unfold Oper.wp
    rw [h1 fn e1 e2 e3]
    obtain ⟨hd, hlt⟩ := cOper_dst hc
    refine Calls.mono hcall ?_
    rintro e w' ⟨v, cv, h', G', rfl, q1, q2, q3, q4, q5⟩
    have hfb : FRel (G.back sl (A.dst.getD 0) G') w' nt (putd t A.dst v) (a.put A.dst cv) :=
      (h4.back hi q5 h5).put A.dst hlt q2.back (fun d hd' => by
        have : A.dst.getD 0 = d := by rw [hd']; rfl
        rw [this]
        exact q3.back hi q5)
    show K (a.put o.dst cv) w'
    rw [← hd]
    exact hb ⟨putd t A.dst v, h'⟩ _ _ w' (hq v h' q1) hfb (hi.back q4 q5) (q5.back hi)) hw

end one


theorem cCode_inv {nt : Nat} {an : Nat → Nat → Nat} {code : Code} {c : AC} (h : cCode P nt an code = some c) : match c with
    | .skip => code = .skip
    | .reg l => ∃ id ops, code = .region id ops false ∧ cOpers P nt (an id) ops 0 ops.toList = some l
    | .regd l pre => ∃ id ops, code = .region id ops true ∧ cOpers P nt (an id) ops 0 ops.toList = some l ∧ pre = preOf ops
    | .regx l => ∃ id ops l0, code = .region id ops true ∧ cOpers P nt (an id) ops 0 ops.toList = some l0 ∧ drawX l0 (preOf ops) = some l
    | .seq x y => ∃ a b, code = .seq a b ∧ cCode P nt an a = some x ∧ cCode P nt an b = some y
    | .cond q x y => ∃ o a b, code = .cond o a b ∧ cOpd o = some q ∧ cCode P nt an a = some x ∧ cCode P nt an b = some y
    | .block id x => ∃ a, code = .block id a ∧ cCode P nt an a = some x
    | .loop x => ∃ a, code = .loop a ∧ cCode P nt an a = some x
    | .exit id => code = .exit id
    | .ret => code = .ret
    | .scope x y => ∃ a, code = .scope a ∧ cCode P nt an a = some x ∧ y = x
    | .label l => code = .label l
    | .goto l => code = .goto l := by
  cases code with
  | skip => simp [cCode] at h; subst h; rfl
  | region id ops dr =>
    simp only [cCode] at h
    split at h
    · rename_i l hl
      cases dr with
      | true =>
        simp only [if_true, Option.some.injEq] at h
        split at h
        · subst h; exact ⟨id, ops, rfl, hl, rfl⟩
        · split at h
          · rename_i l' hx
            subst h; exact ⟨id, ops, l, rfl, hl, hx⟩
          · subst h; exact ⟨id, ops, rfl, hl, rfl⟩
      | false => simp at h; subst h; exact ⟨id, ops, rfl, hl⟩
    · cases h
  | seq a b =>
    simp only [cCode] at h
    split at h
    · rename_i x y h1 h2
      cases h
      exact ⟨a, b, rfl, h1, h2⟩
    · cases h
  | cond o a b =>
    simp only [cCode] at h
    split at h
    · rename_i q x y h0 h1 h2
      cases h
      exact ⟨o, a, b, rfl, h0, h1, h2⟩
    · cases h
  | block id a =>
    simp only [cCode, Option.map_eq_some_iff] at h
    obtain ⟨x, h1, rfl⟩ := h
    exact ⟨a, rfl, h1⟩
  | loop a =>
    simp only [cCode, Option.map_eq_some_iff] at h
    obtain ⟨x, h1, rfl⟩ := h
    exact ⟨a, rfl, h1⟩
  | exit id => simp [cCode] at h; subst h; rfl
  | ret => simp [cCode] at h; subst h; rfl
  | scope a =>
    simp only [cCode, Option.map_eq_some_iff] at h
    obtain ⟨x, h1, rfl⟩ := h
    exact ⟨a, rfl, h1, rfl⟩
  | label l => simp [cCode] at h; subst h; rfl
  | goto l => simp [cCode] at h; subst h; rfl
  | _ => simp [cCode] at h

theorem matches_of {nt : Nat} {an : Nat → Nat} {ops : Array Oper} {l : List AOper} (hl : cOpers P nt an ops 0 ops.toList = some l) :
    l.length = ops.size ∧ ∀ (i : Nat) A, l[i]? = some A → MatchOf P nt ops i A := by
  obtain ⟨e1, e2⟩ := cOpers_spec hl
  refine ⟨by simpa using e1, fun i A hA => ?_⟩
  have hlt : i < ops.toList.length := by
    rw [← e1]
    rcases Nat.lt_or_ge i l.length with h | h
    · exact h
    · rw [List.getElem?_eq_none h] at hA; cases hA
  obtain ⟨B, e3, e4⟩ := e2 i ops.toList[i] (by simp [hlt])
  rw [hA] at e3
  cases e3
  refine ⟨_, _, ?_, e4⟩
  simp at hlt
  simp [hlt]

theorem pairs_range {nt : Nat} {ops : Array Oper} : ∀ (m : Nat) (As : List AOper), As.length + m = ops.size → (∀ (i : Nat) A, As[i]? = some A → MatchOf P nt ops (m + i) A) → Pairs (MatchOf P nt ops) (List.range' m As.length) As
  | m, [], _, _ => .nil
  | m, A :: As, hl, hA => by
    rw [List.length_cons, List.range'_succ]
    refine .cons (hA 0 A rfl) (pairs_range (m + 1) As (by simp at hl; omega) fun i B hB => ?_)
    have := hA (i + 1) B (by simpa using hB)
    rwa [show m + (i + 1) = m + 1 + i by omega] at this

theorem M1.reg {ops : List AOper} {s : St} {Q : Ex → St → Prop} (ih : M3 P ops s (Q .normal)) : M1 P ann (.reg ops) s Q := by
  refine ⟨?_, fun _ _ _ _ _ _ e => by cases e⟩
  intro code nt an hc G w a hf hi
  obtain ⟨id, os, rfl, hl⟩ := cCode_inv hc
  obtain ⟨e1, e2⟩ := matches_of hl
  refine wp_region (ih os nt _ ?_ G w a _ hf hi ?_)
  · have h0 := pairs_range (P := P) (nt := nt) (ops := os) 0 ops (by simpa using e1) (fun i A hA => by rw [Nat.zero_add]; exact e2 i A hA)
    rw [List.range_eq_range', ← e1]
    exact h0
  · intro s' G' a' w' q1 q2 q3 q4
    exact ⟨.normal, s', G', rfl, q1, q2, q3, q4⟩

theorem M1.regd (hm : P.follows .mixedOrders = true) {ops : List AOper} {pre : List (List Nat)} {s : St} {Q : Ex → St → Prop} (ih : M4 P ops pre (fun _ => false) s (Q .normal)) : M1 P ann (.regd ops pre) s Q := by
  refine ⟨?_, fun _ _ _ _ _ _ e => by cases e⟩
  intro code nt an hc G w a hf hi
  obtain ⟨id, os, rfl, hl, rfl⟩ := cCode_inv hc
  obtain ⟨e1, e2⟩ := matches_of hl
  have hd := More.drew w
  refine wp_region_any hm (ih os nt rfl e1 e2 os.size (Array.replicate os.size false) (by simp) ?_ (by simp) G _ a _ (hf.more hd) (hi.more hd) ?_)
  · intro i
    simp only [Array.getD_eq_getD_getElem?, Array.getElem?_replicate]
    split <;> rfl
  · intro s' G' a' w' q1 q2 q3 q4
    exact ⟨.normal, s', G', rfl, q1, q2, q3, (Kept.of_more hd).trans q4⟩

theorem M1.regx (hm : P.follows .mixedOrders = true) {l : List (AOper × List Nat)} {s : St} {Q : Ex → St → Prop} (ih : ∀ ops pre, drawX ops pre = some l → M4 P ops pre (fun _ => false) s (Q .normal)) : M1 P ann (.regx l) s Q := by
  refine ⟨?_, fun _ _ _ _ _ _ e => by cases e⟩
  intro code nt an hc G w a hf hi
  obtain ⟨id, os, l0, rfl, hl, hx⟩ := cCode_inv hc
  obtain ⟨e1, e2⟩ := matches_of hl
  have hd := More.drew w
  refine wp_region_any hm (ih l0 (preOf os) hx os nt rfl e1 e2 os.size (Array.replicate os.size false) (by simp) ?_ (by simp) G _ a _ (hf.more hd) (hi.more hd) ?_)
  · intro i
    simp only [Array.getD_eq_getD_getElem?, Array.getElem?_replicate]
    split <;> rfl
  · intro s' G' a' w' q1 q2 q3 q4
    exact ⟨.normal, s', G', rfl, q1, q2, q3, (Kept.of_more hd).trans q4⟩

theorem M1.free {c : AC} {s : St} {Q : Ex → St → Prop} (h1 : (∃ m, ∀ b, m ≤ b → s.h b = none) → M1 P ann c s Q) : M1 P ann c s Q :=
  ⟨fun code nt an hc G w a hf hi => (h1 ⟨w.heap.size, fun b hb => hi.free hb⟩).1 code nt an hc G w a hf hi,
    fun body cur nt an x y e hb hc G w a hf hi => (h1 ⟨w.heap.size, fun b hb => hi.free hb⟩).2 body cur nt an x y e hb hc G w a hf hi⟩

theorem M1.seq {a b : AC} {s : St} {Q R : Ex → St → Prop} (h1 : M1 P ann a s R) (h2 : ∀ s', R .normal s' → M1 P ann b s' Q) (h3 : ∀ e s', e ≠ .normal → R e s' → Q e s') : M1 P ann (.seq a b) s Q := by
  refine ⟨?_, fun _ _ _ _ _ _ e => by cases e⟩
  intro code nt an hc G w ac hf hi
  obtain ⟨x, y, rfl, c1, c2⟩ := cCode_inv hc
  refine wp_seq (wp_mono (h1.1 x nt an c1 G w ac hf hi).wp ?_)
  intro e a' w' hp
  refine post_then ?_ h3 hp
  intro s' G' a'' w'' q1 q2 q3 q4
  exact wp_mono ((h2 s' q1).1 y nt an c2 G' w'' a'' q2 q3).wp fun e a w hp => hp.mono q4 (fun _ _ h => h)

theorem M1.loop {c : AC} {s : St} {Q R : Ex → St → Prop} (h1 : M1 P ann c s R) (h2 : ∀ s', R .normal s' → M1 P ann (.loop c) s' Q) (h3 : ∀ e s', e ≠ .normal → R e s' → Q e s') : M1 P ann (.loop c) s Q := by
  refine ⟨?_, fun _ _ _ _ _ _ e => by cases e⟩
  intro code nt an hc G w ac hf hi
  obtain ⟨x, rfl, c1⟩ := cCode_inv hc
  refine wpIn_loop (wp_mono (h1.1 x nt an c1 G w ac hf hi).wp ?_)
  intro e a' w' hp
  refine post_then ?_ h3 hp
  intro s' G' a'' w'' q1 q2 q3 q4
  exact ((h2 s' q1).1 (.loop x) nt an hc G' w'' a'' q2 q3).mono fun e a w hp => hp.mono q4 (fun _ _ h => h)

theorem M1.cond {c : Opd} {a b : AC} {s : St} {Q : Ex → St → Prop} (t : Bool) (ht : c.ev s.t = .bool t) (h1 : t = true → M1 P ann a s Q) (h2 : t = false → M1 P ann b s Q) : M1 P ann (.cond c a b) s Q := by
  refine ⟨?_, fun _ _ _ _ _ _ e => by cases e⟩
  intro code nt an hc G w ac hf hi
  obtain ⟨o, x, y, rfl, c0, c1, c2⟩ := cCode_inv hc
  have hrel := opd_rel hf c0
  rw [ht] at hrel
  have he : ac.eval o = .bool t := hrel.sc_inv.1
  refine wp_cond_split he (fun e => ((h1 e).1 x nt an c1 G w ac hf hi).wp) (fun e => ((h2 e).1 y nt an c2 G w ac hf hi).wp)

theorem M1.block {id : Nat} {c : AC} {s : St} {Q R : Ex → St → Prop} (h1 : M1 P ann c s R) (h2 : ∀ s', R (.exit id) s' → Q .normal s') (h3 : ∀ e s', e ≠ .exit id → R e s' → Q e s') : M1 P ann (.block id c) s Q := by
  refine ⟨?_, fun _ _ _ _ _ _ e => by cases e⟩
  intro code nt an hc G w ac hf hi
  obtain ⟨x, rfl, c1⟩ := cCode_inv hc
  exact wp_block (wp_mono (h1.1 x nt an c1 G w ac hf hi).wp fun e a w hp => post_block h2 h3 hp)

theorem M1.scope {c cur : AC} {s : St} {Q R : Ex → St → Prop} (h1 : M1 P ann cur s R) (h2 : ∀ l rest s', R (.goto l) s' → findA c l = some rest → M1 P ann (.scope c rest) s' Q)
    (h3 : ∀ l s', R (.goto l) s' → findA c l = none → Q (.goto l) s') (h4 : ∀ e s', (∀ l, e ≠ .goto l) → R e s' → Q e s') : M1 P ann (.scope c cur) s Q := by
  have ms : ∀ body cc nt an x y, AC.scope c cur = .scope x y → cCode P nt an body = some x → cCode P nt an cc = some y → ∀ G w a, FRel G w nt s.t a → Inv G s.h w → wpScope P (Post G s.h w nt Q) a w body cc := by
    intro body cc nt an x y e hb hcu G w a hf hi
    cases e
    refine wpScope_of (h1.1 cc nt an hcu G w a hf hi).wp ?_ ?_ ?_
    · rintro l rest a' w' ⟨x, s', G', e1, e2, e3, e4, e5⟩ hfl
      have := exOf_goto e1
      subst this
      obtain ⟨r, q1, q2⟩ := (label_rel body c hb l).1 rest hfl
      exact ((h2 l r s' e2 q1).2 body rest nt an _ _ rfl hb q2 G' w' a' e3 e4).mono fun e a w hp => hp.mono e5 (fun _ _ h => h)
    · rintro l a' w' ⟨x, s', G', e1, e2, e3, e4, e5⟩ hfl
      have := exOf_goto e1
      subst this
      exact ⟨.goto l, s', G', rfl, h3 l s' e2 ((label_rel body c hb l).2 hfl), e3, e4, e5⟩
    · rintro e a' w' hne ⟨x, s', G', e1, e2, e3, e4, e5⟩
      refine ⟨x, s', G', e1, h4 x s' ?_ e2, e3, e4, e5⟩
      intro l hx
      subst hx
      exact hne l e1
  refine ⟨?_, ms⟩
  intro code nt an hc G w a hf hi
  obtain ⟨b, rfl, hb, rfl⟩ := cCode_inv hc
  exact (ms b b nt an _ _ rfl hb hb G w a hf hi).wp

theorem M1.ghost {c : AC} {s s' : St} {Q : Ex → St → Prop} (hg : Ghost s s') (h1 : M1 P ann c s' Q) : M1 P ann c s Q := by
  refine ⟨?_, ?_⟩
  · intro code nt an hc G w a hf hi
    obtain ⟨G', q1, q2, q3⟩ := ghost_sound hg hf hi
    exact (h1.1 code nt an hc G' w a q1 q2).mono fun e a w hp => hp.mono q3 (fun _ _ h => h)
  · intro body cur nt an x y e hb hc G w a hf hi
    obtain ⟨G', q1, q2, q3⟩ := ghost_sound hg hf hi
    exact (h1.2 body cur nt an x y e hb hc G' w a q1 q2).mono fun e a w hp => hp.mono q3 (fun _ _ h => h)

theorem M3.cons {o : AOper} {ops : List AOper} {s : St} {Q R : St → Prop} (h1 : M2 P o s R) (h2 : ∀ s', R s' → M3 P ops s' Q) : M3 P (o :: ops) s Q := by
  intro os nt js hp G w a Qx hf hi hb
  cases hp with
  | @cons j _ js _ hj hp =>
    obtain ⟨oo, k, ho, hc⟩ := hj
    rw [wpOps_cons]
    refine h1 os j oo k nt ho hc G w a _ Qx hf hi ?_
    intro s' G' a' w' q1 q2 q3 q4
    exact h2 s' q1 os nt js hp G' w' a' Qx q2 q3 fun s2 G2 a2 w2 r1 r2 r3 r4 => hb s2 G2 a2 w2 r1 r2 r3 (q4.trans r4)

theorem ready_iff {ops : Array Oper} {l : Nat → Bool} {listed : Array Bool} (hs : listed.size = ops.size) (hl : ∀ i, l i = listed.getD i false) (i : Nat) :
    i ∈ Region.ready .any ops listed ↔ readyA (preOf ops) ops.size l i := by
  rw [mem_ready]
  unfold readyA
  constructor
  · rintro ⟨h1, o, ho, h2⟩
    have hlt : i < ops.size := by
      rcases Nat.lt_or_ge i ops.size with h | h
      · exact h
      · rw [Array.getElem?_eq_none h] at ho; cases ho
    refine ⟨hlt, ?_, ?_⟩
    · rw [hl]
      simp [Array.getD_eq_getD_getElem?, hs, hlt] at h1 ⊢
      exact h1
    · intro j hj
      simp [preOf, List.getD_eq_getElem?_getD, List.getElem?_map, ho] at hj
      obtain ⟨e, ⟨he, hb⟩, rfl⟩ := hj
      rw [hl]
      exact h2 e he hb
  · rintro ⟨hlt, h1, h2⟩
    refine ⟨?_, ops[i], by simp [hlt], ?_⟩
    · rw [hl] at h1
      simp [Array.getD_eq_getD_getElem?, hs, hlt] at h1 ⊢
      exact h1
    · intro e he hb
      rw [← hl]
      refine h2 e.on ?_
      simp [preOf, List.getD_eq_getElem?_getD, List.getElem?_map, hlt]
      exact ⟨e, ⟨he, hb⟩, rfl⟩

theorem M4.mk {ops : List AOper} {pre : List (List Nat)} {l : Nat → Bool} {s : St} {Q : St → Prop} (R : Nat → St → Prop) (h1 : (∀ i, ¬ readyA pre ops.length l i) → Q s)
    (h2 : ∀ i o, readyA pre ops.length l i → ops[i]? = some o → M2 P o s (R i)) (h3 : ∀ i s', readyA pre ops.length l i → R i s' → M4 P ops pre (upd l i true) s' Q) : M4 P ops pre l s Q := by
  intro os nt hp hlen hmat fuel listed hs hl hcount G w a Qx hf hi hb
  subst hp
  rw [hlen] at h1 h2 h3
  have hr := ready_iff hs hl
  have hend : Region.ready .any os listed = [] → Qx .normal a w := by
    intro he
    refine hb s G a w (h1 fun i hi' => ?_) hf hi (.refl _ _ _)
    have := (hr i).2 hi'
    rw [he] at this
    cases this
  have hunl : ∀ i, i ∈ Region.ready .any os listed → listed.toList[i]? = some false := by
    intro i hi'
    obtain ⟨hlt, h0, _⟩ := (hr i).1 hi'
    rw [hl] at h0
    simp [Array.getD_eq_getD_getElem?, hs, hlt] at h0
    simp [hs, hlt, h0]
  cases fuel with
  | zero =>
    have he : Region.ready .any os listed = [] := by
      rw [List.eq_nil_iff_forall_not_mem]
      intro i hi'
      have := List.count_pos_iff.2 (List.mem_of_getElem? (hunl i hi'))
      omega
    exact ⟨he, hend he⟩
  | succ fuel =>
    refine ⟨hend, fun i hi' => ?_⟩
    have hra := (hr i).1 hi'
    have hlt := hra.1
    have hA : ops[i]? = some (ops[i]'(by omega)) := by simp [hlen, hlt]
    obtain ⟨o, k, ho, hc⟩ := hmat i _ hA
    refine h2 i _ hra hA os i o k nt ho hc G w a _ Qx hf hi ?_
    intro s' G' a' w' q1 q2 q3 q4
    refine h3 i s' hra q1 os nt rfl hlen hmat fuel (listed.setIfInBounds i true) (by simpa using hs) ?_ ?_ G' w' a' Qx q2 q3 fun s2 G2 a2 w2 r1 r2 r3 r4 => hb s2 G2 a2 w2 r1 r2 r3 (q4.trans r4)
    · intro j
      unfold upd
      split
      · rename_i e
        subst e
        simp [Array.getD_eq_getD_getElem?, hs, hlt]
      · rename_i e
        rw [hl]
        rw [getD_set_ne false (fun h => e h.symm)]
    · have := count_set listed.toList i (hunl i hi')
      simp only [Array.toList_setIfInBounds]
      omega

theorem M5.mk {k f : Nat} {args : List AV} {h : Heap} {Q : AV → Heap → Prop} {af : AFn} (R : Ex → St → Prop) (hc : cFn P ann k f = some af) (hl : args.length = af.np)
    (h1 : M1 P ann af.code ⟨initT args, h⟩ R)
    (h2 : ∀ e s, R e s → (e = .ret ∨ e = .normal) ∧ ∃ v, resA af.res s = some v ∧ (Q v s.h ∨ ((∀ o, h o ≠ none → s.h o = h o) ∧ Q v h))) : M5 P f args h Q := by
  simp only [cFn, Option.bind_eq_bind, Option.bind_eq_some_iff] at hc
  obtain ⟨fn, hfn, body, hbody, c, hcode, rs, hrs, hc⟩ := hc
  split at hc
  · rename_i hcond
    cases hc
    refine ⟨⟨fn, hfn, by rw [hbody]; rfl, hcond.2⟩, ?_⟩
    intro G w vals hr hi
    refine calls_of_wp hfn hbody ?_
    have hl : args.length = fn.params.size + fn.nfree := hl
    have hf := hr.frame (nt := fn.ntmps) (by omega)
    refine wp_mono (h1.1 body fn.ntmps _ hcode G w _ hf hi).wp ?_
    intro e a' w' hp
    obtain ⟨x, s', G', e1, e2, e3, e4, e5⟩ := hp
    obtain ⟨hx, v, hv, hq⟩ := h2 x s' e2
    obtain ⟨cv, G2, r1, r2, r3, r4, r5⟩ := run_results e3 e4 hrs hv
    have hend : a'.defers = [] ∧ ∃ v, (results fn a'.tmps).run P w' = .ok v w' ∧ CallPost G h w Q (.returned v) w' := by
      refine ⟨e3.defers, cv, r1, ?_⟩
      rcases hq with hq | ⟨hsub, hq⟩
      · exact ⟨v, cv, s'.h, G2, rfl, hq, r2, r3, r4, e5.trans r5⟩
      · exact ⟨v, cv, h, G2, rfl, hq, r2, r3, r4.forget hsub, (e5.trans r5).forget⟩
    rcases hx with rfl | rfl <;> subst e1 <;> exact hend
  · cases hc

theorem ghosts_sound {s s' : St} (hg : Ghosts s s') : ∀ {G : Gh} {w : World} {n : Nat} {a : Act}, FRel G w n s.t a → Inv G s.h w → ∃ G', FRel G' w n s'.t a ∧ Inv G' s'.h w ∧ Kept G s.h w G' s'.h w := by
  induction hg with
  | nil => exact fun hf hi => ⟨_, hf, hi, .refl _ _ _⟩
  | cons h1 _ ih =>
    intro G w n a hf hi
    obtain ⟨G1, f1, i1, k1⟩ := ghost_sound h1 hf hi
    obtain ⟨G2, f2, i2, k2⟩ := ih f1 i1
    exact ⟨G2, f2, i2, k1.trans k2⟩
theorem callPost_ghost {G : Gh} {h : Heap} {w : World} {R Q : AV → Heap → Prop} (hq : ∀ v h', R v h' → ∃ t' h'', Ghosts ⟨initT [v.dis], h'⟩ ⟨t', h''⟩ ∧ (t' 0).isOwn = false ∧ Q (t' 0) h'') {e : Ending} {w' : World} (H : CallPost G h w R e w') : CallPost G h w Q e w' := by
  obtain ⟨v, cv, h', G', e1, e2, e3, e4, e5, e6⟩ := H
  obtain ⟨t', h'', hg, ho', hQ⟩ := hq v h' e2
  have hf : FRel G' w' 1 (initT [v.dis]) { tmps := #[cv], defers := [] } := by
    refine ⟨rfl, rfl, fun i => ?_, fun i => ?_⟩
    · cases i with
      | zero => exact e3.dis
      | succ i => exact undef_rel G'
    · cases i with
      | zero => exact .dis
      | succ i => exact .of_not rfl
  obtain ⟨G2, f2, i2, k2⟩ := ghosts_sound hg hf e5
  exact ⟨t' 0, cv, h'', G2, e1, hQ, f2.val 0, .of_not ho', i2, e6.trans k2⟩
theorem sound (hs : OpsSound P) (hm : P.follows .mixedOrders = true) {k f : Nat} {args : List AV} {h : Heap} {Q : AV → Heap → Prop} (H : AWF P ann k f args h Q) : M5 P f args h Q ∨ M6 P f args h Q := by
  refine AWF.rec (P := P) (ann := ann) (motive_1 := fun c s Q _ => M1 P ann c s Q) (motive_2 := fun o s Q _ => M2 P o s Q) (motive_3 := fun os s Q _ => M3 P os s Q)
    (motive_4 := fun os pre l s Q _ => M4 P os pre l s Q) (motive_5 := fun k f args h Q _ => M5 P f args h Q ∨ M6 P f args h Q) ?_ ?_ ?_ ?_ ?_ ?_ ?_ ?_ ?_ ?_ ?_ ?_ ?_ ?_ ?_ ?_ ?_ ?_ ?_ ?_ ?_ ?_ ?_ ?_ ?_ ?_ ?_ H
  · intro s Q hq
    refine ⟨?_, fun _ _ _ _ _ _ e => by cases e⟩
    intro code nt an hc G w a hf hi
    have e : code = .skip := cCode_inv hc
    subst e
    exact wp_skip ⟨.normal, s, G, rfl, hq, hf, hi, .refl _ _ _⟩
  · intro ops s Q _ ih
    exact M1.reg ih
  · intro ops pre s Q _ ih
    exact M1.regd hm ih
  · intro l s Q _ ih
    exact M1.regx hm ih
  · intro a b s Q R _ _ h3 ih1 ih2
    exact M1.seq ih1 ih2 h3
  · intro c a b s Q t ht _ _ ih1 ih2
    exact M1.cond t ht ih1 ih2
  · intro id c s Q R _ h2 h3 ih
    exact M1.block ih h2 h3
  · intro c s Q R _ _ h3 ih1 ih2
    exact M1.loop ih1 ih2 h3
  · intro id s Q hq
    refine ⟨?_, fun _ _ _ _ _ _ e => by cases e⟩
    intro code nt an hc G w a hf hi
    have e : code = .exit id := cCode_inv hc
    subst e
    exact wp_exit ⟨.exit id, s, G, rfl, hq, hf, hi, .refl _ _ _⟩
  · intro s Q hq
    refine ⟨?_, fun _ _ _ _ _ _ e => by cases e⟩
    intro code nt an hc G w a hf hi
    have e : code = .ret := cCode_inv hc
    subst e
    exact wp_ret ⟨.ret, s, G, rfl, hq, hf, hi, .refl _ _ _⟩
  · intro c cur s Q R _ _ h3 h4 ih1 ih2
    exact M1.scope ih1 ih2 h3 h4
  · intro l s Q hq
    refine ⟨?_, fun _ _ _ _ _ _ e => by cases e⟩
    intro code nt an hc G w a hf hi
    have e : code = .label l := cCode_inv hc
    subst e
    exact wp_label ⟨.normal, s, G, rfl, hq, hf, hi, .refl _ _ _⟩
  · intro l s Q hq
    refine ⟨?_, fun _ _ _ _ _ _ e => by cases e⟩
    intro code nt an hc G w a hf hi
    have e : code = .goto l := cCode_inv hc
    subst e
    exact wp_goto ⟨.goto l, s, G, rfl, hq, hf, hi, .refl _ _ _⟩
  · intro c s Q _ ih
    exact M1.free ih
  · intro c s s' Q hg _ ih
    exact M1.ghost hg ih
  · intro o s Q hw hq
    exact m2_pass hw hq
  · intro o s v t h Q hw hx hq
    exact m2_val hs hw hx hq
  · intro o s kk ob t Q hw hx hq
    exact m2_new hs hw hx hq
  · intro o s lo kk ob t Q hw hx hq
    exact m2_newc hs hw hx hq
  · intro o s k f args t Q R hw hx _ hq ih
    exact ih.elim (fun ih => m2_call hs hw hx ih hq) (fun ih => m2_ext hs hw hx ih hq)
  · intro s Q hq ops nt js hp G w a Qx hf hi hb
    cases hp
    exact hb s G a w hq hf hi (.refl _ _ _)
  · intro o ops s Q R _ _ ih1 ih2
    exact M3.cons ih1 ih2
  · intro ops pre l s Q R h1 _ _ ih1 ih2
    exact M4.mk R h1 ih1 ih2
  · intro k f args h Q af R hc hl _ h2 ih
    exact .inl (M5.mk R hc hl ih h2)
  · intro k f args h Q hm
    exact .inl hm
  · intro k f args h Q hm
    exact .inr hm
  · intro k f args h Q R _ hq ih
    rcases ih with ih | ih
    · exact .inl ⟨ih.1, fun G w vals ha hi => (ih.2 G w vals ha hi).mono fun e w' hp => callPost_ghost hq hp⟩
    · exact .inr ⟨ih.1, fun G w vals ha hi => (ih.2 G w vals ha hi).imp fun cv ⟨w', h1, h2⟩ => ⟨w', h1, callPost_ghost hq h2⟩⟩

end Go.Am
