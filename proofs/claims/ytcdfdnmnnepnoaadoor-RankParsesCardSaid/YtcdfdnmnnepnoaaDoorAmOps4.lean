/- Parts of tuples, nil, functions, structs by value, reading. -/
import Derived.Test.YtcdfdnmnnepnoaaDoorAmOps3
set_option linter.unusedVariables false
set_option linter.unusedSimpArgs false
namespace Go.Am
variable {P : Program} {G : Gh} {h : Heap} {w : World} {n : Nat} {t : Nat → AV} {a : Act}

theorem ok_ext (hf : FRel G w n t a) (hi : Inv G h w) {o : Oper} {x : Operand} {i : Nat} {x' : Opd} {dst : Option Nat} {v : AV} {t' : Nat → AV} {h' : Heap}
    (hop : o.op = .extract x i) (hx : cOpd x = some x') (hd : ∀ d, dst = some d → d < n)
    (hv : aex P (.ext i x') ⟨t, h⟩ = some (.val v t' h')) : OpOk P G h w n a o dst v t' h' := by
  have hrel := opd_rel hf hx
  simp only [aex] at hv
  split at hv
  · rename_i vs hvs
    simp only [Option.bind_eq_bind, Option.bind_eq_some_iff] at hv
    obtain ⟨u, hu, hv⟩ := hv
    simp at hv
    obtain ⟨rfl, rfl, rfl⟩ := hv
    rw [hvs] at hrel
    generalize hc : a.eval x = cx at hrel
    cases hrel with
    | @tu _ ds h1 h2 =>
      have h3 := h2 _ _ hu
      have hlt : i < ds.size := by
        rcases Nat.lt_or_ge i vs.length with h | h
        · omega
        · rw [List.getElem?_eq_none h] at hu; cases hu
      refine .plain hf hi hd (cv := ds.getD i Go.undef) ?_ h3.dis (dis_own _)
      simp [execOp, hop, hc, Instr.extract, Array.getD_eq_getD_getElem?, hlt]
  · simp at hv

theorem ok_nck (hf : FRel G w n t a) (hi : Inv G h w) {o : Oper} {x : Operand} {x' : Opd} {dst : Option Nat} {v : AV} {t' : Nat → AV} {h' : Heap}
    (hop : o.op = .nilCheck x) (hx : cOpd x = some x') (hd : ∀ d, dst = some d → d < n)
    (hv : aex P (.nck x') ⟨t, h⟩ = some (.val v t' h')) : OpOk P G h w n a o dst v t' h' := by
  have hrel := opd_rel hf hx
  simp only [aex] at hv
  have key : ∀ cv, a.eval x = cv → (∃ ad, cv = .pointer (some ad)) ∨ (∃ f fs cs, cv = .func (.func f) fs cs) → (execOp a.eval o).run P w = .ok (.value cv) w := by
    rintro cv e (⟨ad, rfl⟩ | ⟨f, fs, cs, rfl⟩) <;> simp [execOp, hop, e]
  split at hv
  all_goals first
    | (simp at hv; done)
    | (rename_i hs
       simp at hv
       obtain ⟨rfl, rfl, rfl⟩ := hv
       rw [hs] at hrel ⊢
       generalize hc : a.eval x = cx at hrel
       cases hrel
       all_goals first
         | exact .plain hf hi hd (key _ hc (.inl ⟨_, rfl⟩)) .op rfl
         | exact .plain hf hi hd (key _ hc (.inl ⟨_, rfl⟩)) (.cp _ ‹_› ‹_› ‹_›) rfl
         | exact .plain hf hi hd (key _ hc (.inr ⟨_, _, _, rfl⟩)) (.fn ‹_› ‹_› ‹_› ‹_›) rfl)

def nilOf : Nat → Value
  | 0 => .slice none 0 0
  | 1 => .pointer none
  | 2 => .map none
  | _ => .nilFunc

theorem isNilC_spec {k : Nat} {x : Operand} (hk : k ≤ 3) (hx : isNilC k x = true) : x = .const (nilOf k) := by
  unfold isNilC at hx
  split at hx
  all_goals first
    | (simp at hx; subst hx; rfl)
    | (simp at hx; done)


def KindT (d : TypeDesc) : Nat → Prop
  | 0 => ∃ e, d = .slice e
  | 1 => ∃ e, d = .pointer e
  | 2 => ∃ k e, d = .map k e
  | _ => ∃ a b c, d = .func a b c

theorem run_eq_nil {k : Nat} (hk : k ≤ 3) {ty : TypeId} {d : TypeDesc} (ht : P.underlying ty = some d) (hd : KindT d k) {v : Value} {q : Bool}
    (hv : (q = true ∧ v = nilOf k) ∨ (q = false ∧ ((k = 0 ∧ ∃ a l c, v = .slice (some a) l c) ∨ (k = 1 ∧ ∃ a, v = .pointer (some a)) ∨ (k = 2 ∧ ∃ r, v = .map (some r)) ∨ (k = 3 ∧ ∃ f x y, v = .func f x y)))) :
    (Op.equal ty v (nilOf k)).run P w = .ok q w ∧ (Op.equal ty (nilOf k) v).run P w = .ok q w := by
  unfold Op.equal Op.maxDepth
  have e10 : (10000 : Nat) = 9999 + 1 := rfl
  rw [e10]
  unfold Op.equalIn
  simp only [Sem.run_bind, run_underlyingA ht, Result.andThen_ok]
  rcases k with _ | _ | _ | _ | k
  · obtain ⟨e, rfl⟩ := hd
    obtain ⟨rfl, rfl⟩ | ⟨rfl, ⟨_, ad, l, c, rfl⟩ | ⟨h, _⟩ | ⟨h, _⟩ | ⟨h, _⟩⟩ := hv
    · simp [nilOf]
    · simp [nilOf]
    all_goals simp at h
  · obtain ⟨e, rfl⟩ := hd
    obtain ⟨rfl, rfl⟩ | ⟨rfl, ⟨h, _⟩ | ⟨_, ad, rfl⟩ | ⟨h, _⟩ | ⟨h, _⟩⟩ := hv
    · simp [nilOf]
    · simp at h
    · simp [nilOf]
    all_goals simp at h
  · obtain ⟨k, e, rfl⟩ := hd
    obtain ⟨rfl, rfl⟩ | ⟨rfl, ⟨h, _⟩ | ⟨h, _⟩ | ⟨_, r, rfl⟩ | ⟨h, _⟩⟩ := hv
    · simp [nilOf]
    · simp at h
    · simp at h
    · simp [nilOf]
    · simp at h
  · obtain ⟨e1, e2, e3, rfl⟩ := hd
    obtain ⟨rfl, rfl⟩ | ⟨rfl, ⟨h, _⟩ | ⟨h, _⟩ | ⟨h, _⟩ | ⟨_, f, x, y, rfl⟩⟩ := hv
    · simp [nilOf]
    · simp at h
    · simp at h
    · simp at h
    · simp [nilOf]
  · omega

theorem eqGuard_nil (op : BinOp) (ty : TypeId) (x y : Operand) {k : Nat} (v : Value) : eqGuard op ty x y v (nilOf k) = pure () ∧ eqGuard op ty x y (nilOf k) v = pure () := by
  rcases k with _ | _ | _ | k <;> (unfold eqGuard nilOf; constructor <;> (cases v <;> (simp; try (split <;> rfl))))

theorem binOp_nil {k : Nat} (ty : TypeId) (v : Value) (hv : v = nilOf k ∨ (∃ a l c, v = .slice (some a) l c) ∨ (∃ a, v = .pointer (some a)) ∨ (∃ r, v = .map (some r)) ∨ ∃ f x y, v = .func f x y) :
    binOp .eql ty v (nilOf k) = (do pure (.bool (← Op.equal ty v (nilOf k)))) ∧ binOp .eql ty (nilOf k) v = (do pure (.bool (← Op.equal ty (nilOf k) v))) ∧
    binOp .neq ty v (nilOf k) = (do pure (.bool (!(← Op.equal ty v (nilOf k))))) ∧ binOp .neq ty (nilOf k) v = (do pure (.bool (!(← Op.equal ty (nilOf k) v)))) := by
  rcases k with _ | _ | _ | k <;> obtain rfl | ⟨_, _, _, rfl⟩ | ⟨_, rfl⟩ | ⟨_, rfl⟩ | ⟨_, _, _, rfl⟩ := hv <;> exact ⟨rfl, rfl, rfl, rfl⟩

theorem nilKind_spec {ty : TypeId} {k : Nat} (hk : nilKind P ty = some k) : k ≤ 3 ∧ ∃ d, P.underlying ty = some d ∧ KindT d k := by
  unfold nilKind at hk
  split at hk <;> simp at hk <;> subst hk
  · exact ⟨by omega, _, ‹_›, _, rfl⟩
  · exact ⟨by omega, _, ‹_›, _, rfl⟩
  · exact ⟨by omega, _, ‹_›, _, _, rfl⟩
  · exact ⟨by omega, _, ‹_›, _, _, _, rfl⟩

theorem ok_isnil (hf : FRel G w n t a) (hi : Inv G h w) {o : Oper} {op : BinOp} {ty ty' : TypeId} {x y z : Operand} {z' : Opd} {k : Nat} {neg : Bool} {dst : Option Nat} {v : AV} {t' : Nat → AV} {h' : Heap}
    (hop : o.op = .binOp op ty x y ty') (hneg : (op = .eql ∧ neg = false) ∨ (op = .neq ∧ neg = true)) (hn : nilCmp P ty x y = some (k, z)) (hz : cOpd z = some z') (hd : ∀ d, dst = some d → d < n)
    (hv : aex P (.isnil k neg z') ⟨t, h⟩ = some (.val v t' h')) : OpOk P G h w n a o dst v t' h' := by
  unfold nilCmp at hn
  split at hn
  · rename_i k' hk'
    obtain ⟨hk3, d, ht, hkd⟩ := nilKind_spec hk'
    have hrel := opd_rel hf hz

    have hxy : k' = k ∧ ((isNilC k y = true ∧ z = x) ∨ (isNilC k x = true ∧ z = y)) := by
      split at hn
      · rename_i h1; simp at hn; obtain ⟨rfl, rfl⟩ := hn; exact ⟨rfl, .inl ⟨h1, rfl⟩⟩
      · split at hn
        · rename_i h1; simp at hn; obtain ⟨rfl, rfl⟩ := hn; exact ⟨rfl, .inr ⟨h1, rfl⟩⟩
        · simp at hn
    obtain ⟨rfl, hxy⟩ := hxy
    have key : ∀ q, ((q = true ∧ a.eval z = nilOf k') ∨ (q = false ∧ ((k' = 0 ∧ ∃ ad l c, a.eval z = .slice (some ad) l c) ∨ (k' = 1 ∧ ∃ ad, a.eval z = .pointer (some ad)) ∨ (k' = 2 ∧ ∃ r, a.eval z = .map (some r)) ∨ (k' = 3 ∧ ∃ f x y, a.eval z = .func f x y)))) →
        (execOp a.eval o).run P w = .ok (.value (.bool (if neg then !q else q))) w := by
      intro q hq
      obtain ⟨r1, r2⟩ := run_eq_nil (P := P) (w := w) hk3 ht hkd hq
      have hform : a.eval z = nilOf k' ∨ (∃ ad l c, a.eval z = .slice (some ad) l c) ∨ (∃ ad, a.eval z = .pointer (some ad)) ∨ (∃ r, a.eval z = .map (some r)) ∨ ∃ f x y, a.eval z = .func f x y := by
        obtain ⟨_, h⟩ | ⟨_, ⟨_, h⟩ | ⟨_, h⟩ | ⟨_, h⟩ | ⟨_, h⟩⟩ := hq
        · exact .inl h
        · exact .inr (.inl h)
        · exact .inr (.inr (.inl h))
        · exact .inr (.inr (.inr (.inl h)))
        · exact .inr (.inr (.inr (.inr h)))
      obtain ⟨b1, b2, b3, b4⟩ := binOp_nil (k := k') ty (a.eval z) hform
      have g := fun x y => eqGuard_nil op ty x y (k := k') (a.eval z)
      rcases hxy with ⟨hy, rfl⟩ | ⟨hx, rfl⟩
      · have := isNilC_spec hk3 hy
        subst this
        have ec : a.eval (.const (nilOf k')) = nilOf k' := rfl
        obtain ⟨rfl, rfl⟩ | ⟨rfl, rfl⟩ := hneg
        · simp only [execOp, hop, ec, (g _ _).1, b1, Sem.run_bind, Sem.run_pure, Result.andThen_ok, r1]; simp
        · simp only [execOp, hop, ec, (g _ _).1, b3, Sem.run_bind, Sem.run_pure, Result.andThen_ok, r1]; simp
      · have := isNilC_spec hk3 hx
        subst this
        have ec : a.eval (.const (nilOf k')) = nilOf k' := rfl
        obtain ⟨rfl, rfl⟩ | ⟨rfl, rfl⟩ := hneg
        · simp only [execOp, hop, ec, (g _ _).2, b2, Sem.run_bind, Sem.run_pure, Result.andThen_ok, r2]; simp
        · simp only [execOp, hop, ec, (g _ _).2, b4, Sem.run_bind, Sem.run_pure, Result.andThen_ok, r2]; simp
    simp only [aex] at hv
    have fin : ∀ q cv, (execOp a.eval o).run P w = .ok (.value (.bool cv)) w → q = cv → OpOk P G h w n a o dst (.bool q) t h := by
      intro q cv hr e
      subst e
      exact .plain hf hi hd hr (.sc rfl) rfl
    split at hv
    all_goals first
      | (simp at hv; done)
      | (rename_i hs
         simp at hv
         obtain ⟨rfl, rfl, rfl⟩ := hv
         rw [hs] at hrel
         have e2 := hrel.sc_inv.1
         exact fin _ _ (key true (.inl ⟨rfl, e2⟩)) (by cases neg <;> rfl))
      | (rename_i hs
         simp at hv
         obtain ⟨rfl, rfl, rfl⟩ := hv
         rw [hs] at hrel
         generalize hc : a.eval z = cx at hrel
         cases hrel
         all_goals first
           | exact fin _ _ (key false (.inr ⟨rfl, .inl ⟨rfl, _, _, _, hc⟩⟩)) (by cases neg <;> rfl)
           | exact fin _ _ (key false (.inr ⟨rfl, .inr (.inl ⟨rfl, _, hc⟩)⟩)) (by cases neg <;> rfl)
           | exact fin _ _ (key false (.inr ⟨rfl, .inr (.inr (.inl ⟨rfl, _, hc⟩))⟩)) (by cases neg <;> rfl)
           | exact fin _ _ (key false (.inr ⟨rfl, .inr (.inr (.inr ⟨rfl, _, _, _, hc⟩))⟩)) (by cases neg <;> rfl))
  · simp at hn

end Go.Am
