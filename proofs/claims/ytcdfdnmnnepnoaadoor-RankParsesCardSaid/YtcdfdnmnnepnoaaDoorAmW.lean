/- The abstract machine's code, as a condition that is worked out from the state: for proofs by rewriting. -/
import Derived.Test.YtcdfdnmnnepnoaaDoorAmDrawX
set_option linter.unusedVariables false
set_option linter.unusedSimpArgs false
namespace Go.Am
variable {P : Program} {ann : Ann}

def W (P : Program) (ann : Ann) : AC → St → (Ex → St → Prop) → Prop
  | .skip, s, Q => Q .normal s
  | .reg ops, s, Q => WO P ann ops s (Q .normal)
  | .regd ops pre, s, Q => (drawOk ops pre = true ∧ QO P ann ops s (Q .normal)) ∨ (drawOk ops pre = false ∧ AWD P ann ops pre (fun _ => false) s (Q .normal))
  | .regx l, s, Q => QX P ann l s (Q .normal)
  | .seq a b, s, Q => W P ann a s (thenQ (fun s' => W P ann b s' Q) Q)
  | .cond c a b, s, Q => ∃ t, c.ev s.t = .bool t ∧ (t = true → W P ann a s Q) ∧ (t = false → W P ann b s Q)
  | .block id c, s, Q => W P ann c s (blockQ id Q)
  | .loop c, s, Q => AW P ann (.loop c) s Q
  | .exit id, s, Q => Q (.exit id) s
  | .ret, s, Q => Q .ret s
  | .scope c cur, s, Q => AW P ann (.scope c cur) s Q
  | .label _, s, Q => Q .normal s
  | .goto l, s, Q => Q (.goto l) s

theorem W_sound : ∀ {c : AC} {s : St} {Q : Ex → St → Prop}, W P ann c s Q → AW P ann c s Q
  | .skip, s, Q, h => .skip h
  | .reg ops, s, Q, h => .reg (WO_sound h)
  | .regd ops pre, s, Q, h => by
    rcases h with ⟨h1, h2⟩ | ⟨_, h2⟩
    · exact .regd (AWD_quiet h1 (QO_sound h2))
    · exact .regd h2
  | .regx l, s, Q, h => W_regx_sound h
  | .seq a b, s, Q, h => .seq _ (W_sound h) (fun s' hs => W_sound hs) (fun e s' he hs => by cases e <;> first | exact absurd rfl he | exact hs)
  | .cond c a b, s, Q, h => by
    obtain ⟨t, h1, h2, h3⟩ := h
    exact .cond t h1 (fun e => W_sound (h2 e)) (fun e => W_sound (h3 e))
  | .block id c, s, Q, h => .block _ (W_sound h) (fun s' hs => by simpa [blockQ] using hs) (fun e s' he hs => by
    cases e with
    | exit i =>
      have hne : i ≠ id := fun e => he (by rw [e])
      simpa [blockQ, hne] using hs
    | _ => exact hs)
  | .loop c, s, Q, h => h
  | .exit id, s, Q, h => .exit h
  | .ret, s, Q, h => .ret h
  | .scope c cur, s, Q, h => h
  | .label _, s, Q, h => .label h
  | .goto l, s, Q, h => .goto h


theorem AW_loop {c : AC} {s : St} {Q : Ex → St → Prop} (I : St → Prop) (μ : St → Nat) (h0 : I s)
    (round : ∀ s, I s → W P ann c s (thenQ (fun s' => I s' ∧ μ s' < μ s) Q)) : AW P ann (.loop c) s Q := by
  have key : ∀ n s, μ s = n → I s → AW P ann (.loop c) s Q := by
    intro n
    induction n using Nat.strongRecOn with
    | _ n ih =>
      intro s hn hI
      refine .loop _ (W_sound (round s hI)) (fun s' hs => ih (μ s') (hn ▸ hs.2) s' rfl hs.1) (fun e s' he hs => ?_)
      cases e <;> first | exact absurd rfl he | exact hs
  exact key _ s rfl h0


theorem AW_loopN {c : AC} {t : Nat → AV} {h : Heap} {Q : Ex → St → Prop} (I : Nat → (Nat → AV) → Heap → Prop) {n : Nat} (h0 : I n t h)
    (round : ∀ n t h, I n t h → W P ann c ⟨t, h⟩ (thenQ (fun s' => ∃ m, m < n ∧ I m s'.t s'.h) Q)) : AW P ann (.loop c) ⟨t, h⟩ Q := by
  have key : ∀ n t h, I n t h → AW P ann (.loop c) ⟨t, h⟩ Q := by
    intro n
    induction n using Nat.strongRecOn with
    | _ n ih =>
      intro t h hI
      refine .loop _ (W_sound (round n t h hI)) (fun s' hs => ?_) (fun e s' he hs => ?_)
      · obtain ⟨m, hm, hI'⟩ := hs
        exact ih m hm s'.t s'.h hI'
      · cases e <;> first | exact absurd rfl he | exact hs
  exact key n t h h0


theorem AWF.fn {k f : Nat} {args : List AV} {h : Heap} {Q : AV → Heap → Prop} {af : AFn} (hc : cFn P ann k f = some af) (hl : args.length = af.np)
    (hw : W P ann af.code ⟨initT args, h⟩ fun e s => (e = .ret ∨ e = .normal) ∧ ∃ v, resA af.res s = some v ∧ Q v s.h) : AWF P ann k f args h Q :=
  .mk _ hc hl (W_sound hw) fun e s ⟨he, v, hv, hq⟩ => ⟨he, v, hv, .inl hq⟩


theorem AWF.fnc {k f : Nat} {args : List AV} {h : Heap} {Q : AV → Heap → Prop} {np nt : Nat} {code : AC} {res : List ARes} (hc : cFn P ann k f = some ⟨np, nt, code, res⟩) (hl : args.length = np)
    (hw : W P ann code ⟨initT args, h⟩ fun e s => (e = .ret ∨ e = .normal) ∧ ∃ v, resA res s = some v ∧ Q v s.h) : AWF P ann k f args h Q :=
  .mk _ hc hl (W_sound hw) fun e s ⟨he, v, hv, hq⟩ => ⟨he, v, hv, .inl hq⟩


theorem AWF.fnPure {k f : Nat} {args : List AV} {h : Heap} {Q : AV → Prop} {af : AFn} (hc : cFn P ann k f = some af) (hl : args.length = af.np)
    (hw : W P ann af.code ⟨initT args, h⟩ fun e s => (e = .ret ∨ e = .normal) ∧ (∃ v, resA af.res s = some v ∧ Q v) ∧ ∀ o, h o ≠ none → s.h o = h o) : AWF P ann k f args h fun v h' => Q v ∧ h' = h :=
  .mk _ hc hl (W_sound hw) fun e s ⟨he, ⟨v, hv, hq⟩, hh⟩ => ⟨he, v, hv, .inr ⟨hh, hq, rfl⟩⟩


theorem W_seq_gen {a b : AC} {s : St} {Q : Ex → St → Prop} (H : ∀ N : St → Prop, (∀ s', W P ann b s' Q → N s') → W P ann a s (thenQ N Q)) : W P ann (.seq a b) s Q := H _ (fun _ h => h)


theorem A_seq_gen {a b : AC} {s : St} {Q : Ex → St → Prop} (H : ∀ N : St → Prop, (∀ s', AW P ann b s' Q → N s') → AW P ann a s (thenQ N Q)) : AW P ann (.seq a b) s Q :=
  .seq _ (H _ (fun _ h => h)) (fun s' hs => hs) (fun e s' he hs => by cases e <;> first | exact absurd rfl he | exact hs)
theorem A_block {id : Nat} {c : AC} {s : St} {Q : Ex → St → Prop} (H : AW P ann c s (blockQ id Q)) : AW P ann (.block id c) s Q :=
  .block _ H (fun s' hs => by simpa [blockQ] using hs) (fun e s' he hs => by
    cases e with
    | exit i =>
      have hne : i ≠ id := fun e => he (by rw [e])
      simpa [blockQ, hne] using hs
    | _ => exact hs)

theorem A_loopN {c : AC} {t : Nat → AV} {h : Heap} {Q : Ex → St → Prop} (I : Nat → (Nat → AV) → Heap → Prop) {n : Nat} (h0 : I n t h)
    (round : ∀ n t h, I n t h → AW P ann c ⟨t, h⟩ (thenQ (fun s' => ∃ m, m < n ∧ I m s'.t s'.h) Q)) : AW P ann (.loop c) ⟨t, h⟩ Q := by
  have key : ∀ n t h, I n t h → AW P ann (.loop c) ⟨t, h⟩ Q := by
    intro n
    induction n using Nat.strongRecOn with
    | _ n ih =>
      intro t h hI
      refine .loop _ (round n t h hI) (fun s' hs => ?_) (fun e s' he hs => ?_)
      · obtain ⟨m, hm, hI'⟩ := hs
        exact ih m hm s'.t s'.h hI'
      · cases e <;> first | exact absurd rfl he | exact hs
  exact key n t h h0

theorem AWF.fna {k f : Nat} {args : List AV} {h : Heap} {Q : AV → Heap → Prop} {np nt : Nat} {code : AC} {res : List ARes} (hc : cFn P ann k f = some ⟨np, nt, code, res⟩) (hl : args.length = np)
    (hw : AW P ann code ⟨initT args, h⟩ fun e s => (e = .ret ∨ e = .normal) ∧ ∃ v, resA res s = some v ∧ Q v s.h) : AWF P ann k f args h Q :=
  .mk _ hc hl hw fun e s ⟨he, v, hv, hq⟩ => ⟨he, v, hv, .inl hq⟩
def jumpQ (J : Nat → St → Prop) (Q : Ex → St → Prop) : Ex → St → Prop
  | .goto l, s => J l s
  | e, s => Q e s
theorem jumpQ_goto {J : Nat → St → Prop} {Q : Ex → St → Prop} {l : Nat} {s : St} : jumpQ J Q (.goto l) s = J l s := nd rfl
theorem jumpQ_normal {J : Nat → St → Prop} {Q : Ex → St → Prop} {s : St} : jumpQ J Q .normal s = Q .normal s := nd rfl
theorem jumpQ_ret {J : Nat → St → Prop} {Q : Ex → St → Prop} {s : St} : jumpQ J Q .ret s = Q .ret s := nd rfl
theorem jumpQ_exit {J : Nat → St → Prop} {Q : Ex → St → Prop} {i : Nat} {s : St} : jumpQ J Q (.exit i) s = Q (.exit i) s := nd rfl

theorem A_scope {c : AC} {t : Nat → AV} {h : Heap} {Q : Ex → St → Prop} (J : Nat → Nat → (Nat → AV) → Heap → Prop)
    (first : AW P ann c ⟨t, h⟩ (jumpQ (fun l s => ∃ m, J l m s.t s.h) Q))
    (pass : ∀ l m t h, J l m t h → ∃ rest, findA c l = some rest ∧ AW P ann rest ⟨t, h⟩ (jumpQ (fun l' s => ∃ m', m' < m ∧ J l' m' s.t s.h) Q)) : AW P ann (.scope c c) ⟨t, h⟩ Q := by
  have key : ∀ m l t h, J l m t h → ∀ rest, findA c l = some rest → AW P ann (.scope c rest) ⟨t, h⟩ Q := by
    intro m
    induction m using Nat.strongRecOn with
    | _ m ih =>
      intro l t h hJ rest hr
      obtain ⟨rest', h1, h2⟩ := pass l m t h hJ
      rw [hr] at h1
      cases h1
      refine .scope _ h2 (fun l' r s' hs hf => ?_) (fun l' s' hs hf => ?_) (fun e s' he hs => ?_)
      · obtain ⟨m', hm, hJ'⟩ := hs
        exact ih m' hm l' s'.t s'.h hJ' r hf
      · obtain ⟨m', hm, hJ'⟩ := hs
        obtain ⟨r, q, _⟩ := pass l' m' _ _ hJ'
        rw [q] at hf
        cases hf
      · cases e <;> first | exact hs | exact absurd rfl (he _)
  refine .scope _ first (fun l' r s' hs hf => ?_) (fun l' s' hs hf => ?_) (fun e s' he hs => ?_)
  · obtain ⟨m', hJ'⟩ := hs
    exact key m' l' s'.t s'.h hJ' r hf
  · obtain ⟨m', hJ'⟩ := hs
    obtain ⟨r, q, _⟩ := pass l' m' _ _ hJ'
    rw [q] at hf
    cases hf
  · cases e <;> first | exact hs | exact absurd rfl (he _)



section rules
variable {t : Nat → AV} {h : Heap} {Q : Ex → St → Prop} {N : St → Prop}
theorem W_skip : W P ann .skip ⟨t, h⟩ Q = Q .normal ⟨t, h⟩ := nd rfl
theorem W_reg {ops} : W P ann (.reg ops) ⟨t, h⟩ Q = WO P ann ops ⟨t, h⟩ (Q .normal) := nd rfl
theorem W_regd {ops pre} (hd : drawOk ops pre = true) : W P ann (.regd ops pre) ⟨t, h⟩ Q = QO P ann ops ⟨t, h⟩ (Q .normal) := by
  show (_ ∨ _) = _
  simp [hd]
theorem W_regx {l} : W P ann (.regx l) ⟨t, h⟩ Q = QX P ann l ⟨t, h⟩ (Q .normal) := nd rfl
theorem W_seq {a b} : W P ann (.seq a b) ⟨t, h⟩ Q = W P ann a ⟨t, h⟩ (thenQ (fun s' => W P ann b s' Q) Q) := nd rfl
theorem W_cond {c a b} : W P ann (.cond c a b) ⟨t, h⟩ Q = ∃ q, c.ev t = .bool q ∧ (q = true → W P ann a ⟨t, h⟩ Q) ∧ (q = false → W P ann b ⟨t, h⟩ Q) := nd rfl
theorem W_block {id c} : W P ann (.block id c) ⟨t, h⟩ Q = W P ann c ⟨t, h⟩ (blockQ id Q) := nd rfl
theorem W_loop {c} : W P ann (.loop c) ⟨t, h⟩ Q = AW P ann (.loop c) ⟨t, h⟩ Q := nd rfl
theorem W_exit {id} : W P ann (.exit id) ⟨t, h⟩ Q = Q (.exit id) ⟨t, h⟩ := nd rfl
theorem W_scope {c cur} : W P ann (.scope c cur) ⟨t, h⟩ Q = AW P ann (.scope c cur) ⟨t, h⟩ Q := nd rfl
theorem W_label {l} : W P ann (.label l) ⟨t, h⟩ Q = Q .normal ⟨t, h⟩ := nd rfl
theorem W_goto {l} : W P ann (.goto l) ⟨t, h⟩ Q = Q (.goto l) ⟨t, h⟩ := nd rfl
theorem thenQ_goto {l} {s : St} : thenQ N Q (.goto l) s = Q (.goto l) s := nd rfl
theorem blockQ_goto {id l} {s : St} : blockQ id Q (.goto l) s = Q (.goto l) s := nd rfl
theorem W_ret : W P ann .ret ⟨t, h⟩ Q = Q .ret ⟨t, h⟩ := nd rfl
theorem thenQ_normal {s : St} : thenQ N Q .normal s = N s := nd rfl
theorem thenQ_exit {id} {s : St} : thenQ N Q (.exit id) s = Q (.exit id) s := nd rfl
theorem thenQ_ret {s : St} : thenQ N Q .ret s = Q .ret s := nd rfl
theorem blockQ_normal {id} {s : St} : blockQ id Q .normal s = Q .normal s := nd rfl
theorem blockQ_exit {id i} {s : St} : blockQ id Q (.exit i) s = if i = id then Q .normal s else Q (.exit i) s := nd rfl
theorem blockQ_ret {id} {s : St} : blockQ id Q .ret s = Q .ret s := nd rfl
theorem WO_nil : WO P ann [] ⟨t, h⟩ N = N ⟨t, h⟩ := nd rfl
theorem WO_cons {d op r} : WO P ann (⟨d, op, none⟩ :: r) ⟨t, h⟩ N = after P ann d h (fun s' => WO P ann r s' N) (aex P op ⟨t, h⟩) := nd rfl
theorem WO_consG {d op j q r} : WO P ann (⟨some d, op, some (j, q)⟩ :: r) ⟨t, h⟩ N =
    if wants q (t j) then after P ann (some d) h (fun s' => WO P ann r s' N) (aex P op ⟨t, h⟩) else WO P ann r ⟨upd t d .undef, h⟩ N := nd rfl
theorem WO_consGn {op j q r} : WO P ann (⟨none, op, some (j, q)⟩ :: r) ⟨t, h⟩ N =
    if wants q (t j) then after P ann none h (fun s' => WO P ann r s' N) (aex P op ⟨t, h⟩) else WO P ann r ⟨t, h⟩ N := nd rfl
theorem after_val {d v t' h'} : after P ann (some d) h N (some (.val v t' h')) = N ⟨upd t' d v, h'⟩ := nd rfl
theorem after_valn {v t' h'} : after P ann none h N (some (.val v t' h')) = N ⟨t', h'⟩ := nd rfl
theorem after_new {d k ob t'} : after P ann (some d) h N (some (.new k ob t')) = ∀ b, h b = none → N ⟨upd t' d (k b), upd h b (some ob)⟩ := nd rfl
theorem after_newc {d lo k ob t'} : after P ann (some d) h N (some (.newc lo k ob t')) = ∀ b c, h b = none → lo ≤ c → N ⟨upd t' d (k b c), upd h b (some (ob c))⟩ := nd rfl
theorem after_call {d k f args t'} : after P ann d h N (some (.call k f args t')) = AWF P ann k f args h (contK N d t') := nd rfl
theorem after_none {d} : after P ann d h N none = False := nd rfl
theorem QO_consG {d op j q r} : QO P ann (⟨some d, op, some (j, q)⟩ :: r) ⟨t, h⟩ N =
    if wants q (t j) then Q1 P ann (some d) ⟨t, h⟩ (fun s' => QO P ann r s' N) op else QO P ann r ⟨upd t d .undef, h⟩ N := nd rfl
theorem after_ite {d} {c : Prop} [Decidable c] {x y : Option AR} : after P ann d h N (if c then x else y) = ((c → after P ann d h N x) ∧ (¬ c → after P ann d h N y)) := by
  by_cases hc : c <;> simp [hc]
theorem after_if {d} {c : Prop} [Decidable c] {x : Option AR} : after P ann d h N (if c then x else none) = (c ∧ after P ann d h N x) := by
  by_cases hc : c <;> simp [hc, after_none]
theorem after_bind {α : Type} {d} {x : Option α} {f : α → Option AR} : after P ann d h N (x.bind f) = ∃ a, x = some a ∧ after P ann d h N (f a) := by
  cases x <;> simp [after_none]
end rules

end Go.Am
