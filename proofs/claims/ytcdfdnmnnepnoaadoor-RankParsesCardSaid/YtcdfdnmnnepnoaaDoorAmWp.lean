/- The abstract machine's code, as a condition that is worked out from the state: for proofs by rewriting. -/
import Derived.Test.YtcdfdnmnnepnoaaDoorAmSem
set_option linter.unusedVariables false
set_option linter.unusedSimpArgs false
namespace Go.Am
variable {P : Program} {ann : Ann}


def after (P : Program) (ann : Ann) (dst : Option Nat) (h : Heap) (Q : St → Prop) : Option AR → Prop
  | some (.val v t h') => Q ⟨putd t dst v, h'⟩
  | some (.new k ob t) => ∀ b, h b = none → Q ⟨putd t dst (k b), upd h b (some ob)⟩
  | some (.newc lo k ob t) => ∀ b c, h b = none → lo ≤ c → Q ⟨putd t dst (k b c), upd h b (some (ob c))⟩
  | some (.call k f args t) => AWF P ann k f args h fun v h' => Q ⟨putd t dst v, h'⟩
  | none => False

def W1 (P : Program) (ann : Ann) (o : AOper) (s : St) (Q : St → Prop) : Prop :=
  if wantedA o s.t then after P ann o.dst s.h Q (aex P o.op s) else Q ⟨putd s.t o.dst .undef, s.h⟩

def WO (P : Program) (ann : Ann) : List AOper → St → (St → Prop) → Prop
  | [], s, Q => Q s
  | o :: r, s, Q => W1 P ann o s fun s' => WO P ann r s' Q

def thenQ (N : St → Prop) (Q : Ex → St → Prop) : Ex → St → Prop
  | .normal, s => N s
  | e, s => Q e s
def blockQ (id : Nat) (Q : Ex → St → Prop) : Ex → St → Prop
  | .exit i, s => if i = id then Q .normal s else Q (.exit i) s
  | e, s => Q e s

theorem W1_sound {o : AOper} {s : St} {Q : St → Prop} (h : W1 P ann o s Q) : AW1 P ann o s Q := by
  unfold W1 at h
  split at h
  · rename_i hw
    unfold after at h
    split at h
    · rename_i v t h' he
      exact .val hw he h
    · rename_i k ob t he
      exact .new hw he h
    · rename_i lo k ob t he
      exact .newc hw he h
    · rename_i k f args t he
      exact .call _ hw he h fun v h' hq => hq
    · exact h.elim
  · rename_i hw
    exact .pass (by simpa using hw) h

theorem WO_sound : ∀ {ops : List AOper} {s : St} {Q : St → Prop}, WO P ann ops s Q → AWO P ann ops s Q
  | [], s, Q, h => .nil h
  | o :: r, s, Q, h => .cons _ (W1_sound h) fun s' hs => WO_sound hs


theorem AWF.mono {k f : Nat} {args : List AV} {h : Heap} {Q Q' : AV → Heap → Prop} (H : AWF P ann k f args h Q) (hq : ∀ v h, Q v h → Q' v h) : AWF P ann k f args h Q' := by
  cases H with
  | sem hm => exact .sem (hm.mono hq)
  | ext hm => exact .ext (hm.mono hq)
  | ghost R h1 h2 => exact .ghost R h1 fun v h' hr => (h2 v h' hr).imp fun t' ⟨h'', b, c, d⟩ => ⟨h'', b, c, hq _ _ d⟩
  | mk R hc hl hw h2 =>
    refine .mk R hc hl hw fun e s hR => ?_
    obtain ⟨he, v, hv, hh⟩ := h2 e s hR
    exact ⟨he, v, hv, hh.imp (hq _ _) (fun ⟨a, b⟩ => ⟨a, hq _ _ b⟩)⟩

theorem AW.mono {c : AC} {s : St} {Q Q' : Ex → St → Prop} (H : AW P ann c s Q) (hq : ∀ e s, Q e s → Q' e s) : AW P ann c s Q' := by
  refine AW.rec (P := P) (ann := ann) (motive_1 := fun c s Q _ => ∀ Q', (∀ e s, Q e s → Q' e s) → AW P ann c s Q') (motive_2 := fun o s Q _ => ∀ Q', (∀ s, Q s → Q' s) → AW1 P ann o s Q')
    (motive_3 := fun os s Q _ => ∀ Q', (∀ s, Q s → Q' s) → AWO P ann os s Q') (motive_4 := fun os pre l s Q _ => ∀ Q', (∀ s, Q s → Q' s) → AWD P ann os pre l s Q')
    (motive_5 := fun k f args h Q _ => True) ?_ ?_ ?_ ?_ ?_ ?_ ?_ ?_ ?_ ?_ ?_ ?_ ?_ ?_ ?_ ?_ ?_ ?_ ?_ ?_ ?_ ?_ ?_ ?_ ?_ ?_ ?_ H Q' hq
  · intro s Q h Q' hq; exact .skip (hq _ _ h)
  · intro ops s Q _ ih Q' hq; exact .reg (ih _ (hq _))
  · intro ops pre s Q _ ih Q' hq; exact .regd (ih _ (hq _))
  · intro l s Q _ ih Q' hq; exact .regx fun ops pre hd => ih ops pre hd _ (hq _)
  · intro a b s Q R h1 _ h3 _ ih2 Q' hq; exact .seq R h1 (fun s' hs => ih2 s' hs Q' hq) (fun e s' he hs => hq _ _ (h3 e s' he hs))
  · intro c a b s Q t ht _ _ ih1 ih2 Q' hq; exact .cond t ht (fun e => ih1 e Q' hq) (fun e => ih2 e Q' hq)
  · intro id c s Q R h1 h2 h3 _ Q' hq; exact .block R h1 (fun s' hs => hq _ _ (h2 s' hs)) (fun e s' he hs => hq _ _ (h3 e s' he hs))
  · intro c s Q R h1 _ h3 _ ih2 Q' hq; exact .loop R h1 (fun s' hs => ih2 s' hs Q' hq) (fun e s' he hs => hq _ _ (h3 e s' he hs))
  · intro id s Q h Q' hq; exact .exit (hq _ _ h)
  · intro s Q h Q' hq; exact .ret (hq _ _ h)
  · intro c cur s Q R h1 _ h3 h4 _ ih2 Q' hq; exact .scope R h1 (fun l rest s' hs hf => ih2 l rest s' hs hf Q' hq) (fun l s' hs hf => hq _ _ (h3 l s' hs hf)) (fun e s' he hs => hq _ _ (h4 e s' he hs))
  · intro l s Q h Q' hq; exact .label (hq _ _ h)
  · intro l s Q h Q' hq; exact .goto (hq _ _ h)
  · intro c s Q _ ih Q' hq; exact .free fun hf => ih hf Q' hq
  · intro c s s' Q hg _ ih Q' hq; exact .ghost hg (ih Q' hq)
  · intro o s Q hw h Q' hq; exact .pass hw (hq _ h)
  · intro o s v t h Q hw hx hQ Q' hq; exact .val hw hx (hq _ hQ)
  · intro o s k ob t Q hw hx hQ Q' hq; exact .new hw hx fun b hb => hq _ (hQ b hb)
  · intro o s lo k ob t Q hw hx hQ Q' hq; exact .newc hw hx fun b c hb hc => hq _ (hQ b c hb hc)
  · intro o s k f args t Q R hw hx hf hQ _ Q' hq; exact .call R hw hx hf fun v h hr => hq _ (hQ v h hr)
  · intro s Q h Q' hq; exact .nil (hq _ h)
  · intro o ops s Q R h1 _ _ ih2 Q' hq; exact .cons R h1 fun s' hs => ih2 s' hs Q' hq
  · intro ops pre l s Q R h1 h2 _ _ ih2 Q' hq; exact .mk R (fun h => hq _ (h1 h)) h2 fun i s' hr hs => ih2 i s' hr hs Q' hq
  · intros; trivial
  · intros; trivial
  · intros; trivial
  · intros; trivial


theorem nd {α : Sort _} {a b : α} (h : a = b) : a = b := h

end Go.Am
