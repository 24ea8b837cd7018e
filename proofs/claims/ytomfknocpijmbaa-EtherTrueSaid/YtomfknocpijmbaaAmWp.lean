/- The abstract machine's code, as a condition that is worked out from the state: for proofs by rewriting. -/
import Derived.Test.YtomfknocpijmbaaAmSem
set_option linter.unusedVariables false
set_option linter.unusedSimpArgs false
namespace Go.Am
variable {P : Program} {ann : Ann}
def after (P : Program) (ann : Ann) (dst : Option Nat) (h : Heap) (Q : St → Prop) : Option AR → Prop
 | some (.val v t h') => Q ⟨putd t dst v, h'⟩
 | some (.new k ob t) => ∀ b, h b = none → Q ⟨putd t dst (k b), upd h b (some ob)⟩
 | some (.newc lo k ob t) => ∀ b c, h b = none → lo ≤ c → Q ⟨putd t dst (k b c), upd h b (some (ob c))⟩
 | some (.call k f args t) => AWF P ann k f args h fun v h' => Q ⟨putd t dst v, h'⟩
 | none => False
def W1 (P : Program) (ann : Ann) (o : AOper) (s : St) (Q : St → Prop) : Prop :=
 if wantedA o s.t then after P ann o.dst s.h Q (aex P o.op s) else Q ⟨putd s.t o.dst .undef, s.h⟩
def WO (P : Program) (ann : Ann) : List AOper → St → (St → Prop) → Prop
 | [], s, Q => Q s
 | o :: r, s, Q => W1 P ann o s fun s' => WO P ann r s' Q
def thenQ (N : St → Prop) (Q : Ex → St → Prop) : Ex → St → Prop
 | .normal, s => N s
 | e, s => Q e s
def blockQ (id : Nat) (Q : Ex → St → Prop) : Ex → St → Prop
 | .exit i, s => if i = id then Q .normal s else Q (.exit i) s
 | e, s => Q e s
theorem W1_sound {o : AOper} {s : St} {Q : St → Prop} (h : W1 P ann o s Q) : AW1 P ann o s Q := by
 unfold W1 at h
 split at h
 ·rename_i hw
  unfold after at h
  split at h
  ·rename_i v t h' he
   exact .val hw he h
  ·rename_i k ob t he
   exact .new hw he h
  ·rename_i lo k ob t he
   exact .newc hw he h
  ·rename_i k f args t he
   exact .call _ hw he h fun v h' hq => hq
  ·exact h.elim
 ·rename_i hw
  exact .pass (by simpa using hw) h
theorem WO_sound : ∀ {ops : List AOper} {s : St} {Q : St → Prop}, WO P ann ops s Q → AWO P ann ops s Q
 | [], s, Q, h => .nil h
 | o :: r, s, Q, h => .cons _ (W1_sound h) fun s' hs => WO_sound hs
theorem AWF.mono {k f : Nat} {args : List AV} {h : Heap} {Q Q' : AV → Heap → Prop} (H : AWF P ann k f args h Q) (hq : ∀ v h, Q v h → Q' v h) : AWF P ann k f args h Q' := by
 cases H with
 | sem hm => exact .sem (hm.mono hq)
 | ext hm => exact .ext (hm.mono hq)
 | ghost R h1 h2 => exact .ghost R h1 fun v h' hr => (h2 v h' hr).imp fun t' ⟨h'', b, c, d⟩ => ⟨h'', b, c, hq _ _ d⟩
 | mk R hc hl hw h2 =>
  refine .mk R hc hl hw fun e s hR => ?_
  obtain ⟨he, v, hv, hh⟩ := h2 e s hR
  exact ⟨he, v, hv, hh.imp (hq _ _) (fun ⟨a, b⟩ => ⟨a, hq _ _ b⟩)⟩
theorem nd {α : Sort _} {a b : α} (h : a = b) : a = b := h
end Go.Am
