/- What the abstract machine's code does: every run of it ends, as told. -/
import Derived.Test.YtcdfdnmnnepnoaaDoorAmRel
set_option linter.unusedVariables false
namespace Go.Am


def readyA (pre : List (List Nat)) (n : Nat) (listed : Nat → Bool) : Nat → Prop :=
  fun i => i < n ∧ listed i = false ∧ ∀ j ∈ pre.getD i [], listed j = true


inductive Ghost : St → St → Prop

  | slot {t h i o c sz n lim cs} (own : Bool) : t i = .rs o c sz n lim → h o = some (.arr cs) → c + n * sz ≤ cs.length → (own = true → c = 0 ∧ ∃ cap, lim = some cap ∧ 0 < cap ∧ cap * sz ≤ cs.length) →
      Ghost ⟨t, h⟩ ⟨upd t i (.bs own sz (chunks sz n ((cs.drop c).map AV.disc)) lim), upd h o none⟩

  | part {t h i o c sz n lim cs ds m} : t i = .ag ds → ds[m]? = some (.rs o c sz n lim) → h o = some (.arr cs) → c + n * sz ≤ cs.length →
      Ghost ⟨t, h⟩ ⟨upd t i (.ag (ds.set m (.bs false sz (chunks sz n ((cs.drop c).map AV.disc)) lim))), upd h o none⟩
  | tup {t h i o c sz n lim cs ds m} : t i = .tu ds → ds[m]? = some (.rs o c sz n lim) → h o = some (.arr cs) → c + n * sz ≤ cs.length →
      Ghost ⟨t, h⟩ ⟨upd t i (.tu (ds.set m (.bs false sz (chunks sz n ((cs.drop c).map AV.disc)) lim))), upd h o none⟩

  | tup2 {t h i o c sz n lim cs ds es m k} : t i = .tu ds → ds[m]? = some (.ag es) → es[k]? = some (.rs o c sz n lim) → h o = some (.arr cs) → c + n * sz ≤ cs.length →
      Ghost ⟨t, h⟩ ⟨upd t i (.tu (ds.set m (.ag (es.set k (.bs false sz (chunks sz n ((cs.drop c).map AV.disc)) lim))))), upd h o none⟩

  | cell {t h o' m o c sz n lim cs ds} : h o' = some (.arr ds) → ds[m]? = some (.rs o c sz n lim) → h o = some (.arr cs) → o ≠ o' → c + n * sz ≤ cs.length →
      Ghost ⟨t, h⟩ ⟨t, upd (upd h o' (some (.arr (ds.set m (.bs false sz (chunks sz n ((cs.drop c).map AV.disc)) lim))))) o none⟩

  | lim {t h i own sz es lim} : t i = .bs own sz es lim → Ghost ⟨t, h⟩ ⟨upd t i (.bs false sz es none), h⟩

  | clim {t h o m own sz es lim ds} : h o = some (.arr ds) → ds[m]? = some (.bs own sz es lim) → Ghost ⟨t, h⟩ ⟨t, upd h o (some (.arr (ds.set m (.bs false sz es none))))⟩

  | ptr {t h i o c cs} : t i = .op o c → h o = some (.arr cs) → Ghost ⟨t, h⟩ ⟨upd t i (.cp ((cs.drop c).map AV.disc)), upd h o none⟩


inductive Ghosts : St → St → Prop
  | nil {s} : Ghosts s s
  | cons {s s1 s2} : Ghost s s1 → Ghosts s1 s2 → Ghosts s s2

mutual

inductive AW (P : Program) (ann : Ann) : AC → St → (Ex → St → Prop) → Prop
  | skip {s Q} : Q .normal s → AW P ann .skip s Q
  | reg {ops s Q} : AWO P ann ops s (Q .normal) → AW P ann (.reg ops) s Q
  | regd {ops pre s Q} : AWD P ann ops pre (fun _ => false) s (Q .normal) → AW P ann (.regd ops pre) s Q
  | regx {l s Q} : (∀ ops pre, drawX ops pre = some l → AWD P ann ops pre (fun _ => false) s (Q .normal)) → AW P ann (.regx l) s Q
  | seq {a b s Q} (R : Ex → St → Prop) : AW P ann a s R → (∀ s', R .normal s' → AW P ann b s' Q) → (∀ e s', e ≠ .normal → R e s' → Q e s') → AW P ann (.seq a b) s Q
  | cond {c a b s Q} (t : Bool) : c.ev s.t = .bool t → (t = true → AW P ann a s Q) → (t = false → AW P ann b s Q) → AW P ann (.cond c a b) s Q
  | block {id c s Q} (R : Ex → St → Prop) : AW P ann c s R → (∀ s', R (.exit id) s' → Q .normal s') → (∀ e s', e ≠ .exit id → R e s' → Q e s') → AW P ann (.block id c) s Q
  | loop {c s Q} (R : Ex → St → Prop) : AW P ann c s R → (∀ s', R .normal s' → AW P ann (.loop c) s' Q) → (∀ e s', e ≠ .normal → R e s' → Q e s') → AW P ann (.loop c) s Q
  | exit {id s Q} : Q (.exit id) s → AW P ann (.exit id) s Q
  | ret {s Q} : Q .ret s → AW P ann .ret s Q
  | scope {c cur s Q} (R : Ex → St → Prop) : AW P ann cur s R → (∀ l rest s', R (.goto l) s' → findA c l = some rest → AW P ann (.scope c rest) s' Q) →
      (∀ l s', R (.goto l) s' → findA c l = none → Q (.goto l) s') → (∀ e s', (∀ l, e ≠ .goto l) → R e s' → Q e s') → AW P ann (.scope c cur) s Q
  | label {l s Q} : Q .normal s → AW P ann (.label l) s Q
  | goto {l s Q} : Q (.goto l) s → AW P ann (.goto l) s Q

  | free {c s Q} : ((∃ m, ∀ b, m ≤ b → s.h b = none) → AW P ann c s Q) → AW P ann c s Q
  | ghost {c s s' Q} : Ghost s s' → AW P ann c s' Q → AW P ann c s Q

inductive AW1 (P : Program) (ann : Ann) : AOper → St → (St → Prop) → Prop
  | pass {o s Q} : wantedA o s.t = false → Q ⟨putd s.t o.dst .undef, s.h⟩ → AW1 P ann o s Q
  | val {o s v t h} {Q : St → Prop} : wantedA o s.t = true → aex P o.op s = some (.val v t h) → Q ⟨putd t o.dst v, h⟩ → AW1 P ann o s Q
  | new {o s k ob t} {Q : St → Prop} : wantedA o s.t = true → aex P o.op s = some (.new k ob t) → (∀ b, s.h b = none → Q ⟨putd t o.dst (k b), upd s.h b (some ob)⟩) → AW1 P ann o s Q
  | newc {o s lo k ob t} {Q : St → Prop} : wantedA o s.t = true → aex P o.op s = some (.newc lo k ob t) → (∀ b c, s.h b = none → lo ≤ c → Q ⟨putd t o.dst (k b c), upd s.h b (some (ob c))⟩) → AW1 P ann o s Q
  | call {o s k f args t} {Q : St → Prop} (R : AV → Heap → Prop) : wantedA o s.t = true → aex P o.op s = some (.call k f args t) → AWF P ann k f args s.h R →
      (∀ v h, R v h → Q ⟨putd t o.dst v, h⟩) → AW1 P ann o s Q

inductive AWO (P : Program) (ann : Ann) : List AOper → St → (St → Prop) → Prop
  | nil {s Q} : Q s → AWO P ann [] s Q
  | cons {o ops s Q} (R : St → Prop) : AW1 P ann o s R → (∀ s', R s' → AWO P ann ops s' Q) → AWO P ann (o :: ops) s Q

inductive AWD (P : Program) (ann : Ann) : List AOper → List (List Nat) → (Nat → Bool) → St → (St → Prop) → Prop
  | mk {ops pre l s Q} (R : Nat → St → Prop) : ((∀ i, ¬ readyA pre ops.length l i) → Q s) →
      (∀ i o, readyA pre ops.length l i → ops[i]? = some o → AW1 P ann o s (R i)) →
      (∀ i s', readyA pre ops.length l i → R i s' → AWD P ann ops pre (upd l i true) s' Q) → AWD P ann ops pre l s Q

inductive AWF (P : Program) (ann : Ann) : Nat → Nat → List AV → Heap → (AV → Heap → Prop) → Prop
  | mk {k f args h Q af} (R : Ex → St → Prop) : cFn P ann k f = some af → args.length = af.np → AW P ann af.code ⟨initT args, h⟩ R →
      (∀ e s, R e s → (e = .ret ∨ e = .normal) ∧ ∃ v, resA af.res s = some v ∧ (Q v s.h ∨ ((∀ o, h o ≠ none → s.h o = h o) ∧ Q v h))) → AWF P ann k f args h Q

  | sem {k f args h Q} : M5 P f args h Q → AWF P ann k f args h Q

  | ext {k f args h Q} : M6 P f args h Q → AWF P ann k f args h Q

  | ghost {k f args h Q} (R : AV → Heap → Prop) : AWF P ann k f args h R →
      (∀ v h', R v h' → ∃ t' h'', Ghosts ⟨initT [v.dis], h'⟩ ⟨t', h''⟩ ∧ (t' 0).isOwn = false ∧ Q (t' 0) h'') → AWF P ann k f args h Q
end

end Go.Am
