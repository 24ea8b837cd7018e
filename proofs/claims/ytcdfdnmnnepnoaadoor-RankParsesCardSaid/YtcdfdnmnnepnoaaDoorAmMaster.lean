/- Every operation that is compiled is sound. -/
import Derived.Test.YtcdfdnmnnepnoaaDoorAmOps13
import Derived.Test.YtcdfdnmnnepnoaaDoorAmOps14
import Derived.Test.YtcdfdnmnnepnoaaDoorAmOps15
import Derived.Test.YtcdfdnmnnepnoaaDoorAmOps16
import Derived.Test.YtcdfdnmnnepnoaaDoorAmSound2
set_option linter.unusedVariables false
set_option linter.unusedSimpArgs false
namespace Go.Am
variable {P : Program}

def newOp : AOp → Bool
  | .s2b .. | .lit .. | .new .. | .box .. | .mks .. | .mkm => true
  | _ => false
def newcOp : AOp → Bool
  | .app .. | .apz .. => true
  | _ => false
def callOp : AOp → Bool
  | .call .. | .dyn .. => true
  | _ => false

theorem aex_new {op : AOp} {s : St} {k : Nat → AV} {ob : AObj} {t : Nat → AV} (hv : aex P op s = some (.new k ob t)) : newOp op = true := by
  cases op <;> first
    | rfl
    | (exfalso
       simp only [aex, appW, Option.bind_eq_bind, Option.bind_eq_some_iff] at hv
       repeat' (first | (cases hv; done) | split at hv | simp only [Option.bind_eq_some_iff] at hv | (obtain ⟨_, _, hv⟩ := hv)))

theorem aex_newc {op : AOp} {s : St} {lo : Nat} {k : Nat → Nat → AV} {ob : Nat → AObj} {t : Nat → AV} (hv : aex P op s = some (.newc lo k ob t)) : newcOp op = true := by
  cases op <;> first
    | rfl
    | (exfalso
       simp only [aex, appW, Option.bind_eq_bind, Option.bind_eq_some_iff] at hv
       repeat' (first | (cases hv; done) | split at hv | simp only [Option.bind_eq_some_iff] at hv | (obtain ⟨_, _, hv⟩ := hv)))

theorem aex_call {op : AOp} {s : St} {k f : Nat} {args : List AV} {t : Nat → AV} (hv : aex P op s = some (.call k f args t)) : callOp op = true := by
  cases op <;> first
    | rfl
    | (exfalso
       simp only [aex, appW, Option.bind_eq_bind, Option.bind_eq_some_iff] at hv
       repeat' (first | (cases hv; done) | split at hv | simp only [Option.bind_eq_some_iff] at hv | (obtain ⟨_, _, hv⟩ := hv)))

theorem aex_val {op : AOp} {s : St} {v : AV} {t : Nat → AV} {h : Heap} (hv : aex P op s = some (.val v t h)) : callOp op = false := by
  cases op <;> first
    | rfl
    | (exfalso
       simp only [aex, appW, Option.bind_eq_bind, Option.bind_eq_some_iff] at hv
       repeat' (first | (cases hv; done) | split at hv | simp only [Option.bind_eq_some_iff] at hv | (obtain ⟨_, _, hv⟩ := hv)))


structure OneOk (P : Program) (G : Gh) (h : Heap) (w : World) (n : Nat) (a : Act) (o : Oper) (dst : Option Nat) (t : Nat → AV) (op : AOp) : Prop where
  val : ∀ v t' h', aex P op ⟨t, h⟩ = some (.val v t' h') → OpOk P G h w n a o dst v t' h'
  new : ∀ k ob t', aex P op ⟨t, h⟩ = some (.new k ob t') → NewOk P G h w n a o dst k ob t'
  newc : ∀ lo k ob t', aex P op ⟨t, h⟩ = some (.newc lo k ob t') → NewcOk P G h w n a o dst lo k ob t'
  call : ∀ k f args t', aex P op ⟨t, h⟩ = some (.call k f args t') → CallOk P G w n a o f args t'

section
variable {G : Gh} {h : Heap} {w : World} {n : Nat} {t : Nat → AV} {a : Act} {o : Oper} {dst : Option Nat} {op : AOp}

theorem OneOk.ofVal (h1 : newOp op = false) (h2 : callOp op = false) (hv : ∀ v t' h', aex P op ⟨t, h⟩ = some (.val v t' h') → OpOk P G h w n a o dst v t' h') (h3 : newcOp op = false := by rfl) : OneOk P G h w n a o dst t op :=
  ⟨hv, fun k ob t' e => (by rw [aex_new e] at h1; cases h1), fun lo k ob t' e => (by rw [aex_newc e] at h3; cases h3), fun k f args t' e => by rw [aex_call e] at h2; cases h2⟩

theorem OneOk.ofNew (h2 : callOp op = false) (hv : ∀ v t' h', aex P op ⟨t, h⟩ = some (.val v t' h') → OpOk P G h w n a o dst v t' h') (hn : ∀ k ob t', aex P op ⟨t, h⟩ = some (.new k ob t') → NewOk P G h w n a o dst k ob t') (h3 : newcOp op = false := by rfl) :
    OneOk P G h w n a o dst t op :=
  ⟨hv, hn, fun lo k ob t' e => (by rw [aex_newc e] at h3; cases h3), fun k f args t' e => by rw [aex_call e] at h2; cases h2⟩

theorem OneOk.ofNewc (h1 : newOp op = false) (h2 : callOp op = false) (hv : ∀ v t' h', aex P op ⟨t, h⟩ = some (.val v t' h') → OpOk P G h w n a o dst v t' h') (hn : ∀ lo k ob t', aex P op ⟨t, h⟩ = some (.newc lo k ob t') → NewcOk P G h w n a o dst lo k ob t') :
    OneOk P G h w n a o dst t op :=
  ⟨hv, fun k ob t' e => (by rw [aex_new e] at h1; cases h1), hn, fun k f args t' e => by rw [aex_call e] at h2; cases h2⟩

theorem OneOk.ofCall (h1 : newOp op = false) (h2 : callOp op = true) (hc : ∀ k f args t', aex P op ⟨t, h⟩ = some (.call k f args t') → CallOk P G w n a o f args t') (h3 : newcOp op = false := by rfl) : OneOk P G h w n a o dst t op :=
  ⟨fun v t' h' e => (by rw [aex_val e] at h2; cases h2), fun k ob t' e => (by rw [aex_new e] at h1; cases h1), fun lo k ob t' e => (by rw [aex_newc e] at h3; cases h3), hc⟩

theorem ops_call (hf : FRel G w n t a) (hi : Inv G h w) {ann : Nat} {c : Call} (hoo : o.op = .call c) (hop : cOp P ann o = some op) (hd : ∀ d, dst = some d → d < n) : OneOk P G h w n a o dst t op := by
  simp only [cOp, hoo] at hop
  split at hop
  · rename_i f hcal
    simp only [Option.bind_eq_bind, Option.bind_eq_some_iff] at hop
    obtain ⟨xs, hxs, hop⟩ := hop
    cases hop
    exact .ofCall rfl rfl fun k f args t' e => ok_call hf hoo hcal hxs e
  · rename_i f hnf hcal
    simp only [Option.bind_eq_bind, Option.bind_eq_some_iff] at hop
    obtain ⟨y, hy, xs, hxs, hop⟩ := hop
    cases hop
    exact .ofCall rfl rfl fun k f args t' e => ok_dyn hf hoo hcal hy hxs e
  · rename_i b hcal
    split at hop
    · rename_i x ty hargs hty
      split at hop
      · rename_i hu
        simp only [Option.map_eq_some_iff] at hop
        obtain ⟨x', hx, rfl⟩ := hop
        exact .ofVal rfl rfl fun v t' h' e => ok_len hf hi hoo hcal hargs hty hx hu (.inr (.inl ⟨rfl, rfl⟩)) hd e
      · rename_i e hu
        simp only [Option.map_eq_some_iff] at hop
        obtain ⟨x', hx, rfl⟩ := hop
        exact .ofVal rfl rfl fun v t' h' e => ok_len hf hi hoo hcal hargs hty hx hu (.inl ⟨rfl, _, rfl⟩) hd e
      · rename_i k e hu
        simp only [Option.map_eq_some_iff] at hop
        obtain ⟨x', hx, rfl⟩ := hop
        exact .ofVal rfl rfl fun v t' h' e => ok_len hf hi hoo hcal hargs hty hx hu (.inr (.inr ⟨rfl, _, _, rfl⟩)) hd e
      · cases hop
    · rename_i s x ty u hargs hty
      simp only [Option.bind_eq_bind, Option.bind_eq_some_iff] at hop
      obtain ⟨s', hs', x', hx', hop⟩ := hop
      split at hop
      · rename_i e e' hu1 hu2
        simp only [Option.bind_eq_some_iff] at hop
        obtain ⟨z, hz, sz, hsz, by', hby, hop⟩ := hop
        split at hop
        · rename_i hcond
          cases hop
          exact .ofNewc rfl rfl (fun v t' h' e => ok_app hf hi hoo hcal hargs hty hs' hx' hu1 (.inl ⟨_, hu2⟩) hsz hby hz hcond.2.2 hcond.2.1 hd e)
            (fun lo k ob t' e => ok_app_newc hf hi hoo hcal hargs hty hs' hx' hu1 (.inl ⟨_, hu2⟩) hsz hby hz hcond.2.2 hcond.2.1 hd e)
        · cases hop
      · rename_i e kk hu1 hu2
        simp only [Option.bind_eq_some_iff] at hop
        obtain ⟨z, hz, sz, hsz, by', hby, hop⟩ := hop
        split at hop
        · rename_i hcond
          cases hop
          exact .ofNewc rfl rfl (fun v t' h' e => ok_apz hf hi hoo hcal hargs hty hs' hx' hu1 hu2 hsz hby hz hcond.2.2 hcond.2.1 hd e)
            (fun lo k ob t' e => ok_apz_newc hf hi hoo hcal hargs hty hs' hx' hu1 hu2 hsz hby hz hcond.2.2 hcond.2.1 hd e)
        · cases hop
      · rename_i e hu1 hu2
        simp only [Option.bind_eq_some_iff] at hop
        obtain ⟨z, hz, by', hby, hop⟩ := hop
        split at hop
        · rename_i hu3 hsz
          split at hop
          · rename_i hcond
            cases hop
            exact .ofNewc rfl rfl (fun v t' h' e => ok_app hf hi hoo hcal hargs hty hs' hx' hu1 (.inr hu2) hsz hby hz hcond.2 hcond.1 hd e)
              (fun lo k ob t' e => ok_app_newc hf hi hoo hcal hargs hty hs' hx' hu1 (.inr hu2) hsz hby hz hcond.2 hcond.1 hd e)
          · cases hop
        · cases hop
      · cases hop
    · rename_i d x ty u hargs hty
      simp only [Option.bind_eq_bind, Option.bind_eq_some_iff] at hop
      obtain ⟨d', hd', x', hx', hop⟩ := hop
      split at hop
      · rename_i e e' hu1 hu2
        simp only [Option.bind_eq_some_iff] at hop
        obtain ⟨sz, hsz, hop⟩ := hop
        split at hop
        · cases hop
          exact .ofVal rfl rfl fun v t' h' e => ok_cpy hf hi hoo hcal hargs hty hd' hx' hu1 hu2 hsz hd e
        · cases hop
      · cases hop
    · rename_i x ty hargs hty
      simp only [Option.bind_eq_bind, Option.bind_eq_some_iff] at hop
      obtain ⟨x', hx', hop⟩ := hop
      split at hop
      · rename_i e hu1
        simp only [Option.bind_eq_some_iff] at hop
        obtain ⟨z, hz, sz, hsz, hop⟩ := hop
        split at hop
        · rename_i hcond
          cases hop
          exact .ofVal rfl rfl fun v t' h' e => ok_clr hf hi hoo hcal hargs hty hx' hu1 hz hcond.2 hd e
        · cases hop
      · cases hop
    · rename_i x ty hargs hty
      simp only [Option.bind_eq_bind, Option.bind_eq_some_iff] at hop
      obtain ⟨x', hx', hop⟩ := hop
      split at hop
      · rename_i e hu1
        cases hop
        exact .ofVal rfl rfl fun v t' h' e => ok_cap hf hi hoo hcal hargs hty hx' hu1 hd e
      · cases hop
    · rename_i m k ty u hargs hty
      simp only [Option.bind_eq_bind, Option.bind_eq_some_iff] at hop
      obtain ⟨m', hm', k', hk', hop⟩ := hop
      split at hop
      · rename_i key e hu
        split at hop
        · rename_i kk hkk
          cases hop
          exact .ofVal rfl rfl fun v t' h' e => ok_del hf hi hoo hcal hargs hty hu hkk (.inl ⟨rfl, _, rfl⟩) hm' hk' hd e
        · rename_i hkk
          cases hop
          exact .ofVal rfl rfl fun v t' h' e => ok_del hf hi hoo hcal hargs hty hu hkk (.inr ⟨rfl, rfl⟩) hm' hk' hd e
        · cases hop
      · cases hop
    all_goals first
      | cases hop
      | (simp only [Option.bind_eq_bind, Option.bind_eq_some_iff] at hop
         obtain ⟨xs, hxs, hop⟩ := hop
         cases hop
         exact .ofVal rfl rfl fun v t' h' e => ok_blt hf hi hoo hcal (by simp) hxs hd e)
  · cases hop

theorem ops_one (hf : FRel G w n t a) (hi : Inv G h w) {ann : Nat} (hop : cOp P ann o = some op) (hd : ∀ d, dst = some d → d < n) : OneOk P G h w n a o dst t op := by
  cases hoo : o.op with
  | call c => exact ops_call hf hi hoo hop hd
  | move x =>
    simp only [cOp, hoo, Option.map_eq_some_iff] at hop
    obtain ⟨x', hx, rfl⟩ := hop
    exact .ofVal rfl rfl fun v t' h' e => ok_move hf hi (.inl hoo) hx hd e
  | assign x =>
    simp only [cOp, hoo, Option.map_eq_some_iff] at hop
    obtain ⟨x', hx, rfl⟩ := hop
    exact .ofVal rfl rfl fun v t' h' e => ok_move hf hi (.inr hoo) hx hd e
  | pick c x y =>
    simp only [cOp, hoo, Option.bind_eq_bind, Option.bind_eq_some_iff] at hop
    obtain ⟨c', hc, x', hx, y', hy, hop⟩ := hop
    cases hop
    exact .ofVal rfl rfl fun v t' h' e => ok_pick hf hi hoo hc hx hy hd e
  | alloc ty =>
    simp only [cOp, hoo, Option.bind_eq_bind, Option.bind_eq_some_iff] at hop
    obtain ⟨z, hz, hop⟩ := hop
    cases hop
    refine .ofNew rfl (fun v t' h' e => by simp [aex] at e) (fun k ob t' e => ?_)
    simp [aex] at e
    obtain ⟨rfl, rfl, rfl⟩ := e
    exact ok_new hf hi hoo hz hd
  | box ty x =>
    simp only [cOp, hoo, Option.bind_eq_bind, Option.bind_eq_some_iff] at hop
    obtain ⟨x', hx, hop⟩ := hop
    cases hop
    refine .ofNew rfl (fun v t' h' e => by simp only [aex] at e; split at e <;> cases e) (fun k ob t' e => ?_)
    simp only [aex] at e
    split at e
    · cases e
    · rename_i htu
      cases e
      exact ok_box hf hi hoo hx (by simpa using htu) hd
  | build ty parts =>
    simp only [cOp, hoo, Option.bind_eq_bind, Option.bind_eq_some_iff] at hop
    obtain ⟨z, hz, ps, hps, hop⟩ := hop
    split at hop
    · rename_i fs hu
      simp only [Option.bind_eq_some_iff] at hop
      obtain ⟨l, hl, qs, hqs, hop⟩ := hop
      cases hop
      exact .ofVal rfl rfl fun v t' h' e => ok_bldS hf hi hoo hz hps hu hl hqs hd e
    · rename_i k e hu
      simp only [Option.bind_eq_some_iff] at hop
      obtain ⟨s, hs, hop⟩ := hop
      cases hop
      exact .ofVal rfl rfl fun v t' h' e => ok_bldA hf hi hoo hz hps hu hs hd e
    · cases hop
  | buildSlice ty len parts =>
    simp only [cOp, hoo] at hop
    split at hop
    · rename_i e hu
      simp only [Option.bind_eq_bind, Option.bind_eq_some_iff] at hop
      obtain ⟨s, hs, ps, hps, z, hz, hop⟩ := hop
      split at hop
      · rename_i hcond
        cases hop
        exact .ofNew rfl (fun v t' h' e => ok_lit hf hi hoo hu hs hz hcond.2.2 hps hcond.1 hd e) (fun k ob t' e => ok_lit_new hf hi hoo hu hs hz hcond.2.2 hps hcond.1 hd e)
      · cases hop
    · cases hop
  | load ty x =>
    simp only [cOp, hoo, Option.bind_eq_bind, Option.bind_eq_some_iff] at hop
    obtain ⟨g, hg, s, hs, x', hx, hop⟩ := hop
    cases g with
    | true =>
      cases hop
      exact .ofVal rfl rfl fun v t' h' e => ok_ld hf hi hoo hx hg hs rfl hd e
    | false =>
      simp only [Bool.false_eq_true, if_false] at hop
      cases hop
      cases hk : (ann == 1) with
      | true => exact .ofVal rfl rfl fun v t' h' e => ok_ld_tk hf hi hoo hx hg hd e
      | false => exact .ofVal rfl rfl fun v t' h' e => ok_ld hf hi hoo hx hg hs rfl hd e
  | store ty p x =>
    simp only [cOp, hoo, Option.bind_eq_bind, Option.bind_eq_some_iff] at hop
    obtain ⟨s, hs, p', hp, x', hx, hop⟩ := hop
    cases hop
    exact .ofVal rfl rfl fun v t' h' e => ok_st hf hi hoo hp hx hs hd e
  | nilCheck x =>
    simp only [cOp, hoo, Option.bind_eq_bind, Option.bind_eq_some_iff] at hop
    obtain ⟨x', hx, hop⟩ := hop
    cases hop
    exact .ofVal rfl rfl fun v t' h' e => ok_nck hf hi hoo hx hd e
  | binOp op ty x y ty' =>
    simp only [cOp, hoo] at hop
    split at hop
    · rename_i k z hn
      simp only [Option.bind_eq_bind, Option.bind_eq_some_iff] at hop
      obtain ⟨z', hz, hop⟩ := hop
      cases hop
      exact .ofVal rfl rfl fun v t' h' e => ok_isnil hf hi hoo (.inl ⟨rfl, rfl⟩) hn hz hd e
    · rename_i k z hn
      simp only [Option.bind_eq_bind, Option.bind_eq_some_iff] at hop
      obtain ⟨z', hz, hop⟩ := hop
      cases hop
      exact .ofVal rfl rfl fun v t' h' e => ok_isnil hf hi hoo (.inr ⟨rfl, rfl⟩) hn hz hd e
    · simp only [Option.bind_eq_bind, Option.bind_eq_some_iff] at hop
      obtain ⟨x', hx, y', hy, hop⟩ := hop
      cases hop
      exact .ofVal rfl rfl fun v t' h' e => ok_bin hf hi hoo hx hy hd e
    · cases hop
  | unOp op ty x =>
    simp only [cOp, hoo, Option.bind_eq_bind, Option.bind_eq_some_iff] at hop
    obtain ⟨x', hx, hop⟩ := hop
    cases hop
    exact .ofVal rfl rfl fun v t' h' e => ok_un hf hi hoo hx hd e
  | convert src ty x =>
    simp only [cOp, hoo, Option.bind_eq_bind, Option.bind_eq_some_iff] at hop
    obtain ⟨x', hx, hop⟩ := hop
    split at hop
    · rename_i e h1 h2
      split at hop
      · rename_i h3
        cases hop
        exact .ofVal rfl rfl fun v t' h' e => ok_b2s hf hi hoo h1 h2 h3 hx hd e
      · cases hop
    · rename_i e h1 h2
      split at hop
      · rename_i h3
        cases hop
        exact .ofNew rfl (fun v t' h' e => ok_s2b hf hi hoo h1 h2 h3 hx hd e) (fun k ob t' e => ok_s2b_new hf hi hoo h1 h2 h3 hx hd e)
      · cases hop
    · rename_i e1 e h1 h2
      split at hop
      · rename_i hst h3
        cases hop
        have hst' : src = ty := by simpa using hst
        exact .ofVal rfl rfl fun v t' h' e => ok_stg hf hi hoo (by rw [hst']; exact h2) hst h3 hx hd e
      · cases hop
    · cases hop
    · cases hop
    · cases hop
      exact .ofVal rfl rfl fun v t' h' e => ok_conv hf hi hoo hx hd e
    · cases hop
  | field ty x i =>
    simp only [cOp, hoo, Option.bind_eq_bind, Option.bind_eq_some_iff] at hop
    obtain ⟨x', hx, hop⟩ := hop
    split at hop
    · rename_i fs hu
      simp only [Option.bind_eq_some_iff] at hop
      obtain ⟨f, hfi, s, hs, g, hg, hop⟩ := hop
      cases hop
      exact .ofVal rfl rfl fun v t' h' e => ok_fld hf hi hoo hx hu hfi hs hg hd rfl e
    · cases hop
  | fieldAddr ty x i =>
    simp only [cOp, hoo, Option.bind_eq_bind, Option.bind_eq_some_iff] at hop
    obtain ⟨x', hx, hop⟩ := hop
    split at hop
    · rename_i fs hu
      simp only [Option.bind_eq_some_iff] at hop
      obtain ⟨f, hfi, s, hs, hop⟩ := hop
      split at hop
      · cases hop
      · rename_i h0
        cases hop
        exact .ofVal rfl rfl fun v t' h' e => ok_fad hf hi hoo hx hu hfi hs h0 hd e
    · cases hop
  | indexAddr ty x i =>
    simp only [cOp, hoo, Option.bind_eq_bind, Option.bind_eq_some_iff] at hop
    obtain ⟨x', hx, i', hi', hop⟩ := hop
    split at hop
    · rename_i e hu
      simp only [Option.bind_eq_some_iff] at hop
      obtain ⟨s, hs, hop⟩ := hop
      cases hop
      exact .ofVal rfl rfl fun v t' h' e => ok_iad hf hi hoo hx hi' hu hs hd e
    · rename_i k e hu
      simp only [Option.bind_eq_some_iff] at hop
      obtain ⟨s, hs, hop⟩ := hop
      cases hop
      exact .ofVal rfl rfl fun v t' h' e => ok_iap hf hi hoo hx hi' hu hs hd e
    · cases hop
  | index ty x i =>
    simp only [cOp, hoo, Option.bind_eq_bind, Option.bind_eq_some_iff] at hop
    obtain ⟨x', hx, i', hi', hop⟩ := hop
    split at hop
    · rename_i hu
      cases hop
      exact .ofVal rfl rfl fun v t' h' e => ok_ixs hf hi hoo hx hi' hu hd e
    · rename_i k e hu
      simp only [Option.bind_eq_some_iff] at hop
      obtain ⟨g, hg, s, hs, hop⟩ := hop
      split at hop
      · rename_i hcond
        cases hop
        exact .ofVal rfl rfl fun v t' h' e => ok_ixa hf hi hoo hx hi' hu hs hg hd (fun hgf => by subst hgf; simpa using hcond) e
      · cases hop
    · cases hop
  | slice ty x lo hh mx =>
    simp only [cOp, hoo, Option.bind_eq_bind, Option.bind_eq_some_iff] at hop
    obtain ⟨x', hx, lo', hlo, hh', hhh, mx', hmx, hop⟩ := hop
    split at hop
    · rename_i hu
      cases hop
      have hm : mx = none := by cases mx with
        | none => rfl
        | some m => simp [cOpt] at hmx
      subst hm
      exact .ofVal rfl rfl fun v t' h' e => ok_sls hf hi hoo hx hlo hhh hu hd e
    · rename_i e hu
      split at hop
      · cases hop
      · rename_i hcond
        simp only [Option.bind_eq_some_iff] at hop
        obtain ⟨s, hs, hop⟩ := hop
        cases hop
        refine .ofVal rfl rfl fun v t' h' e => ok_slc hf hi hoo hx hlo hhh hmx ?_ hu hs hd e
        intro hms
        cases mx with
        | none => cases hms
        | some m =>
          cases hh with
          | some _ => rfl
          | none =>
            obtain ⟨q, rfl, _⟩ := cOpt_some hmx
            have := cOpt_none hhh
            subst this
            exact absurd rfl hcond
    · rename_i k e hu
      simp only [Option.bind_eq_some_iff] at hop
      obtain ⟨s, hs, hop⟩ := hop
      cases hop
      have hm : mx = none := by cases mx with
        | none => rfl
        | some m => simp [cOpt] at hmx
      subst hm
      exact .ofVal rfl rfl fun v t' h' e => ok_slp hf hi hoo hx hlo hhh hu hs hd e
    · cases hop
  | extract x i =>
    simp only [cOp, hoo, Option.bind_eq_bind, Option.bind_eq_some_iff] at hop
    obtain ⟨x', hx, hop⟩ := hop
    cases hop
    exact .ofVal rfl rfl fun v t' h' e => ok_ext hf hi hoo hx hd e
  | makeFunc f first captured =>
    cases f with
    | func f =>
      simp only [cOp, hoo, Option.bind_eq_bind, Option.bind_eq_some_iff] at hop
      obtain ⟨fs, hfs, cs, hcs, hop⟩ := hop
      cases hop
      exact .ofVal rfl rfl fun v t' h' e => ok_fnc hf hi hoo hfs hcs hd e
    | _ => simp [cOp, hoo] at hop
  | makeMap ty r =>
    cases r with
    | none =>
      simp [cOp, hoo] at hop
      subst hop
      refine .ofNew rfl (fun v t' h' e => by simp [aex] at e) (fun k ob t' e => ?_)
      simp [aex] at e
      obtain ⟨rfl, rfl, rfl⟩ := e
      exact ok_mkm hf hi hoo hd
    | some r => simp [cOp, hoo] at hop
  | makeSlice ty l c =>
    simp only [cOp, hoo, Option.bind_eq_bind, Option.bind_eq_some_iff] at hop
    obtain ⟨l', hl, c', hc, hop⟩ := hop
    split at hop
    · rename_i e hu
      simp only [Option.bind_eq_some_iff] at hop
      obtain ⟨s, hs, z, hz, b, hb, hop⟩ := hop
      split at hop
      · rename_i hcond
        cases hop
        exact .ofNew rfl (fun v t' h' e => ok_mks hf hi hoo hu hs hb hz hcond.2 hcond.1 hl hc hd e) (fun k ob t' e => ok_mks_new hf hi hoo hu hs hb hz hcond.2 hcond.1 hl hc hd e)
      · cases hop
    · cases hop
  | lookup ty m k ok =>
    simp only [cOp, hoo, Option.bind_eq_bind, Option.bind_eq_some_iff] at hop
    obtain ⟨m', hm, k', hk, hop⟩ := hop
    split at hop
    · rename_i key e hu
      simp only [Option.bind_eq_some_iff] at hop
      obtain ⟨z, hz, hop⟩ := hop
      split at hop
      · rename_i kk hkk
        cases hop
        exact .ofVal rfl rfl fun v t' h' e => ok_lkp hf hi hoo hu hkk (.inl ⟨rfl, _, rfl⟩) hz hm hk hd e
      · rename_i hkk
        cases hop
        exact .ofVal rfl rfl fun v t' h' e => ok_lkp hf hi hoo hu hkk (.inr ⟨rfl, rfl⟩) hz hm hk hd e
      · cases hop
    · cases hop
  | mapUpdate ty m k x =>
    simp only [cOp, hoo, Option.bind_eq_bind, Option.bind_eq_some_iff] at hop
    obtain ⟨m', hm, k', hk, x', hx, hop⟩ := hop
    split at hop
    · rename_i key e hu
      split at hop
      · rename_i kk hkk
        cases hop
        exact .ofVal rfl rfl fun v t' h' e => ok_mup hf hi hoo hu hkk (.inl ⟨rfl, _, rfl⟩) hm hk hx hd e
      · rename_i hkk
        cases hop
        exact .ofVal rfl rfl fun v t' h' e => ok_mup hf hi hoo hu hkk (.inr ⟨rfl, rfl⟩) hm hk hx hd e
      · cases hop
    · cases hop
  | _ => simp [cOp, hoo] at hop

end

theorem cOper_op {n k : Nat} {ops : Array Oper} {o : Oper} {A : AOper} (hc : cOper P n k ops o = some A) : cOp P k o = some A.op := by
  simp only [cOper, Option.bind_eq_bind, Option.bind_eq_some_iff] at hc
  obtain ⟨op, hop, g, hg, hc⟩ := hc
  split at hc
  · split at hc
    · cases hc; exact hop
    · cases hc
  · cases hc; exact hop

theorem ops_sound (P : Program) : OpsSound P where
  val := fun hf hi hc hv => (ops_one hf hi (cOper_op hc) (cOper_dst hc).2).val _ _ _ hv
  new := fun hf hi hc hv => (ops_one hf hi (cOper_op hc) (cOper_dst hc).2).new _ _ _ hv
  newc := fun hf hi hc hv => (ops_one hf hi (cOper_op hc) (cOper_dst hc).2).newc _ _ _ _ hv
  call := fun hf hi hc hv => (ops_one hf hi (cOper_op hc) (cOper_dst hc).2).call _ _ _ _ hv

end Go.Am
