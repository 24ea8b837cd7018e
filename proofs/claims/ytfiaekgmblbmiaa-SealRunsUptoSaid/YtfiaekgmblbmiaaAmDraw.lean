/- Drawn regions: the text's order is enough, where operations only look. -/
import Derived.Test.YtfiaekgmblbmiaaAmEval
set_option linter.unusedVariables false
set_option linter.unusedSimpArgs false
namespace Go.Am
variable {P : Program} {ann : Ann}

/-- The operands of operations that only look (of the others: none is told). -/
def AOp.looks : AOp → Option (List Opd)
  | .mov false x => some [x]
  | .pick c a b => some [c, a, b]
  | .bin _ _ x y => some [x, y]
  | .isnil _ _ x => some [x]
  | .un _ x => some [x]
  | .conv _ _ x => some [x]
  | .b2s x => some [x]
  | .s2b false x => some [x]
  | .fld _ _ _ x => some [x]
  | .fad _ x => some [x]
  | .iad _ x i => some [x, i]
  | .iap _ _ x i => some [x, i]
  | .ixs x i => some [x, i]
  | .ixa _ _ _ x i => some [x, i]
  | .slc _ x lo hi mx => some (x :: (lo.toList ++ hi.toList ++ mx.toList))
  | .sls x lo hi => some (x :: (lo.toList ++ hi.toList))
  | .len _ x => some [x]
  | .ld false _ _ p => some [p]
  | .nck x => some [x]
  | .ext _ x => some [x]
  | .lkp _ _ _ m k => some [m, k]
  | _ => none

def ARel' (t' : Nat → AV) : AR → AR
  | .val v _ h => .val v t' h
  | .new k ob _ => .new k ob t'
  | .call k f args _ => .call k f args t'

theorem opt_ev {t t' : Nat → AV} {o : Option Opd} (h : ∀ x ∈ o.toList, x.ev t' = x.ev t) : o.map (Opd.ev t') = o.map (Opd.ev t) := by
  cases o with
  | none => rfl
  | some x => simp [h x (by simp)]

/-- What is looked at is the same: so is what comes. -/
theorem aex_look {op : AOp} {l : List Opd} (hl : op.looks = some l) {t t' : Nat → AV} {h : Heap} (hs : ∀ x ∈ l, x.ev t' = x.ev t) {r : AR} (hr : aex P op ⟨t, h⟩ = some r) :
    ∃ v, r = .val v t h ∧ aex P op ⟨t', h⟩ = some (.val v t' h) := by
  cases op
  case slc sz x lo hi mx =>
    simp only [AOp.looks, Option.some.injEq] at hl
    subst hl
    simp only [List.mem_cons, List.mem_append, forall_eq_or_imp] at hs
    obtain ⟨hx, hs⟩ := hs
    have h1 := opt_ev (o := lo) (fun x hx => hs x (.inl (.inl hx)))
    have h2 := opt_ev (o := hi) (fun x hx => hs x (.inl (.inr hx)))
    have h3 := opt_ev (o := mx) (fun x hx => hs x (.inr hx))
    rw [aex_slc] at hr ⊢
    rw [h1, h2, h3, hx]
    unfold aexSlc at hr ⊢
    repeat' (first | (cases hr; done) | split at hr | simp only [Option.bind_eq_some_iff] at hr | (obtain ⟨_, _, hr⟩ := hr))
    all_goals (refine ⟨_, rfl, ?_⟩; simp_all)
  case sls x lo hi =>
    simp only [AOp.looks, Option.some.injEq] at hl
    subst hl
    simp only [List.mem_cons, List.mem_append, forall_eq_or_imp] at hs
    obtain ⟨hx, hs⟩ := hs
    have h1 := opt_ev (o := lo) (fun x hx => hs x (.inl hx))
    have h2 := opt_ev (o := hi) (fun x hx => hs x (.inr hx))
    simp only [aex] at hr ⊢
    rw [h1, h2, hx]
    repeat' (first | (cases hr; done) | split at hr | simp only [Option.bind_eq_bind, Option.bind_eq_some_iff] at hr | (obtain ⟨_, _, hr⟩ := hr))
    all_goals (refine ⟨_, rfl, ?_⟩; simp_all)
  case ld tk agg sz p =>
    cases tk with
    | true => cases hl
    | false =>
      simp only [AOp.looks, Option.some.injEq] at hl
      subst hl
      simp only [List.mem_singleton, forall_eq] at hs
      rw [aex_ld] at hr ⊢
      rw [hs]
      unfold aexLd at hr ⊢
      simp only [Bool.false_eq_true, if_false] at hr ⊢
      repeat' (first | (cases hr; done) | split at hr | simp only [Option.bind_eq_some_iff] at hr | (obtain ⟨_, _, hr⟩ := hr))
      all_goals (refine ⟨_, rfl, ?_⟩; simp_all)
  all_goals simp only [AOp.looks] at hl <;> first | (cases hl; done) | skip
  all_goals
    (try (rename_i b x; cases b <;> simp only [] at hl <;> first | (cases hl; done) | skip))
  all_goals (try cases hl)
  all_goals
    (try simp only [List.mem_cons, List.not_mem_nil, or_false, forall_eq_or_imp, forall_eq] at hs
     simp only [aex, Option.bind_eq_bind, Option.bind_eq_some_iff] at hr
     repeat' (first | (cases hr; done) | split at hr | simp only [Option.bind_eq_some_iff] at hr | (obtain ⟨_, _, hr⟩ := hr)))
  all_goals first | (refine ⟨_, rfl, ?_⟩; simp_all [aex]; done) | (exfalso; simp_all; done)

/-! ### Quiet operations -/
def Opd.slots : Opd → List Nat
  | .t n => [n]
  | .c _ => []

/-- The operands that a quiet operation reads. -/
def AOp.quiet : AOp → Option (List Opd)
  | .mov true x => some [x]
  | .call _ _ xs => some xs
  | .blt _ _ _ xs => some xs
  | .bld _ parts => some (parts.map (·.2.2))
  | .lit false _ _ _ parts => some (parts.map (·.2))
  | op => op.looks

def AOper.reads (o : AOper) : List Nat :=
  ((o.op.quiet).getD []).flatMap Opd.slots ++ (match o.guard with | some (j, _) => [j] | none => [])

theorem ev_eq {t t' : Nat → AV} {x : Opd} (h : ∀ j ∈ x.slots, t' j = t j) : x.ev t' = x.ev t := by
  cases x with
  | t n => exact h n (by simp [Opd.slots])
  | c v => rfl

theorem strip_id {t : Nat → AV} {x : Opd} (h : (x.ev t).dis = x.ev t) : strip t x = t := by
  cases x with
  | c v => rfl
  | t n =>
    funext j
    have h : (t n).dis = t n := h
    simp only [strip, upd]
    split
    · rename_i e; rw [h, e]
    · rfl

theorem strips_id {t : Nat → AV} : ∀ {xs : List Opd}, (∀ x ∈ xs, (x.ev t).dis = x.ev t) → strips t xs = t
  | [], _ => rfl
  | x :: r, h => by
    show strips (strip t x) r = t
    rw [strip_id (h x (by simp))]
    exact strips_id fun y hy => h y (by simp [hy])

/-- A quiet operation comes to a value, and turns nothing else. -/
inductive QV (P : Program) (ann : Ann) (h : Heap) (o : AOper) (t : Nat → AV) (v : AV) : Prop
  | pass : wantedA o t = false → v = .undef → QV P ann h o t v
  | val : wantedA o t = true → aex P o.op ⟨t, h⟩ = some (.val v t h) → QV P ann h o t v
  | call (k f : Nat) (xs : List Opd) (args : List AV) : wantedA o t = true → o.op = .call k f xs → args = xs.map (Opd.ev t) → (∀ x ∈ xs, (x.ev t).dis = x.ev t) → AWF P ann k f args h (fun v' h' => v' = v ∧ h' = h) → QV P ann h o t v

theorem dis_not_own {v : AV} (h : v.dis = v) : v.isOwn = false := by rw [← h]; cases v <;> rfl

theorem wanted_eq {o : AOper} {t t' : Nat → AV} (h : ∀ j ∈ o.reads, t' j = t j) : wantedA o t' = wantedA o t := by
  unfold wantedA
  cases hg : o.guard with
  | none => rfl
  | some p =>
    obtain ⟨j, b⟩ := p
    have : t' j = t j := h j (by simp [AOper.reads, hg])
    simp only [this]

theorem QV.aw {h : Heap} {o : AOper} {t : Nat → AV} {v : AV} (q : QV P ann h o t v) {Q : St → Prop} (hQ : Q ⟨putd t o.dst v, h⟩) : AW1 P ann o ⟨t, h⟩ Q := by
  cases q with
  | pass h1 h2 => subst h2; exact .pass h1 hQ
  | val h1 h2 => exact .val h1 h2 hQ
  | call k f xs args h1 h2 h3 h4 h5 =>
    subst h3
    refine .call _ h1 (f := f) (k := k) (args := xs.map (Opd.ev t)) (t := t) (s := ⟨t, h⟩) ?_ h5 (fun v' h' ⟨e1, e2⟩ => by subst e1; subst e2; exact hQ)
    rw [h2, aex_callE, strips_id h4, if_pos]
    have : ((xs.map (Opd.ev t)).filter AV.isOwn) = [] := by
      rw [List.filter_eq_nil_iff]
      intro a ha
      obtain ⟨x, hx, rfl⟩ := List.mem_map.1 ha
      simp [dis_not_own (h4 x hx)]
    rw [this]
    exact Nat.zero_le _

theorem QV.local {h : Heap} {o : AOper} {t t' : Nat → AV} {v : AV} (hq : o.op.quiet.isSome = true) (hr : ∀ j ∈ o.reads, t' j = t j) (q : QV P ann h o t v) : QV P ann h o t' v := by
  have hw := wanted_eq hr
  have hev : ∀ l, o.op.quiet = some l → ∀ x ∈ l, x.ev t' = x.ev t := fun l hl x hx => ev_eq fun j hj => hr j (by
    simp only [AOper.reads, hl, Option.getD_some, List.mem_append, List.mem_flatMap]
    exact .inl ⟨x, hx, hj⟩)
  cases q with
  | pass h1 h2 => exact .pass (hw.trans h1) h2
  | call k f xs args h1 h2 h3 h4 h5 =>
    have := hev xs (by rw [h2]; rfl)
    exact .call k f xs args (hw.trans h1) h2 (h3.trans (List.map_congr_left fun x hx => (this x hx).symm)) (fun x hx => by rw [this x hx]; exact h4 x hx) h5
  | val h1 h2 =>
    refine .val (hw.trans h1) ?_
    obtain ⟨d, op, g⟩ := o
    simp only at hq hev h2 ⊢
    have look : ∀ l, op.looks = some l → (∀ x ∈ l, x.ev t' = x.ev t) → aex P op ⟨t', h⟩ = some (.val v t' h) := fun l hl he => by
      obtain ⟨v', e1, e2⟩ := aex_look hl he h2
      cases e1
      exact e2
    cases op
    case mov tk x =>
      cases tk with
      | false => exact look _ rfl (hev _ rfl)
      | true =>
        have hx := hev _ rfl x (by simp)
        rw [aex_movT] at h2 ⊢
        simp only [Option.some.injEq, AR.val.injEq] at h2
        obtain ⟨e1, e2, _⟩ := h2
        cases x with
        | c u => rw [← e1]; rfl
        | t n =>
          rw [strip_id, hx, e1]
          rw [hx]
          have := congrFun e2 n
          simpa [strip, upd, Opd.ev] using this
    case call => rw [aex_callE] at h2; split at h2 <;> cases h2
    case lit obj sz n zero parts =>
      cases obj with
      | true => cases hq
      | false =>
        have hx := hev _ rfl
        rw [aex_lit] at h2 ⊢
        have e : parts.map (fun p => (p.1 * sz, sz, (p.2.ev t').dis)) = parts.map (fun p => (p.1 * sz, sz, (p.2.ev t).dis)) := List.map_congr_left fun p hp => by
          rw [hx p.2 (List.mem_map.2 ⟨p, hp, rfl⟩)]
        rw [e]
        simp only [Option.bind_eq_some_iff] at h2 ⊢
        obtain ⟨cs, q1, q2⟩ := h2
        refine ⟨cs, q1, ?_⟩
        split at q2
        · rename_i hz
          cases q2
          rw [if_pos hz]
        · cases q2
    case bld zero parts =>
      have hx := hev _ rfl
      simp only [aex, Option.bind_eq_bind] at h2 ⊢
      have e : parts.map (fun p => (p.1, p.2.1, (p.2.2.ev t').dis)) = parts.map (fun p => (p.1, p.2.1, (p.2.2.ev t).dis)) := List.map_congr_left fun p hp => by
        rw [hx p.2.2 (List.mem_map.2 ⟨p, hp, rfl⟩)]
      rw [e]
      simp only [Option.bind_eq_some_iff] at h2 ⊢
      obtain ⟨cs, q1, q2⟩ := h2
      cases q2
      exact ⟨cs, q1, rfl⟩
    case blt b tys ty xs =>
      have hx := hev _ rfl
      simp only [aex, Option.bind_eq_bind] at h2 ⊢
      have e : xs.map (Opd.ev t') = xs.map (Opd.ev t) := List.map_congr_left hx
      rw [e]
      simp only [Option.bind_eq_some_iff] at h2 ⊢
      obtain ⟨vs, q1, r, q2, q3⟩ := h2
      refine ⟨vs, q1, r, q2, ?_⟩
      split at q3
      · split at q3
        · rename_i hsv
          cases q3
          simp [hsv]
        · cases q3
      · cases q3
    all_goals first | (cases hq; done) | exact look _ rfl (hev _ rfl) | skip
    case s2b obj x => cases obj <;> first | (cases hq; done) | exact look _ rfl (hev _ rfl)
    case ld tk agg sz p => cases tk <;> first | (cases hq; done) | exact look _ rfl (hev _ rfl)

theorem count_list {f : Nat → Bool} {i : Nat} : ∀ {l : List Nat}, l.Nodup → i ∈ l → f i = false → (l.filter (fun k => !f k)).length = (l.filter (fun k => !upd f i true k)).length + 1
  | [], _, hi, _ => by cases hi
  | a :: r, hn, hi, hf => by
    rw [List.nodup_cons] at hn
    by_cases e : a = i
    · subst e
      have h1 : (!f a) = true := by simp [hf]
      have h2 : (!upd f a true a) = false := by simp [upd]
      rw [List.filter_cons_of_pos (p := fun k => !f k) h1, List.filter_cons_of_neg (p := fun k => !upd f a true k) (by simp [h2])]
      have : r.filter (fun k => !f k) = r.filter (fun k => !upd f a true k) := by
        apply List.filter_congr
        intro k hk
        have : k ≠ a := fun e => hn.1 (e ▸ hk)
        simp [upd, this]
      rw [List.length_cons, this]
    · have hi' : i ∈ r := by
        rcases List.mem_cons.1 hi with h | h
        · exact absurd h.symm e
        · exact h
      have ih := count_list hn.2 hi' hf
      have e2 : upd f i true a = f a := by simp [upd, e]
      by_cases hfa : f a = true
      · rw [List.filter_cons_of_neg (p := fun k => !f k) (by simp [hfa]), List.filter_cons_of_neg (p := fun k => !upd f i true k) (by simp [e2, hfa])]
        exact ih
      · have hfa : f a = false := by simpa using hfa
        rw [List.filter_cons_of_pos (p := fun k => !f k) (by simp [hfa]), List.filter_cons_of_pos (p := fun k => !upd f i true k) (by simp [e2, hfa]), List.length_cons, List.length_cons, ih]

/-! ### A drawn region of quiet operations, in the text's order -/
/-- All that comes ahead of an operation. -/
def ancs (pre : List (List Nat)) : Nat → Nat → List Nat
  | 0, _ => []
  | n + 1, i => (pre.getD i []) ++ (pre.getD i []).flatMap (ancs pre n)

def drawOk (ops : List AOper) (pre : List (List Nat)) : Bool :=
  (List.range ops.length).all fun i => match ops[i]? with
    | none => false
    | some o => o.op.quiet.isSome && (pre.getD i []).all (fun k => decide (k < i)) &&
      (List.range ops.length).all fun k => match ops[k]? with
        | none => false
        | some o' => match o'.dst with
          | none => true
          | some j => (decide (k = i) || !(o.dst == some j)) &&
            (!(o.reads.contains j) || decide (k = i) || (if k < i then (pre.getD i []).contains k else (ancs pre ops.length k).contains i))

theorem drawOk_spec {ops : List AOper} {pre : List (List Nat)} (h : drawOk ops pre = true) {i : Nat} {o : AOper} (hi : ops[i]? = some o) :
    o.op.quiet.isSome = true ∧ (∀ k ∈ pre.getD i [], k < i) ∧ ∀ k o' j, ops[k]? = some o' → o'.dst = some j → (k = i ∨ o.dst ≠ some j) ∧ (j ∈ o.reads → k = i ∨ (k < i ∧ k ∈ pre.getD i []) ∨ (i < k ∧ i ∈ ancs pre ops.length k)) := by
  have hlt : i < ops.length := (List.getElem?_eq_some_iff.1 hi).1
  unfold drawOk at h
  rw [List.all_eq_true] at h
  have := h i (List.mem_range.2 hlt)
  rw [hi] at this
  simp only [Bool.and_eq_true, List.all_eq_true, decide_eq_true_eq] at this
  obtain ⟨⟨h1, h2⟩, h3⟩ := this
  refine ⟨h1, h2, fun k o' j hk hj => ?_⟩
  have hlk : k < ops.length := (List.getElem?_eq_some_iff.1 hk).1
  have h4 := h3 k (List.mem_range.2 hlk)
  rw [hk] at h4
  simp only [hj, Bool.and_eq_true, Bool.or_eq_true, decide_eq_true_eq, Bool.not_eq_true', beq_eq_false_iff_ne, List.contains_eq_mem, decide_eq_false_iff_not] at h4
  obtain ⟨h5, h6⟩ := h4
  refine ⟨h5, fun hr => ?_⟩
  rcases h6 with (h6 | h6) | h6
  · exact absurd hr h6
  · exact .inl h6
  · split at h6
    · rename_i hki
      exact .inr (.inl ⟨hki, by simpa using h6⟩)
    · rename_i hki
      by_cases e : k = i
      · exact .inl e
      · exact .inr (.inr ⟨by omega, by simpa using h6⟩)

/-- Quiet operations in a row. -/
def WQ (P : Program) (ann : Ann) (h : Heap) : List AOper → (Nat → AV) → ((Nat → AV) → Prop) → Prop
  | [], t, Q => Q t
  | o :: r, t, Q => ∃ v, QV P ann h o t v ∧ WQ P ann h r (putd t o.dst v) Q

/-- The slots behind some of the operations. -/
def tstep (ops : List AOper) (vals : Nat → AV) : Nat → (Nat → AV) → (Nat → AV)
  | 0, t => t
  | n + 1, t => match ops[n]? with
    | some o => putd (tstep ops vals n t) o.dst (vals n)
    | none => tstep ops vals n t

theorem WQ_vals {h : Heap} {Q : (Nat → AV) → Prop} : ∀ (ops : List AOper) (t : Nat → AV), WQ P ann h ops t Q → ∃ vals : Nat → AV, (∀ i o, ops[i]? = some o → QV P ann h o (tstep ops vals i t) (vals i)) ∧ Q (tstep ops vals ops.length t)
  | [], t, hq => ⟨fun _ => .undef, by simp, hq⟩
  | o :: r, t, hq => by
    obtain ⟨v, h1, h2⟩ := hq
    obtain ⟨vals, h3, h4⟩ := WQ_vals r _ h2
    let vals' : Nat → AV := fun i => match i with | 0 => v | i + 1 => vals i
    have e : ∀ n, tstep (o :: r) vals' (n + 1) t = tstep r vals n (putd t o.dst v) := by
      intro n
      induction n with
      | zero => rfl
      | succ n ih =>
        show (match (o :: r)[n + 1]? with | some o' => putd (tstep (o :: r) vals' (n + 1) t) o'.dst (vals' (n + 1)) | none => tstep (o :: r) vals' (n + 1) t) = (match r[n]? with | some o' => putd (tstep r vals n (putd t o.dst v)) o'.dst (vals n) | none => tstep r vals n (putd t o.dst v))
        rw [ih]
        rfl
    refine ⟨vals', fun i o' hi => ?_, ?_⟩
    · cases i with
      | zero => simp at hi; subst hi; exact h1
      | succ i => rw [e]; exact h3 i o' (by simpa using hi)
    · rw [List.length_cons, e]; exact h4

/-- What stands in a slot behind the first so many operations. -/
theorem tstep_at {ops : List AOper} {vals : Nat → AV} {t : Nat → AV} (hd : ∀ (i : Nat) (o : AOper) (k : Nat) (o' : AOper) (j : Nat), ops[i]? = some o → ops[k]? = some o' → o.dst = some j → o'.dst = some j → k = i) (j : Nat) :
    ∀ n, (∃ k o, k < n ∧ ops[k]? = some o ∧ o.dst = some j ∧ tstep ops vals n t j = vals k) ∨ ((∀ k o, k < n → ops[k]? = some o → o.dst ≠ some j) ∧ tstep ops vals n t j = t j) := by
  intro n
  induction n with
  | zero => exact .inr ⟨fun k o hk => absurd hk (by omega), rfl⟩
  | succ n ih =>
    simp only [tstep]
    cases hn : ops[n]? with
    | none =>
      simp only
      rcases ih with ⟨k, o, h1, h2, h3, h4⟩ | ⟨h1, h2⟩
      · exact .inl ⟨k, o, by omega, h2, h3, h4⟩
      · refine .inr ⟨fun k o hk ho => ?_, h2⟩
        rcases Nat.lt_or_ge k n with h | h
        · exact h1 k o h ho
        · obtain rfl : k = n := by omega
          rw [hn] at ho; cases ho
    | some o' =>
      simp only
      by_cases hj : o'.dst = some j
      · refine .inl ⟨n, o', by omega, hn, hj, ?_⟩
        rw [hj]
        simp [putd, upd]
      · have e : putd (tstep ops vals n t) o'.dst (vals n) j = tstep ops vals n t j := by
          cases hd' : o'.dst with
          | none => rfl
          | some d =>
            have : j ≠ d := fun e => hj (by rw [hd', e])
            simp [putd, upd, this]
        rw [e]
        rcases ih with ⟨k, o, h1, h2, h3, h4⟩ | ⟨h1, h2⟩
        · exact .inl ⟨k, o, by omega, h2, h3, h4⟩
        · refine .inr ⟨fun k o hk ho => ?_, h2⟩
          rcases Nat.lt_or_ge k n with h | h
          · exact h1 k o h ho
          · obtain rfl : k = n := by omega
            rw [hn] at ho; cases ho; exact hj

theorem AWD_quiet {ops : List AOper} {pre : List (List Nat)} {t : Nat → AV} {h : Heap} {Q : St → Prop} (hok : drawOk ops pre = true) (hq : WQ P ann h ops t fun t' => Q ⟨t', h⟩) :
    AWD P ann ops pre (fun _ => false) ⟨t, h⟩ Q := by
  obtain ⟨vals, hv, hQ⟩ := WQ_vals ops t hq
  have hd : ∀ (i : Nat) (o : AOper) (k : Nat) (o' : AOper) (j : Nat), ops[i]? = some o → ops[k]? = some o' → o.dst = some j → o'.dst = some j → k = i := fun i o k o' j hi hk h1 h2 => by
    rcases ((drawOk_spec hok hi).2.2 k o' j hk h2).1 with e | e
    · exact e
    · exact absurd h1 e
  -- what is listed is listed with all ahead of it
  have key : ∀ m (l : Nat → Bool) (s : Nat → AV), ((List.range ops.length).filter (fun i => !l i)).length = m → (∀ i, l i = true → i < ops.length ∧ ∀ k ∈ pre.getD i [], l k = true) →
      (∀ j, (∃ k o, l k = true ∧ ops[k]? = some o ∧ o.dst = some j ∧ s j = vals k) ∨ ((∀ k o, l k = true → ops[k]? = some o → o.dst ≠ some j) ∧ s j = t j)) → AWD P ann ops pre l ⟨s, h⟩ Q := by
    intro m
    induction m with
    | zero =>
      intro l s hm hl hs
      have all : ∀ i, i < ops.length → l i = true := by
        intro i hi
        have := List.filter_eq_nil_iff.1 (List.eq_nil_of_length_eq_zero hm) i (List.mem_range.2 hi)
        simpa using this
      have es : s = tstep ops vals ops.length t := by
        funext j
        rcases hs j with ⟨k, o, h1, h2, h3, h4⟩ | ⟨h1, h2⟩
        · rcases tstep_at (vals := vals) (t := t) hd j ops.length with ⟨k', o', g1, g2, g3, g4⟩ | ⟨g1, g2⟩
          · rw [h4, g4, hd k o k' o' j h2 g2 h3 g3]
          · exact absurd h3 (g1 k o (hl k h1).1 h2)
        · rcases tstep_at (vals := vals) (t := t) hd j ops.length with ⟨k', o', g1, g2, g3, g4⟩ | ⟨g1, g2⟩
          · exact absurd g3 (h1 k' o' (all k' g1) g2)
          · rw [h2, g2]
      refine .mk (fun _ _ => False) (fun _ => by rw [es]; exact hQ) (fun i o hr _ => ?_) (fun i s' hr hf => hf.elim)
      have := all i hr.1
      rw [hr.2.1] at this
      cases this
    | succ m ih =>
      intro l s hm hl hs
      have anc : ∀ n k, l k = true → ∀ i ∈ ancs pre n k, l i = true := by
        intro n
        induction n with
        | zero => intro k _ i hi; simp [ancs] at hi
        | succ n ihn =>
          intro k hk i hi
          simp only [ancs, List.mem_append, List.mem_flatMap] at hi
          rcases hi with hi | ⟨q, hq, hi⟩
          · exact (hl k hk).2 i hi
          · exact ihn q ((hl k hk).2 q hq) i hi
      refine .mk (fun i s' => ∃ o, ops[i]? = some o ∧ s' = ⟨putd s o.dst (vals i), h⟩) (fun hno => ?_) (fun i o hr ho => ?_) (fun i s' hr hR => ?_)
      · -- the least that is not listed is ready
        exfalso
        have ex : ∃ i, i < ops.length ∧ l i = false := by
          cases hf : (List.range ops.length).filter (fun i => !l i) with
          | nil => rw [hf] at hm; simp at hm
          | cons a r =>
            have : a ∈ (List.range ops.length).filter (fun i => !l i) := by rw [hf]; simp
            rw [List.mem_filter, List.mem_range] at this
            exact ⟨a, this.1, by simpa using this.2⟩
        obtain ⟨i, hi, hli⟩ := ex
        have least : ∀ n i, i ≤ n → i < ops.length → l i = false → False := by
          intro n
          induction n with
          | zero =>
            intro i hi0 hi hli
            obtain rfl : i = 0 := by omega
            refine hno 0 ⟨hi, hli, fun k hk => ?_⟩
            have := (drawOk_spec hok (List.getElem?_eq_getElem hi)).2.1 k hk
            omega
          | succ n ihn =>
            intro i hin hi hli
            by_cases hrdy : ∀ k ∈ pre.getD i [], l k = true
            · exact hno i ⟨hi, hli, hrdy⟩
            · simp only [Classical.not_forall] at hrdy
              obtain ⟨k, hk, hlk⟩ := hrdy
              have := (drawOk_spec hok (List.getElem?_eq_getElem hi)).2.1 k hk
              exact ihn k (by omega) (by omega) (by simpa using hlk)
        exact least i i (Nat.le_refl _) hi hli
      · refine (QV.local ((drawOk_spec hok ho).1) (fun j hj => ?_) (hv i o ho)).aw ⟨o, ho, rfl⟩
        -- the slots that it reads are as in the text's order
        have spec := (drawOk_spec hok ho).2.2
        rcases hs j with ⟨k, o', h1, h2, h3, h4⟩ | ⟨h1, h2⟩
        · rcases (spec k o' j h2 h3).2 hj with e | ⟨e1, e2⟩ | ⟨e1, e2⟩
          · subst e; rw [hr.2.1] at h1; cases h1
          · rcases tstep_at (vals := vals) (t := t) hd j i with ⟨k', o'', g1, g2, g3, g4⟩ | ⟨g1, g2⟩
            · rw [h4, g4, hd k o' k' o'' j h2 g2 h3 g3]
            · exact absurd h3 (g1 k o' e1 h2)
          · have := anc _ k h1 i e2
            rw [hr.2.1] at this; cases this
        · rcases tstep_at (vals := vals) (t := t) hd j i with ⟨k', o'', g1, g2, g3, g4⟩ | ⟨g1, g2⟩
          · rcases (spec k' o'' j g2 g3).2 hj with e | ⟨e1, e2⟩ | ⟨e1, e2⟩
            · omega
            · exact absurd g3 (h1 k' o'' (hr.2.2 k' e2) g2)
            · omega
          · rw [h2, g2]
      · obtain ⟨o, ho, rfl⟩ := hR
        refine ih (upd l i true) _ ?_ ?_ ?_
        · have e1 := count_list (l := List.range ops.length) (i := i) (f := l) List.nodup_range (List.mem_range.2 hr.1) hr.2.1
          omega
        · intro k hk
          by_cases e : k = i
          · subst e
            refine ⟨hr.1, fun q hq => ?_⟩
            have := hr.2.2 q hq
            simp only [upd]
            split
            · rfl
            · exact this
          · simp only [upd, if_neg e] at hk
            refine ⟨(hl k hk).1, fun q hq => ?_⟩
            simp only [upd]
            split
            · rfl
            · exact (hl k hk).2 q hq
        · intro j
          by_cases hj : o.dst = some j
          · refine .inl ⟨i, o, by simp [upd], ho, hj, ?_⟩
            rw [hj]
            simp [putd, upd]
          · have e : putd s o.dst (vals i) j = s j := by
              cases hd' : o.dst with
              | none => rfl
              | some d =>
                have : j ≠ d := fun e => hj (by rw [hd', e])
                simp [putd, upd, this]
            rw [e]
            rcases hs j with ⟨k, o', h1, h2, h3, h4⟩ | ⟨h1, h2⟩
            · refine .inl ⟨k, o', ?_, h2, h3, h4⟩
              simp only [upd]
              split
              · rfl
              · exact h1
            · refine .inr ⟨fun k o' hk ho' => ?_, h2⟩
              by_cases e2 : k = i
              · subst e2
                rw [ho] at ho'; cases ho'; exact hj
              · simp only [upd, if_neg e2] at hk
                exact h1 k o' hk ho'
  exact key _ _ t rfl (fun i hi => by cases hi) (fun j => .inr ⟨fun k o hk => (by cases hk), rfl⟩)

/-! ### The same as a condition that is worked out -/
def afterQ (d : Option Nat) (h : Heap) (N : St → Prop) : Option AR → Prop
  | some (.val v t' _) => N ⟨putd t' d v, h⟩
  | _ => False

/-- What comes behind a call. -/
def contK (N : St → Prop) (d : Option Nat) (t : Nat → AV) (v : AV) (h : Heap) : Prop := N ⟨putd t d v, h⟩

def AOp.soft : AOp → Bool
  | .blt .. | .bld .. | .lit false .. => true
  | op => op.looks.isSome

def Q1 (P : Program) (ann : Ann) (d : Option Nat) (s : St) (N : St → Prop) : AOp → Prop
  | .mov true x => (x.ev s.t).dis = x.ev s.t ∧ N ⟨putd s.t d (x.ev s.t), s.h⟩
  | .call k f xs => (∀ x ∈ xs, (x.ev s.t).dis = x.ev s.t) ∧ ∃ v, AWF P ann k f (xs.map (Opd.ev s.t)) s.h (fun v' h' => v' = v ∧ h' = s.h) ∧ contK N d s.t v s.h
  | op => op.soft = true ∧ afterQ d s.h N (aex P op s)

def QO (P : Program) (ann : Ann) : List AOper → St → (St → Prop) → Prop
  | [], s, Q => Q s
  | o :: r, s, Q => if wantedA o s.t then Q1 P ann o.dst s (fun s' => QO P ann r s' Q) o.op else QO P ann r ⟨putd s.t o.dst .undef, s.h⟩ Q

theorem aex_soft {op : AOp} (hs : op.soft = true) {t : Nat → AV} {h : Heap} {r : AR} (hr : aex P op ⟨t, h⟩ = some r) : ∃ v, r = .val v t h := by
  have look : op.looks.isSome = true → ∃ v, r = .val v t h := fun h1 => by
    obtain ⟨l, hl⟩ := Option.isSome_iff_exists.1 h1
    obtain ⟨v, e1, _⟩ := aex_look hl (t' := t) (fun _ _ => rfl) hr
    exact ⟨v, e1⟩
  cases op
  case lit obj _ _ _ _ =>
    cases obj with
    | true => exact look hs
    | false =>
      rw [aex_lit] at hr
      simp only [Option.bind_eq_some_iff] at hr
      obtain ⟨cs, _, hr⟩ := hr
      split at hr
      · cases hr; exact ⟨_, rfl⟩
      · cases hr
  case bld z ps =>
    simp only [aex, Option.bind_eq_bind, Option.bind_eq_some_iff] at hr
    obtain ⟨cs, _, hr⟩ := hr
    cases hr; exact ⟨_, rfl⟩
  case blt =>
    simp only [aex, Option.bind_eq_bind, Option.bind_eq_some_iff] at hr
    obtain ⟨vs, _, q, _, hr⟩ := hr
    split at hr
    · split at hr
      · cases hr; exact ⟨_, rfl⟩
      · cases hr
    · cases hr
  all_goals exact look hs

theorem Q1_sound {h : Heap} {o : AOper} {t : Nat → AV} {N : St → Prop} (hw : wantedA o t = true) (hq : Q1 P ann o.dst ⟨t, h⟩ N o.op) : ∃ v, QV P ann h o t v ∧ N ⟨putd t o.dst v, h⟩ := by
  obtain ⟨d, op, g⟩ := o
  simp only at hq ⊢
  have look : op.soft = true ∧ afterQ d h N (aex P op ⟨t, h⟩) → ∃ v, QV P ann h ⟨d, op, g⟩ t v ∧ N ⟨putd t d v, h⟩ := by
    rintro ⟨h1, h2⟩
    cases hr : aex P op ⟨t, h⟩ with
    | none => rw [hr] at h2; exact h2.elim
    | some r =>
      obtain ⟨v, e1⟩ := aex_soft h1 hr
      subst e1
      rw [hr] at h2
      exact ⟨v, .val hw hr, h2⟩
  cases op
  case mov tk x =>
    cases tk with
    | false => exact look hq
    | true =>
      obtain ⟨h1, h2⟩ := hq
      refine ⟨_, .val hw ?_, h2⟩
      show aex P (.mov true x) ⟨t, h⟩ = _
      rw [aex_movT, strip_id h1]
  case call k f xs =>
    obtain ⟨h1, v, h2, h3⟩ := hq
    exact ⟨v, .call k f xs _ hw rfl rfl h1 h2, h3⟩
  all_goals exact look hq

theorem QO_sound {h : Heap} : ∀ {ops : List AOper} {t : Nat → AV} {Q : St → Prop}, QO P ann ops ⟨t, h⟩ Q → WQ P ann h ops t fun t' => Q ⟨t', h⟩
  | [], t, Q, hq => hq
  | o :: r, t, Q, hq => by
    simp only [QO] at hq
    split at hq
    · rename_i hw
      obtain ⟨v, h1, h2⟩ := Q1_sound hw hq
      exact ⟨v, h1, QO_sound h2⟩
    · rename_i hw
      exact ⟨.undef, .pass (by simpa using hw) rfl, QO_sound hq⟩

section rules
variable {t : Nat → AV} {h : Heap} {N : St → Prop}
theorem contK_some {d t v h} : contK N (some d) t v h = N ⟨upd t d v, h⟩ := nd rfl
theorem contK_none {t v h} : contK N none t v h = N ⟨t, h⟩ := nd rfl
theorem QO_nil : QO P ann [] ⟨t, h⟩ N = N ⟨t, h⟩ := nd rfl
theorem QO_cons {d op r} : QO P ann (⟨d, op, none⟩ :: r) ⟨t, h⟩ N = Q1 P ann d ⟨t, h⟩ (fun s' => QO P ann r s' N) op := nd rfl
theorem afterQ_val {d v t' h'} : afterQ (some d) h N (some (.val v t' h')) = N ⟨upd t' d v, h⟩ := nd rfl
theorem afterQ_valn {v t' h'} : afterQ none h N (some (.val v t' h')) = N ⟨t', h⟩ := nd rfl
theorem afterQ_none {d} : afterQ d h N none = False := nd rfl
theorem afterQ_if {d} {c : Prop} [Decidable c] {x : Option AR} : afterQ d h N (if c then x else none) = (c ∧ afterQ d h N x) := by
  by_cases hc : c <;> simp [hc, afterQ_none]
theorem afterQ_bind {α : Type} {d} {x : Option α} {f : α → Option AR} : afterQ d h N (x.bind f) = ∃ a, x = some a ∧ afterQ d h N (f a) := by
  cases x <;> simp [afterQ_none]
theorem Q1_movT {d x} : Q1 P ann (some d) ⟨t, h⟩ N (.mov true x) = ((x.ev t).dis = x.ev t ∧ N ⟨upd t d (x.ev t), h⟩) := nd rfl
theorem Q1_movF {d x} : Q1 P ann (some d) ⟨t, h⟩ N (.mov false x) = N ⟨upd t d (x.ev t).dis, h⟩ := by
  show (_ ∧ _) = _
  rw [aex_movF, afterQ_val]
  simp [AOp.soft, AOp.looks]
theorem Q1_call {d k f xs} : Q1 P ann d ⟨t, h⟩ N (.call k f xs) = ((∀ x ∈ xs, (x.ev t).dis = x.ev t) ∧ ∃ v, AWF P ann k f (xs.map (Opd.ev t)) h (fun v' h' => v' = v ∧ h' = h) ∧ contK N d t v h) := nd rfl
theorem Q1_pick {d c a b} : Q1 P ann d ⟨t, h⟩ N (.pick c a b) = afterQ d h N (aex P (.pick c a b) ⟨t, h⟩) := by show (_ ∧ _) = _; simp [AOp.soft, AOp.looks]
theorem Q1_bin {d op ty x y} : Q1 P ann d ⟨t, h⟩ N (.bin op ty x y) = afterQ d h N (aex P (.bin op ty x y) ⟨t, h⟩) := by show (_ ∧ _) = _; simp [AOp.soft, AOp.looks]
theorem Q1_un {d op x} : Q1 P ann d ⟨t, h⟩ N (.un op x) = afterQ d h N (aex P (.un op x) ⟨t, h⟩) := by show (_ ∧ _) = _; simp [AOp.soft, AOp.looks]
theorem Q1_isnil {d k ng x} : Q1 P ann d ⟨t, h⟩ N (.isnil k ng x) = afterQ d h N (aex P (.isnil k ng x) ⟨t, h⟩) := by show (_ ∧ _) = _; simp [AOp.soft, AOp.looks]
theorem Q1_conv {d a b x} : Q1 P ann d ⟨t, h⟩ N (.conv a b x) = afterQ d h N (aex P (.conv a b x) ⟨t, h⟩) := by show (_ ∧ _) = _; simp [AOp.soft, AOp.looks]
theorem Q1_b2s {d x} : Q1 P ann d ⟨t, h⟩ N (.b2s x) = afterQ d h N (aex P (.b2s x) ⟨t, h⟩) := by show (_ ∧ _) = _; simp [AOp.soft, AOp.looks]
theorem Q1_s2b {d x} : Q1 P ann d ⟨t, h⟩ N (.s2b false x) = afterQ d h N (aex P (.s2b false x) ⟨t, h⟩) := by show (_ ∧ _) = _; simp [AOp.soft, AOp.looks]
theorem Q1_fld {d a o s x} : Q1 P ann d ⟨t, h⟩ N (.fld a o s x) = afterQ d h N (aex P (.fld a o s x) ⟨t, h⟩) := by show (_ ∧ _) = _; simp [AOp.soft, AOp.looks]
theorem Q1_fad {d o x} : Q1 P ann d ⟨t, h⟩ N (.fad o x) = afterQ d h N (aex P (.fad o x) ⟨t, h⟩) := by show (_ ∧ _) = _; simp [AOp.soft, AOp.looks]
theorem Q1_iad {d s x i} : Q1 P ann d ⟨t, h⟩ N (.iad s x i) = afterQ d h N (aex P (.iad s x i) ⟨t, h⟩) := by show (_ ∧ _) = _; simp [AOp.soft, AOp.looks]
theorem Q1_iap {d n s x i} : Q1 P ann d ⟨t, h⟩ N (.iap n s x i) = afterQ d h N (aex P (.iap n s x i) ⟨t, h⟩) := by show (_ ∧ _) = _; simp [AOp.soft, AOp.looks]
theorem Q1_ixs {d x i} : Q1 P ann d ⟨t, h⟩ N (.ixs x i) = afterQ d h N (aex P (.ixs x i) ⟨t, h⟩) := by show (_ ∧ _) = _; simp [AOp.soft, AOp.looks]
theorem Q1_ixa {d n a s x i} : Q1 P ann d ⟨t, h⟩ N (.ixa n a s x i) = afterQ d h N (aex P (.ixa n a s x i) ⟨t, h⟩) := by show (_ ∧ _) = _; simp [AOp.soft, AOp.looks]
theorem Q1_slc {d s x lo hi mx} : Q1 P ann d ⟨t, h⟩ N (.slc s x lo hi mx) = afterQ d h N (aex P (.slc s x lo hi mx) ⟨t, h⟩) := by show (_ ∧ _) = _; simp [AOp.soft, AOp.looks]
theorem Q1_sls {d x lo hi} : Q1 P ann d ⟨t, h⟩ N (.sls x lo hi) = afterQ d h N (aex P (.sls x lo hi) ⟨t, h⟩) := by show (_ ∧ _) = _; simp [AOp.soft, AOp.looks]
theorem Q1_len {d k x} : Q1 P ann d ⟨t, h⟩ N (.len k x) = afterQ d h N (aex P (.len k x) ⟨t, h⟩) := by show (_ ∧ _) = _; simp [AOp.soft, AOp.looks]
theorem Q1_ld {d a s p} : Q1 P ann d ⟨t, h⟩ N (.ld false a s p) = afterQ d h N (aex P (.ld false a s p) ⟨t, h⟩) := by show (_ ∧ _) = _; simp [AOp.soft, AOp.looks]
theorem Q1_nck {d x} : Q1 P ann d ⟨t, h⟩ N (.nck x) = afterQ d h N (aex P (.nck x) ⟨t, h⟩) := by show (_ ∧ _) = _; simp [AOp.soft, AOp.looks]
theorem Q1_ext {d i x} : Q1 P ann d ⟨t, h⟩ N (.ext i x) = afterQ d h N (aex P (.ext i x) ⟨t, h⟩) := by show (_ ∧ _) = _; simp [AOp.soft, AOp.looks]
theorem Q1_lkp {d c k z m x} : Q1 P ann d ⟨t, h⟩ N (.lkp c k z m x) = afterQ d h N (aex P (.lkp c k z m x) ⟨t, h⟩) := by show (_ ∧ _) = _; simp [AOp.soft, AOp.looks]
theorem Q1_blt {d b tys ty xs} : Q1 P ann d ⟨t, h⟩ N (.blt b tys ty xs) = afterQ d h N (aex P (.blt b tys ty xs) ⟨t, h⟩) := by show (_ ∧ _) = _; simp [AOp.soft]
theorem Q1_bld {d z ps} : Q1 P ann d ⟨t, h⟩ N (.bld z ps) = afterQ d h N (aex P (.bld z ps) ⟨t, h⟩) := by show (_ ∧ _) = _; simp [AOp.soft]
theorem Q1_lit {d sz n z ps} : Q1 P ann d ⟨t, h⟩ N (.lit false sz n z ps) = afterQ d h N (aex P (.lit false sz n z ps) ⟨t, h⟩) := by show (_ ∧ _) = _; simp [AOp.soft]
end rules

end Go.Am
