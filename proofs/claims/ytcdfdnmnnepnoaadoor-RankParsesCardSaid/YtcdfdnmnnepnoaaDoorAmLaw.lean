/- From a law's row to the abstract machine: arguments read as plain data are values without addresses. -/
import Derived.Test.YtcdfdnmnnepnoaaDoorAmMaster
import Derived.Test.YtcdfdnmnnepnoaaDoorAmSound2
import Derived.ProofKit
import Derived.OpenShut
import Derived.Carry
import Derived.ChangeOld
import Derived.SizedLaws
set_option linter.unusedVariables false
set_option linter.unusedSimpArgs false
namespace Go.Am
open Go.ChangeShapes Go.WideShapes Go.ChangeAt Go.RowKit

def consec (P : Program) : Nat → List Field → Option Nat
  | k, [] => some k
  | k, f :: r => if f.offset = k then consec P (k + P.cellsOf f.type) r else none


def plainT (P : Program) (ts : List TypeId) (t : TypeId) : Bool :=
  match P.underlying t with
  | some .bool | some (.int _) | some .string => true
  | some (.slice e) => ts.contains e && decide (0 < P.cellsOf e)
  | some (.struct fs) => fs.toList.all (fun f => ts.contains f.type) && (consec P 0 fs.toList == some (P.cellsOf t))
  | some (.array n e) => ts.contains e && (P.cellsOf t == n * P.cellsOf e)
  | _ => false

def okFs (ok : TypeId → List AV → Prop) : List Field → List AV → Prop
  | [], cs => cs = []
  | f :: r, cs => ∃ a b, cs = a ++ b ∧ ok f.type a ∧ okFs ok r b

def okEs (ok : List AV → Prop) : Nat → List AV → Prop
  | 0, cs => cs = []
  | n + 1, cs => ∃ a b, cs = a ++ b ∧ ok a ∧ okEs ok n b


def OkAv (P : Program) (sl : TypeId → Nat → Prop) (st : Nat → Prop) : Nat → TypeId → List AV → Prop
  | 0, _, _ => False
  | n + 1, t, cs => match P.underlying t with
    | some .bool => ∃ b, cs = [.sc (.bool b)]
    | some (.int k) => ∃ x, cs = [.sc (.int k x)] ∧ (Lit.int k x).wf = true
    | some .string => ∃ s : ByteArray, cs = [.sc (.string s)] ∧ s.size ≤ maxLen ∧ st s.size
    | some (.slice e) => cs = [.nils] ∨ ∃ es, cs = [.bs false (P.cellsOf e) es none] ∧ es.length ≤ maxLen ∧ sl e es.length ∧ ∀ x ∈ es, OkAv P sl st n e x
    | some (.struct fs) => okFs (OkAv P sl st n) fs.toList cs
    | some (.array m e) => okEs (OkAv P sl st n e) m cs
    | _ => False

section
variable {H : Type} {enc : TypeId × Value → H} {P : Program} {w : World} {G : Gh}


structure Her (P : Program) (Good : TypeId → DataW H → Prop) (sl : TypeId → Nat → Prop) (st : Nat → Prop) : Prop where
  string : ∀ t l, P.underlying t = some .string → Good t (.lit (.string l)) → st l.length
  slice : ∀ t e el sp, P.underlying t = some (.slice e) → Good t (.slice el sp) → sl e el.length ∧ ∀ d ∈ el, Good e d
  struct : ∀ t fs parts, P.underlying t = some (.struct fs) → Good t (.agg parts) → ∀ (i : Nat) f d, fs[i]? = some f → parts[i]? = some d → Good f.type d
  array : ∀ t n e parts, P.underlying t = some (.array n e) → Good t (.agg parts) → ∀ d ∈ parts, Good e d

theorem add_add (a : Addr) (i j : Nat) : a.add (i + j) = (a.add i).add j := by
  unfold Addr.add
  by_cases hi : i = 0
  · subst hi; simp
  · by_cases hj : j = 0
    · subst hj; simp
    · simp [hi, hj, Nat.add_assoc]


structure CR (G : Gh) (cs : List AV) (vs : List Value) : Prop where
  len : cs.length = vs.length
  one : ∀ c ∈ cs, c.one = true
  val : ∀ (m : Nat) c, cs[m]? = some c → ∃ v, vs[m]? = some v ∧ VRel G c v

theorem CR.nil : CR G [] [] := ⟨rfl, by simp, by simp⟩
theorem CR.single {c : AV} {v : Value} (h1 : c.one = true) (h : VRel G c v) : CR G [c] [v] := ⟨rfl, by simpa using h1, fun m c' hm => by
  cases m with
  | zero => simp at hm; subst hm; exact ⟨v, rfl, h⟩
  | succ m => simp at hm⟩
theorem CR.append {cs ds : List AV} {vs us : List Value} (a : CR G cs vs) (b : CR G ds us) : CR G (cs ++ ds) (vs ++ us) := by
  refine ⟨by simp [a.len, b.len], fun c hc => (List.mem_append.1 hc).elim (a.one c) (b.one c), fun m c hm => ?_⟩
  rcases Nat.lt_or_ge m cs.length with h | h
  · rw [List.getElem?_append_left h] at hm
    obtain ⟨v, h1, h2⟩ := a.val m c hm
    exact ⟨v, by rw [List.getElem?_append_left (by rw [← a.len]; exact h)]; exact h1, h2⟩
  · rw [List.getElem?_append_right h] at hm
    obtain ⟨v, h1, h2⟩ := b.val _ c hm
    exact ⟨v, by rw [List.getElem?_append_right (by rw [← a.len]; exact h), ← a.len]; exact h1, h2⟩

theorem okFs_of {ok : TypeId → List AV → Prop} (cs : List Value) : ∀ (fs : List Field) (k : Nat), consec P k fs = some cs.length →
    (∀ f ∈ fs, ∃ a, ok f.type a ∧ CR G a ((cs.drop f.offset).take (P.cellsOf f.type))) → ∃ b, okFs ok fs b ∧ CR G b (cs.drop k)
  | [], k, hk, _ => by
    simp [consec] at hk
    exact ⟨[], rfl, by rw [List.drop_eq_nil_of_le (by omega)]; exact CR.nil⟩
  | f :: r, k, hk, hf => by
    simp only [consec] at hk
    split at hk
    · rename_i ho
      obtain ⟨a, h1, h2⟩ := hf f (by simp)
      obtain ⟨b, h3, h4⟩ := okFs_of cs r _ hk (fun g hg => hf g (by simp [hg]))
      refine ⟨a ++ b, ⟨a, b, rfl, h1, h3⟩, ?_⟩
      rw [ho] at h2
      have e : cs.drop k = (cs.drop k).take (P.cellsOf f.type) ++ cs.drop (k + P.cellsOf f.type) := by
        rw [← List.drop_drop, List.take_append_drop]
      rw [e]
      exact h2.append h4
    · cases hk

theorem okEs_of {ok : List AV → Prop} (c : Nat) : ∀ (n : Nat) (cs : List Value), cs.length = n * c → (∀ i, i < n → ∃ a, ok a ∧ CR G a ((cs.drop (i * c)).take c)) → ∃ b, okEs ok n b ∧ CR G b cs
  | 0, cs, hl, _ => by
    have : cs = [] := List.eq_nil_of_length_eq_zero (by omega)
    subst this
    exact ⟨[], rfl, CR.nil⟩
  | n + 1, cs, hl, h => by
    obtain ⟨a, h1, h2⟩ := h 0 (by omega)
    obtain ⟨b, h3, h4⟩ := okEs_of c n (cs.drop c) (by rw [List.length_drop, hl, Nat.add_mul]; omega) (fun i hi => by
      obtain ⟨a, q1, q2⟩ := h (i + 1) (by omega)
      refine ⟨a, q1, ?_⟩
      rw [List.drop_drop]
      have : c + i * c = (i + 1) * c := by rw [Nat.add_mul]; omega
      rw [this]
      exact q2)
    refine ⟨a ++ b, ⟨a, b, rfl, h1, h3⟩, ?_⟩
    rw [Nat.zero_mul, List.drop_zero] at h2
    have e : cs = cs.take c ++ cs.drop c := (List.take_append_drop c cs).symm
    rw [e]
    exact h2.append h4

theorem okAv_of (hG : ∀ b i, G.pub b i = w.cell? ⟨b, i, none⟩) {Good : TypeId → DataW H → Prop} {sl : TypeId → Nat → Prop} {st : Nat → Prop} (her : Her P Good sl st) {ts : List TypeId} (hts : ∀ t ∈ ts, plainT P ts t = true) :
    ∀ (n : Nat) (t : TypeId) (cs : List Value) (x : DataW H × List MemPlace), t ∈ ts → DataW.trod enc P w 0 (fun _ => true) true n t cs = some x → Good t x.1 → ∃ as, OkAv P sl st n t as ∧ CR G as cs := by
  intro n
  induction n with
  | zero => intro t cs x _ h; simp [DataW.trod] at h
  | succ n ih =>
    intro t cs x ht h hg
    have hp := hts t ht
    unfold plainT at hp
    split at hp
    · rename_i hu
      obtain ⟨b, rfl, rfl⟩ := DataW.trod_bool hu h
      exact ⟨_, by simp only [OkAv, hu]; exact ⟨b, rfl⟩, .single rfl (.sc rfl)⟩
    · rename_i k hu
      obtain ⟨b, rfl, rfl, hw⟩ := DataW.trod_int hu h
      exact ⟨_, by simp only [OkAv, hu]; exact ⟨b, rfl, hw⟩, .single rfl (.sc rfl)⟩
    · rename_i hu
      obtain ⟨s, rfl, rfl, hm⟩ := DataW.trod_string hu h
      have := her.string _ _ hu hg
      exact ⟨_, by simp only [OkAv, hu]; exact ⟨s, rfl, hm, by simpa using this⟩, .single rfl (.sc rfl)⟩
    · rename_i e hu
      simp only [Bool.and_eq_true, List.contains_iff_mem, decide_eq_true_eq] at hp
      obtain ⟨he, hpos⟩ := hp
      rcases DataW.trod_slice hu h with ⟨rfl, rfl⟩ | ⟨a, len, cap, elems, rest, m, hm, rfl, rfl, _, hl, hcap, hlen, hel, hsp, _⟩
      · exact ⟨_, by simp only [OkAv, hu]; exact .inl rfl, .single rfl (.sc rfl)⟩
      · obtain rfl : m = n := by omega
        obtain ⟨hgl, hgd⟩ := her.slice _ _ _ _ hu hg
        simp only [List.length_map] at hgl
        have each : ∀ i, i < len → ∃ as, OkAv P sl st m e as ∧ as.length = P.cellsOf e ∧ (∀ c ∈ as, c.one = true) ∧ ∀ (j : Nat) c, as[j]? = some c → ∃ v, w.cell? (a.add (i * P.cellsOf e + j)) = some v ∧ VRel G c v := by
          intro i hi
          have h1 := hel i hi
          rw [List.getElem?_eq_getElem (by omega), Option.bind_eq_some_iff] at h1
          obtain ⟨cs', hc, hd⟩ := h1
          obtain ⟨_, hcl, hcc⟩ := World.cells?_some hc
          obtain ⟨as, q1, q2⟩ := ih e cs' _ he hd (hgd _ (by simp only [List.mem_map]; exact ⟨_, List.getElem_mem _, rfl⟩))
          refine ⟨as, q1, by rw [q2.len, hcl], q2.one, fun j c hj => ?_⟩
          obtain ⟨v, r1, r2⟩ := q2.val j c hj
          refine ⟨v, ?_, r2⟩
          have hjl : j < P.cellsOf e := by
            rw [← hcl]
            exact (List.getElem?_eq_some_iff.1 r1).1
          have := hcc j hjl
          rw [r1] at this
          rw [← this, add_add]
        obtain ⟨es, hes1, hes2⟩ : ∃ es : List (List AV), es.length = len ∧ ∀ (i : Nat) x, es[i]? = some x → OkAv P sl st m e x ∧ x.length = P.cellsOf e ∧ (∀ c ∈ x, c.one = true) ∧ ∀ (j : Nat) c, x[j]? = some c → ∃ v, w.cell? (a.add (i * P.cellsOf e + j)) = some v ∧ VRel G c v := by
          have : ∀ k, k ≤ len → ∃ es : List (List AV), es.length = k ∧ ∀ (i : Nat) x, es[i]? = some x → OkAv P sl st m e x ∧ x.length = P.cellsOf e ∧ (∀ c ∈ x, c.one = true) ∧ ∀ (j : Nat) c, x[j]? = some c → ∃ v, w.cell? (a.add (i * P.cellsOf e + j)) = some v ∧ VRel G c v := by
            intro k
            induction k with
            | zero => intro _; exact ⟨[], rfl, by simp⟩
            | succ k ihk =>
              intro hk
              obtain ⟨es, h1, h2⟩ := ihk (by omega)
              obtain ⟨as, h3⟩ := each k (by omega)
              refine ⟨es ++ [as], by simp [h1], fun i x hx => ?_⟩
              rcases Nat.lt_or_ge i k with h | h
              · rw [List.getElem?_append_left (by omega)] at hx
                exact h2 i x hx
              · rw [List.getElem?_append_right (by omega)] at hx
                cases hi : i - es.length with
                | zero =>
                  rw [hi] at hx
                  simp at hx
                  subst hx
                  have : i = k := by omega
                  subst this
                  exact h3
                | succ q => rw [hi] at hx; simp at hx
          exact this len (Nat.le_refl _)
        refine ⟨[.bs false (P.cellsOf e) es none], ?_, .single rfl ?_⟩
        · simp only [OkAv, hu]
          refine .inr ⟨es, rfl, by omega, by rw [hes1, ← hlen]; exact hgl, fun x hx => ?_⟩
          obtain ⟨i, hi⟩ := List.getElem?_of_mem hx
          exact (hes2 i x hi).1
        · obtain ⟨b, o, sp⟩ := a
          have hlens : ∀ x ∈ es, x.length = P.cellsOf e := fun x hx => by
            obtain ⟨i, hi⟩ := List.getElem?_of_mem hx
            exact (hes2 i x hi).2.1

          have hspot : sp = none ∨ (len = 0 ∧ cap = 0) := by
            rcases Nat.eq_zero_or_pos cap with hc0 | hc0
            · exact .inr ⟨by omega, hc0⟩
            · left
              have one : ∃ v, w.cell? (⟨b, o, sp⟩ : Addr) = some v := by
                rcases Nat.eq_zero_or_pos len with hl0 | hl0
                · obtain ⟨r1, r2⟩ := hsp rfl
                  have h1 := r2 0 (by omega)
                  rw [List.getElem?_eq_getElem (by omega), Option.bind_eq_some_iff] at h1
                  obtain ⟨cs', hc, hd⟩ := h1
                  obtain ⟨_, hcl, hcc⟩ := World.cells?_some hc
                  have := hcc 0 hpos
                  rw [List.getElem?_eq_getElem (by omega)] at this
                  refine ⟨cs'[0]'(by omega), ?_⟩
                  rw [← this, hl0, Nat.add_zero, Nat.zero_mul]
                  rfl
                · have h1 := hel 0 hl0
                  rw [List.getElem?_eq_getElem (by omega), Option.bind_eq_some_iff] at h1
                  obtain ⟨cs', hc, hd⟩ := h1
                  obtain ⟨_, hcl, hcc⟩ := World.cells?_some hc
                  have := hcc 0 hpos
                  rw [List.getElem?_eq_getElem (by omega)] at this
                  refine ⟨cs'[0]'(by omega), ?_⟩
                  rw [← this, Nat.zero_mul]
                  rfl
              obtain ⟨v, hv⟩ := one
              exact World.cell?_spot hv
          rcases hspot with rfl | ⟨rfl, rfl⟩
          · have hfl : ∀ (m' : Nat) c, es.flatten[m']? = some c → ∃ v, w.cell? ⟨b, o + m', none⟩ = some v ∧ VRel G c v := by
              intro m' c hm'
              have hlf := flatten_len es hlens
              have hlt : m' < es.length * P.cellsOf e := by
                rw [← hlf]
                exact (List.getElem?_eq_some_iff.1 hm').1
              have hq : m' / P.cellsOf e < es.length := Nat.div_lt_of_lt_mul (by rw [Nat.mul_comm]; exact hlt)
              have hr : m' % P.cellsOf e < P.cellsOf e := Nat.mod_lt _ hpos
              obtain ⟨_, p2, _, p4⟩ := hes2 (m' / P.cellsOf e) _ (List.getElem?_eq_getElem hq)
              obtain ⟨v, r1, r2⟩ := p4 (m' % P.cellsOf e) _ (List.getElem?_eq_getElem (by omega))
              have hg := flatten_get es _ (m' % P.cellsOf e) _ _ hlens (List.getElem?_eq_getElem hq) (List.getElem?_eq_getElem (by omega))
              have e1 : m' / P.cellsOf e * P.cellsOf e + m' % P.cellsOf e = m' := by rw [Nat.mul_comm]; exact Nat.div_add_mod _ _
              rw [e1] at hg r1
              rw [hg] at hm'
              cases hm'
              exact ⟨v, by rw [add_at] at r1; exact r1, r2⟩
            have := VRel.bs (G := G) (own := false) (sz := P.cellsOf e) (es := es) (lim := none) (b := b) (o := o) (cap := cap) (fun m' => (w.cell? ⟨b, o + m', none⟩).getD Go.undef) hlens
              (fun c hc => by
                obtain ⟨x, hx, hcx⟩ := List.mem_flatten.1 hc
                obtain ⟨i, hi⟩ := List.getElem?_of_mem hx
                exact (hes2 i x hi).2.2.1 c hcx)
              (fun m' c hm' => by obtain ⟨v, r1, r2⟩ := hfl m' c hm'; rw [hG, r1]; rfl)
              (fun m' c hm' => by obtain ⟨v, r1, r2⟩ := hfl m' c hm'; rw [r1]; exact r2)
              (by omega) (by simp)
            rw [hes1] at this
            exact this
          · have : es = [] := List.eq_nil_of_length_eq_zero hes1
            subst this
            exact .bz (by simp)
    · rename_i fs hu
      simp only [Bool.and_eq_true, List.all_eq_true, List.contains_iff_mem, beq_iff_eq] at hp
      obtain ⟨hfs, hco⟩ := hp
      obtain ⟨xs, m, hm, rfl, hl, hxl, hf⟩ := DataW.trod_struct hu h
      obtain rfl : m = n := by omega
      obtain ⟨b, h1, h2⟩ := okFs_of (P := P) (G := G) (ok := OkAv P sl st m) cs fs.toList 0 (by rw [hco, hl]) (fun f hf' => by
        obtain ⟨i, hi⟩ := List.getElem?_of_mem hf'
        have hi' : fs[i]? = some f := by simpa using hi
        have hif : i < fs.size := (Array.getElem?_eq_some_iff.1 hi').1
        have h3 := hf i f hi'
        rw [List.getElem?_eq_getElem (by omega)] at h3
        exact ih _ _ _ (hfs f hf') h3 (her.struct _ _ _ hu hg i f _ hi' (by simp [hxl, hif])))
      exact ⟨b, by simp only [OkAv, hu]; exact h1, by simpa using h2⟩
    · rename_i k e hu
      simp only [Bool.and_eq_true, List.contains_iff_mem, beq_iff_eq] at hp
      obtain ⟨he, hco⟩ := hp
      obtain ⟨xs, m, hm, rfl, hl, hxl, hf⟩ := DataW.trod_array hu h
      obtain rfl : m = n := by omega
      obtain ⟨b, h1, h2⟩ := okEs_of (G := G) (ok := OkAv P sl st m e) (P.cellsOf e) k cs (by rw [hl, hco]) (fun i hi => by
        have h3 := hf i hi
        rw [List.getElem?_eq_getElem (by omega)] at h3
        exact ih _ _ _ he h3 (her.array _ _ _ _ hu hg _ (by simp only [List.mem_map]; exact ⟨_, List.getElem_mem _, rfl⟩)))
      exact ⟨b, by simp only [OkAv, hu]; exact h1, h2⟩
    · cases hp

def OkArg (P : Program) (sl : TypeId → Nat → Prop) (st : Nat → Prop) (t : TypeId) (a : AV) : Prop :=
  match P.underlying t with
  | some (.struct _) | some (.array _ _) => ∃ n cs, a = .ag cs ∧ OkAv P sl st n t cs
  | _ => ∃ n, OkAv P sl st n t [a]

def okArgs (P : Program) (sl : TypeId → Nat → Prop) (st : Nat → Prop) : List TypeId → List AV → Prop
  | [], [] => True
  | t :: ts, a :: as => OkArg P sl st t a ∧ okArgs P sl st ts as
  | _, _ => False

theorem okArg_of (hG : ∀ b i, G.pub b i = w.cell? ⟨b, i, none⟩) {Good : TypeId → DataW H → Prop} {sl : TypeId → Nat → Prop} {st : Nat → Prop} (her : Her P Good sl st) {ts : List TypeId} (hts : ∀ t ∈ ts, plainT P ts t = true)
    {t : TypeId} {v : Value} {d : DataW H} {ps : List MemPlace} {base : Nat} (ht : t ∈ ts) (hval : Value.okWide P w .any base t v) (h : DataW.Trod enc P w 0 (fun _ => true) true t v d ps) (hg : Good t d) :
    ∃ a, OkArg P sl st t a ∧ VRel G a v ∧ a.isOwn = false := by
  obtain ⟨n, hn⟩ := h
  obtain ⟨as, h1, h2⟩ := okAv_of hG her hts n t _ _ ht hn hg
  have hp := hts t ht
  unfold plainT at hp
  have single : v.cells = #[v] → ∃ a, as = [a] ∧ VRel G a v := by
    intro hc
    rw [hc] at h2
    have hl := h2.len
    match as, hl with
    | [a], _ =>
      obtain ⟨u, q1, q2⟩ := h2.val 0 a rfl
      simp at q1
      subst q1
      exact ⟨a, rfl, q2⟩
  cases n with
  | zero => simp [OkAv] at h1
  | succ n =>
  split at hp
  · rename_i hu
    obtain ⟨b, rfl⟩ := okWide_bool hu hval
    obtain ⟨a, rfl, hr⟩ := single rfl
    refine ⟨a, by simp only [OkArg, hu]; exact ⟨_, h1⟩, hr, ?_⟩
    simp only [OkAv, hu] at h1
    obtain ⟨x, hx⟩ := h1
    simp at hx; subst hx; rfl
  · rename_i k hu
    obtain ⟨b, rfl⟩ := okWide_int hu hval
    obtain ⟨a, rfl, hr⟩ := single rfl
    refine ⟨a, by simp only [OkArg, hu]; exact ⟨_, h1⟩, hr, ?_⟩
    simp only [OkAv, hu] at h1
    obtain ⟨x, hx, _⟩ := h1
    simp at hx; subst hx; rfl
  · rename_i hu
    obtain ⟨b, rfl⟩ := okWide_string hu hval
    obtain ⟨a, rfl, hr⟩ := single rfl
    refine ⟨a, by simp only [OkArg, hu]; exact ⟨_, h1⟩, hr, ?_⟩
    simp only [OkAv, hu] at h1
    obtain ⟨x, hx, _⟩ := h1
    simp at hx; subst hx; rfl
  · rename_i e hu
    obtain ⟨a, l, c, rfl⟩ := okWide_slice hu hval
    obtain ⟨a, rfl, hr⟩ := single rfl
    refine ⟨a, by simp only [OkArg, hu]; exact ⟨_, h1⟩, hr, ?_⟩
    simp only [OkAv, hu] at h1
    rcases h1 with hx | ⟨es, hx, _⟩ <;> simp at hx <;> subst hx <;> rfl
  · rename_i fs hu
    simp only [Value.okWide, hu] at hval
    obtain ⟨cs, rfl, _⟩ := hval
    refine ⟨.ag as, by simp only [OkArg, hu]; exact ⟨_, _, rfl, h1⟩, .ag h2.one (by simpa [Value.cells] using h2.len.symm) (fun m c hm => ?_), rfl⟩
    obtain ⟨u, q1, q2⟩ := h2.val m c hm
    have : cs[m]? = some u := by simpa [Value.cells] using q1
    simpa [Array.getD_eq_getD_getElem?, this] using q2
  · rename_i k e hu
    simp only [Value.okWide, hu] at hval
    obtain ⟨cs, rfl, _⟩ := hval
    refine ⟨.ag as, by simp only [OkArg, hu]; exact ⟨_, _, rfl, h1⟩, .ag h2.one (by simpa [Value.cells] using h2.len.symm) (fun m c hm => ?_), rfl⟩
    obtain ⟨u, q1, q2⟩ := h2.val m c hm
    have : cs[m]? = some u := by simpa [Value.cells] using q1
    simpa [Array.getD_eq_getD_getElem?, this] using q2
  · cases hp

theorem okArgs_of (hG : ∀ b i, G.pub b i = w.cell? ⟨b, i, none⟩) {Good : TypeId → DataW H → Prop} {sl : TypeId → Nat → Prop} {st : Nat → Prop} (her : Her P Good sl st) {ts : List TypeId} (hts : ∀ t ∈ ts, plainT P ts t = true) {base : Nat} :
    ∀ (ps : List TypeId) (vs : List Value) (ds : List (DataW H)) (pl : List MemPlace), (∀ t ∈ ps, t ∈ ts) → (∀ (j : Nat) t v, ps[j]? = some t → vs[j]? = some v → Value.okWide P w .any base t v) →
      DataW.TrodAll enc P w 0 (fun _ => true) true ps vs ds pl → (∀ (j : Nat) t d, ps[j]? = some t → ds[j]? = some d → Good t d) →
      ∃ as, okArgs P sl st ps as ∧ as.length = vs.length ∧ ds.length = vs.length ∧ vs.length = ps.length ∧ ∀ (j : Nat) a, as[j]? = some a → a.isOwn = false ∧ ∃ v, vs[j]? = some v ∧ VRel G a v
  | [], vs, ds, pl, _, _, hA, _ => by
    obtain ⟨rfl, rfl, rfl⟩ := trodAll_nil hA
    exact ⟨[], trivial, rfl, rfl, rfl, by simp⟩
  | t :: ps, vs, ds, pl, hts', hval, hA, hg => by
    obtain ⟨v, vs', d, ds', p, q, rfl, rfl, rfl, h1, h2⟩ := trodAll_cons hA
    obtain ⟨a, q1, q2, q3⟩ := okArg_of (G := G) hG her hts (hts' t (by simp)) (hval 0 t v rfl rfl) h1 (hg 0 t d rfl rfl)
    obtain ⟨as, r1, r2, r3, r4, r5⟩ := okArgs_of hG her hts ps vs' ds' q (fun t ht => hts' t (by simp [ht])) (fun j t v hj hv => hval (j + 1) t v (by simpa using hj) (by simpa using hv)) h2 (fun j t d hj hd => hg (j + 1) t d (by simpa using hj) (by simpa using hd))
    refine ⟨a :: as, ⟨q1, r1⟩, by simp [r2], by simp [r3], by simp [r4], fun j a' hj => ?_⟩
    cases j with
    | zero => simp at hj; subst hj; exact ⟨q3, v, rfl, q2⟩
    | succ j => simpa using r5 j a' (by simpa using hj)

theorem trodAll_stays (laid : laidOutB P = true) {W' : World} (hb : Below w.heap.size w W') : ∀ (ps : List TypeId) (vs : List Value) (ds : List (DataW H)) (pl : List MemPlace), (∀ t ∈ ps, P.readableRec t = true ∧ t < P.types.size) →
    (∀ x ∈ pl, x.block < w.heap.size) → DataW.TrodAll enc P w 0 (fun _ => true) true ps vs ds pl → DataW.TrodAll enc P W' 0 (fun b => decide (b < w.heap.size)) true ps vs ds pl
  | [], vs, ds, pl, _, _, hA => by
    obtain ⟨rfl, rfl, rfl⟩ := trodAll_nil hA
    exact trodAll_mk0
  | t :: ps, vs, ds, pl, hr, hlt, hA => by
    obtain ⟨v, vs', d, ds', p, q, rfl, rfl, rfl, h1, h2⟩ := trodAll_cons hA
    exact ⟨p, q, Below.trod laid (hr t (by simp)).1 (hr t (by simp)).2 h1 hb (fun x hx => hlt x (List.mem_append_left _ hx)), trodAll_stays laid hb ps vs' ds' q (fun t ht => hr t (by simp [ht])) (fun x hx => hlt x (List.mem_append_right _ hx)) h2, rfl⟩


theorem law_calls (hmix : P.follows .mixedOrders = true) (laid : laidOutB P = true) {N : Nat} {f : Func} {s : ChangeSpec} {tb : TypeId} (hv : s.vars = []) (hrt : f.resultTypes = #[tb]) (htb : P.underlying tb = some .bool)
    (hsfn : ∀ ds : List (DataW H), ds.length = f.params.size → s.fn H ds = { results := [.lit (.bool true)], args := ds })
    (hread : ∀ t ∈ f.params.toList, P.readableRec t = true ∧ t < P.types.size) {ts : List TypeId} (hts : ∀ t ∈ ts, plainT P ts t = true) (hpts : ∀ t ∈ f.params.toList, t ∈ ts)
    {Good : TypeId → DataW H → Prop} {sl : TypeId → Nat → Prop} {st : Nat → Prop} (her : Her P Good sl st) {ann : Ann} {k : Nat}
    (HH : ∀ avs, okArgs P sl st f.params.toList avs → AWF P ann k N avs (fun _ => none) fun v _ => v = .sc (.bool true))
    {W : World} {base : Nat} {args : Array Value} {ds gs : List (DataW H)} {before : List MemPlace}
    (hval : ∀ (j : Nat) t v, f.params[j]? = some t → args[j]? = some v → Value.okWide P W .any base t v)
    (hW : DataW.Whole enc P f.params.toList s.vars false W args.toList ds gs before) (hgood : ∀ (j : Nat) t d, f.params.toList[j]? = some t → ds[j]? = some d → Good t d) (hbody : ∃ fn, P.funcs[N]? = some fn ∧ fn.body.isSome = true) :
    Calls P N args W fun e W' => ∃ v, e = .returned v ∧ s.post enc P f false true false false W args v W' := by
  have hW' := hW
  have hlt := hW.lt
  obtain ⟨p, q, hA, hV, rfl, hfz, hnd⟩ := hW
  rw [hv] at hV
  obtain ⟨rfl, rfl⟩ := trodVars_none hV
  let G : Gh := ⟨fun b i => W.cell? ⟨b, i, none⟩, fun _ => none⟩
  obtain ⟨as, r1, r2, r3, r4, r5⟩ := okArgs_of (G := G) (fun _ _ => rfl) her hts f.params.toList args.toList ds p hpts (fun j t v hj hv => hval j t v (by simpa using hj) (by simpa using hv)) hA hgood
  obtain ⟨fn0, hfn0, hfb0⟩ := hbody
  have hsnd := ((sound (ops_sound P) hmix (HH as r1)).resolve_right fun h6 => by rw [h6.1 fn0 hfn0] at hfb0; cases hfb0).2 G W args
  have har : ARel G W as args := by
    refine ⟨by simpa using r2.symm, fun i => ?_, fun i => ?_⟩
    · cases hi : as[i]? with
      | none =>
        have h1 : as.length ≤ i := List.getElem?_eq_none_iff.1 hi
        have h2 : args.size ≤ i := by simp at r2; omega
        rw [List.getD_eq_getElem?_getD, hi, Array.getD_eq_getD_getElem?, Array.getElem?_eq_none h2]
        exact undef_rel G
      | some a =>
        obtain ⟨_, v, h1, h2⟩ := r5 i a hi
        have h1' : args[i]? = some v := by simpa using h1
        rw [List.getD_eq_getElem?_getD, hi, Array.getD_eq_getD_getElem?, h1']
        exact h2
    · cases hi : as[i]? with
      | none => rw [List.getD_eq_getElem?_getD, hi]; exact .of_not rfl
      | some a => rw [List.getD_eq_getElem?_getD, hi]; exact .of_not (r5 i a hi).1
  have hinv : Inv G (fun _ => none) W := ⟨fun b i v h => h, fun o cs h => (by cases h), fun o es h => (by cases h), fun b l h => (by cases h)⟩
  refine (hsnd har hinv).mono fun e W' hpost => ?_
  obtain ⟨v, cv, h', G', rfl, hvt, hvr, _, _, hk⟩ := hpost
  subst hvt
  have hcv := hvr.sc_inv.1
  subst hcv
  have bel : Below W.heap.size W W' := ⟨hk.os, hk.tape, hk.output, hk.size, fun b hb => (hk.keep b hb rfl rfl).1⟩
  have hds : (ds ++ ([] : List (DataW H))).length = f.params.size := by
    simp at r3 r4 ⊢
    omega
  have hfn := hsfn _ hds
  refine ⟨_, rfl, ds, [], _, [], p, [], hW', ?_, ?_, ?_, bel.frame _, fun h => by cases h⟩
  · rw [hfn, hrt]
    exact trodAll_mk1 (shut_bool htb _)
  · rw [hfn]
    simpa using trodAll_stays laid bel f.params.toList args.toList ds p hread (fun x hx => hlt x (by simp [hx])) hA
  · rw [hfn, hv]
    rfl


theorem her_weights : Her (H := H) P (fun t d => (d.weights P t).all (· ≤ reachBytes) = true) (fun e n => n * P.bytesOf e ≤ reachBytes) (fun n => n ≤ reachBytes) where
  string := fun t l hu h => by simpa [DataW.weights] using h
  slice := fun t e el sp hu h => by
    simp only [DataW.weights, hu, List.all_cons, List.all_append, Bool.and_eq_true, decide_eq_true_eq] at h
    obtain ⟨h1, h2, _⟩ := h
    refine ⟨Nat.le_trans (Nat.mul_le_mul_right _ (by omega)) h1, ?_⟩
    clear h1
    induction el with
    | nil => simp
    | cons a r ih =>
      simp only [DataW.weightsAll, List.all_append, Bool.and_eq_true] at h2
      intro d hd
      rcases List.mem_cons.1 hd with rfl | hd
      · exact h2.1
      · exact ih h2.2 d hd
  struct := fun t fs parts hu h => by
    simp only [DataW.weights, hu] at h
    have key : ∀ (l : List Field) (parts : List (DataW H)), (DataW.weightsEach P (l.map (·.type)) parts).all (· ≤ reachBytes) = true → ∀ (i : Nat) f d, l[i]? = some f → parts[i]? = some d → (d.weights P f.type).all (· ≤ reachBytes) = true := by
      intro l
      induction l with
      | nil => intro parts _ i f d hi; simp at hi
      | cons a r ih =>
        intro parts h i f d hi hd
        cases parts with
        | nil => simp at hd
        | cons x xs =>
          simp only [List.map_cons, DataW.weightsEach, List.all_append, Bool.and_eq_true] at h
          cases i with
          | zero => simp at hi hd; subst hi; subst hd; exact h.1
          | succ i => exact ih xs h.2 i f d (by simpa using hi) (by simpa using hd)
    intro i f d hi hd
    exact key fs.toList parts h i f d (by simpa using hi) hd
  array := fun t n e parts hu h => by
    simp only [DataW.weights, hu] at h
    induction parts with
    | nil => simp
    | cons a r ih =>
      simp only [DataW.weightsAll, List.all_append, Bool.and_eq_true] at h
      intro d hd
      rcases List.mem_cons.1 hd with rfl | hd
      · exact h.1
      · exact ih h.2 d hd

theorem weights_each : ∀ (ts : List TypeId) (ds : List (DataW H)), (DataW.weightsEach P ts ds).all (· ≤ reachBytes) = true → ∀ (j : Nat) t d, ts[j]? = some t → ds[j]? = some d → (d.weights P t).all (· ≤ reachBytes) = true
  | [], ds, _, j, t, d, hj, _ => by simp at hj
  | t :: ts, [], _, j, _, d, _, hd => by simp at hd
  | t :: ts, x :: ds, h, j, t', d, hj, hd => by
    simp only [DataW.weightsEach, List.all_append, Bool.and_eq_true] at h
    cases j with
    | zero => simp at hj hd; subst hj; subst hd; exact h.1
    | succ j => exact weights_each ts ds h.2 j t' d (by simpa using hj) (by simpa using hd)

end
end Go.Am
