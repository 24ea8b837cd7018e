/- Arguments that came in, as typed data. -/
import Derived.Test.YtcdfdnmnnepnoaaDoorAmLaw
import Derived.Test.YtcdfdnmnnepnoaaDoorAmSl
set_option linter.unusedVariables false
set_option linter.unusedSimpArgs false
namespace Go.Am
variable {P : Program} {sl : TypeId → Nat → Prop} {st : Nat → Prop}

theorem okav_int {n : Nat} {t : TypeId} {k : IntKind} {cs : List AV} (ht : P.underlying t = some (.int k)) (h : OkAv P sl st n t cs) : ∃ x, cs = [.sc (.int k x)] ∧ k.min ≤ x ∧ x ≤ k.max := by
  cases n with
  | zero => exact h.elim
  | succ n =>
    simp only [OkAv, ht] at h
    obtain ⟨x, rfl, hw⟩ := h
    simp only [Lit.wf, Bool.and_eq_true, decide_eq_true_eq] at hw
    exact ⟨x, rfl, hw⟩
theorem okav_bool {n : Nat} {t : TypeId} {cs : List AV} (ht : P.underlying t = some .bool) (h : OkAv P sl st n t cs) : ∃ b, cs = [.sc (.bool b)] := by
  cases n with
  | zero => exact h.elim
  | succ n => simpa only [OkAv, ht] using h
theorem okav_string {n : Nat} {t : TypeId} {cs : List AV} (ht : P.underlying t = some .string) (h : OkAv P sl st n t cs) : ∃ s : ByteArray, cs = [.sc (.string s)] ∧ s.size ≤ maxLen ∧ st s.size := by
  cases n with
  | zero => exact h.elim
  | succ n => simpa only [OkAv, ht] using h
theorem okav_struct {n : Nat} {t : TypeId} {fs : Array Field} {cs : List AV} (ht : P.underlying t = some (.struct fs)) (h : OkAv P sl st n t cs) : ∃ m, m < n ∧ okFs (OkAv P sl st m) fs.toList cs := by
  cases n with
  | zero => exact h.elim
  | succ n => exact ⟨n, by omega, by simpa only [OkAv, ht] using h⟩
theorem okav_array {n m : Nat} {t e : TypeId} {cs : List AV} (ht : P.underlying t = some (.array m e)) (h : OkAv P sl st n t cs) : ∃ k, k < n ∧ okEs (OkAv P sl st k e) m cs := by
  cases n with
  | zero => exact h.elim
  | succ n => exact ⟨n, by omega, by simpa only [OkAv, ht] using h⟩

theorem okav_slice {α : Type} {R : List AV → α → Prop} {n : Nat} {t e : TypeId} {sz : Nat} {cs : List AV} (ht : P.underlying t = some (.slice e)) (hsz : P.cellsOf e = sz) (hR : ∀ m x, m < n → OkAv P sl st m e x → ∃ y, R x y)
    (h : OkAv P sl st n t cs) : ∃ w es xs, cs = [w] ∧ SF sz w es ∧ RR R es xs ∧ xs.length ≤ maxLen ∧ (xs ≠ [] → sl e xs.length) := by
  cases n with
  | zero => exact h.elim
  | succ n =>
    simp only [OkAv, ht, hsz] at h
    rcases h with rfl | ⟨es, rfl, hm, hl, hx⟩
    · exact ⟨_, [], [], rfl, SF.nil, RR.nil, by simp, fun h => absurd rfl h⟩
    · obtain ⟨xs, hxs⟩ := RR.of (R := R) (es := es) (fun e he => hR n e (by omega) (hx e he))
      exact ⟨_, es, xs, rfl, SF.bs, hxs, by rw [← hxs.len]; exact hm, fun _ => by rw [← hxs.len]; exact hl⟩
def u8R (x : List AV) (b : UInt8) : Prop := x = [.sc (.int .u8 (b.toNat : Int))]
theorem okav_u8 {n : Nat} {t : TypeId} {cs : List AV} (ht : P.underlying t = some (.int .u8)) (h : OkAv P sl st n t cs) : ∃ b, u8R cs b := by
  obtain ⟨x, rfl, h1, h2⟩ := okav_int ht h
  simp [IntKind.min, IntKind.max, IntKind.signed, IntKind.bits] at h1 h2
  refine ⟨UInt8.ofNat x.toNat, ?_⟩
  unfold u8R
  congr 3
  simp
  omega
theorem RR.u8 : ∀ {es : List (List AV)} {l : List UInt8}, RR u8R es l → es = u8s l
  | [], [], _ => rfl
  | e :: es, b :: l, h => by
    have h1 : e = _ := h.1
    rw [h1, RR.u8 h.2]
    rfl
  | [], _ :: _, h => h.elim
  | _ :: _, [], h => h.elim

theorem okav_bytes {n : Nat} {t e : TypeId} {cs : List AV} (ht : P.underlying t = some (.slice e)) (he : P.underlying e = some (.int .u8)) (hsz : P.cellsOf e = 1) (h : OkAv P sl st n t cs) :
    ∃ l, bytesR cs l ∧ l.length ≤ maxLen ∧ (l ≠ [] → sl e l.length) := by
  obtain ⟨w, es, l, rfl, h1, h2, h3, h4⟩ := okav_slice (R := u8R) ht hsz (fun m x _ hx => okav_u8 he hx) h
  have := h2.u8
  subst this
  exact ⟨l, ⟨w, rfl, h1⟩, h3, h4⟩

theorem okarg_one {t : TypeId} {a : AV} (h : OkArg P sl st t a) (h1 : ∀ fs, P.underlying t ≠ some (.struct fs)) (h2 : ∀ m e, P.underlying t ≠ some (.array m e)) : ∃ n, OkAv P sl st n t [a] := by
  unfold OkArg at h
  split at h
  · rename_i fs hu; exact absurd hu (h1 fs)
  · rename_i m e hu; exact absurd hu (h2 m e)
  · exact h
theorem okarg_slice {α : Type} {R : List AV → α → Prop} {t e : TypeId} {sz : Nat} {a : AV} (ht : P.underlying t = some (.slice e)) (hsz : P.cellsOf e = sz) (hR : ∀ m x, OkAv P sl st m e x → ∃ y, R x y)
    (h : OkArg P sl st t a) : ∃ es xs, SF sz a es ∧ RR R es xs ∧ xs.length ≤ maxLen ∧ (xs ≠ [] → sl e xs.length) := by
  obtain ⟨n, hn⟩ := okarg_one h (by simp [ht]) (by simp [ht])
  obtain ⟨w, es, xs, h1, h2⟩ := okav_slice (R := R) ht hsz (fun m x _ hx => hR m x hx) hn
  cases h1
  exact ⟨es, xs, h2⟩
theorem okarg_bytes {t e : TypeId} {a : AV} (ht : P.underlying t = some (.slice e)) (he : P.underlying e = some (.int .u8)) (hsz : P.cellsOf e = 1) (h : OkArg P sl st t a) :
    ∃ l, SF 1 a (u8s l) ∧ l.length ≤ maxLen ∧ (l ≠ [] → sl e l.length) := by
  obtain ⟨n, hn⟩ := okarg_one h (by simp [ht]) (by simp [ht])
  obtain ⟨l, ⟨w, h1, h2⟩, h3⟩ := okav_bytes ht he hsz hn
  cases h1
  exact ⟨l, h2, h3⟩
theorem okarg_int {t : TypeId} {k : IntKind} {a : AV} (ht : P.underlying t = some (.int k)) (h : OkArg P sl st t a) : ∃ x, a = .sc (.int k x) ∧ k.min ≤ x ∧ x ≤ k.max := by
  obtain ⟨n, hn⟩ := okarg_one h (by simp [ht]) (by simp [ht])
  obtain ⟨x, h1, h2⟩ := okav_int ht hn
  cases h1
  exact ⟨x, rfl, h2⟩
theorem okarg_bool {t : TypeId} {a : AV} (ht : P.underlying t = some .bool) (h : OkArg P sl st t a) : ∃ b, a = .sc (.bool b) := by
  obtain ⟨n, hn⟩ := okarg_one h (by simp [ht]) (by simp [ht])
  obtain ⟨x, h1⟩ := okav_bool ht hn
  cases h1
  exact ⟨x, rfl⟩
theorem okarg_string {t : TypeId} {a : AV} (ht : P.underlying t = some .string) (h : OkArg P sl st t a) : ∃ s : ByteArray, a = .sc (.string s) ∧ s.size ≤ maxLen ∧ st s.size := by
  obtain ⟨n, hn⟩ := okarg_one h (by simp [ht]) (by simp [ht])
  obtain ⟨x, h1, h2⟩ := okav_string ht hn
  cases h1
  exact ⟨x, rfl, h2⟩
theorem okarg_struct {t : TypeId} {fs : Array Field} {a : AV} (ht : P.underlying t = some (.struct fs)) (h : OkArg P sl st t a) : ∃ n cs, a = .ag cs ∧ okFs (OkAv P sl st n) fs.toList cs := by
  unfold OkArg at h
  simp only [ht] at h
  obtain ⟨n, cs, rfl, h⟩ := h
  obtain ⟨m, _, h2⟩ := okav_struct ht h
  exact ⟨m, cs, rfl, h2⟩
theorem okarg_array {m : Nat} {t e : TypeId} {a : AV} (ht : P.underlying t = some (.array m e)) (h : OkArg P sl st t a) : ∃ n cs, a = .ag cs ∧ okEs (OkAv P sl st n e) m cs := by
  unfold OkArg at h
  simp only [ht] at h
  obtain ⟨n, cs, rfl, h⟩ := h
  obtain ⟨k, _, h2⟩ := okav_array ht h
  exact ⟨k, cs, rfl, h2⟩
theorem okArgs1 {t : TypeId} {avs : List AV} (h : okArgs P sl st [t] avs) : ∃ a, avs = [a] ∧ OkArg P sl st t a := by
  match avs, h with
  | [a], h => exact ⟨a, rfl, h.1⟩
theorem okArgs2 {t u : TypeId} {avs : List AV} (h : okArgs P sl st [t, u] avs) : ∃ a b, avs = [a, b] ∧ OkArg P sl st t a ∧ OkArg P sl st u b := by
  match avs, h with
  | [a, b], h => exact ⟨a, b, rfl, h.1, h.2.1⟩
theorem okArgs3 {t u v : TypeId} {avs : List AV} (h : okArgs P sl st [t, u, v] avs) : ∃ a b c, avs = [a, b, c] ∧ OkArg P sl st t a ∧ OkArg P sl st u b ∧ OkArg P sl st v c := by
  match avs, h with
  | [a, b, c], h => exact ⟨a, b, c, rfl, h.1, h.2.1, h.2.2.1⟩
end Go.Am
