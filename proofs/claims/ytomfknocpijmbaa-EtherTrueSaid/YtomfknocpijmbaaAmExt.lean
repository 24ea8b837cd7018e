/- Functions of the model's own: do two rows overlap? -/
import Derived.Test.YtomfknocpijmbaaAmSem
import Derived.Lib.Overlaps
set_option linter.unusedVariables false
set_option linter.unusedSimpArgs false
namespace Go.Am
variable {P : Program} {ann : Ann}
theorem run_overlaps_none {w : World} {tS tR e : TypeId} (ht : P.underlying tS = some (.slice e)) {size : Nat} (hz : ∀ w, (Go.sizeOf e).run P w = .ok size w)
  {a b : Addr} {la ca lb cb : Nat} (h0 : la = 0 ∨ lb = 0) :
  (Extern.SlicesOverlaps.overlaps #[tS, tS] #[tR] #[.slice (some a) la ca, .slice (some b) lb cb]).run P w = .ok (.bool false) w := by
 change Sem.run P (α := Value) (do
  let some t := (#[tS, tS] : Array TypeId)[0]? | stuck "slices.overlaps: no parameter types"
  let .slice elem ← underlying t | stuck "slices.overlaps: slice type expected"
  let size ← sizeOf elem
  match (some a : Option Addr), (some b : Option Addr) with
  | some a, some b =>
   if la = 0 ∨ lb = 0 ∨ size = 0 then pure (Value.bool false)
   else if a.block != b.block && (← frozen a) && (← frozen b) then unsupported .addressObserved
   else do
    if a.block != b.block then do
     noView a; noView b
     if ← mayBeOne a b then return Value.bool ((← choose (.extern "sameAddr.stringBytes" 2)) == 1)
    pure (Value.bool (a.block == b.block && a.off < b.off + lb * size && b.off < a.off + la * size))
  | _, _ => pure (Value.bool false)) w = _
 have h0' : la = 0 ∨ lb = 0 ∨ size = 0 := by rcases h0 with h | h <;> simp [h]
 simp [run_underlying ht, hz, h0']
theorem run_sizeOf_at {e : TypeId} {size : Nat} (hs : sizeT P e = some size) : ∀ w, (Go.sizeOf e).run P w = .ok size w := by
 intro w
 simp only [sizeT, Option.map_eq_some_iff] at hs
 obtain ⟨i, hi, rfl⟩ := hs
 simp [Go.sizeOf, Go.typeInfo, hi]
theorem overlaps_ext {k f tS tR e : Nat} {fn : Func} (hf : P.funcs[f]? = some fn) (hname : (fn.name == "runtime.NumGoroutine") = false) (hb : fn.body.isNone = true) (hn : Extern.findNext fn = none)
  (he : Extern.find fn = some (Extern.SlicesOverlaps.overlaps #[tS, tS] #[tR])) (ht : P.underlying tS = some (.slice e)) {size : Nat} (hs : sizeT P e = some size)
  {o1 c1 s1 n1 o2 c2 s2 n2 : Nat} {l1 l2 : Option Nat} {cs1 cs2 : List AV} {h : Heap} (h1 : h o1 = some (.arr cs1)) (h2 : h o2 = some (.arr cs2)) (hne : o1 ≠ o2) (hcs : cs2 ≠ []) :
  AWF P ann k f [.rs o1 c1 s1 n1 l1, .rs o2 c2 s2 n2 l2] h fun v h' => v = .sc (.bool false) ∧ h' = h := by
 refine .ext ⟨fun fn' h => ?_, fun G w vals ha hi => ?_⟩
 ·rw [hf] at h
  cases h
  cases hq : fn.body with
  | none => rfl
  | some b => rw [hq] at hb; cases hb
 ·have v1 := ha.val 0
  have v2 := ha.val 1
  obtain ⟨l⟩ := vals
  have hl := ha.size
  match l, hl with
  | [x, y], _ =>
   simp only [List.getD_cons_zero, List.getD_cons_succ] at v1 v2
   have v1 : VRel G (.rs o1 c1 s1 n1 l1) x := v1
   have v2 : VRel G (.rs o2 c2 s2 n2 l2) y := v2
   refine ⟨.bool false, w, ?_, .sc (.bool false), .bool false, h, G, rfl, ⟨rfl, rfl⟩, .sc rfl, .of_not rfl, hi, .refl _ _ _⟩
   rw [run_callFunc_extern hf hname hb hn he]
   cases v1 with
   | @rs _ _ _ _ _ a1 cap1 g1 g2 g3 =>
   cases v2 with
   | @rs _ _ _ _ _ a2 cap2 q1 q2 q3 =>
   have hz := run_sizeOf_at hs
   by_cases hc : n1 = 0 ∨ n2 = 0
   ·rw [run_overlaps_none ht hz hc]
    rfl
   ·have e1 : a1 = ⟨o1, c1, none⟩ := by rcases g1 with g | ⟨g, _⟩; exact g; exact absurd (.inl g) hc
    have e2 : a2 = ⟨o2, c2, none⟩ := by rcases q1 with g | ⟨g, _⟩; exact g; exact absurd (.inr g) hc
    subst e1 e2
    obtain ⟨_, _, ds1, t1, fz1, m1, m2, m3, _, _⟩ := hi.arr o1 cs1 h1
    obtain ⟨_, _, ds2, t2, fz2, p1, p2, p3, _, _⟩ := hi.arr o2 cs2 h2
    have hk : ds2.size ≠ 0 := fun e => hcs (List.eq_nil_of_length_eq_zero (by omega))
    have m2 : fz1.1 = fz1.2 := m2
    rw [Lib.run_overlaps_apart w tS tR e ht size hz ⟨o1, c1, none⟩ ⟨o2, c2, none⟩ n1 cap1 n2 cap2 hne t1 t2 ds1.size ds2.size (by simp [World.shape?, m1]) (by simp [World.shape?, p1]) hk
     (by simp [World.frozen?, m1]; omega) (by simp [World.frozen?, m1]; omega)]
    rfl
end Go.Am
