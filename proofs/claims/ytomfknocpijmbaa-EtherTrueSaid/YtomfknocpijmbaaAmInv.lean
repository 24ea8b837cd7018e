/- A drawn region by an invariant: for regions that the other two forms do not take. -/
import Derived.Test.YtomfknocpijmbaaAmFg
namespace Go.Am
theorem AWD_inv {P : Program} {ann : Ann} {ops : List AOper} {pre : List (List Nat)} {Q : St → Prop} (Inv : (Nat → Bool) → St → Prop)
  (step : ∀ l s i o, Inv l s → readyA pre ops.length l i → ops[i]? = some o → AW1 P ann o s fun s' => Inv (upd l i true) s')
  (fin : ∀ l s, Inv l s → (∀ i, ¬ readyA pre ops.length l i) → Q s) : ∀ l s, Inv l s → AWD P ann ops pre l s Q := by
 have key : ∀ (n : Nat) l s, ((List.range ops.length).filter fun i => !l i).length = n → Inv l s → AWD P ann ops pre l s Q := by
  intro n
  induction n using Nat.strongRecOn with
  | _ n ih =>
   intro l s hn hi
   refine .mk (fun i s' => Inv (upd l i true) s') (fin l s hi) (fun i o hr ho => step l s i o hi hr ho) fun i s' hr hi' => ?_
   refine ih _ ?_ _ _ rfl hi'
   rw [← hn]
   have hlt : i < ops.length := hr.1
   have hf : l i = false := hr.2.1
   have hs : ((List.range ops.length).filter fun j => !(upd l i true) j) = ((List.range ops.length).filter fun j => !l j).filter fun j => !(j == i) := by
    rw [List.filter_filter]
    apply List.filter_congr
    intro j _
    simp only [upd]
    by_cases hj : j = i
    ·subst hj; simp [hf]
    ·simp [hj]
   rw [hs]
   apply List.length_filter_lt_length_iff_exists.2
   exact ⟨i, List.mem_filter.2 ⟨List.mem_range.2 hlt, by rw [hf]; rfl⟩, by simp⟩
 exact fun l s hi => key _ l s rfl hi
theorem W_inv {P : Program} {ann : Ann} {ops : List AOper} {pre : List (List Nat)} {t : Nat → AV} {h : Heap} {Q : Ex → St → Prop} (hd : drawOk ops pre = false) (Inv : (Nat → Bool) → St → Prop) (start : Inv (fun _ => false) ⟨t, h⟩)
  (step : ∀ l s i o, Inv l s → readyA pre ops.length l i → ops[i]? = some o → AW1 P ann o s fun s' => Inv (upd l i true) s')
  (fin : ∀ l s, Inv l s → (∀ i, ¬ readyA pre ops.length l i) → Q .normal s) : W P ann (.regd ops pre) ⟨t, h⟩ Q := .inr ⟨hd, AWD_inv Inv step fin _ _ start⟩
end Go.Am
