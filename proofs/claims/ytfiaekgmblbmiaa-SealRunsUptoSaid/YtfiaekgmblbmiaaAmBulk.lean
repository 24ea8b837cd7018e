/- What the bound of the second form says of data's parts. -/
import Derived.Test.YtfiaekgmblbmiaaRows
import Derived.Test.YtfiaekgmblbmiaaAmLaw
set_option linter.unusedVariables false
namespace Go.Proofs.Ytfiaekgmblbmiaa
open Go.Am
theorem bulk_one {H : Type} (d : DataW H) : 1 ≤ Rows.uptoBulk d := by
  cases d with
  | lit l => cases l <;> simp [Rows.uptoBulk]
  | nil => simp [Rows.uptoBulk]
  | ptr d => simp [Rows.uptoBulk]
  | slice elems spare => simp [Rows.uptoBulk]
  | agg parts => simp [Rows.uptoBulk]
  | iface t d => simp [Rows.uptoBulk]
  | map entries => simp [Rows.uptoBulk]
  | held h => simp [Rows.uptoBulk]
theorem bulk_part {H : Type} {d : DataW H} {l : List (DataW H)} (h : d ∈ l) : Rows.uptoBulk d ≤ Rows.uptoBulkAll l := by
  induction l with
  | nil => cases h
  | cons x r ih =>
    simp only [Rows.uptoBulkAll]
    cases List.mem_cons.1 h with
    | inl e => subst e; omega
    | inr e => have := ih e; omega
theorem bulk_length {H : Type} (l : List (DataW H)) : l.length ≤ Rows.uptoBulkAll l := by
  induction l with
  | nil => simp [Rows.uptoBulkAll]
  | cons x r ih => have := bulk_one x; simp only [Rows.uptoBulkAll, List.length_cons]; omega
abbrev slB : TypeId → Nat → Prop := fun _ n => n ≤ 1048576
abbrev stB : Nat → Prop := fun n => n ≤ 1048576
theorem her_bulk (P : Program) {H : Type} : Her (H := H) P (fun _ d => Rows.uptoBulk d ≤ 1048576) slB stB where
  string := fun t l hu h => by
    simp only [Rows.uptoBulk] at h
    show l.length ≤ 1048576
    omega
  slice := fun t e el sp hu h => by
    simp only [Rows.uptoBulk] at h
    have h1 := bulk_length el
    exact ⟨by show el.length ≤ 1048576; omega, fun d hd => by have := bulk_part hd; omega⟩
  struct := fun t fs parts hu h => by
    simp only [Rows.uptoBulk] at h
    exact fun i f d hi hd => by have := bulk_part (List.mem_of_getElem? hd); omega
  array := fun t n e parts hu h => by
    simp only [Rows.uptoBulk] at h
    exact fun d hd => by have := bulk_part hd; omega
theorem bulk_each {H : Type} {l : List (DataW H)} (hk : Rows.uptoSmall H l = true) (d : DataW H) (hd : d ∈ l) : Rows.uptoBulk d ≤ 1048576 := by
  have h : Rows.uptoBulkAll l ≤ 1048576 := of_decide_eq_true hk
  exact Nat.le_trans (bulk_part hd) h
end Go.Proofs.Ytfiaekgmblbmiaa
