/- Slices that are read, by value or of an object. -/
import Derived.Test.YtcdfdnmnnepnoaaDoorAmFg
set_option linter.unusedVariables false
set_option linter.unusedSimpArgs false
namespace Go.Am

def RD (h : Heap) (sz : Nat) (v : AV) (es : List (List AV)) : Prop := elemsOf h sz v = some es ∧ (SL sz v es ∨ ∃ o c n lim, v = .rs o c sz n lim)
theorem chunks_len : ∀ (sz n : Nat) (cs : List AV), (chunks sz n cs).length = n
  | _, 0, _ => rfl
  | sz, n + 1, cs => by simp [chunks, chunks_len sz n]
theorem chunks_get : ∀ (sz n : Nat) (cs : List AV) (i : Nat), i < n → (chunks sz n cs)[i]? = some ((cs.drop (i * sz)).take sz)
  | sz, n + 1, cs, 0, _ => by simp [chunks]
  | sz, n + 1, cs, i + 1, h => by
    simp only [chunks, List.getElem?_cons_succ]
    rw [chunks_get sz n _ i (by omega), List.drop_drop]
    congr 3
    rw [Nat.succ_mul]; omega
section
variable {sz : Nat} {v : AV} {es : List (List AV)} {t : Nat → AV} {h : Heap}
theorem SL.rd (H : SL sz v es) : RD h sz v es := ⟨H.elems, .inl H⟩
theorem RD.dis (H : RD h sz v es) : RD h sz v.dis es := by
  obtain ⟨h1, h2 | ⟨o, c, n, lim, rfl⟩⟩ := H
  · exact h2.dis.rd
  · exact ⟨h1, .inr ⟨o, c, n, lim, rfl⟩⟩
theorem RD.rs {o c n lim} (H : RD h sz (.rs o c sz n lim) es) : n = es.length ∧ ∃ cs, h o = some (.arr cs) ∧ c + n * sz ≤ cs.length ∧ es = chunks sz n ((cs.drop c).map AV.disc) := by
  have h1 := H.1
  simp only [elemsOf, if_true] at h1
  split at h1
  · rename_i cs hc
    split at h1
    · rename_i hle
      simp only [Option.some.injEq] at h1
      exact ⟨by rw [← h1, chunks_len], cs, hc, hle, h1.symm⟩
    · cases h1
  · cases h1
theorem RD.len (H : RD h sz v es) : aexLen 0 t h v = some (.val (.sc (.int .i64 es.length)) t h) := by
  obtain ⟨h1, h2 | ⟨o, c, n, lim, rfl⟩⟩ := id H
  · exact h2.len
  · rw [← H.rs.1]
    rfl
theorem RD.not_ag (H : RD h sz v es) (cs : List AV) : v ≠ .ag cs := by
  obtain ⟨h1, h2 | ⟨o, c, n, lim, rfl⟩⟩ := H
  · exact h2.not_ag cs
  · intro e; cases e
theorem RD.disc (H : RD h sz v es) : v.disc = v.dis := by
  obtain ⟨h1, h2 | ⟨o, c, n, lim, rfl⟩⟩ := H
  · exact h2.disc
  · rfl
theorem RD.ddisc (H : RD h sz v es) : v.dis.disc = v.dis := by
  obtain ⟨h1, h2 | ⟨o, c, n, lim, rfl⟩⟩ := H
  · exact h2.ddisc
  · rfl
theorem RD.dd (H : RD h sz v es) : v.dis.dis = v.dis := by
  obtain ⟨h1, h2 | ⟨o, c, n, lim, rfl⟩⟩ := H
  · exact h2.dd
  · rfl

theorem RD.at (H : RD h sz v es) {i : Nat} {e : List AV} (hi : es[i]? = some e) (he : e.map AV.disc = e) (hl : e.length = sz) :
    ∃ p : AV, (∀ t (h2 : Heap), aexIad sz ((i : Nat) : Int) t h2 v = some (.val p t h2)) ∧ p.dis = p ∧ ∀ t, aexLd false true sz t h p = some (.val (.ag e) t h) := by
  obtain ⟨h1, h2 | ⟨o, c, n, lim, rfl⟩⟩ := id H
  · refine ⟨.cp e, fun t _ => h2.iad (by omega) (by simpa using hi), rfl, fun t => ?_⟩
    rw [aexLd_cp, if_pos (by omega), List.take_of_length_le (by omega)]
    simp [single, dis_ag, he]
  · obtain ⟨hn, cs, hc, hle, rfl⟩ := H.rs
    rw [chunks_len] at hn
    have hlt : i < n := by
      rcases Nat.lt_or_ge i n with q | q
      · exact q
      · rw [List.getElem?_eq_none (by rw [chunks_len]; omega)] at hi; cases hi
    rw [chunks_get _ _ _ _ hlt] at hi
    simp only [Option.some.injEq] at hi
    have hb : i * sz + sz ≤ n * sz := by
      have := Nat.mul_le_mul_right sz (show i + 1 ≤ n by omega)
      rw [Nat.succ_mul] at this
      omega
    refine ⟨.op o (c + i * sz), fun t _ => ?_, rfl, fun t => ?_⟩
    · have : (sz = sz ∧ (0 : Int) ≤ (i : Int) ∧ (i : Int) < n) := ⟨rfl, by omega, by omega⟩
      simp only [aexIad, this, and_self, if_true, Int.toNat_natCast]
    · simp only [aexLd, hc, if_pos (show c + i * sz + sz ≤ cs.length by omega), single, if_true, Option.bind_some, Bool.false_eq_true, if_false, dis_ag]
      rw [← hi, ← List.map_drop, List.drop_drop, List.map_take]

theorem RD.at1 (H : RD h 1 v es) {i : Nat} {x : Value} (hi : es[i]? = some [.sc x]) :
    ∃ p : AV, (∀ t (h2 : Heap), aexIad 1 ((i : Nat) : Int) t h2 v = some (.val p t h2)) ∧ p.dis = p ∧ ∀ t, aexLd false false 1 t h p = some (.val (.sc x) t h) := by
  obtain ⟨h1, h2 | ⟨o, c, n, lim, rfl⟩⟩ := id H
  · refine ⟨.cp [.sc x], fun t _ => h2.iad (by omega) (by simpa using hi), rfl, fun t => ?_⟩
    rw [aexLd_cp, if_pos (by simp)]
    rfl
  · obtain ⟨hn, cs, hc, hle, rfl⟩ := H.rs
    rw [chunks_len] at hn
    have hlt : i < n := by
      rcases Nat.lt_or_ge i n with q | q
      · exact q
      · rw [List.getElem?_eq_none (by rw [chunks_len]; omega)] at hi; cases hi
    rw [chunks_get _ _ _ _ hlt] at hi
    simp only [Option.some.injEq] at hi
    rw [← List.map_drop, List.drop_drop, ← List.map_take] at hi
    refine ⟨.op o (c + i * 1), fun t _ => ?_, rfl, fun t => ?_⟩
    · have : (1 = 1 ∧ (0 : Int) ≤ (i : Int) ∧ (i : Int) < n) := ⟨rfl, by omega, by omega⟩
      simp only [aexIad, this, and_self, if_true, Int.toNat_natCast]
    · have hy : (cs.drop (c + i * 1)).take 1 = [.sc x] := by
        cases hq : (cs.drop (c + i * 1)).take 1 with
        | nil => rw [hq] at hi; cases hi
        | cons y r =>
          rw [hq, List.map_cons] at hi
          simp only [List.cons.injEq, List.map_eq_nil_iff] at hi
          obtain ⟨h1, rfl⟩ := hi
          cases y <;> first | (rw [← h1]; rfl) | cases h1
      simp only [aexLd, hc, if_pos (show c + i * 1 + 1 ≤ cs.length by omega), hy, single, Option.bind_some, Bool.false_eq_true, if_false]
      rfl
end
end Go.Am
