/- append of zero elements. -/
import Derived.Test.YtcdfdnmnnepnoaaDoorAmOps11
import Derived.Test.YtcdfdnmnnepnoaaDoorAmOps10
set_option linter.unusedVariables false
set_option linter.unusedSimpArgs false
namespace Go.Am
variable {P : Program} {G : Gh} {h : Heap} {w : World} {n : Nat} {t : Nat → AV} {a : Act}

theorem appW_new {obj : Bool} {sz bytes : Nat} {z : List AV} {x : Opd} {ys : List (List AV)} {k : Nat → AV} {ob : AObj} {t' : Nat → AV} (hv : appW obj sz bytes z t h x ys = some (.new k ob t')) : False := by
  unfold appW at hv
  repeat' (first | (cases hv; done) | split at hv)

theorem Sr.ofZeros {ty tx e : TypeId} {i : TypeInfo} {kk k0 : IntKind} {m : Nat} {z : Value} (ht : P.underlying ty = some (.slice e)) (hi : P.info? e = some i) (hk : P.underlying tx = some (.int kk)) (hz : i.zero = some z) (hzs : z.cells.size = i.size)
    (hm : m < 2 ^ 62) (hb : m * i.bytes ≤ 2 ^ 47) (hone : ∀ u ∈ (Builtin.zeroCells z.cells m).toList, u.oneCell' = true) : Sr P ty tx e i (.int k0 (m : Int)) m (Builtin.zeroCells z.cells m).toList w where
  newsLen := by rw [Array.length_toList, size_zeroCells, hzs]
  nothing hk0 rty base len cap hlc := by
    subst hk0
    have hw : IntKind.i64.wrap 0 = 0 := rfl
    cases base <;> simp [Builtin.append_, run_underlying ht, run_underlying hk, sizeOf, typeInfo, hi, asInt, asIntOf, hw, hlc, storeCells]
  room rty b off len cap hr c1 c2 := by
    have hw : IntKind.i64.wrap (m : Int) = m := wrap_i64 (by omega) (by omega)
    have h0 : ¬ (m : Int) < 0 := by omega
    have h1 : ¬ (281474976710656 < (m : Int) * (i.bytes : Int)) := by
      have : (m : Int) * (i.bytes : Int) ≤ 2 ^ 47 := by exact_mod_cast hb
      omega
    have hst := run_storeCells_cells (P := P) b (off + len * i.size) (Builtin.zeroCells z.cells m).toList 0 w (by simpa using c1) (by simpa using c2) hone
    simp only [Nat.add_zero] at hst
    by_cases hz0 : m * i.size = 0
    · have he : (Builtin.zeroCells z.cells m).toList = [] := List.eq_nil_of_length_eq_zero (by rw [Array.length_toList, size_zeroCells, hzs, hz0])
      rw [he]
      simp [Builtin.append_, run_underlying ht, run_underlying hk, sizeOf, typeInfo, zeroValue, hi, hz, asInt, asIntOf, hw, h0, h1, hr, hz0, storeCells, World.setCells]
    · simp [Builtin.append_, run_underlying ht, run_underlying hk, sizeOf, typeInfo, zeroValue, hi, hz, asInt, asIntOf, hw, h0, h1, hr, hz0, Addr.add_lit, hst]
  grow rty z' base len cap olds hz' hold hg h63 hfit := by
    rw [hz] at hz'
    cases hz'
    have hw : IntKind.i64.wrap (m : Int) = m := wrap_i64 (by omega) (by omega)
    have h0 : ¬ (m : Int) < 0 := by omega
    have h1 : ¬ (281474976710656 < (m : Int) * (i.bytes : Int)) := by
      have : (m : Int) * (i.bytes : Int) ≤ 2 ^ 47 := by exact_mod_cast hb
      omega
    have hn : ¬ (len + m ≤ cap) := by omega
    have h63' : ¬ (9223372036854775807 < ((len : Int) + (m : Int))) := by omega
    have h48' : ¬ (281474976710656 < Builtin.nextslicecap (len + m) cap * i.bytes) := by omega
    by_cases hz0 : m * i.size = 0
    · have he : Builtin.zeroCells z.cells m = #[] := Array.eq_empty_of_size_eq_zero (by rw [size_zeroCells, hzs, hz0])
      rw [he]
      simp [Builtin.append_, run_underlying ht, run_underlying hk, sizeOf, typeInfo, zeroValue, hi, hz, asInt, asIntOf, hw, h0, h1, hn, h63', h48', hz0, Question.forced, hold, newRow, grownCap]
    · simp [Builtin.append_, run_underlying ht, run_underlying hk, sizeOf, typeInfo, zeroValue, hi, hz, asInt, asIntOf, hw, h0, h1, hn, h63', h48', hz0, Question.forced, hold, newRow, grownCap]
      congr 2
      apply Array.ext'
      simp [List.append_assoc]

theorem ok_apz (hf : FRel G w n t a) (hi : Inv G h w) {o : Oper} {c : Call} {ty tx e : TypeId} {kk : IntKind} {x y : Operand} {x' y' : Opd} {sz bytes : Nat} {z : AV} {dst : Option Nat} {v : AV} {t' : Nat → AV} {h' : Heap} {obj : Bool}
    (hop : o.op = .call c) (hb : c.callee = .builtin .append) (hargs : c.args.toList = [x, y]) (hty : c.argTypes.toList = [ty, tx]) (hx : cOpd x = some x') (hy : cOpd y = some y')
    (ht : P.underlying ty = some (.slice e)) (hk : P.underlying tx = some (.int kk))
    (hs : sizeT P e = some sz) (hby : bytesT P e = some bytes) (hz : zeroT P e = some z) (hzl : z.cells.length = sz) (hb0 : 0 < bytes) (hd : ∀ d, dst = some d → d < n)
    (hv : aex P (.apz obj sz bytes z.cells x' y') ⟨t, h⟩ = some (.val v t' h')) : OpOk P G h w n a o dst v t' h' := by
  have hry := opd_rel hf hy
  simp only [aex, Option.bind_eq_bind, Option.bind_eq_some_iff] at hv
  obtain ⟨l, hl, hv⟩ := hv
  split at hv
  · rename_i hc
    obtain ⟨k1, e1, _⟩ := asI_rel hry hl
    obtain ⟨zv, hz1, hz2, _, hzo⟩ := zero_rel (P := P) (G := G) (w := w) hz
    have hzs : zv.cells.size = sz := by rw [hz2.cells.1, hzl]
    have hzr := zeros_rel (G := G) hz2 l.toNat
    have ho := zeros_one hzo l.toNat
    obtain ⟨i, hii, hisz⟩ : ∃ i, P.info? e = some i ∧ i.size = sz := by simpa [sizeT] using hs
    have hm : l = ((l.toNat : Nat) : Int) := by omega
    generalize l.toNat = m at hm hzr ho hv
    subst hm
    have hlm : (List.replicate m z.cells).length = m := by simp
    have hbb : m * bytes ≤ 2 ^ 47 := by exact_mod_cast hc.2
    have hmm : m * 1 ≤ m * bytes := Nat.mul_le_mul_left _ hb0
    have hiz : i.zero = some zv := by
      simp only [zeroValue, typeInfo, Sem.run_bind, run_program, Result.andThen_ok, hii] at hz1
      cases hq : i.zero with
      | none => simp [hq] at hz1
      | some v => simp [hq] at hz1; rw [hz1]
    have hib : i.bytes = bytes := by simpa [bytesT, hii] using hby
    have hsr : Sr P ty tx e i (a.eval y) (List.replicate m z.cells).length (Builtin.zeroCells zv.cells m).toList w := by
      rw [e1, hlm]
      refine .ofZeros ht hii hk hiz (by rw [hzs, hisz]) (by omega) (by rw [hib]; exact hbb) fun u hu => ?_
      obtain ⟨j, hj⟩ := List.getElem?_of_mem hu
      rw [Array.getElem?_toList] at hj
      have hj2 : ((Array.range (m * zv.cells.size)).map fun i => zv.cells[i % zv.cells.size]!)[j]? = some u := hj
      have hlt : j < (List.replicate m z.cells).flatten.length := by
        rw [← hzr.1]
        exact (Array.getElem?_eq_some_iff.1 hj2).1
      obtain ⟨d, h1, h2⟩ := hzr.get (List.getElem?_eq_getElem hlt)
      rw [hj2] at h1
      cases h1
      exact h2.oneCell (ho _ (List.getElem_mem hlt))
    refine ok_app_core hf hi hop hb hargs hty hx ht hs hby hz hzl hb0 hd hii hisz hsr (fun k c hk => ?_) (fun x hx => ?_) ho hv
    · obtain ⟨d, h1, h2⟩ := hzr.get hk
      exact ⟨d, by rw [Array.getElem?_toList]; exact h1, h2⟩
    · rw [List.mem_replicate] at hx
      rw [hx.2, hzl]
  · cases hv
theorem ok_apz_newc (hf : FRel G w n t a) (hi : Inv G h w) {o : Oper} {c : Call} {ty tx e : TypeId} {kk : IntKind} {x y : Operand} {x' y' : Opd} {sz bytes : Nat} {z : AV} {dst : Option Nat} {lo : Nat} {k : Nat → Nat → AV} {ob : Nat → AObj} {t' : Nat → AV} {obj : Bool}
    (hop : o.op = .call c) (hb : c.callee = .builtin .append) (hargs : c.args.toList = [x, y]) (hty : c.argTypes.toList = [ty, tx]) (hx : cOpd x = some x') (hy : cOpd y = some y')
    (ht : P.underlying ty = some (.slice e)) (hk : P.underlying tx = some (.int kk))
    (hs : sizeT P e = some sz) (hby : bytesT P e = some bytes) (hz : zeroT P e = some z) (hzl : z.cells.length = sz) (hb0 : 0 < bytes) (hd : ∀ d, dst = some d → d < n)
    (hv : aex P (.apz obj sz bytes z.cells x' y') ⟨t, h⟩ = some (.newc lo k ob t')) : NewcOk P G h w n a o dst lo k ob t' := by
  have hry := opd_rel hf hy
  simp only [aex, Option.bind_eq_bind, Option.bind_eq_some_iff] at hv
  obtain ⟨l, hl, hv⟩ := hv
  split at hv
  · rename_i hc
    obtain ⟨k1, e1, _⟩ := asI_rel hry hl
    obtain ⟨zv, hz1, hz2, _, hzo⟩ := zero_rel (P := P) (G := G) (w := w) hz
    have hzs : zv.cells.size = sz := by rw [hz2.cells.1, hzl]
    have hzr := zeros_rel (G := G) hz2 l.toNat
    have ho := zeros_one hzo l.toNat
    obtain ⟨i, hii, hisz⟩ : ∃ i, P.info? e = some i ∧ i.size = sz := by simpa [sizeT] using hs
    have hm : l = ((l.toNat : Nat) : Int) := by omega
    generalize l.toNat = m at hm hzr ho hv
    subst hm
    have hlm : (List.replicate m z.cells).length = m := by simp
    have hbb : m * bytes ≤ 2 ^ 47 := by exact_mod_cast hc.2
    have hmm : m * 1 ≤ m * bytes := Nat.mul_le_mul_left _ hb0
    have hiz : i.zero = some zv := by
      simp only [zeroValue, typeInfo, Sem.run_bind, run_program, Result.andThen_ok, hii] at hz1
      cases hq : i.zero with
      | none => simp [hq] at hz1
      | some v => simp [hq] at hz1; rw [hz1]
    have hib : i.bytes = bytes := by simpa [bytesT, hii] using hby
    have hsr : Sr P ty tx e i (a.eval y) (List.replicate m z.cells).length (Builtin.zeroCells zv.cells m).toList w := by
      rw [e1, hlm]
      refine .ofZeros ht hii hk hiz (by rw [hzs, hisz]) (by omega) (by rw [hib]; exact hbb) fun u hu => ?_
      obtain ⟨j, hj⟩ := List.getElem?_of_mem hu
      rw [Array.getElem?_toList] at hj
      have hj2 : ((Array.range (m * zv.cells.size)).map fun i => zv.cells[i % zv.cells.size]!)[j]? = some u := hj
      have hlt : j < (List.replicate m z.cells).flatten.length := by
        rw [← hzr.1]
        exact (Array.getElem?_eq_some_iff.1 hj2).1
      obtain ⟨d, h1, h2⟩ := hzr.get (List.getElem?_eq_getElem hlt)
      rw [hj2] at h1
      cases h1
      exact h2.oneCell (ho _ (List.getElem_mem hlt))
    refine ok_app_newcore hf hi hop hb hargs hty hx ht hs hby hz hzl hb0 hd hii hisz hsr (fun k c hk => ?_) (fun x hx => ?_) ho hv
    · obtain ⟨d, h1, h2⟩ := hzr.get hk
      exact ⟨d, by rw [Array.getElem?_toList]; exact h1, h2⟩
    · rw [List.mem_replicate] at hx
      rw [hx.2, hzl]
  · cases hv
end Go.Am
