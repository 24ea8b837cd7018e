/- Structs that are compared; strings in order; functions that the model knows. -/
import Derived.Test.YtcdfdnmnnepnoaaDoorAmSl
set_option linter.unusedVariables false
set_option linter.unusedSimpArgs false
namespace Go.Am
variable {P : Program}

theorem pr_prog : pureRun P program = some P := rfl
theorem pr_map {α β : Type} (f : α → β) (s : Sem α) : pureRun P (f <$> s) = (pureRun P s).map f := by
  have : f <$> s = s >>= fun a => pure (f a) := by rw [← bind_pure_comp]
  rw [this, pr_bind]
  cases pureRun P s <;> rfl
theorem eqin_str {t : TypeId} (ht : P.underlying t = some .string) (d : Nat) (a b : ByteArray) : pureRun P (Op.equalIn (d + 1) t (.string a) (.string b)) = some (a == b) := by
  rw [Op.equalIn, pr_bind, pr_underlying ht]
  rfl
theorem eqin_int {t : TypeId} {k : IntKind} (ht : P.underlying t = some (.int k)) (d : Nat) (a b : Int) : pureRun P (Op.equalIn (d + 1) t (.int k a) (.int k b)) = some (a == b) := by
  rw [Op.equalIn, pr_bind, pr_underlying ht]
  simp [pr_pure]
theorem eqin_bool {t : TypeId} (ht : P.underlying t = some .bool) (d : Nat) (a b : Bool) : pureRun P (Op.equalIn (d + 1) t (.bool a) (.bool b)) = some (a == b) := by
  rw [Op.equalIn, pr_bind, pr_underlying ht]
  rfl
theorem part_sc {t : TypeId} {d : TypeDesc} (ht : P.underlying t = some d) (h1 : ∀ f, d ≠ .struct f) (h2 : ∀ n e, d ≠ .array n e) {cs : Array Value} {off : Nat} {v : Value} (hv : cs[off]? = some v) : pureRun P (part t cs off) = some v := by
  unfold part isAgg
  simp only [pr_bind, pr_underlying ht, Option.bind_some]
  cases d <;> first | (exact absurd rfl (h1 _)) | (exact absurd rfl (h2 _ _)) | (simp [pr_pure, hv])
theorem eqin_two {t : TypeId} {f0 f1 : Field} (ht : P.underlying t = some (.struct #[f0, f1])) (n0 : f0.name ≠ "_") (n1 : f1.name ≠ "_") (hs : P.stoodInHeld t = false) {xs ys : Array Value} {a0 a1 b0 b1 : Value} {e0 e1 : Bool} (d : Nat)
   (p0 : pureRun P (part f0.type xs f0.offset) = some a0) (p1 : pureRun P (part f1.type xs f1.offset) = some a1) (q0 : pureRun P (part f0.type ys f0.offset) = some b0) (q1 : pureRun P (part f1.type ys f1.offset) = some b1)
   (h0 : pureRun P (Op.equalIn d f0.type a0 b0) = some e0) (h1 : pureRun P (Op.equalIn d f1.type a1 b1) = some e1) : pureRun P (Op.equalIn (d + 1) t (.agg xs) (.agg ys)) = some (e0 && e1) := by
  rw [Op.equalIn, pr_bind, pr_underlying ht]
  cases e0 <;> cases e1 <;> simp [pr_bind, pr_prog, hs, n0, n1, p0, p1, q0, q1, h0, h1, pr_pure]
theorem sb_agg_neq {t : TypeId} {xs ys : Array Value} {e : Bool} (hg : P.eqGuardType P.depth t = false) (h : pureRun P (Op.equalIn 10000 t (.agg xs) (.agg ys)) = some e) : scalarBin P .neq t (.agg xs) (.agg ys) = some (.bool !e) := by
  have h : pureRun P (Op.equal t (.agg xs) (.agg ys)) = some e := h
  simp [scalarBin, eqGuard, binOp, pr_bind, pr_prog, hg, pr_pure, pr_map, h]
theorem sb_agg_eql {t : TypeId} {xs ys : Array Value} {e : Bool} (hg : P.eqGuardType P.depth t = false) (h : pureRun P (Op.equalIn 10000 t (.agg xs) (.agg ys)) = some e) : scalarBin P .eql t (.agg xs) (.agg ys) = some (.bool e) := by
  have h : pureRun P (Op.equal t (.agg xs) (.agg ys)) = some e := h
  simp [scalarBin, eqGuard, binOp, pr_bind, pr_prog, hg, pr_pure, pr_map, h]

theorem ba_beq (a b : ByteArray) : (a == b) = decide (a = b) := by
  by_cases h : a = b
  · subst h
    cases a with | mk d =>
    have : (ByteArray.mk d == ByteArray.mk d) = (d == d) := rfl
    rw [this]; simp
  · cases a with | mk d => cases b with | mk e =>
    have h2 : (ByteArray.mk d == ByteArray.mk e) = (d == e) := rfl
    rw [h2]
    have : d ≠ e := fun e => h (by rw [e])
    simp [this]


def sl (a b : ByteArray) : Bool := Op.bytesLess a.toList b.toList
theorem sb_slss {ty : TypeId} {x y : ByteArray} : scalarBin P .lss ty (.string x) (.string y) = some (.bool (sl x y)) := by
  simp [scalarBin, eqGuard, binOp, Op.stringOp, pureRun, pr_pure, sl]
theorem sb_sleq {ty : TypeId} {x y : ByteArray} : scalarBin P .leq ty (.string x) (.string y) = some (.bool (sl x y || decide (x = y))) := by
  simp [scalarBin, eqGuard, binOp, Op.stringOp, pureRun, pr_pure, sl, bytes_list_beq]
theorem sb_sgtr {ty : TypeId} {x y : ByteArray} : scalarBin P .gtr ty (.string x) (.string y) = some (.bool (!(sl x y || decide (x = y)))) := by
  simp [scalarBin, eqGuard, binOp, Op.stringOp, pureRun, pr_pure, sl, bytes_list_beq]
theorem sb_sgeq {ty : TypeId} {x y : ByteArray} : scalarBin P .geq ty (.string x) (.string y) = some (.bool (!sl x y)) := by
  simp [scalarBin, eqGuard, binOp, Op.stringOp, pureRun, pr_pure, sl]
theorem bl_irr : ∀ l : List UInt8, Op.bytesLess l l = false
  | [] => rfl
  | a :: l => by simp [Op.bytesLess, bl_irr l]
theorem bl_trans : ∀ {a b c : List UInt8}, Op.bytesLess a b = true → Op.bytesLess b c = true → Op.bytesLess a c = true
  | _, [], c, h, _ => by simp [Op.bytesLess] at h
  | _, _ :: _, [], _, h => by simp [Op.bytesLess] at h
  | [], _ :: _, _ :: _, _, _ => by simp [Op.bytesLess]
  | x :: a, y :: b, z :: c, h, g => by
    simp only [Op.bytesLess, Bool.or_eq_true, decide_eq_true_eq, Bool.and_eq_true, beq_iff_eq] at h g ⊢
    rcases h with h | ⟨rfl, h⟩
    · rcases g with g | ⟨rfl, g⟩
      · exact .inl (UInt8.lt_trans h g)
      · exact .inl h
    · rcases g with g | ⟨rfl, g⟩
      · exact .inl g
      · exact .inr ⟨rfl, bl_trans h g⟩
theorem bl_tri : ∀ (a b : List UInt8), Op.bytesLess a b = false → Op.bytesLess b a = false → a = b
  | [], [], _, _ => rfl
  | [], _ :: _, h, _ => by simp [Op.bytesLess] at h
  | _ :: _, [], _, h => by simp [Op.bytesLess] at h
  | x :: a, y :: b, h, g => by
    simp only [Op.bytesLess, Bool.or_eq_false_iff, decide_eq_false_iff_not, Bool.and_eq_false_iff, beq_eq_false_iff_ne] at h g
    have hxy : x = y := UInt8.le_antisymm (UInt8.not_lt.1 g.1) (UInt8.not_lt.1 h.1)
    subst hxy
    rw [bl_tri a b (by simpa using h.2) (by simpa using g.2)]
theorem sl_irr (a : ByteArray) : sl a a = false := bl_irr _
theorem sl_trans {a b c : ByteArray} (h : sl a b = true) (g : sl b c = true) : sl a c = true := bl_trans h g
theorem list_inj {a b : ByteArray} (h : a.toList = b.toList) : a = b := by
  rw [ByteArray.toList_eq, ByteArray.toList_eq] at h
  cases a; cases b
  simpa using h
theorem sl_tri {a b : ByteArray} (h : sl a b = false) (g : sl b a = false) : a = b := list_inj (bl_tri _ _ h g)
theorem sl_asym {a b : ByteArray} (h : sl a b = true) : sl b a = false := by
  cases hb : sl b a with
  | false => rfl
  | true => have := sl_trans h hb; rw [sl_irr] at this; cases this


def growV (sz : Nat) (es : List (List AV)) : AV := es.foldl (fun v e => catV sz [e] v) (.bs true sz [] (some 0))
def growN (sz : Nat) (es : List (List AV)) : AV := es.foldl (fun v e => catV sz [e] v) (.sc (.slice none 0 0))
theorem growV_snoc (sz : Nat) (es : List (List AV)) (e : List AV) : growV sz (es ++ [e]) = catV sz [e] (growV sz es) := by simp [growV]
theorem growN_snoc (sz : Nat) (es : List (List AV)) (e : List AV) : growN sz (es ++ [e]) = catV sz [e] (growN sz es) := by simp [growN]
theorem grow_ok (sz : Nat) : ∀ (es : List (List AV)) (v : AV) (fs : List (List AV)), SG sz v fs → SG sz (es.foldl (fun v e => catV sz [e] v) v) (fs ++ es)
  | [], v, fs, h => by simpa using h
  | e :: es, v, fs, h => by
    have := grow_ok sz es _ _ (h.cat [e])
    simpa using this
theorem growV_ok (sz : Nat) (es : List (List AV)) : SG sz (growV sz es) es := by have := grow_ok sz es (.bs true sz [] (some 0)) [] SG.bs; rwa [List.nil_append] at this
theorem growN_ok (sz : Nat) (es : List (List AV)) : SG sz (growN sz es) es := by have := grow_ok sz es (.sc (.slice none 0 0)) [] SG.nil; rwa [List.nil_append] at this



theorem M5_pure {f : Nat} {args : List Value} {r : Value} {h : Heap} (hf : ∃ fn, P.funcs[f]? = some fn ∧ fn.body.isSome = true ∧ (fn.name == "runtime.NumGoroutine") = false) (ha : ∀ v ∈ args, scalarV v = true) (hr : scalarV r = true)
    (hc : ∀ w, Calls P f args.toArray w fun e w' => e = .returned r ∧ w' = w) : M5 P f (args.map AV.sc) h (fun v h' => v = .sc r ∧ h' = h) := by
  refine ⟨hf, fun G w vals har hi => ?_⟩
  have e : vals = args.toArray := by
    apply Array.ext
    · simpa using har.size
    · intro i h1 h2
      have hl : i < args.length := by simpa using h2
      have := har.val i
      rw [List.getD_eq_getElem?_getD, List.getElem?_map, List.getElem?_eq_getElem hl] at this
      have h3 := this.sc_inv.1
      rw [Array.getD_eq_getD_getElem?, Array.getElem?_eq_getElem h1] at h3
      simpa using h3
  subst e
  refine (hc w).mono fun e w' ⟨h1, h2⟩ => ?_
  subst h1; subst h2
  exact ⟨.sc r, r, h, G, rfl, ⟨rfl, rfl⟩, .sc hr, .of_not rfl, hi, .refl _ _ _⟩


section
variable {t : Nat → AV} {h : Heap}
def aexDyn (k : Nat) (xs : List AV) (t' : Nat → AV) : AV → Option AR
  | .fn g first captured => if own1 xs = true then some (.call k g (first.map AV.dis ++ xs ++ captured.map AV.dis) t') else none
  | _ => none
theorem aex_dyn {k f xs} : aex P (.dyn k f xs) ⟨t, h⟩ = aexDyn k (xs.map (Opd.ev t)) (strips t xs) (f.ev t) := by
  simp only [aex, aexDyn]
  cases f.ev t <;> first | rfl | skip
  rename_i g a b
  by_cases hc : own1 (xs.map (Opd.ev t)) = true
  · simp only [hc, (own1_iff _).1 hc, if_true]
  · have h2 : ¬ ((xs.map (Opd.ev t)).filter AV.isOwn).length ≤ 1 := fun h => hc ((own1_iff _).2 h)
    simp only [hc, h2, if_false, Bool.false_eq_true]
theorem aexDyn_fn {k xs g a b} {t' : Nat → AV} : aexDyn k xs t' (.fn g a b) = if own1 xs = true then some (.call k g (a.map AV.dis ++ xs ++ b.map AV.dis) t') else none := nd rfl
theorem aex_fnc {f a b} : aex P (.fnc f a b) ⟨t, h⟩ = some (.val (.fn f (a.map fun x => (x.ev t).dis) (b.map fun x => (x.ev t).dis)) t h) := nd rfl
def aexFad (off : Nat) (t : Nat → AV) (h : Heap) : AV → Option AR
  | .cp cs => some (.val (.cp (cs.drop off)) t h)
  | .op o c => some (.val (.op o (c + off)) t h)
  | _ => none
theorem aex_fad {off x} : aex P (.fad off x) ⟨t, h⟩ = aexFad off t h (x.ev t) := by
  simp only [aex, aexFad]
  cases x.ev t <;> rfl
theorem aexFad_cp {off cs} : aexFad off t h (.cp cs) = some (.val (.cp (cs.drop off)) t h) := nd rfl
theorem aexFad_op {off o c} : aexFad off t h (.op o c) = some (.val (.op o (c + off)) t h) := nd rfl
theorem aexLd_op {tk agg sz o c} : aexLd tk agg sz t h (.op o c) = match h o with
    | some (.arr cs) => if c + sz ≤ cs.length then (single agg ((cs.drop c).take sz)).bind fun v => if tk then some (.val v t (upd h o (some (.arr (setRange cs c [v.dis]))))) else some (.val v.dis t h) else none
    | _ => none := nd rfl
theorem single_t {cs} : single true cs = some (.ag cs) := nd rfl
def aexNck (t : Nat → AV) (h : Heap) : AV → Option AR
  | .op o c => some (.val (.op o c) t h)
  | .cp cs => some (.val (.cp cs) t h)
  | .fn a b c => some (.val (.fn a b c) t h)
  | _ => none
theorem aex_nck {x} : aex P (.nck x) ⟨t, h⟩ = aexNck t h (x.ev t) := by
  simp only [aex, aexNck]
  cases x.ev t <;> rfl
theorem aexNck_op {o c} : aexNck t h (.op o c) = some (.val (.op o c) t h) := nd rfl
theorem aexNck_cp {cs} : aexNck t h (.cp cs) = some (.val (.cp cs) t h) := nd rfl
theorem aexNck_fn {a b c} : aexNck t h (.fn a b c) = some (.val (.fn a b c) t h) := nd rfl
theorem aex_box {x} : aex P (.box x) ⟨t, h⟩ = if (x.ev t).isTu then none else some (.new (fun o => .op o 0) (.arr (x.ev t).cellsD) (strip t x)) := nd rfl
theorem aex_new_e {z} : aex P (.new z) ⟨t, h⟩ = some (.new (fun o => .op o 0) (.arr z) t) := nd rfl
def aexSt (sz : Nat) (v : AV) (t' : Nat → AV) (h : Heap) : AV → Option AR
  | .op o c => match h o with
      | some (.arr cs) => if c + sz ≤ cs.length ∧ v.cellsD.length = sz ∧ v.isTu = false then some (.val .undef t' (upd h o (some (.arr (setRange cs c v.cellsD))))) else none
      | _ => none
  | _ => none
theorem aex_st {sz p x} : aex P (.st sz p x) ⟨t, h⟩ = aexSt sz (x.ev t) (strip t x) h (p.ev t) := by
  simp only [aex, aexSt]
  cases p.ev t <;> rfl
theorem aex_bld {z ps} : aex P (.bld z ps) ⟨t, h⟩ = (fillL z (ps.map fun p => (p.1, p.2.1, (p.2.2.ev t).dis))).bind fun cs => some (.val (.ag cs) t h) := nd rfl
theorem fill_nil {cs} : fillL cs [] = some cs := nd rfl
theorem fill_cons {cs off size v r} : fillL cs ((off, size, v) :: r) = if v.cells.length = size ∧ off + size ≤ cs.length ∧ v.isTu = false then fillL (setRange cs off v.cells) r else none := nd rfl
def aexFld (agg : Bool) (off sz : Nat) (t : Nat → AV) (h : Heap) : AV → Option AR
  | .ag cs => if off + sz ≤ cs.length then (single agg ((cs.drop off).take sz)).bind fun v => some (.val v.dis t h) else none
  | _ => none
theorem aex_fld {agg off sz x} : aex P (.fld agg off sz x) ⟨t, h⟩ = aexFld agg off sz t h (x.ev t) := by
  simp only [aex, aexFld]
  cases x.ev t <;> rfl
theorem aexFld_ag {agg off sz cs} : aexFld agg off sz t h (.ag cs) = if off + sz ≤ cs.length then (single agg ((cs.drop off).take sz)).bind fun v => some (.val v.dis t h) else none := nd rfl
theorem cellsD_sc {v} : (AV.sc v).cellsD = [.sc v] := nd rfl
theorem cellsD_ag {cs} : (AV.ag cs).cellsD = cs.map AV.disc := nd rfl
theorem isTu_sc {v} : (AV.sc v).isTu = false := nd rfl
theorem isTu_ag {cs} : (AV.ag cs).isTu = false := nd rfl
theorem isTu_op {a b} : (AV.op a b).isTu = false := nd rfl
theorem cellsD_op {a b} : (AV.op a b).cellsD = [.op a b] := nd rfl
theorem toV_ag2 {a b : Value} : (AV.ag [.sc a, .sc b]).toV = some (.agg #[a, b]) := nd rfl
def aexIsnil (k : Nat) (neg : Bool) (t : Nat → AV) (h : Heap) (v : AV) : Option AR :=
  match k, v with
    | 0, .sc (.slice none 0 0) | 1, .sc (.pointer none) | 2, .sc (.map none) | 3, .sc .nilFunc => some (.val (.bool (!neg)) t h)
    | 0, .bs .. | 0, .rs .. | 1, .op .. | 1, .cp .. | 2, .mp .. | 3, .fn .. => some (.val (.bool neg) t h)
    | _, _ => none
theorem aex_isnil {k neg x} : aex P (.isnil k neg x) ⟨t, h⟩ = aexIsnil k neg t h (x.ev t) := nd rfl
def aexB2 (P : Program) (b : Builtin) (tys : Array TypeId) (ty : TypeId) (t : Nat → AV) (h : Heap) (x y : AV) : Option AR := do
  let vs ← [x, y].mapM AV.toV
  let r ← pureRun P (builtin b tys ty #[] vs.toArray)
  match r with
  | .value r => if scalarV r then some (.val (.sc r) t h) else none
  | _ => none
theorem aex_blt2 {b tys ty x y} : aex P (.blt b tys ty [x, y]) ⟨t, h⟩ = aexB2 P b tys ty t h (x.ev t) (y.ev t) := nd rfl
theorem aexB2_min {tys ty k k'} {a b : Nat} : aexB2 P .min tys ty t h (.sc (.int k a)) (.sc (.int k' b)) = some (.val (.sc (.int k ((min a b : Nat) : Int))) t h) := by
  have e : pureRun P (builtin .min tys ty #[] #[.int k a, .int k' b]) = some (.value (.int k (if (b : Int) < a then (b : Int) else a))) := by
    simp [builtin, Builtin.min_, Builtin.min2, pr_bind, pr_pure, pr_map]
  have e2 : (if b < a then (b : Int) else (a : Int)) = ((min a b : Nat) : Int) := by
    split <;> omega
  simp [aexB2, AV.toV, e, e2, scalarV]
theorem aexB2_max {tys ty k k'} {a b : Nat} : aexB2 P .max tys ty t h (.sc (.int k a)) (.sc (.int k' b)) = some (.val (.sc (.int k ((max a b : Nat) : Int))) t h) := by
  have e : pureRun P (builtin .max tys ty #[] #[.int k a, .int k' b]) = some (.value (.int k (if (b : Int) > a then (b : Int) else a))) := by
    simp [builtin, Builtin.max_, Builtin.max2, pr_bind, pr_pure, pr_map]
  have e2 : (if a < b then (b : Int) else (a : Int)) = ((max a b : Nat) : Int) := by
    split <;> omega
  simp [aexB2, AV.toV, e, e2, scalarV]
def aexIap (n sz : Nat) (i : Int) (t : Nat → AV) (h : Heap) (x : AV) : Option AR :=
  if 0 ≤ i ∧ i < n then match x with
    | .cp cs => some (.val (.cp (cs.drop (i.toNat * sz))) t h)
    | .op o c => some (.val (.op o (c + i.toNat * sz)) t h)
    | _ => none
  else none
theorem aex_iap {n sz x i} : aex P (.iap n sz x i) ⟨t, h⟩ = (asI (i.ev t)).bind fun i => aexIap n sz i t h (x.ev t) := nd rfl
theorem aexIap_op {n sz o c} {i : Nat} : aexIap n sz i t h (.op o c) = if i < n then some (.val (.op o (c + i * sz)) t h) else none := by
  unfold aexIap
  have : (0 ≤ (i : Int) ∧ (i : Int) < n) ↔ i < n := by omega
  simp [this]
theorem aexIap_cp {n sz cs} {i : Nat} : aexIap n sz i t h (.cp cs) = if i < n then some (.val (.cp (cs.drop (i * sz))) t h) else none := by
  unfold aexIap
  have : (0 ≤ (i : Int) ∧ (i : Int) < n) ↔ i < n := by omega
  simp [this]
def aexApz (sz bytes : Nat) (z : List AV) (t' : Nat → AV) (h : Heap) (v : AV) (l : Int) : Option AR :=
  if 0 ≤ l ∧ l * bytes ≤ 2 ^ 47 then aexApp false sz bytes t' h (List.replicate l.toNat z) v else none
theorem aex_apz {sz bytes z x y} : aex P (.apz false sz bytes z x y) ⟨t, h⟩ = (asI (y.ev t)).bind fun l => aexApz sz bytes z (strip t x) h (x.ev t) l := by
  simp only [aex, appW_eq, aexApz]
  rfl
def aexApzO (sz bytes : Nat) (z : List AV) (t' : Nat → AV) (h : Heap) (v : AV) (l : Int) : Option AR :=
  if 0 ≤ l ∧ l * bytes ≤ 2 ^ 47 then aexAppO sz bytes z t' h (List.replicate l.toNat z) v else none
theorem aex_apzO {sz bytes z x y} : aex P (.apz true sz bytes z x y) ⟨t, h⟩ = (asI (y.ev t)).bind fun l => aexApzO sz bytes z (strip t x) h (x.ev t) l := by
  simp only [aex, appW_eqO, aexApzO]
  rfl
def aexCpy (sz : Nat) (t' : Nat → AV) (h : Heap) (ys : List (List AV)) (d x : AV) : Option AR :=
  match d, x with
    | _, .sc (.string _) => none
    | .sc (.slice none 0 0), _ => some (.val (.sc (.int .i64 (0 : Nat))) t' h)
    | .rs o c sz' n _, _ => match h o with
      | some (.arr cs) =>
        if sz' = sz ∧ c + n * sz ≤ cs.length then
          some (.val (.sc (.int .i64 (min ys.length n : Nat))) t' (upd h o (some (.arr (setRange cs c ((ys.take n).flatten.map AV.disc))))))
        else none
      | _ => none
    | _, _ => none
theorem aex_cpy {sz d x} : aex P (.cpy sz d x) ⟨t, h⟩ = (elemsOf h sz (x.ev t)).bind fun ys => aexCpy sz t h ys (d.ev t) (x.ev t) := by
  simp only [aex, Option.bind_eq_bind]
  rfl
def aexClr (sz : Nat) (z : List AV) (t' : Nat → AV) (h : Heap) : AV → Option AR
    | .sc (.slice none 0 0) => some (.val (.tu []) t' h)
    | .rs o c sz' n _ => match h o with
      | some (.arr cs) => if sz' = sz ∧ c + n * sz ≤ cs.length then some (.val (.tu []) t' (upd h o (some (.arr (setRange cs c (List.replicate n z).flatten))))) else none
      | _ => none
    | _ => none
theorem aex_clr {sz z x} : aex P (.clr sz z x) ⟨t, h⟩ = aexClr sz z t h (x.ev t) := nd rfl
def aexCap (t' : Nat → AV) (h : Heap) : AV → Option AR
    | .sc (.slice none 0 0) => some (.val (.sc (.int .i64 (0 : Nat))) t' h)
    | .rs _ _ _ _ (some c) | .bs _ _ _ (some c) => some (.val (.sc (.int .i64 (c : Nat))) t' h)
    | _ => none
theorem aex_cap {x} : aex P (.cap x) ⟨t, h⟩ = aexCap t h (x.ev t) := nd rfl
theorem aexCap_rs {o c sz n k} : aexCap t h (.rs o c sz n (some k)) = some (.val (.sc (.int .i64 (k : Nat))) t h) := nd rfl
theorem aexCap_bs {o sz es k} : aexCap t h (.bs o sz es (some k)) = some (.val (.sc (.int .i64 (k : Nat))) t h) := nd rfl
theorem aexApz_nat {sz bytes z t' v} {n : Nat} (hn : n * bytes ≤ 2 ^ 47) : aexApz sz bytes z t' h v (n : Int) = aexApp false sz bytes t' h (List.replicate n z) v := by
  have : (0 ≤ (n : Int) ∧ (n : Int) * bytes ≤ 2 ^ 47) := ⟨by omega, by exact_mod_cast hn⟩
  simp only [aexApz, this, and_self, if_true, Int.toNat_natCast]
theorem str_size {l : List UInt8} : (str l).size = l.length := by simp [str, ByteArray.size]
theorem str_data {l : List UInt8} : (str l).data.toList = l := by simp [str]
theorem str_of (b : ByteArray) : b = str b.data.toList := by cases b; simp [str]
theorem elems_strl {l : List UInt8} : elemsOf h 1 (.sc (.string (str l))) = some (u8s l) := by
  rw [elems_str, str_data]
  rfl
def aexSls (t : Nat → AV) (h : Heap) (lo hi : Option AV) : AV → Option AR
  | .sc (.string b) => (bounds b.size lo hi).bind fun p => some (.val (.sc (.string (b.extract p.1 p.2))) t h)
  | _ => none
theorem aex_sls {x lo hi} : aex P (.sls x lo hi) ⟨t, h⟩ = aexSls t h (lo.map (Opd.ev t)) (hi.map (Opd.ev t)) (x.ev t) := by
  simp only [aex, aexSls]
  cases x.ev t <;> first | rfl | (rename_i v; cases v <;> rfl)
theorem str_extract {l : List UInt8} {i j : Nat} : (str l).extract i j = str ((l.take j).drop i) := by
  rw [str_of ((str l).extract i j)]
  congr 1
  rw [ByteArray.data_extract, Array.toList_extract, List.extract_eq_take_drop, List.drop_take]
  rfl
theorem sls_u {l : List UInt8} {u : Nat} {k : IntKind} (hu : u ≤ l.length) : aexSls t h none (some (.sc (.int k u))) (.sc (.string (str l))) = some (.val (.sc (.string (str (l.take u)))) t h) := by
  have hb : bounds (str l).size none (some (.sc (.int k u))) = some (0, u) := bounds_ok (.inl ⟨rfl, rfl⟩) (.inr ⟨k, rfl⟩) (Nat.zero_le _) (by rw [str_size]; exact hu)
  simp only [aexSls, hb, Option.bind_some, str_extract, List.drop_zero]
theorem sls_l {l : List UInt8} {u : Nat} {k : IntKind} (hu : u ≤ l.length) : aexSls t h (some (.sc (.int k u))) none (.sc (.string (str l))) = some (.val (.sc (.string (str (l.drop u)))) t h) := by
  have hb : bounds (str l).size (some (.sc (.int k u))) none = some (u, (str l).size) := bounds_ok (.inr ⟨k, rfl⟩) (.inl ⟨rfl, rfl⟩) (by rw [str_size]; exact hu) (Nat.le_refl _)
  simp only [aexSls, hb, Option.bind_some, str_extract]
  rw [str_size, List.take_length]
theorem toV_ag5 {a b c d e : Value} : (AV.ag [.sc a, .sc b, .sc c, .sc d, .sc e]).toV = some (.agg #[a, b, c, d, e]) := nd rfl
theorem aexSt_op {sz v t' o c} : aexSt sz v t' h (.op o c) = match h o with
    | some (.arr cs) => if c + sz ≤ cs.length ∧ v.cellsD.length = sz ∧ v.isTu = false then some (.val .undef t' (upd h o (some (.arr (setRange cs c v.cellsD))))) else none
    | _ => none := nd rfl
theorem setRange_all5 {a b c d e a' b' c' d' e' : AV} : setRange [a, b, c, d, e] 0 [a', b', c', d', e'] = [a', b', c', d', e'] := nd rfl
theorem setRange_52 {a b c d e x y : AV} : setRange [a, b, c, d, e] 3 [x, y] = [a, b, c, x, y] := nd rfl
theorem setRange_all2 {a b a' b' : AV} : setRange [a, b] 0 [a', b'] = [a', b'] := nd rfl
theorem box2 {h : Heap} {o b : Nat} {X : AObj} {Y : Option AObj} (ho : h o = none) (hb : upd h o (some X) b = none) : ∃ h2, upd (upd h o (some X)) b Y = h2 ∧ h2 o = some X ∧ h2 b = Y ∧ ∀ x, ¬ h x = none → h2 x = h x := by
  have hne : o ≠ b := by
    intro e
    subst e
    rw [upd_same] at hb
    cases hb
  refine ⟨_, rfl, by rw [upd_ne _ _ hne, upd_same], upd_same _ _ _, fun x hx => ?_⟩
  have h1 : x ≠ o := fun e => hx (by rw [e]; exact ho)
  have h2 : x ≠ b := fun e => hx (by rw [e, ← upd_ne h (some X) hne.symm]; exact hb)
  rw [upd_ne _ _ h2, upd_ne _ _ h1]
theorem AWF.fnPurec {P : Program} {ann : Ann} {k f : Nat} {args : List AV} {h : Heap} {Q : AV → Prop} {np nt : Nat} {code : AC} {res : List ARes} (hc : cFn P ann k f = some ⟨np, nt, code, res⟩) (hl : args.length = np)
    (hw : W P ann code ⟨initT args, h⟩ fun e s => (e = .ret ∨ e = .normal) ∧ (∃ v, resA res s = some v ∧ Q v) ∧ ∀ o, h o ≠ none → s.h o = h o) : AWF P ann k f args h fun v h' => Q v ∧ h' = h := .fnPure hc hl hw
theorem upd_keep {h : Heap} {b : Nat} {x : Option AObj} (hb : h b = none) : ∀ o, ¬ h o = none → upd h b x o = h o := fun o ho => upd_ne _ _ fun e => ho (by rw [e]; exact hb)
def resC (g : Bool) (sz : Nat) (h : Heap) : AV → Option AV
  | .op o c => match h o with
      | some (.arr cs) => if c + sz ≤ cs.length then (single g ((cs.drop c).take sz)).map AV.dis else none
      | _ => none
  | _ => none
theorem resA_cell {i g sz} : resA [.cell i g sz] ⟨t, h⟩ = resC g sz h (t i) := by
  simp only [resA, res1, resC]
  cases t i <;> rfl
def resL (s : St) : List ARes → Option (List AV)
  | [] => some []
  | x :: r => (res1 s x).bind fun v => (resL s r).map (v.dis :: ·)
theorem resA_many {x y r} : resA (x :: y :: r) ⟨t, h⟩ = (resL ⟨t, h⟩ (x :: y :: r)).map AV.tu := by
  have key : ∀ l : List ARes, (l.mapM fun x => (res1 ⟨t, h⟩ x).map AV.dis) = resL ⟨t, h⟩ l := by
    intro l
    induction l with
    | nil => rfl
    | cons x l ih =>
      rw [List.mapM_cons, ih, resL]
      cases res1 ⟨t, h⟩ x <;> simp
      cases resL ⟨t, h⟩ l <;> simp
  show ((x :: y :: r).mapM fun x => (res1 ⟨t, h⟩ x).map AV.dis).map AV.tu = _
  rw [key]
theorem resL_nil : resL ⟨t, h⟩ [] = some [] := nd rfl
theorem resL_tmp {i r} : resL ⟨t, h⟩ (.tmp i :: r) = (resL ⟨t, h⟩ r).map ((t i).dis :: ·) := nd rfl
theorem resL_cell {i g sz r} : resL ⟨t, h⟩ (.cell i g sz :: r) = (resC g sz h (t i)).bind fun v => (resL ⟨t, h⟩ r).map (v.dis :: ·) := by
  have := resA_cell (t := t) (h := h) (i := i) (g := g) (sz := sz)
  show (res1 ⟨t, h⟩ (.cell i g sz)).bind _ = _
  rw [← this]
  rfl
theorem resC_op {g sz o c} : resC g sz h (.op o c) = match h o with
      | some (.arr cs) => if c + sz ≤ cs.length then (single g ((cs.drop c).take sz)).map AV.dis else none
      | _ => none := nd rfl
theorem wants_u {q : Bool} : wants q .undef = false := nd rfl
theorem setRange_1 {a b : AV} {l} : setRange (a :: l) 0 [b] = b :: l := by simp [setRange]
theorem setRange_2 {a b c : AV} {l} : setRange (a :: b :: l) 1 [c] = a :: c :: l := by simp [setRange]
theorem setRange_3 {a b c d : AV} {l} : setRange (a :: b :: c :: l) 2 [d] = a :: b :: d :: l := by simp [setRange]
theorem setRange_4 {a b c d e : AV} {l} : setRange (a :: b :: c :: d :: l) 3 [e] = a :: b :: c :: e :: l := by simp [setRange]
end
attribute [go_sem ↓] aex_sls aex_apz aex_apzO aex_appO aex_cpy aex_clr aex_cap aex_blt2 aex_iap aex_dyn aex_fnc aex_fad aex_nck aex_box aex_new_e aex_st aex_bld aex_fld aex_isnil
attribute [go_sem] resA_many resL_nil resL_tmp resL_cell setRange_52 List.map_cons List.map_nil resA_cell resC_op Option.map_some aexSt_op setRange_all5 setRange_all2 elems_strl str_size sls_u sls_l toV_ag5 Option.map_none aexApz_nat aexB2_min aexB2_max aexIap_op aexIap_cp pr_pure wants_u sb_slss sb_sleq sb_sgtr sb_sgeq aexDyn_fn aexFad_cp aexFad_op aexLd_op single_t aexNck_op aexNck_cp aexNck_fn fill_nil fill_cons aexFld_ag cellsD_sc cellsD_ag isTu_sc isTu_ag isTu_op cellsD_op toV_ag2 setRange_1 setRange_2 setRange_3 setRange_4 List.nil_append List.append_nil List.cons_append List.drop_zero List.drop_succ_cons List.take_succ_cons List.take_zero List.length_map
end Go.Am
