/- Operations over numbers and strings, worked out. -/
import Derived.Test.YtcdfdnmnnepnoaaDoorAmWp
set_option linter.unusedVariables false
set_option linter.unusedSimpArgs false
namespace Go.Am
variable {P : Program}


section ops
variable {t : Nat → AV} {h : Heap}
theorem aex_movF {x} : aex P (.mov false x) ⟨t, h⟩ = some (.val (x.ev t).dis t h) := nd rfl
theorem aex_movT {x} : aex P (.mov true x) ⟨t, h⟩ = some (.val (x.ev t) (strip t x) h) := nd rfl
theorem aex_pick {c a b} : aex P (.pick c a b) ⟨t, h⟩ = (asB (c.ev t)).bind fun q => some (.val (if q then (a.ev t).dis else (b.ev t).dis) t h) := nd rfl
theorem aex_bin {op ty x y} : aex P (.bin op ty x y) ⟨t, h⟩ = (x.ev t).toV.bind fun a => (y.ev t).toV.bind fun b => (scalarBin P op ty a b).bind fun r => if scalarV r then some (.val (.sc r) t h) else none := nd rfl
theorem aex_un {op x} : aex P (.un op x) ⟨t, h⟩ = (x.ev t).toV.bind fun a => (pureRun P (Op.unary op a)).bind fun r => if scalarV r then some (.val (.sc r) t h) else none := nd rfl
def aexConv (P : Program) (src dst : TypeId) (t : Nat → AV) (h : Heap) : AV → Option AR
  | .sc v => (pureRun P (convert src dst v)).bind fun r => if scalarV r then some (.val (.sc r) t h) else none
  | _ => none
theorem aex_conv {a b x} : aex P (.conv a b x) ⟨t, h⟩ = aexConv P a b t h (x.ev t) := nd rfl
theorem aexConv_sc {a b v} : aexConv P a b t h (.sc v) = (pureRun P (convert a b v)).bind fun r => if scalarV r then some (.val (.sc r) t h) else none := nd rfl
theorem aex_lit {sz n z ps} : aex P (.lit false sz n z ps) ⟨t, h⟩ = (fillL ((List.replicate n z).flatten) (ps.map fun p => (p.1 * sz, sz, (p.2.ev t).dis))).bind fun cs => if z.length = sz then some (.val (.bs true sz (chunks sz n cs) (some n)) t h) else none := nd rfl
def aexLen (k : Nat) (t : Nat → AV) (h : Heap) (v : AV) : Option AR :=
  match k, v with
  | 0, .sc (.slice none 0 0) | 2, .sc (.map none) => some (.val (.int .i64 0) t h)
  | 1, .sc (.string b) => some (.val (.int .i64 b.size) t h)
  | 0, .bs _ _ es _ => some (.val (.int .i64 es.length) t h)
  | 0, .rs _ _ _ n _ => some (.val (.int .i64 n) t h)
  | 2, .mp o => match h o with | some (.map es) => some (.val (.int .i64 es.length) t h) | _ => none
  | _, _ => none
theorem aex_len {k x} : aex P (.len k x) ⟨t, h⟩ = aexLen k t h (x.ev t) := nd rfl
theorem aexLen_nil : aexLen 0 t h (.sc (.slice none 0 0)) = some (.val (.sc (.int .i64 (0 : Nat))) t h) := nd rfl
theorem aexLen_bs {o sz es l} : aexLen 0 t h (.bs o sz es l) = some (.val (.sc (.int .i64 es.length)) t h) := nd rfl
theorem aexLen_str {b} : aexLen 1 t h (.sc (.string b)) = some (.val (.sc (.int .i64 b.size)) t h) := nd rfl
def aexIad (sz : Nat) (i : Int) (t : Nat → AV) (h : Heap) : AV → Option AR
  | .bs _ sz' es _ => if sz' = sz ∧ 0 ≤ i then (es[i.toNat]?).bind fun cs => some (.val (.cp cs) t h) else none
  | .rs o c sz' n _ => if sz' = sz ∧ 0 ≤ i ∧ i < n then some (.val (.op o (c + i.toNat * sz)) t h) else none
  | _ => none
theorem aex_iad {sz x i} : aex P (.iad sz x i) ⟨t, h⟩ = (asI (i.ev t)).bind fun i => aexIad sz i t h (x.ev t) := nd rfl
theorem aexIad_bs {sz i o sz' es l} : aexIad sz i t h (.bs o sz' es l) = if sz' = sz ∧ 0 ≤ i then (es[i.toNat]?).bind fun cs => some (.val (.cp cs) t h) else none := nd rfl
def aexLd (tk agg : Bool) (sz : Nat) (t : Nat → AV) (h : Heap) : AV → Option AR
  | .cp cs => if sz ≤ cs.length then (single agg (cs.take sz)).bind fun v => some (.val v.dis t h) else none
  | .op o c => match h o with
    | some (.arr cs) => if c + sz ≤ cs.length then (single agg ((cs.drop c).take sz)).bind fun v => if tk then some (.val v t (upd h o (some (.arr (setRange cs c [v.dis]))))) else some (.val v.dis t h) else none
    | _ => none
  | _ => none
theorem aex_ld {tk agg sz p} : aex P (.ld tk agg sz p) ⟨t, h⟩ = aexLd tk agg sz t h (p.ev t) := by
  simp only [aex, aexLd]
  cases p.ev t <;> rfl
theorem aexLd_cp {tk agg sz cs} : aexLd tk agg sz t h (.cp cs) = if sz ≤ cs.length then (single agg (cs.take sz)).bind fun v => some (.val v.dis t h) else none := nd rfl
def aexSlc (sz : Nat) (t : Nat → AV) (h : Heap) (lo hi mx : Option AV) : AV → Option AR
  | .sc (.slice none 0 0) => (bounds 0 lo hi).bind fun p => match mx with
      | none => some (.val .nils t h)
      | some m => (asI m).bind fun m => if m = 0 ∧ p.2 = 0 then some (.val .nils t h) else none
  | .bs _ sz' es lim => if sz' ≠ sz then none else (bounds es.length lo hi).bind fun p => match mx with
      | none => some (.val (.bs false sz ((es.drop p.1).take (p.2 - p.1)) (lim.map (· - p.1))) t h)
      | some m => (asI m).bind fun m => if (p.2 : Int) ≤ m ∧ m ≤ es.length then some (.val (.bs false sz ((es.drop p.1).take (p.2 - p.1)) (some (m.toNat - p.1))) t h) else none
  | .rs o c sz' n lim => if sz' ≠ sz then none else (boundsC n (lim.getD n) lo hi).bind fun p => match mx with
      | none => some (.val (.rs o (c + p.1 * sz) sz (p.2 - p.1) (lim.map (· - p.1))) t h)
      | some m => (asI m).bind fun m => if (p.2 : Int) ≤ m ∧ m ≤ n then some (.val (.rs o (c + p.1 * sz) sz (p.2 - p.1) (some (m.toNat - p.1))) t h) else none
  | _ => none
theorem aex_slc {sz x lo hi mx} : aex P (.slc sz x lo hi mx) ⟨t, h⟩ = aexSlc sz t h (lo.map (Opd.ev t)) (hi.map (Opd.ev t)) (mx.map (Opd.ev t)) (x.ev t) := by
  simp only [aex, aexSlc]
  cases hx : x.ev t <;> cases mx <;> rfl
theorem aexSlc_bs {sz o es l lo hi} : aexSlc sz t h lo hi none (.bs o sz es l) = (bounds es.length lo hi).bind fun p => some (.val (.bs false sz ((es.drop p.1).take (p.2 - p.1)) (l.map (· - p.1))) t h) := by
  simp [aexSlc]
theorem aex_callE {k f xs} : aex P (.call k f xs) ⟨t, h⟩ = if ((xs.map (Opd.ev t)).filter AV.isOwn).length ≤ 1 then some (.call k f (xs.map (Opd.ev t)) (strips t xs)) else none := nd rfl
theorem aex_stg {x} : aex P (.stg x) ⟨t, h⟩ = (match x.ev t with | .bs true _ _ _ => some (.val (x.ev t) (strip t x) h) | _ => none) := nd rfl

theorem ev_t {n} : (Opd.t n).ev t = t n := nd rfl
theorem ev_c {v} : (Opd.c v).ev t = v := nd rfl
theorem putd_some {d v} : putd t (some d) v = upd t d v := nd rfl
theorem putd_none {v} : putd t none v = t := nd rfl
theorem upd_at {α : Type} {t : Nat → α} {i j : Nat} {v : α} : upd t i v j = if j = i then v else t j := nd rfl
theorem upd_upd {α : Type} {t : Nat → α} {i : Nat} {a b : α} : upd (upd t i a) i b = upd t i b := by
  funext j; simp only [upd]; split <;> rfl
theorem strip_t {n} : strip t (.t n) = upd t n (t n).dis := nd rfl
theorem strip_c {v} : strip t (.c v) = t := nd rfl
theorem strips_nil : strips t [] = t := nd rfl
theorem strips_cons {x xs} : strips t (x :: xs) = strips (strip t x) xs := nd rfl
theorem initT_0 {a l} : initT (a :: l) 0 = a := nd rfl
theorem initT_1 {a b l} : initT (a :: b :: l) 1 = b := nd rfl
theorem initT_2 {a b c l} : initT (a :: b :: c :: l) 2 = c := nd rfl
theorem initT_3 {a b c d l} : initT (a :: b :: c :: d :: l) 3 = d := nd rfl
theorem dis_sc {v} : (AV.sc v).dis = .sc v := nd rfl
theorem dis_bs {o sz es l} : (AV.bs o sz es l).dis = .bs false sz es l := nd rfl
theorem dis_cp {cs} : (AV.cp cs).dis = .cp cs := nd rfl
theorem dis_op {o c} : (AV.op o c).dis = .op o c := nd rfl
theorem dis_rs {o c sz n l} : (AV.rs o c sz n l).dis = .rs o c sz n l := nd rfl
theorem dis_mp {o} : (AV.mp o).dis = .mp o := nd rfl
theorem dis_fn {f a b} : (AV.fn f a b).dis = .fn f a b := nd rfl
theorem own_sc {v} : (AV.sc v).isOwn = false := nd rfl
theorem own_bs {o sz es l} : (AV.bs o sz es l).isOwn = o := nd rfl
theorem toV_sc {v} : (AV.sc v).toV = some v := nd rfl
theorem asI_int {k n} : asI (.sc (.int k n)) = some n := nd rfl
theorem asB_bool {b} : asB (.sc (.bool b)) = some b := nd rfl
theorem scv_int {k n} : scalarV (.int k n) = true := nd rfl
theorem scv_bool {b} : scalarV (.bool b) = true := nd rfl
theorem scv_str {b} : scalarV (.string b) = true := nd rfl
theorem single_f {v} : single false [v] = some v := nd rfl
end ops

theorem pr_pure {α : Type} {a : α} : pureRun P (pure a) = some a := nd rfl
theorem pr_bind {α β : Type} : ∀ (s : Sem α) (f : α → Sem β), pureRun P (s >>= f) = (pureRun P s).bind fun a => pureRun P (f a)
  | .pure a, f => rfl
  | .program k, f => pr_bind (k P) f
  | .load .., f | .store .., f | .new .., f | .shape .., f | .freeze .., f | .frozen .., f | .getObj .., f | .setObj .., f
  | .choose .., f | .sys .., f | .mark .., f | .halt .., f => rfl

theorem sb_add {ty k} {a b : Int} : scalarBin P .add ty (.int k a) (.int k b) = some (.int k (k.wrap (a + b))) := by
  simp [scalarBin, eqGuard, binOp, Op.intArith, pureRun, pr_pure]
theorem sb_sub {ty k} {a b : Int} : scalarBin P .sub ty (.int k a) (.int k b) = some (.int k (k.wrap (a - b))) := by
  simp [scalarBin, eqGuard, binOp, Op.intArith, pureRun, pr_pure]
theorem sb_mul {ty k} {a b : Int} : scalarBin P .mul ty (.int k a) (.int k b) = some (.int k (k.wrap (a * b))) := by
  simp [scalarBin, eqGuard, binOp, Op.intArith, pureRun, pr_pure]
theorem sb_quo {ty k} {a b : Int} (hb : b ≠ 0) : scalarBin P .quo ty (.int k a) (.int k b) = some (.int k (k.wrap (a.tdiv b))) := by
  simp [scalarBin, eqGuard, binOp, Op.intDiv, pureRun, pr_pure, hb]
theorem sb_rem {ty k} {a b : Int} (hb : b ≠ 0) : scalarBin P .rem ty (.int k a) (.int k b) = some (.int k (a.tmod b)) := by
  simp [scalarBin, eqGuard, binOp, Op.intDiv, pureRun, pr_pure, hb]
theorem sb_eql {ty k} {a b : Int} : scalarBin P .eql ty (.int k a) (.int k b) = some (.bool (a == b)) := by
  simp [scalarBin, eqGuard, binOp, Op.intCmp, pureRun, pr_pure]
theorem sb_neq {ty k} {a b : Int} : scalarBin P .neq ty (.int k a) (.int k b) = some (.bool (a != b)) := by
  simp [scalarBin, eqGuard, binOp, Op.intCmp, pureRun, pr_pure]
theorem sb_lss {ty k} {a b : Int} : scalarBin P .lss ty (.int k a) (.int k b) = some (.bool (a < b)) := by
  simp [scalarBin, eqGuard, binOp, Op.intCmp, pureRun, pr_pure]
theorem sb_leq {ty k} {a b : Int} : scalarBin P .leq ty (.int k a) (.int k b) = some (.bool (a ≤ b)) := by
  simp [scalarBin, eqGuard, binOp, Op.intCmp, pureRun, pr_pure]
theorem sb_gtr {ty k} {a b : Int} : scalarBin P .gtr ty (.int k a) (.int k b) = some (.bool (a > b)) := by
  simp [scalarBin, eqGuard, binOp, Op.intCmp, pureRun, pr_pure]
theorem sb_geq {ty k} {a b : Int} : scalarBin P .geq ty (.int k a) (.int k b) = some (.bool (a ≥ b)) := by
  simp [scalarBin, eqGuard, binOp, Op.intCmp, pureRun, pr_pure]

theorem wrap_id {k : IntKind} {n : Int} (hs : k.signed = false) (h0 : 0 ≤ n) (h1 : n < 2 ^ k.bits) : k.wrap n = n := by
  simp [IntKind.wrap, hs, Int.emod_eq_of_lt h0 h1]
theorem wrap_u {k : IntKind} {n : Int} (hs : k.signed = false) : k.wrap n = n % 2 ^ k.bits := by
  simp [IntKind.wrap, hs]


theorem bv_nat {k : Nat} {a : Nat} : BitVec.ofInt k (a : Int) = BitVec.ofNat k a := by
  apply BitVec.eq_of_toNat_eq
  simp

theorem sb_and {ty : TypeId} {k : IntKind} {a b : Nat} (hs : k.signed = false) (ha : a < 2 ^ k.bits) (hb : b < 2 ^ k.bits) : scalarBin P .and ty (.int k a) (.int k b) = some (.int k ((a &&& b : Nat) : Int)) := by
  have : (a &&& b) < 2 ^ k.bits := Nat.lt_of_le_of_lt Nat.and_le_left ha
  simp only [scalarBin, eqGuard, binOp, Op.intBits, pureRun, bv_nat, BitVec.toNat_and, BitVec.toNat_ofNat, Nat.mod_eq_of_lt ha, Nat.mod_eq_of_lt hb]
  simp [pureRun, pr_pure, wrap_id hs (Int.natCast_nonneg _) (by exact_mod_cast this)]
theorem sb_or {ty : TypeId} {k : IntKind} {a b : Nat} (hs : k.signed = false) (ha : a < 2 ^ k.bits) (hb : b < 2 ^ k.bits) : scalarBin P .or ty (.int k a) (.int k b) = some (.int k ((a ||| b : Nat) : Int)) := by
  have : (a ||| b) < 2 ^ k.bits := Nat.or_lt_two_pow ha hb
  simp only [scalarBin, eqGuard, binOp, Op.intBits, pureRun, bv_nat, BitVec.toNat_or, BitVec.toNat_ofNat, Nat.mod_eq_of_lt ha, Nat.mod_eq_of_lt hb]
  simp [pureRun, pr_pure, wrap_id hs (Int.natCast_nonneg _) (by exact_mod_cast this)]
theorem sb_xor {ty : TypeId} {k : IntKind} {a b : Nat} (hs : k.signed = false) (ha : a < 2 ^ k.bits) (hb : b < 2 ^ k.bits) : scalarBin P .xor ty (.int k a) (.int k b) = some (.int k ((a ^^^ b : Nat) : Int)) := by
  have : (a ^^^ b) < 2 ^ k.bits := Nat.xor_lt_two_pow ha hb
  simp only [scalarBin, eqGuard, binOp, Op.intBits, pureRun, bv_nat, BitVec.toNat_xor, BitVec.toNat_ofNat, Nat.mod_eq_of_lt ha, Nat.mod_eq_of_lt hb]
  simp [pureRun, pr_pure, wrap_id hs (Int.natCast_nonneg _) (by exact_mod_cast this)]
theorem sb_shl {ty : TypeId} {k q : IntKind} {a b : Int} (hb : 0 ≤ b) : scalarBin P .shl ty (.int k a) (.int q b) = some (.int k (k.wrap (a * 2 ^ (min b.toNat k.bits)))) := by
  have : ¬ b < 0 := by omega
  simp [scalarBin, eqGuard, binOp, Op.shift, pureRun, pr_pure, this]
theorem sb_shr {ty : TypeId} {k q : IntKind} {a b : Int} (hb : 0 ≤ b) : scalarBin P .shr ty (.int k a) (.int q b) = some (.int k (a.fdiv (2 ^ (min b.toNat k.bits)))) := by
  have : ¬ b < 0 := by omega
  simp [scalarBin, eqGuard, binOp, Op.shift, pureRun, pr_pure, this]

theorem bytes_list_beq (x y : ByteArray) : (x.toList == y.toList) = decide (x = y) := by
  rw [ByteArray.toList_eq, ByteArray.toList_eq]
  by_cases h : x = y
  · subst h; simp
  · have : ¬ x.data = y.data := by
      intro e
      apply h
      cases x
      cases y
      simp at e
      rw [e]
    simp [h, this]
theorem sb_seql {ty : TypeId} {x y : ByteArray} : scalarBin P .eql ty (.string x) (.string y) = some (.bool (decide (x = y))) := by
  simp [scalarBin, eqGuard, binOp, Op.stringOp, pureRun, pr_pure, bytes_list_beq]
theorem sb_sneq {ty : TypeId} {x y : ByteArray} : scalarBin P .neq ty (.string x) (.string y) = some (.bool (!decide (x = y))) := by
  simp [scalarBin, eqGuard, binOp, Op.stringOp, pureRun, pr_pure, bytes_list_beq]
theorem sb_sadd {ty : TypeId} {x y : ByteArray} (h : x.size + y.size < 2 ^ 63) : scalarBin P .add ty (.string x) (.string y) = some (.string (x ++ y)) := by
  have : ¬ ((x.size + y.size : Nat) : Int) > IntKind.i64.max := by
    have : IntKind.i64.max = 2 ^ 63 - 1 := by decide
    rw [this]
    omega
  simp only [scalarBin, eqGuard, binOp, Op.stringOp]
  rw [if_neg this]
  rfl

theorem pr_underlying {t : TypeId} {d : TypeDesc} (h : P.underlying t = some d) : pureRun P (underlying t) = some d := by
  simp only [underlying, pr_bind]
  show ((pureRun P program).bind fun a => _) = _
  have : pureRun P program = some P := rfl
  rw [this]
  simp [h, pr_pure]
theorem cv_int {src dst : TypeId} {k k' : IntKind} {d : TypeDesc} {n : Int} (h1 : P.underlying src = some d) (h2 : P.underlying dst = some (.int k')) : pureRun P (convert src dst (.int k n)) = some (.int k' (k'.wrap n)) := by
  simp only [convert, pr_bind, pr_underlying h1, pr_underlying h2, Option.bind_some]
  rfl
theorem sb_and32 {ty : TypeId} {a b : Nat} (ha : a < 4294967296) (hb : b < 4294967296) : scalarBin P .and ty (.int .u32 a) (.int .u32 b) = some (.int .u32 ((a &&& b : Nat) : Int)) := sb_and rfl ha hb
theorem sb_or32 {ty : TypeId} {a b : Nat} (ha : a < 4294967296) (hb : b < 4294967296) : scalarBin P .or ty (.int .u32 a) (.int .u32 b) = some (.int .u32 ((a ||| b : Nat) : Int)) := sb_or rfl ha hb
theorem sb_xor32 {ty : TypeId} {a b : Nat} (ha : a < 4294967296) (hb : b < 4294967296) : scalarBin P .xor ty (.int .u32 a) (.int .u32 b) = some (.int .u32 ((a ^^^ b : Nat) : Int)) := sb_xor rfl ha hb
theorem sb_shl32 {ty : TypeId} {q : IntKind} {a b : Nat} (hb : b ≤ 32) (h : a * 2 ^ b < 4294967296) : scalarBin P .shl ty (.int .u32 a) (.int q b) = some (.int .u32 ((a * 2 ^ b : Nat) : Int)) := by
  rw [sb_shl (Int.natCast_nonneg _), Int.toNat_natCast]
  have h1 : min b IntKind.u32.bits = b := Nat.min_eq_left hb
  rw [h1]
  have h2 : (a : Int) * 2 ^ b = ((a * 2 ^ b : Nat) : Int) := by simp
  rw [h2, wrap_id rfl (Int.natCast_nonneg _)]
  exact_mod_cast h

theorem sb_shr32 {ty : TypeId} {q : IntKind} {a b : Nat} (hb : b ≤ 32) : scalarBin P .shr ty (.int .u32 a) (.int q b) = some (.int .u32 ((a / 2 ^ b : Nat) : Int)) := by
  rw [sb_shr (Int.natCast_nonneg _), Int.toNat_natCast]
  have h1 : min b IntKind.u32.bits = b := Nat.min_eq_left hb
  rw [h1]
  have h2 : (2 : Int) ^ b = ((2 ^ b : Nat) : Int) := by simp
  rw [h2, Int.fdiv_eq_ediv_of_nonneg _ (Int.natCast_nonneg _)]
  rfl


theorem nat_add {a b : Nat} : (a : Int) + (b : Int) = ((a + b : Nat) : Int) := nd rfl
theorem nat_mul {a b : Nat} : (a : Int) * (b : Int) = ((a * b : Nat) : Int) := nd rfl
theorem nat_bne {a b : Nat} : ((a : Int) != (b : Int)) = !decide (a = b) := by
  by_cases h : a = b
  · subst h; simp
  · have : (a : Int) ≠ b := by omega
    simp [h, this]
theorem nat_beq {a b : Nat} : ((a : Int) == (b : Int)) = decide (a = b) := by
  by_cases h : a = b
  · subst h; simp
  · have : (a : Int) ≠ b := by omega
    simp [h, this]
theorem nat_lt {a b : Nat} : ((a : Int) < (b : Int)) = (a < b) := by simp
theorem nat_le {a b : Nat} : ((a : Int) ≤ (b : Int)) = (a ≤ b) := by simp
theorem nat_gt {a b : Nat} : ((a : Int) > (b : Int)) = (b < a) := by simp
theorem nat_ge {a b : Nat} : ((a : Int) ≥ (b : Int)) = (b ≤ a) := by simp
theorem wrap_u32u {x : Int} (h0 : 0 ≤ x) (h1 : x < 4294967296) : IntKind.u32.wrap x = x := wrap_id rfl h0 h1
theorem wrap_u64u {x : Int} (h0 : 0 ≤ x) (h1 : x < 18446744073709551616) : IntKind.u64.wrap x = x := wrap_id rfl h0 h1
theorem wrap_u16u {x : Int} (h0 : 0 ≤ x) (h1 : x < 65536) : IntKind.u16.wrap x = x := wrap_id rfl h0 h1
theorem wrap_u8u {x : Int} (h0 : 0 ≤ x) (h1 : x < 256) : IntKind.u8.wrap x = x := wrap_id rfl h0 h1
theorem wrap_i64u {x : Int} (h0 : -9223372036854775808 ≤ x) (h1 : x < 9223372036854775808) : IntKind.i64.wrap x = x := by
  simp only [IntKind.wrap, IntKind.bits, IntKind.signed]
  simp
  omega
theorem wrap_u64m {x : Int} : IntKind.u64.wrap x = x % 18446744073709551616 := by simp [IntKind.wrap, IntKind.bits, IntKind.signed]
theorem wrap_u32m {x : Int} : IntKind.u32.wrap x = x % 4294967296 := by simp [IntKind.wrap, IntKind.bits, IntKind.signed]
theorem wrap_u16m {x : Int} : IntKind.u16.wrap x = x % 65536 := by simp [IntKind.wrap, IntKind.bits, IntKind.signed]
theorem wrap_u8m {x : Int} : IntKind.u8.wrap x = x % 256 := by simp [IntKind.wrap, IntKind.bits, IntKind.signed]
theorem tdiv_nat {a b : Nat} : ((a : Int).tdiv (b : Int)) = ((a / b : Nat) : Int) := nd rfl
theorem tmod_nat {a b : Nat} : ((a : Int).tmod (b : Int)) = ((a % b : Nat) : Int) := nd rfl
theorem mod_nat {a b : Nat} : ((a : Int) % (b : Int)) = ((a % b : Nat) : Int) := nd rfl

theorem pr_not {b : Bool} : pureRun P (Op.unary .not (.bool b)) = some (.bool !b) := rfl

end Go.Am
