/- The abstract machine: values without addresses, its operations, and the compiler from the given program's code into it. -/
import Derived.WalkKit
import Derived.RegionTactic
set_option linter.unusedVariables false
set_option linter.unusedSimpArgs false
namespace Go.Am



inductive AV where
  | sc (v : Value)
  | bs (own : Bool) (sz : Nat) (es : List (List AV)) (lim : Option Nat)
  | cp (cs : List AV)
  | op (o c : Nat)
  | rs (o c sz len : Nat) (lim : Option Nat)
  | mp (o : Nat)
  | it (o : Nat)
  | fn (f : FuncId) (first captured : List AV)
  | ag (cs : List AV)
  | tu (vs : List AV)
  deriving Inhabited

namespace AV
def int (k : IntKind) (n : Int) : AV := .sc (.int k n)
def bool (b : Bool) : AV := .sc (.bool b)
def str (s : ByteArray) : AV := .sc (.string s)
def nils : AV := .sc (.slice none 0 0)
def nilp : AV := .sc (.pointer none)
def undef : AV := .tu []
def disc : AV → AV
  | .bs _ sz es lim => .bs false sz es lim
  | v => v

def dis : AV → AV
  | .bs _ sz es lim => .bs false sz es lim
  | .ag cs => .ag (cs.map disc)
  | .tu vs => .tu (vs.map disc)
  | v => v
def isOwn : AV → Bool
  | .bs o _ _ _ => o
  | _ => false
def cells : AV → List AV
  | .ag cs => cs
  | v => [v]

def one : AV → Bool
  | .ag _ | .tu _ => false
  | _ => true
def isTu : AV → Bool
  | .tu _ => true
  | _ => false

def cellsD : AV → List AV
  | .ag cs => cs.map disc
  | v => [v]
end AV


def scalarV : Value → Bool
  | .bool _ | .int .. | .float .. | .complex .. | .string _ | .nilFunc | .nilIface => true
  | .pointer none | .slice none 0 0 | .map none => true
  | _ => false

def AV.ofV : Value → Option AV
  | .agg cs => if cs.all scalarV then some (.ag (cs.toList.map AV.sc)) else none
  | v => if scalarV v then some (.sc v) else none

def AV.sc? : AV → Option Value
  | .sc v => some v
  | _ => none

def scs : List AV → Option (List Value)
  | [] => some []
  | c :: r => match c.sc?, scs r with
    | some v, some l => some (v :: l)
    | _, _ => none


def AV.toV : AV → Option Value
  | .sc v => some v
  | .ag cs => (scs cs).map fun l => .agg l.toArray
  | _ => none

inductive Opd where
  | t (n : Nat)
  | c (v : AV)
  deriving Inhabited

def Opd.ev (t : Nat → AV) : Opd → AV
  | .t n => t n
  | .c v => v

inductive AObj where
  | arr (cs : List AV)
  | map (es : List (Value × AV))
  deriving Inhabited

abbrev Heap := Nat → Option AObj

structure St where
  t : Nat → AV
  h : Heap

def upd {α : Type} (t : Nat → α) (i : Nat) (v : α) : Nat → α := fun j => if j = i then v else t j
theorem upd_same {α : Type} (t : Nat → α) (i : Nat) (v : α) : upd t i v i = v := by simp [upd]
theorem upd_ne {α : Type} (t : Nat → α) {i j : Nat} (v : α) (h : j ≠ i) : upd t i v j = t j := by simp [upd, h]

inductive AOp where
  | mov (tk : Bool) (x : Opd)
  | pick (c a b : Opd)
  | bin (op : BinOp) (ty : TypeId) (x y : Opd)
  | isnil (k : Nat) (neg : Bool) (x : Opd)
  | un (op : UnOp) (x : Opd)
  | conv (src dst : TypeId) (x : Opd)
  | b2s (x : Opd)
  | s2b (obj : Bool) (x : Opd)
  | stg (x : Opd)
  | fld (agg : Bool) (off sz : Nat) (x : Opd)
  | fad (off : Nat) (x : Opd)
  | iad (sz : Nat) (x i : Opd)
  | iap (n sz : Nat) (x i : Opd)
  | ixs (x i : Opd)
  | ixa (n : Nat) (agg : Bool) (sz : Nat) (x i : Opd)
  | slc (sz : Nat) (x : Opd) (lo hi mx : Option Opd)
  | sls (x : Opd) (lo hi : Option Opd)
  | slp (n sz : Nat) (x : Opd) (lo hi : Option Opd)
  | len (k : Nat) (x : Opd)
  | app (obj : Bool) (sz bytes : Nat) (z : List AV) (s x : Opd)
  | apz (obj : Bool) (sz bytes : Nat) (z : List AV) (s x : Opd)
  | cpy (sz : Nat) (d s : Opd)
  | clr (sz : Nat) (z : List AV) (x : Opd)
  | cap (x : Opd)
  | ld (tk agg : Bool) (sz : Nat) (p : Opd)
  | st (sz : Nat) (p x : Opd)
  | nck (x : Opd)
  | bld (zero : List AV) (parts : List (Nat × Nat × Opd))
  | lit (obj : Bool) (sz n : Nat) (zero : List AV) (parts : List (Nat × Opd))
  | new (zero : List AV)
  | box (x : Opd)
  | mks (obj : Bool) (sz bytes : Nat) (zero : List AV) (len cap : Opd)
  | mkm
  | lkp (commaOk ks : Bool) (zero : AV) (m k : Opd)
  | mup (ks : Bool) (m k x : Opd)
  | del (ks : Bool) (m k : Opd)
  | fnc (f : FuncId) (first captured : List Opd)
  | ext (i : Nat) (x : Opd)
  | blt (b : Builtin) (tys : Array TypeId) (ty : TypeId) (xs : List Opd)
  | call (variant f : Nat) (xs : List Opd)
  | dyn (variant : Nat) (f : Opd) (xs : List Opd)
  | rng (m : Opd)
  | nxt (i : Opd)
  | ent (i : Opd)
  deriving Inhabited


def pureRun {α : Type} (P : Program) : Sem α → Option α
  | .pure a => some a
  | .program k => pureRun P (k P)
  | _ => none

def asI : AV → Option Int
  | .sc (.int _ n) => some n
  | _ => none
def asB : AV → Option Bool
  | .sc (.bool b) => some b
  | _ => none


def bHi (n : Nat) : Option AV → Option Nat
  | none => some n
  | some v => (asI v).bind fun i => if 0 ≤ i ∧ i ≤ n then some i.toNat else none
def bLo (n : Nat) : Option AV → Option Nat
  | none => some 0
  | some v => (asI v).bind fun i => if 0 ≤ i ∧ i ≤ n then some i.toNat else none
def bounds (n : Nat) (lo hi : Option AV) : Option (Nat × Nat) := (bHi n hi).bind fun h => (bLo h lo).bind fun l => some (l, h)

def bHiC (n m : Nat) : Option AV → Option Nat
  | none => some n
  | some v => bHi m (some v)

def boundsC (n m : Nat) (lo hi : Option AV) : Option (Nat × Nat) := (bHiC n m hi).bind fun h => (bLo h lo).bind fun l => some (l, h)

def chunks (sz : Nat) : Nat → List AV → List (List AV)
  | 0, _ => []
  | n + 1, cs => cs.take sz :: chunks sz n (cs.drop sz)


def elemsOf (h : Heap) (sz : Nat) : AV → Option (List (List AV))
  | .sc (.slice none 0 0) => some []
  | .sc (.string s) => if sz = 1 then some (s.data.toList.map fun b => [AV.int .u8 b.toNat]) else none
  | .bs _ sz' es _ => if sz' = sz then some es else none
  | .rs o c sz' n _ => if sz' = sz then (match h o with
      | some (.arr cs) => if c + n * sz ≤ cs.length then some (chunks sz n ((cs.drop c).map AV.disc)) else none
      | _ => none) else none
  | _ => none

def setRange (cs : List AV) (off : Nat) (vs : List AV) : List AV := cs.take off ++ vs ++ cs.drop (off + vs.length)

def fillL : List AV → List (Nat × Nat × AV) → Option (List AV)
  | cs, [] => some cs
  | cs, (off, size, v) :: r => if v.cells.length = size ∧ off + size ≤ cs.length ∧ v.isTu = false then fillL (setRange cs off v.cells) r else none

def single (agg : Bool) (cs : List AV) : Option AV := if agg then some (.ag cs) else match cs with | [v] => some v | _ => none


def sameK : Value → Value → Bool
  | .int a x, .int b y => a == b && x == y
  | .string a, .string b => a == b
  | _, _ => false


def likeK : Value → Value → Bool
  | .int a _, .int b _ => a == b
  | .string _, .string _ => true
  | _, _ => false

def findK (k : Value) : List (Value × AV) → Option AV
  | [] => none
  | (k', v) :: r => if sameK k k' then some v else findK k r

def keyOk : Value → Bool
  | .int .. | .string _ => true
  | _ => false

def keyFits : Bool → Value → Bool
  | false, .int .. => true
  | true, .string _ => true
  | _, _ => false


def mapFits (ks : Bool) (k : Value) (es : List (Value × AV)) : Bool := keyFits ks k && es.all fun p => likeK k p.1

def setK (k : Value) (v : AV) : List (Value × AV) → List (Value × AV)
  | [] => [(k, v)]
  | (k', v') :: r => if sameK k k' then (k, v) :: r else (k', v') :: setK k v r

def delK (k : Value) : List (Value × AV) → List (Value × AV)
  | [] => []
  | (k', v') :: r => if sameK k k' then r else (k', v') :: delK k r


inductive AR where
  | val (v : AV) (t : Nat → AV) (h : Heap)
  | new (k : Nat → AV) (ob : AObj) (t : Nat → AV)
  | newc (lo : Nat) (k : Nat → Nat → AV) (ob : Nat → AObj) (t : Nat → AV)
  | call (variant f : Nat) (args : List AV) (t : Nat → AV)


def strip (t : Nat → AV) : Opd → (Nat → AV)
  | .t n => upd t n (t n).dis
  | .c _ => t
def strips (t : Nat → AV) (xs : List Opd) : (Nat → AV) := xs.foldl strip t


abbrev grownO (sz : Nat) (z cs : List AV) (n : Nat) (t : Nat → AV) : AR :=
  .newc n (fun o c => .rs o 0 sz n (some c)) (fun c => .arr (cs.map AV.disc ++ (List.replicate (c - n) z).flatten)) t


def appW (obj : Bool) (sz bytes : Nat) (z : List AV) (t : Nat → AV) (h : Heap) (x : Opd) (ys : List (List AV)) : Option AR :=
  match x.ev t with
  | .sc (.slice none 0 0) =>
    if ys.length = 0 then some (.val .nils t h)
    else if ys.length * bytes > 2 ^ 47 then none
    else if obj then some (grownO sz z ys.flatten ys.length t)
    else some (.val (.bs true sz ys none) t h)
  | .bs own sz' es lim =>
    if sz' ≠ sz ∨ (es.length + ys.length) * bytes > 2 ^ 47 then none
    else if ys.length = 0 then some (.val (.bs own sz es lim) (strip t x) h)
    else match lim with
      | some c => if c < es.length + ys.length then (if obj then some (grownO sz z (es.flatten ++ ys.flatten) (es.length + ys.length) (strip t x)) else some (.val (.bs true sz (es ++ ys) none) (strip t x) h))
                  else if own ∧ !obj then some (.val (.bs true sz (es ++ ys) (some c)) (strip t x) h) else none
      | none => if own ∧ !obj then some (.val (.bs true sz (es ++ ys) none) (strip t x) h) else none
  | .rs o c sz' n lim =>
    if sz' ≠ sz ∨ obj = false then none
    else if ys.length = 0 then some (.val (.rs o c sz n lim) t h)
    else match lim, h o with
      | some cap, some (.arr cs) =>
        if c + cap * sz ≤ cs.length ∧ n ≤ cap then
          if n + ys.length ≤ cap then some (.val (.rs o c sz (n + ys.length) (some cap)) t (upd h o (some (.arr (setRange cs (c + n * sz) (ys.flatten.map AV.disc))))))
          else if (n + ys.length) * bytes > 2 ^ 47 then none
          else some (grownO sz z (((cs.drop c).take (n * sz)) ++ ys.flatten) (n + ys.length) t)
        else none
      | _, _ => none
  | _ => none

def scalarBin (P : Program) (op : BinOp) (ty : TypeId) (a b : Value) : Option Value :=
  match a with
  | .nilIface => none
  | a => pureRun P (do eqGuard op ty (.tmp 0) (.tmp 0) a b; binOp op ty a b)

def aex (P : Program) (o : AOp) (s : St) : Option AR :=
  let e := Opd.ev s.t
  let ret (v : AV) : Option AR := some (.val v s.t s.h)
  match o with
  | .mov tk x => if tk then some (.val (e x) (strip s.t x) s.h) else ret (e x).dis
  | .pick c a b => do let q ← asB (e c); ret (if q then (e a).dis else (e b).dis)
  | .bin op ty x y => do
    let a ← (e x).toV; let b ← (e y).toV
    let r ← scalarBin P op ty a b
    if scalarV r then ret (.sc r) else none
  | .isnil k neg x => match k, e x with
    | 0, .sc (.slice none 0 0) | 1, .sc (.pointer none) | 2, .sc (.map none) | 3, .sc .nilFunc => ret (.bool (!neg))
    | 0, .bs .. | 0, .rs .. | 1, .op .. | 1, .cp .. | 2, .mp .. | 3, .fn .. => ret (.bool neg)
    | _, _ => none
  | .un op x => do let a ← (e x).toV; let r ← pureRun P (Op.unary op a); if scalarV r then ret (.sc r) else none
  | .conv src dst x => match e x with
    | .sc v => do let r ← pureRun P (convert src dst v); if scalarV r then ret (.sc r) else none
    | _ => none
  | .b2s x => match e x with
    | .sc (.slice none 0 0) => ret (.str .empty)
    | x => do
      let es ← elemsOf s.h 1 x
      let bs ← es.mapM fun | [.sc (.int .u8 n)] => some (UInt8.ofNat n.toNat) | _ => none
      match x with | .sc _ => none | _ => ret (.str ⟨bs.toArray⟩)
  | .s2b obj x => match e x with
    | .sc (.string b) =>
      let es := b.data.toList.map fun c => [AV.int .u8 c.toNat]
      if obj then none else ret (.bs true 1 es none)
    | _ => none
  | .stg x => match e x with
    | .bs true sz es lim => some (.val (e x) (strip s.t x) s.h)
    | _ => none
  | .fld agg off sz x => match e x with
    | .ag cs => if off + sz ≤ cs.length then do let v ← single agg ((cs.drop off).take sz); ret v.dis else none
    | _ => none
  | .fad off x => match e x with
    | .cp cs => ret (.cp (cs.drop off))
    | .op o c => ret (.op o (c + off))
    | _ => none
  | .iad sz x i => do
    let i ← asI (e i)
    match e x with
    | .bs _ sz' es _ => if sz' = sz ∧ 0 ≤ i then (do let cs ← es[i.toNat]?; ret (.cp cs)) else none
    | .rs o c sz' n _ => if sz' = sz ∧ 0 ≤ i ∧ i < n then ret (.op o (c + i.toNat * sz)) else none
    | _ => none
  | .iap n sz x i => do
    let i ← asI (e i)
    if 0 ≤ i ∧ i < n then match e x with
      | .cp cs => ret (.cp (cs.drop (i.toNat * sz)))
      | .op o c => ret (.op o (c + i.toNat * sz))
      | _ => none
    else none
  | .ixs x i => do
    let i ← asI (e i)
    match e x with
    | .sc (.string b) => if 0 ≤ i then (do let c ← b[i.toNat]?; ret (.int .u8 c.toNat)) else none
    | _ => none
  | .ixa n agg sz x i => do
    let i ← asI (e i)
    match e x with
    | .ag cs => if 0 ≤ i ∧ i < n ∧ i.toNat * sz + sz ≤ cs.length then do let v ← single agg ((cs.drop (i.toNat * sz)).take sz); ret v.dis else none
    | _ => none
  | .slc sz x lo hi mx => match e x with
    | .sc (.slice none 0 0) => do
      let (_, h) ← bounds 0 (lo.map e) (hi.map e)
      match mx with
      | none => ret .nils
      | some m => do let m ← asI (e m); if m = 0 ∧ h = 0 then ret .nils else none
    | .bs _ sz' es lim => if sz' ≠ sz then none else do
      let (l, h) ← bounds es.length (lo.map e) (hi.map e)
      match mx with
      | none => ret (.bs false sz ((es.drop l).take (h - l)) (lim.map (· - l)))
      | some m => do let m ← asI (e m); if (h : Int) ≤ m ∧ m ≤ es.length then ret (.bs false sz ((es.drop l).take (h - l)) (some (m.toNat - l))) else none
    | .rs o c sz' n lim => if sz' ≠ sz then none else do
      let (l, h) ← boundsC n (lim.getD n) (lo.map e) (hi.map e)
      match mx with
      | none => ret (.rs o (c + l * sz) sz (h - l) (lim.map (· - l)))
      | some m => do let m ← asI (e m); if (h : Int) ≤ m ∧ m ≤ n then ret (.rs o (c + l * sz) sz (h - l) (some (m.toNat - l))) else none
    | _ => none
  | .sls x lo hi => match e x with
    | .sc (.string b) => do let (l, h) ← bounds b.size (lo.map e) (hi.map e); ret (.str (b.extract l h))
    | _ => none
  | .slp n sz x lo hi => match e x with
    | .op o c => do let (l, h) ← bounds n (lo.map e) (hi.map e); ret (.rs o (c + l * sz) sz (h - l) (some (n - l)))
    | _ => none
  | .len k x => match k, e x with
    | 0, .sc (.slice none 0 0) | 2, .sc (.map none) => ret (.int .i64 0)
    | 1, .sc (.string b) => ret (.int .i64 b.size)
    | 0, .bs _ _ es _ => ret (.int .i64 es.length)
    | 0, .rs _ _ _ n _ => ret (.int .i64 n)
    | 2, .mp o => match s.h o with | some (.map es) => ret (.int .i64 es.length) | _ => none
    | _, _ => none
  | .app obj sz bytes z x y => do
    let ys ← elemsOf s.h sz (e y)
    appW obj sz bytes z s.t s.h x ys
  | .apz obj sz bytes z x y => do
    let l ← asI (e y)
    if 0 ≤ l ∧ l * bytes ≤ 2 ^ 47 then appW obj sz bytes z s.t s.h x (List.replicate l.toNat z) else none
  | .cpy sz d x => do
    let ys ← elemsOf s.h sz (e x)
    match e d, e x with
    | _, .sc (.string _) => none
    | .sc (.slice none 0 0), _ => ret (.int .i64 0)
    | .rs o c sz' n _, _ => match s.h o with
      | some (.arr cs) =>
        if sz' = sz ∧ c + n * sz ≤ cs.length then
          some (.val (.int .i64 (min ys.length n : Nat)) s.t (upd s.h o (some (.arr (setRange cs c ((ys.take n).flatten.map AV.disc))))))
        else none
      | _ => none
    | _, _ => none
  | .clr sz z x => match e x with
    | .sc (.slice none 0 0) => ret (.tu [])
    | .rs o c sz' n _ => match s.h o with
      | some (.arr cs) => if sz' = sz ∧ c + n * sz ≤ cs.length then some (.val (.tu []) s.t (upd s.h o (some (.arr (setRange cs c (List.replicate n z).flatten))))) else none
      | _ => none
    | _ => none
  | .cap x => match e x with
    | .sc (.slice none 0 0) => ret (.int .i64 0)
    | .rs _ _ _ _ (some c) | .bs _ _ _ (some c) => ret (.int .i64 c)
    | _ => none
  | .ld tk agg sz p => match e p with
    | .cp cs => if sz ≤ cs.length then do let v ← single agg (cs.take sz); ret v.dis else none
    | .op o c => match s.h o with
      | some (.arr cs) => if c + sz ≤ cs.length then do
          let v ← single agg ((cs.drop c).take sz)
          if tk then some (.val v s.t (upd s.h o (some (.arr (setRange cs c [v.dis]))))) else ret v.dis
        else none
      | _ => none
    | _ => none
  | .st sz p x => match e p with
    | .op o c => match s.h o with
      | some (.arr cs) => if c + sz ≤ cs.length ∧ (e x).cellsD.length = sz ∧ (e x).isTu = false then some (.val .undef (strip s.t x) (upd s.h o (some (.arr (setRange cs c (e x).cellsD))))) else none
      | _ => none
    | _ => none
  | .nck x => match e x with
    | .op .. | .cp .. | .fn .. => ret (e x)
    | _ => none
  | .bld zero parts => do
    let cs ← fillL zero (parts.map fun p => (p.1, p.2.1, (e p.2.2).dis))
    ret (.ag cs)
  | .lit obj sz n zero parts => do
    let cs ← fillL ((List.replicate n zero).flatten) (parts.map fun p => (p.1 * sz, sz, (e p.2).dis))
    if zero.length = sz then (if obj then some (.new (fun o => .rs o 0 sz n (some n)) (.arr cs) s.t) else ret (.bs true sz (chunks sz n cs) (some n))) else none
  | .new zero => some (.new (fun o => .op o 0) (.arr zero) s.t)
  | .box x => if (e x).isTu then none else some (.new (fun o => .op o 0) (.arr (e x).cellsD) (strip s.t x))
  | .mks obj sz bytes zero len cap => do
    let l ← asI (e len); let c ← asI (e cap)
    if 0 ≤ l ∧ l ≤ c ∧ c * bytes ≤ 2 ^ 47 ∧ c < 2 ^ 62 ∧ zero.length = sz then
      (if obj then some (.new (fun o => .rs o 0 sz l.toNat (some c.toNat)) (.arr (List.replicate c.toNat zero).flatten) s.t)
       else ret (.bs true sz (List.replicate l.toNat zero) (some c.toNat)))
    else none
  | .mkm => some (.new .mp (.map []) s.t)
  | .lkp commaOk ks zero m k => match e k with
    | .sc k => match e m with
        | .sc (.map none) => if keyFits ks k then ret (if commaOk then .tu [zero, .bool false] else zero) else none
        | .mp o => match s.h o with
          | some (.map es) => if mapFits ks k es then (match findK k es with
            | some v => ret (if commaOk then .tu [v.dis, .bool true] else v.dis)
            | none => ret (if commaOk then .tu [zero, .bool false] else zero)) else none
          | _ => none
        | _ => none
    | _ => none
  | .mup ks m k x => match e k, e m with
    | .sc k, .mp o => match s.h o with
      | some (.map es) => if mapFits ks k es then some (.val .undef s.t (upd s.h o (some (.map (setK k (e x).dis es))))) else none
      | _ => none
    | _, _ => none
  | .del ks m k => match e k, e m with
    | .sc k, .mp o => match s.h o with
      | some (.map es) => if mapFits ks k es then some (.val (.tu []) s.t (upd s.h o (some (.map (delK k es))))) else none
      | _ => none
    | _, _ => none
  | .fnc f first captured => ret (.fn f (first.map fun x => (e x).dis) (captured.map fun x => (e x).dis))
  | .ext i x => match e x with
    | .tu vs => do let v ← vs[i]?; ret v.dis
    | _ => none
  | .blt b tys ty xs => do
    let vs ← (xs.map e).mapM AV.toV
    let r ← pureRun P (builtin b tys ty #[] vs.toArray)
    match r with
    | .value r => if scalarV r then ret (.sc r) else none
    | _ => none
  | .call k f xs => if ((xs.map e).filter AV.isOwn).length ≤ 1 then some (.call k f (xs.map e) (strips s.t xs)) else none
  | .dyn k f xs => match e f with
    | .fn g first captured => if ((xs.map e).filter AV.isOwn).length ≤ 1 then some (.call k g (first.map AV.dis ++ xs.map e ++ captured.map AV.dis) (strips s.t xs)) else none
    | _ => none
  | _ => none


structure AOper where
  dst : Option Nat
  op : AOp
  guard : Option (Nat × Bool)
  deriving Inhabited

inductive AC where
  | skip
  | reg (ops : List AOper)
  | regd (ops : List AOper) (pre : List (List Nat))
  | regx (l : List (AOper × List Nat))
  | seq (a b : AC)
  | cond (c : Opd) (a b : AC)
  | block (id : Nat) (c : AC)
  | loop (c : AC)
  | exit (id : Nat)
  | ret
  | scope (c cur : AC)
  | label (l : Nat)
  | goto (l : Nat)
  deriving Inhabited


def findA : AC → Nat → Option AC
  | .seq a b, l => match findA a l with
    | some rest => some (.seq rest b)
    | none => findA b l
  | .label l', l => if l' == l then some .skip else none
  | _, _ => none

inductive Ex where
  | normal
  | exit (id : Nat)
  | ret
  | goto (l : Nat)
  deriving DecidableEq

inductive ARes where
  | tmp (t : Nat)
  | cell (t : Nat) (agg : Bool) (sz : Nat)
  deriving Inhabited

structure AFn where
  np : Nat
  nt : Nat
  code : AC
  res : List ARes
  deriving Inhabited


def AOp.looks : AOp → Option (List Opd)
  | .mov false x => some [x]
  | .pick c a b => some [c, a, b]
  | .bin _ _ x y => some [x, y]
  | .isnil _ _ x => some [x]
  | .un _ x => some [x]
  | .conv _ _ x => some [x]
  | .b2s x => some [x]
  | .s2b false x => some [x]
  | .fld _ _ _ x => some [x]
  | .fad _ x => some [x]
  | .iad _ x i => some [x, i]
  | .iap _ _ x i => some [x, i]
  | .ixs x i => some [x, i]
  | .ixa _ _ _ x i => some [x, i]
  | .slc _ x lo hi mx => some (x :: (lo.toList ++ hi.toList ++ mx.toList))
  | .sls x lo hi => some (x :: (lo.toList ++ hi.toList))
  | .len _ x => some [x]
  | .ld false _ _ p => some [p]
  | .nck x => some [x]
  | .ext _ x => some [x]
  | .lkp _ _ _ m k => some [m, k]
  | _ => none

def Opd.slots : Opd → List Nat
  | .t n => [n]
  | .c _ => []



def AOp.quiet : AOp → Option (List Opd)
  | .mov true x => some [x]
  | .call _ _ xs => some xs
  | .blt _ _ _ xs => some xs
  | .bld _ parts => some (parts.map (·.2.2))
  | .lit false _ _ _ parts => some (parts.map (·.2))
  | .app false _ _ _ x y => some [x, y]
  | op => op.looks


def AOp.takes : AOp → List Opd
  | .mov true x => [x]
  | .app _ _ _ _ x _ => [x]
  | .call _ _ xs => xs
  | _ => []

def AOper.reads (o : AOper) : List Nat :=
  ((o.op.quiet).getD []).flatMap Opd.slots ++ (match o.guard with | some (j, _) => [j] | none => [])
def AOper.writes (o : AOper) : List Nat := o.dst.toList ++ o.op.takes.flatMap Opd.slots



def ancTab (pre : List (List Nat)) : List Nat := pre.foldl (fun tab p => tab ++ [p.foldl (fun m k => m ||| (1 <<< k) ||| tab.getD k 0) 0]) []

def drawOk (ops : List AOper) (pre : List (List Nat)) : Bool :=
  let tab := ancTab pre
  (List.range ops.length).all fun i => match ops[i]? with
    | none => false
    | some o => o.op.quiet.isSome && (pre.getD i []).all (fun k => decide (k < i)) &&
      (List.range ops.length).all fun k => match ops[k]? with
        | none => false
        | some o' => decide (k = i) || o'.writes.all fun j => !((o.reads.contains j) || (o.writes.contains j)) || (if k < i then (tab.getD i 0).testBit k else (tab.getD k 0).testBit i)



def AOp.clsX (o : AOp) : Nat := match o with
  | .ld false .. => 1
  | .new _ => 2
  | .st .. => 3
  | .call .. => 4
  | o => if o.quiet.isSome then 0 else 9

def AOp.stP : AOp → Option Nat
  | .st _ (.t e) _ => some e
  | _ => none
def AOper.readsX (o : AOper) : List Nat := (match o.op with | .st _ p x => p.slots ++ x.slots | _ => []) ++ o.reads
def AOper.writesX (o : AOper) : List Nat := (match o.op with | .st _ _ x => x.slots | _ => []) ++ o.writes

def pickX (ops : List AOper) (ready : List Nat) : Option Nat :=
  let f (c : Nat) := ready.find? fun i => match ops[i]? with | some o => o.op.clsX == c | none => false
  (f 0).orElse fun _ => (f 1).orElse fun _ => (f 4).orElse fun _ => (f 3).orElse fun _ => (f 2).orElse fun _ => ready.head?

def orderX (ops : List AOper) (pre : List (List Nat)) : Nat → List Nat → List Nat
  | 0, acc => acc
  | fuel + 1, acc => match pickX ops ((List.range ops.length).filter fun i => !acc.contains i && (pre.getD i []).all acc.contains) with
    | some i => orderX ops pre fuel (acc ++ [i])
    | none => acc
def apart (l m : List Nat) : Bool := l.all fun j => !m.contains j

def fitX (x y : AOper × List Nat) : Bool :=
  apart x.1.writesX (y.1.readsX ++ y.2 ++ y.1.writesX) && apart y.1.writesX (x.1.readsX ++ x.2 ++ x.1.writesX) &&
    !(x.1.op.clsX == 2 && y.1.op.clsX == 4) &&
    (match x.1.op.stP with | some e => !(y.1.op.clsX == 1 || y.1.op.clsX == 3) || y.2.contains e | none => true) &&
    (match y.1.op.stP with | some e => !(x.1.op.clsX == 1 || x.1.op.clsX == 3) || x.2.contains e | none => true)
def itemX (ops : List AOper) (pre : List (List Nat)) (tab : List Nat) (i : Nat) : Option (AOper × List Nat) :=
  (ops[i]?).map fun o => (o, if o.op.clsX == 1 || o.op.clsX == 3 then (List.range ops.length).filterMap fun k =>
    if k == i || (tab.getD i 0).testBit k || (tab.getD k 0).testBit i then none else (ops[k]?).bind fun o' => o'.op.stP else [])
def okX (o : AOper) : Bool := o.op.clsX != 9 && (o.op.clsX != 3 || (o.op.stP.isSome && o.dst.isNone))
def checkX (ops : List AOper) (pre : List (List Nat)) (tab : List Nat) : List Nat → List Nat → Bool
  | _, [] => true
  | done, i :: r => decide (i < ops.length) && !done.contains i && (pre.getD i []).all done.contains &&
    (match itemX ops pre tab i with
      | some x => okX x.1 && r.all (fun k => (tab.getD k 0).testBit i || (match itemX ops pre tab k with | some y => fitX x y | none => false))
      | none => false) && checkX ops pre tab (done ++ [i]) r

def drawX (ops : List AOper) (pre : List (List Nat)) : Option (List (AOper × List Nat)) :=
  let tab := ancTab pre
  let ord := orderX ops pre ops.length []
  if checkX ops pre tab [] ord && (List.range ops.length).all ord.contains && pre.length == ops.length then some (ord.filterMap (itemX ops pre tab)) else none

def putd (t : Nat → AV) (d : Option Nat) (v : AV) : Nat → AV :=
  match d with
  | some d => upd t d v
  | none => t

def wantedA (o : AOper) (t : Nat → AV) : Bool :=
  match o.guard with
  | none => true
  | some (j, b) => match t j with
    | .sc (.bool x) => x == b
    | _ => false

def res1 (s : St) : ARes → Option AV
  | .tmp i => some (s.t i)
  | .cell i agg sz => match s.t i with
    | .op o c => match s.h o with
      | some (.arr cs) => if c + sz ≤ cs.length then (single agg ((cs.drop c).take sz)).map AV.dis else none
      | _ => none
    | _ => none

def resA (r : List ARes) (s : St) : Option AV :=
  match r with
  | [x] => res1 s x
  | xs => (xs.mapM fun x => (res1 s x).map AV.dis).map .tu

def initT (args : List AV) : Nat → AV := fun i => args.getD i .undef


def cOpd : Operand → Option Opd
  | .tmp t => some (.t t)
  | .const v => (AV.ofV v).map .c
  | .func f => some (.c (.fn f [] []))
  | .global _ => none

def cOpds : List Operand → Option (List Opd)
  | [] => some []
  | x :: r => match cOpd x, cOpds r with
    | some a, some l => some (a :: l)
    | _, _ => none

def cOpt : Option Operand → Option (Option Opd)
  | none => some none
  | some x => (cOpd x).map some

def cParts : List (Nat × Operand) → Option (List (Nat × Opd))
  | [] => some []
  | (i, x) :: r => match cOpd x, cParts r with
    | some a, some l => some ((i, a) :: l)
    | _, _ => none

def isAggT (P : Program) (t : TypeId) : Option Bool :=
  (P.underlying t).map fun | .struct _ => true | .array _ _ => true | _ => false

def sizeT (P : Program) (t : TypeId) : Option Nat := (P.info? t).map (·.size)
def bytesT (P : Program) (t : TypeId) : Option Nat := (P.info? t).map (·.bytes)
def zeroT (P : Program) (t : TypeId) : Option AV := (P.info? t).bind fun i => i.zero.bind AV.ofV


def isNilC (k : Nat) : Operand → Bool
  | .const (.slice none 0 0) => k == 0
  | .const (.pointer none) => k == 1
  | .const (.map none) => k == 2
  | .const .nilFunc => k == 3
  | _ => false

def nilKind (P : Program) (ty : TypeId) : Option Nat :=
  match P.underlying ty with
  | some (.slice _) => some 0
  | some (.pointer _) => some 1
  | some (.map _ _) => some 2
  | some (.func _ _ _) => some 3
  | _ => none


def nilCmp (P : Program) (ty : TypeId) (x y : Operand) : Option (Nat × Operand) :=
  match nilKind P ty with
  | some k => if isNilC k y then some (k, x) else if isNilC k x then some (k, y) else none
  | none => none


def placesT (P : Program) : List Field → Option (List (Nat × Nat))
  | [] => some []
  | f :: r => match sizeT P f.type, placesT P r with
    | some s, some l => some ((f.offset, s) :: l)
    | _, _ => none

def atPlaces (l : List (Nat × Nat)) : List (Nat × Opd) → Option (List (Nat × Nat × Opd))
  | [] => some []
  | (i, x) :: r => match l[i]?, atPlaces l r with
    | some (off, s), some q => some ((off, s, x) :: q)
    | _, _ => none

def cOp (P : Program) (ann : Nat) (o : Oper) : Option AOp :=
  match o.op with
  | .move x => (cOpd x).map (.mov (ann == 1))
  | .assign x => (cOpd x).map (.mov true)
  | .pick c a b => do some (.pick (← cOpd c) (← cOpd a) (← cOpd b))
  | .alloc t => do some (.new (← zeroT P t).cells)
  | .box _ x => do some (.box (← cOpd x))
  | .build t parts => do
    let z ← zeroT P t
    let ps ← cParts parts.toList
    match P.underlying t with
    | some (.struct fs) =>
      let l ← placesT P fs.toList
      let qs ← atPlaces l ps
      some (.bld z.cells qs)
    | some (.array _ e) => do
      let s ← sizeT P e
      some (.bld z.cells (ps.map fun (i, x) => (i * s, s, x)))
    | _ => none
  | .buildSlice t n parts => do
    match P.underlying t with
    | some (.slice e) =>
      let s ← sizeT P e
      let ps ← cParts parts.toList
      let z ← zeroT P e
      if n * s ≤ 2 ^ 24 ∧ 0 < s ∧ z.cells.length = s then some (.lit (ann == 2) s n z.cells ps) else none
    | _ => none
  | .load t a => do
    let g ← isAggT P t; let s ← sizeT P t; let a ← cOpd a
    if g then some (.ld false true s a) else some (.ld (ann == 1) false 1 a)
  | .store t a x => do some (.st (← sizeT P t) (← cOpd a) (← cOpd x))
  | .nilCheck x => do some (.nck (← cOpd x))
  | .binOp op ty x y _ =>
    match op, nilCmp P ty x y with
    | .eql, some (k, z) => do some (.isnil k false (← cOpd z))
    | .neq, some (k, z) => do some (.isnil k true (← cOpd z))
    | op, none => do some (.bin op ty (← cOpd x) (← cOpd y))
    | _, _ => none
  | .unOp op _ x => do some (.un op (← cOpd x))
  | .convert src dst x => do
    let x ← cOpd x
    match P.underlying src, P.underlying dst with
    | some (.slice e), some .string => match P.underlying e with | some (.int .u8) => some (.b2s x) | _ => none
    | some .string, some (.slice e) => match P.underlying e with | some (.int .u8) => some (.s2b (ann == 2) x) | _ => none
    | some (.slice _), some (.slice e) => match src == dst, P.underlying e with
      | true, some (.int .u8) => some (.stg x)
      | _, _ => none
    | some (.slice _), _ | _, some (.slice _) => none
    | some _, some _ => some (.conv src dst x)
    | _, _ => none
  | .field t x i => do
    let x ← cOpd x
    match P.underlying t with
    | some (.struct fs) => do
      let f ← fs[i]?; let s ← sizeT P f.type; let g ← isAggT P f.type
      some (.fld g f.offset (if g then s else 1) x)
    | _ => none
  | .fieldAddr t x i => do
    let x ← cOpd x
    match P.underlying t with
    | some (.struct fs) => do
      let f ← fs[i]?; let s ← sizeT P f.type
      if s = 0 then none else some (.fad f.offset x)
    | _ => none
  | .indexAddr t x i => do
    let x ← cOpd x; let i ← cOpd i
    match P.underlying t with
    | some (.slice e) => do some (.iad (← sizeT P e) x i)
    | some (.array n e) => do some (.iap n (← sizeT P e) x i)
    | _ => none
  | .index t x i => do
    let x ← cOpd x; let i ← cOpd i
    match P.underlying t with
    | some .string => some (.ixs x i)
    | some (.array n e) => do let g ← isAggT P e; let s ← sizeT P e; if g || s == 1 then some (.ixa n g s x i) else none
    | _ => none
  | .slice t x lo hi mx => do
    let x ← cOpd x; let lo ← cOpt lo; let hi ← cOpt hi; let mx ← cOpt mx
    match P.underlying t, mx with
    | some .string, none => some (.sls x lo hi)
    | some (.slice e), mx => do
      if mx.isSome && hi.isNone then none else some (.slc (← sizeT P e) x lo hi mx)
    | some (.array n e), none => do some (.slp n (← sizeT P e) x lo hi)
    | _, _ => none
  | .extract x i => do some (.ext i (← cOpd x))
  | .makeFunc (.func f) first captured => do some (.fnc f (← cOpds first.toList) (← cOpds captured.toList))
  | .makeMap _ none => some .mkm
  | .makeSlice t l c => do
    let l ← cOpd l; let c ← cOpd c
    match P.underlying t with
    | some (.slice e) => do
      let s ← sizeT P e; let z ← zeroT P e; let b ← bytesT P e
      if 0 < s ∧ z.cells.length = s then some (.mks (ann == 2) s b z.cells l c) else none
    | _ => none
  | .lookup t m k ok => do
    let m ← cOpd m; let k ← cOpd k
    match P.underlying t with
    | some (.map key e) => do
      let z ← zeroT P e
      match P.underlying key with
      | some (.int _) => some (.lkp ok false z m k)
      | some .string => some (.lkp ok true z m k)
      | _ => none
    | _ => none
  | .mapUpdate t m k x => do
    let m ← cOpd m; let k ← cOpd k; let x ← cOpd x
    match P.underlying t with
    | some (.map key _) => match P.underlying key with
      | some (.int _) => some (.mup false m k x)
      | some .string => some (.mup true m k x)
      | _ => none
    | _ => none
  | .call c =>
    match c.callee with
    | .value (.func f) => do some (.call ann f (← cOpds c.args.toList))
    | .value f => do some (.dyn ann (← cOpd f) (← cOpds c.args.toList))
    | .builtin b =>
      match b, c.args.toList, c.argTypes.toList with
      | .len, [x], [t] => match P.underlying t with
        | some .string => (cOpd x).map (.len 1)
        | some (.slice _) => (cOpd x).map (.len 0)
        | some (.map _ _) => (cOpd x).map (.len 2)
        | _ => none
      | .append, [s, x], [t, u] => do
        let s' ← cOpd s; let x' ← cOpd x
        match P.underlying t, P.underlying u with
        | some (.slice e), some (.slice _) => do
          let z ← zeroT P e; let n ← sizeT P e; let b ← bytesT P e
          if 0 < n ∧ 0 < b ∧ z.cells.length = n then some (.app (ann == 2) n b z.cells s' x') else none
        | some (.slice e), some (.int _) => do
          let z ← zeroT P e; let n ← sizeT P e; let b ← bytesT P e
          if 0 < n ∧ 0 < b ∧ z.cells.length = n then some (.apz (ann == 2) n b z.cells s' x') else none
        | some (.slice e), some .string => do
          let z ← zeroT P e; let b ← bytesT P e
          match P.underlying e, sizeT P e with
          | some (.int .u8), some 1 => if 0 < b ∧ z.cells.length = 1 then some (.app (ann == 2) 1 b z.cells s' x') else none
          | _, _ => none
        | _, _ => none
      | .copy, [d, x], [t, u] => do
        let d' ← cOpd d; let x' ← cOpd x
        match P.underlying t, P.underlying u with
        | some (.slice e), some (.slice _) => do
          let n ← sizeT P e
          if 0 < n then some (.cpy n d' x') else none
        | _, _ => none
      | .clear, [x], [t] => do
        let x' ← cOpd x
        match P.underlying t with
        | some (.slice e) => do
          let z ← zeroT P e; let n ← sizeT P e
          if 0 < n ∧ z.cells.length = n then some (.clr n z.cells x') else none
        | _ => none
      | .cap, [x], [t] => do
        let x' ← cOpd x
        match P.underlying t with
        | some (.slice _) => some (.cap x')
        | _ => none
      | .delete, [m, k], [t, _] => do
        let m ← cOpd m; let k ← cOpd k
        match P.underlying t with
        | some (.map key _) => match P.underlying key with
          | some (.int _) => some (.del false m k)
          | some .string => some (.del true m k)
          | _ => none
        | _ => none
      | .min, xs, _ | .max, xs, _ | .real, xs, _ | .imag, xs, _ | .complex, xs, _ => do some (.blt b c.argTypes o.type (← cOpds xs))
      | _, _, _ => none
    | _ => none
  | _ => none

def cGuard (ops : Array Oper) : Option (Nat × Bool) → Option (Option (Nat × Bool))
  | none => some none
  | some (j, b) => match (ops[j]?).bind (·.dst) with
    | some d => some (some (d, b))
    | none => none

def cOper (P : Program) (nt : Nat) (ann : Nat) (ops : Array Oper) (o : Oper) : Option AOper := do
  let a ← cOp P ann o
  let g ← cGuard ops o.guard
  match o.dst with
  | some d => if d < nt then some ⟨some d, a, g⟩ else none
  | none => some ⟨none, a, g⟩

def cOpers (P : Program) (nt : Nat) (ann : Nat → Nat) (ops : Array Oper) : Nat → List Oper → Option (List AOper)
  | _, [] => some []
  | i, o :: r => match cOper P nt (ann i) ops o, cOpers P nt ann ops (i + 1) r with
    | some a, some l => some (a :: l)
    | _, _ => none

def preOf (ops : Array Oper) : List (List Nat) :=
  ops.toList.map fun o => (o.after.toList.filter (Region.binds .any)).map (·.on)


def AOp.loudM : AOp → Bool
  | .call k _ _ => k != 0
  | _ => false

def cCode (P : Program) (nt : Nat) (ann : Nat → Nat → Nat) : Code → Option AC
  | .skip => some .skip
  | .region id ops draw => match cOpers P nt (ann id) ops 0 ops.toList with
    | some l => some (if draw then (if drawOk l (preOf ops) || l.any (fun o => o.op.loudM) then .regd l (preOf ops) else match drawX l (preOf ops) with | some l' => .regx l' | none => .regd l (preOf ops)) else .reg l)
    | none => none
  | .seq a b => match cCode P nt ann a, cCode P nt ann b with
    | some x, some y => some (.seq x y)
    | _, _ => none
  | .cond c a b => match cOpd c, cCode P nt ann a, cCode P nt ann b with
    | some c, some x, some y => some (.cond c x y)
    | _, _, _ => none
  | .block id c => (cCode P nt ann c).map (.block id)
  | .loop c => (cCode P nt ann c).map .loop
  | .exit id => some (.exit id)
  | .ret => some .ret
  | .scope c => (cCode P nt ann c).map fun x => .scope x x
  | .label l => some (.label l)
  | .goto l => some (.goto l)
  | _ => none

def cRes (P : Program) : List ResultVar → Option (List ARes)
  | [] => some []
  | .tmp t :: r => (cRes P r).map (.tmp t :: ·)
  | .cell t ty :: r => do
    let g ← isAggT P ty; let s ← sizeT P ty
    let l ← cRes P r
    some (.cell t g (if g then s else 1) :: l)


abbrev Ann := Nat → Nat → Nat → Nat → Nat

def cFn (P : Program) (ann : Ann) (k f : Nat) : Option AFn := do
  let fn ← P.funcs[f]?
  let body ← fn.body
  let c ← cCode P fn.ntmps (ann f k) body
  let r ← cRes P fn.results.toList
  if fn.params.size + fn.nfree ≤ fn.ntmps ∧ (fn.name == "runtime.NumGoroutine") = false then some ⟨fn.params.size + fn.nfree, fn.ntmps, c, r⟩ else none

end Go.Am
