/- The program reads a key. -/
import Derived.Shelf.Strings.Builder1
import Derived.Shelf.Strings.BuilderF
import Derived.Shelf.Strings.BuilderK
import Derived.Shelf.Strings.Trim
import Derived.Lib.OthersKept
import Derived.WalkKit
import Derived.BigCall
import Derived.Test.YtcdfdnmnnepnoaaDoorProg
import Derived.Deep.QuietTactic
import Derived.BigQuiet
import Derived.Test.YtcdfdnmnnepnoaaDoorRankM1
import Derived.Test.YtcdfdnmnnepnoaaDoorAmGrow
section
set_option linter.unusedVariables false
namespace Go.Proofs
open Go.Shelf Go.RowKit
def Tryd.lays169_ren : Go.Shelf.Ren := ⟨fun | 169 => 31 | n => n, fun | 70 => 60 | 9 => 9 | 0 => 0 | 72 => 62 | 37 => 42 | 127 => 77 | 3 => 3 | 5 => 5 | n => n, fun | n => n⟩

theorem Tryd.lays169 : Go.Proofs.Lays.n169 Tryd.prog Tryd.lays169_ren := {
  mixed := by kernel_rfl
  f169 := Tryd.func31.trans (congrArg some (by kernel_rfl))
  t0 := Tryd.underlying0
  a0 := Tryd.isAgg0
  z0 := Tryd.sizeOf0
  v0 := Tryd.zeroValue0
  t3 := Tryd.underlying3
  a3 := Tryd.isAgg3
  z3 := Tryd.sizeOf3
  v3 := Tryd.zeroValue3
  t9 := Tryd.underlying9
  a9 := Tryd.isAgg9
  z9 := Tryd.sizeOf9
  v9 := Tryd.zeroValue9
  t37 := Tryd.underlying42
  a37 := Tryd.isAgg42
  z37 := Tryd.sizeOf42
  v37 := Tryd.zeroValue42
  t70 := Tryd.underlying60
  a70 := Tryd.isAgg60
  z70 := Tryd.sizeOf60
  v70 := Tryd.zeroValue60
  t72 := Tryd.underlying62
  a72 := Tryd.isAgg62
  z72 := Tryd.sizeOf62
  v72 := Tryd.zeroValue62
  t127 := Tryd.underlying77
  a127 := Tryd.isAgg77
  z127 := Tryd.sizeOf77
  v127 := Tryd.zeroValue77 }

theorem Tryd.Builder_Extra_169 : Builder.Extra Tryd.prog Tryd.lays169_ren := {
  sizeBuilder := by kernel_rfl
  liesBuilder := by kernel_rfl
  t5 := Tryd.underlying5
  a5 := Tryd.isAgg5
  z5 := Tryd.sizeOf5
  v5 := Tryd.zeroValue5
  infoByte := by kernel_rfl
  cellsByte := by kernel_rfl
  sizeByte := by kernel_rfl
  neB5 := by decide }

def Tryd.lays160_ren : Go.Shelf.Ren := ⟨fun | 160 => 30 | 232 => 36 | 231 => 35 | 227 => 37 | 234 => 39 | 233 => 38 | 236 => 41 | 235 => 40 | 228 => 44 | 271 => 47 | 151 => 46 | 197 => 45 | 120 => 50 | 152 => 49 | 260 => 48 | 137 => 51 | 119 => 52 | 224 => 53 | 225 => 54 | 217 => 55 | 266 => 56 | n => n, fun | 9 => 9 | 4 => 4 | 3 => 3 | 5 => 5 | 117 => 73 | 116 => 72 | 0 => 0 | 124 => 76 | 21 => 21 | 105 => 81 | 46 => 59 | 119 => 85 | 139 => 88 | 138 => 87 | n => n, fun | 3 => 1 | 4 => 2 | n => n⟩

theorem Tryd.lays160 : Go.Proofs.Lays.n160 Tryd.prog Tryd.lays160_ren := {
  mixed := by kernel_rfl
  f119 := Tryd.func52.trans (congrArg some (by kernel_rfl))
  f120 := Tryd.func50.trans (congrArg some (by kernel_rfl))
  f137 := Tryd.func51.trans (congrArg some (by kernel_rfl))
  f151 := Tryd.func46.trans (congrArg some (by kernel_rfl))
  f152 := Tryd.func49.trans (congrArg some (by kernel_rfl))
  f160 := Tryd.func30.trans (congrArg some (by kernel_rfl))
  f197 := Tryd.func45.trans (congrArg some (by kernel_rfl))
  f217 := Tryd.func55.trans (congrArg some (by kernel_rfl))
  f224 := Tryd.func53.trans (congrArg some (by kernel_rfl))
  f225 := Tryd.func54.trans (congrArg some (by kernel_rfl))
  f227 := Tryd.func37.trans (congrArg some (by kernel_rfl))
  f228 := Tryd.func44.trans (congrArg some (by kernel_rfl))
  f231 := Tryd.func35.trans (congrArg some (by kernel_rfl))
  f232 := Tryd.func36.trans (congrArg some (by kernel_rfl))
  f233 := Tryd.func38.trans (congrArg some (by kernel_rfl))
  f234 := Tryd.func39.trans (congrArg some (by kernel_rfl))
  f235 := Tryd.func40.trans (congrArg some (by kernel_rfl))
  f236 := Tryd.func41.trans (congrArg some (by kernel_rfl))
  f260 := Tryd.func48.trans (congrArg some (by kernel_rfl))
  f266 := Tryd.func56.trans (congrArg some (by kernel_rfl))
  f271 := Tryd.func47.trans (congrArg some (by kernel_rfl))
  t0 := Tryd.underlying0
  a0 := Tryd.isAgg0
  z0 := Tryd.sizeOf0
  v0 := Tryd.zeroValue0
  t3 := Tryd.underlying3
  a3 := Tryd.isAgg3
  z3 := Tryd.sizeOf3
  v3 := Tryd.zeroValue3
  t4 := Tryd.underlying4
  a4 := Tryd.isAgg4
  z4 := Tryd.sizeOf4
  v4 := Tryd.zeroValue4
  t5 := Tryd.underlying5
  a5 := Tryd.isAgg5
  z5 := Tryd.sizeOf5
  v5 := Tryd.zeroValue5
  t9 := Tryd.underlying9
  a9 := Tryd.isAgg9
  z9 := Tryd.sizeOf9
  v9 := Tryd.zeroValue9
  t21 := Tryd.underlying21
  a21 := Tryd.isAgg21
  z21 := Tryd.sizeOf21
  v21 := Tryd.zeroValue21
  t46 := Tryd.underlying59
  a46 := Tryd.isAgg59
  z46 := Tryd.sizeOf59
  v46 := Tryd.zeroValue59
  t105 := Tryd.underlying81
  a105 := Tryd.isAgg81
  z105 := Tryd.sizeOf81
  v105 := Tryd.zeroValue81
  t116 := Tryd.underlying72
  a116 := Tryd.isAgg72
  z116 := Tryd.sizeOf72
  t117 := Tryd.underlying73
  a117 := Tryd.isAgg73
  z117 := Tryd.sizeOf73
  v117 := Tryd.zeroValue73
  t119 := Tryd.underlying85
  a119 := Tryd.isAgg85
  z119 := Tryd.sizeOf85
  t124 := Tryd.underlying76
  a124 := Tryd.isAgg76
  z124 := Tryd.sizeOf76
  v124 := Tryd.zeroValue76
  t138 := Tryd.underlying87
  a138 := Tryd.isAgg87
  z138 := Tryd.sizeOf87
  v138 := Tryd.zeroValue87
  t139 := Tryd.underlying88
  a139 := Tryd.isAgg88
  z139 := Tryd.sizeOf88
  v139 := Tryd.zeroValue88
  g3 := by kernel_rfl
  g4 := by kernel_rfl }

open Go.RowKit in
theorem Tryd.strings_Trim_one (s : ByteArray) (c : UInt8) (hc : c.toNat < 128) (w : World) (hs : s.size ≤ 9223372036854775807) :
    Calls Tryd.prog 30 #[.string s, .string ⟨#[c]⟩] w fun e w' => e = .returned (.string ⟨(Lib.trimB s.data.toList c).toArray⟩) ∧ (w' = w ∨ w' = w.drew) := Any.strings_Trim_one Tryd.lays160 s c hc w hs

open Go.RowKit in
theorem Tryd.Builder_String_any_k (B b : Nat) (l : List UInt8) (w : World) (h : Lib.IsBuilderF 62 5 B b (Lib.byteCells l) w) (hBw : B ≤ w.heap.size) :
    Calls Tryd.prog 31 #[.pointer (some ⟨b, 0, none⟩)] w fun e w' => e = .returned (.string ⟨l.toArray⟩) ∧ (Lib.IsBuilderF 62 5 B b (Lib.byteCells l) w' ∧ Below B w w' ∧ Lib.OthersKept 5 (some b) w w') := Any.Builder_String_any_k Tryd.lays169 Tryd.Builder_Extra_169 B b l w h hBw

set_option maxHeartbeats 1000000 in
set_option maxRecDepth 100000 in
theorem Tryd.copyCheck_used (b : Nat) (w : World) (h0 : w.cell? ⟨b, 0, none⟩ = some (.pointer (some ⟨b, 0, none⟩))) :
    Calls Tryd.prog 34 #[.pointer (some ⟨b, 0, none⟩)] w fun e w' => e = .returned (.tuple #[]) ∧ w' = w := by
  obtain ⟨j, hj, _⟩ := Option.map_eq_some_iff.1 Tryd.Builder_Extra_169.sizeBuilder
  go_enter Tryd.func34, Tryd.ntmps34
  go_wp2
  rw [Lib.run_neq_ptr_same w _ Tryd.underlying60 hj]
  go_wp2
  go_end0
  exact ⟨rfl, rfl⟩
set_option maxHeartbeats 1000000 in
set_option maxRecDepth 100000 in
theorem Tryd.copyCheck_fresh (b : Nat) (w : World) (h0 : w.cell? ⟨b, 0, none⟩ = some (.pointer none)) (hsh : w.shape? b = some (62, 2)) (hfz : w.frozen? ⟨b, 0, none⟩ = false) :
    Calls Tryd.prog 34 #[.pointer (some ⟨b, 0, none⟩)] w fun e w' => e = .returned (.tuple #[]) ∧ w' = w.setCell ⟨b, 0, none⟩ (.pointer (some ⟨b, 0, none⟩)) := by
  obtain ⟨j, hj, hjs⟩ := Option.map_eq_some_iff.1 Tryd.Builder_Extra_169.sizeBuilder
  go_enter Tryd.func34, Tryd.ntmps34
  go_wp2
  rw [Lib.run_to_unsafe w ⟨b, 0, none⟩ Tryd.underlying60 Tryd.underlying78 hj (by rw [hjs]; decide) hsh (Nat.zero_lt_succ 1)]
  simp only [Result.andThen]
  rw [Oper.upon_value]
  go_wp2
  rw [run_callFunc_extern Tryd.func43 (by kernel_rfl) (by kernel_rfl) (by kernel_rfl) (e := Extern.AbiNoEscape.same) (by kernel_rfl)]
  rw [Lib.run_noEscape]
  simp only [Result.andThen]
  rw [Oper.upon_value]
  go_wp2
  rw [Lib.run_from_unsafe w ⟨b, 0, none⟩ Tryd.underlying78 Tryd.underlying60 hj hsh Tryd.Builder_Extra_169.liesBuilder]
  simp only [Result.andThen]
  rw [Oper.upon_value]
  go_wp2
  go_end0
  exact ⟨rfl, rfl⟩
theorem Tryd.copyCheck_k (B b : Nat) (bs : List Value) (w : World) (h : Lib.IsBuilderF 62 5 B b bs w) :
    Calls Tryd.prog 34 #[.pointer (some ⟨b, 0, none⟩)] w fun e w' => e = .returned (.tuple #[]) ∧ (Lib.BuilderAtF 62 5 B b (.pointer (some ⟨b, 0, none⟩)) bs w' ∧ Below B w w' ∧ Lib.OthersKept 5 (some b) w w') := by
  rcases h with h | h
  · refine (Tryd.copyCheck_fresh b w h.cell0 h.shape h.frozen0).mono ?_
    rintro e w' ⟨rfl, rfl⟩
    exact ⟨rfl, h.used _, (Below.refl B w).setCell (p := ⟨b, 0, none⟩) h.1 _, (Lib.OthersKept.refl _ _ w).setCell ⟨b, 0, none⟩ rfl _⟩
  · refine (Tryd.copyCheck_used b w h.cell0).mono ?_
    rintro e w' ⟨rfl, rfl⟩
    exact ⟨rfl, h, Below.refl B _, Lib.OthersKept.refl _ _ _⟩
set_option maxHeartbeats 2000000 in
set_option maxRecDepth 100000 in
theorem Tryd.WriteString_k (B b : Nat) (bs : List Value) (s : ByteArray) (w : World) (h : Lib.IsBuilderF 62 5 B b bs w) (hlen : bs.length + s.size ≤ 140737488355328) (hBw : B ≤ w.heap.size) :
    Calls Tryd.prog 29 #[.pointer (some ⟨b, 0, none⟩), .string s] w fun e w' => e = .returned (.tuple #[.int .i64 s.size, .nilIface]) ∧ (Lib.BuilderAtF 62 5 B b (.pointer (some ⟨b, 0, none⟩)) (bs ++ Lib.strCells s) w' ∧ Below B w w' ∧ Lib.OthersKept 5 (some b) w w') := by
  obtain ⟨i0, hi, hz0, hz1, hz2⟩ := info_parts Tryd.Builder_Extra_169.infoByte
  have e240 : ∀ args w, (callFunc 34 args).run Tryd.prog w = .ok (.enter 34 args) w := enters_of Tryd.func34 (by kernel_rfl) rfl
  go_enter Tryd.func29, Tryd.ntmps29
  go_wp2_with (go_at_fn 34; refine (Tryd.copyCheck_k B b bs _ h).mono ?_)
  rintro e w1 ⟨rfl, h1, hb1, hk1⟩
  obtain ⟨hB, v, hbk, hown, hne⟩ := h1
  have c0 : w1.cell? ⟨b, 0, none⟩ = some (.pointer (some ⟨b, 0, none⟩)) := by rw [Lib.cell_of_heap hbk]; rfl
  have c1 : w1.cell? ⟨b, 1, none⟩ = some v := by rw [Lib.cell_of_heap hbk]; rfl
  go_wp2_with (at_builtin; refine Lib.wpList_append_own_stringF _ rfl _ _ 42 9 rfl B 5 i0 Tryd.underlying42 Tryd.underlying9 hi hz0 hz1 hz2 _ _ _ rfl hown s rfl ?c3 ?c4 ?c5 ?_)
  case c3 => unfold maxLen; omega
  case c4 => omega
  case c5 => have := hb1.size; omega
  intro v' w2 hown' hgrow _
  have hlt : b < w1.heap.size := by
    rcases Nat.lt_or_ge b w1.heap.size with h' | h'
    · exact h'
    · simp [Array.getElem?_eq_none h'] at hbk
  have hb2 : w2.heap[b]? = some (.cells #[.pointer (some ⟨b, 0, none⟩), v] 62 (0, 0)) := by
    rw [hgrow.block b hlt (fun e => hne e.symm)]
    exact hbk
  have d0 : w2.cell? ⟨b, 0, none⟩ = some (.pointer (some ⟨b, 0, none⟩)) := by rw [Lib.cell_of_heap hb2]; rfl
  have d1 : w2.cell? ⟨b, 1, none⟩ = some v := by rw [Lib.cell_of_heap hb2]; rfl
  have f1 : w2.frozen? ⟨b, 1, none⟩ = false := Lib.frozen_of_heap hb2 1
  obtain ⟨ao, n', cap, rfl⟩ : ∃ ao n' cap, v' = .slice ao n' cap := by
    rcases hown'.2 with ⟨hv, _⟩ | ⟨g, cap, cur, fz, hv, _⟩
    · exact ⟨_, _, _, hv⟩
    · exact ⟨_, _, _, hv⟩
  go_wp2
  go_ret2
  refine ⟨rfl, ?_, ?_, (hk1.grown hgrow (Lib.ownsRowF_kind hown)).setCell ⟨b, 1, none⟩ rfl _⟩
  · exact Lib.BuilderAtF.put (T := 62) (e := 5) hB hb2 (bs' := bs ++ Lib.strCells s) (by simpa [Lib.strCells_length] using hown') (by decide)
  · exact (hb1.grown hgrow (by have := hb1.size; omega) (fun k hk => (hown.lt k hk).1)).setCell (p := ⟨b, 1, none⟩) hB _
end Go.Proofs
end

section
set_option linter.unusedVariables false
namespace Go.Proofs
open Go.Shelf Go.RowKit
def strSz : Value → Nat
  | .string b => b.size
  | _ => 0
/-- What is read: the text, what follows, whether there is one. -/
def tkB : Nat → List UInt8 → ByteArray → ByteArray × ByteArray × Bool
  | 0, _, _ => (⟨#[]⟩, ⟨#[]⟩, false)
  | f + 1, acc, s => if s.size ≤ 7 then (⟨#[]⟩, ⟨#[]⟩, false)
    else if (s.get! 7).toNat = 8 then tkB f (acc ++ (s.extract 0 7).data.toList) (s.extract 8 s.size)
    else if (s.get! 7).toNat < 7 ∧ Lib.trimB ((s.extract 0 7).extract (s.get! 7).toNat 7).data.toList 0 = [] then (⟨(acc ++ ((s.extract 0 7).extract 0 (s.get! 7).toNat).data.toList).toArray⟩, s.extract 8 s.size, true)
    else (⟨#[]⟩, ⟨#[]⟩, false)
theorem wrapm (m : Nat) (h : m < 256) : wrap64 ((m : Nat) : Int) = ((m : Nat) : Int) := by
  unfold wrap64
  omega
set_option maxHeartbeats 4000000 in
set_option maxRecDepth 1000000 in
theorem Tryd.takeText_walk (s : ByteArray) (w : World) (hs : s.size ≤ 35184372088832) :
    Calls Tryd.prog 22 #[.string s] w fun e w' => e = .returned (.tuple #[.string (tkB (s.size + 1) [] s).1, .string (tkB (s.size + 1) [] s).2.1, .bool (tkB (s.size + 1) [] s).2.2]) ∧ Below w.heap.size w w' := by
  go_enter Tryd.func22, Tryd.ntmps22
  go_wp2
  go_loopw [0] (fun v wr => ∃ (cur : ByteArray) (fuel : Nat) (acc : List UInt8), v = .string cur ∧ Lib.IsBuilderF 62 5 w.heap.size w.heap.size (Lib.byteCells acc) wr ∧ Below w.heap.size w wr ∧ tkB fuel acc cur = tkB (s.size + 1) [] s ∧ cur.size < fuel ∧ acc.length + cur.size ≤ s.size) (fun v _ => strSz v)
  case atStart =>
    exact ⟨s, s.size + 1, [], rfl, Lib.IsBuilderF.of (Lib.fresh_isBuilder 62 5 w), (Below.refl _ w).alloc (Nat.le_refl _) _, rfl, by omega, by simp⟩
  case round =>
    obtain ⟨cur, fuel, acc, rfl, hI, hbw, hacc, hfu, hal⟩ := hrel
    by_cases hp : 7 < cur.size
    · have hpi : (7 : Int) < cur.size := by omega
      go_wp2
      go_quiet (fail)
      have hbq : Below w.heap.size w (wr.drewN nq) := hbw.trans ⟨rfl, rfl, rfl, Nat.le_refl _, fun _ _ => rfl⟩
      have h256 : cur[7].toNat < 256 := cur[7].toNat_lt
      generalize hm : cur[7].toNat = m at h256 ⊢
      rw [wrapm m h256]
      have hsz2 : w.heap.size ≤ (wr.drewN nq).heap.size := hbq.size
      by_cases h8 : m = 8
      · rw [h8]
        have hI2 : Lib.IsBuilderF 62 5 w.heap.size w.heap.size (Lib.byteCells acc) (wr.drewN nq) := hI
        go_wp2_with (go_at_call 29; refine (Tryd.WriteString_k w.heap.size w.heap.size _ _ _ hI2 (by rw [Lib.byteCells_length]; simp; omega) hsz2).mono ?_)
        rintro e W1 ⟨rfl, h1, b1, k1⟩
        go_wp2
        go_roundw
        case rel =>
          obtain ⟨f, rfl⟩ : ∃ f, fuel = f + 1 := ⟨fuel - 1, by omega⟩
          have hx : (cur.extract 8 cur.size).size = cur.size - 8 := by rw [ByteArray.size_extract]; omega
          have hg : (cur.extract 0 7).data.toList.length = 7 := by
            have : (cur.extract 0 7).size = 7 := by rw [ByteArray.size_extract]; omega
            rw [Array.length_toList]
            exact this
          refine ⟨cur.extract 8 cur.size, f, acc ++ (cur.extract 0 7).data.toList, rfl, ?_, hbq.trans b1, ?_, by omega, by rw [List.length_append, hg, hx]; omega⟩
          · rw [Lib.byteCells_append]
            exact Or.inr h1
          · rw [← hacc]
            conv => rhs; rw [tkB]
            rw [if_neg (by omega), if_pos (by rw [← h8, ← hm]; simp [ByteArray.get!, hp]; rfl)]
        case measure =>
          show (cur.extract 8 cur.size).size < cur.size
          rw [ByteArray.size_extract]
          omega
      · have h8i : ¬ (m : Int) = 8 := by omega
        by_cases h7 : m < 7
        · have h7i : (m : Int) < 7 := by omega
          have hmin : min 7 cur.size = 7 := by omega
          have hsz : (cur.extract 0 7).size = 7 := by rw [ByteArray.size_extract]; omega
          go_wp2_with (go_at_call 30; refine (Tryd.strings_Trim_one ((cur.extract 0 7).extract m 7) 0 (by decide) _ (by rw [ByteArray.size_extract]; omega)).mono ?_)
          rintro e W1 ⟨rfl, hW⟩
          have hI3 : Lib.IsBuilderF 62 5 w.heap.size w.heap.size (Lib.byteCells acc) W1 := by rcases hW with rfl | rfl <;> exact hI
          have hb3 : Below w.heap.size w W1 := by
            rcases hW with rfl | rfl
            · exact hbq
            · exact hbq.drew
          have hsz3 := hb3.size
          have htr : (⟨(Lib.trimB ((cur.extract 0 7).extract m 7).data.toList 0).toArray⟩ : ByteArray) = ⟨#[]⟩ ↔ Lib.trimB ((cur.extract 0 7).extract m 7).data.toList 0 = [] := by
            constructor
            · intro h
              have := congrArg (fun z : ByteArray => z.data.toList) h
              simpa using this
            · intro h
              rw [h]
          generalize (⟨(Lib.trimB ((cur.extract 0 7).extract m 7).data.toList 0).toArray⟩ : ByteArray) = z at htr ⊢
          clear hW
          by_cases hz : z = ⟨#[]⟩
          · rw [hz]
            go_wp2_with (go_at_call 29; refine (Tryd.WriteString_k w.heap.size w.heap.size _ _ _ hI3 (by rw [Lib.byteCells_length, ByteArray.size_extract]; omega) hsz3).mono ?_)
            rintro e W2 ⟨rfl, h1, b1, k1⟩
            have h1' : Lib.IsBuilderF 62 5 w.heap.size w.heap.size (Lib.byteCells (acc ++ ((cur.extract 0 7).extract 0 m).data.toList)) W2 := by
              rw [Lib.byteCells_append]
              exact Or.inr h1
            obtain ⟨gl, hgl⟩ : ∃ gl, ((cur.extract 0 7).extract 0 m).data.toList = gl := ⟨_, rfl⟩
            rw [hgl] at h1'
            have HG : Hid (((cur.extract 0 7).extract 0 m).data.toList = gl) := hgl
            clear hgl h1
            go_wp2_with (go_at_call 31; refine (Tryd.Builder_String_any_k w.heap.size w.heap.size (acc ++ gl) _ h1' (by have := b1.size; omega)).mono ?_)
            rintro e W3 ⟨rfl, _, b2, _⟩
            go_wp2
            first | go_ret3 | go_end0
            obtain ⟨f, rfl⟩ : ∃ f, fuel = f + 1 := ⟨fuel - 1, by omega⟩
            have hgm : (cur.get! 7).toNat = m := by rw [← hm]; simp [ByteArray.get!, hp]; rfl
            rw [tkB, if_neg (by omega), if_neg (by rw [hgm]; exact h8), if_pos (by rw [hgm]; exact ⟨h7, htr.1 hz⟩), hgm, HG.out] at hacc
            rw [← hacc]
            exact ⟨rfl, (hb3.trans b1).trans b2⟩
          · have hze : z.toList.isEmpty = false := by
              cases hq : z.toList.isEmpty with
              | false => rfl
              | true =>
                refine absurd ?_ hz
                have h0 : z.toList = [] := List.isEmpty_iff.1 hq
                have h1 : z.data.toList = [] := by rw [← ByteArray.toList_eq] <;> exact h0
                cases z
                simp at h1
                rw [h1]
            go_wp2
            first | go_ret3 | go_end0
            obtain ⟨f, rfl⟩ : ∃ f, fuel = f + 1 := ⟨fuel - 1, by omega⟩
            have hgm : (cur.get! 7).toNat = m := by rw [← hm]; simp [ByteArray.get!, hp]; rfl
            rw [tkB, if_neg (by omega), if_neg (by rw [hgm]; exact h8), if_neg (by rw [hgm]; exact fun q => hz (htr.2 q.2))] at hacc
            rw [← hacc]
            exact ⟨rfl, hb3⟩
        · have h7i : ¬ (m : Int) < 7 := by omega
          go_wp2
          first | go_ret3 | go_end0
          obtain ⟨f, rfl⟩ : ∃ f, fuel = f + 1 := ⟨fuel - 1, by omega⟩
          have hgm : (cur.get! 7).toNat = m := by rw [← hm]; simp [ByteArray.get!, hp]; rfl
          rw [tkB, if_neg (by omega), if_neg (by rw [hgm]; exact h8), if_neg (by rw [hgm]; exact fun q => h7 q.1)] at hacc
          rw [← hacc]
          exact ⟨rfl, hbq⟩
    · go_wp2
      obtain ⟨f, rfl⟩ : ∃ f, fuel = f + 1 := ⟨fuel - 1, by omega⟩
      rw [tkB, if_pos (by omega)] at hacc
      rw [← hacc]
      first | go_ret3 | go_end0
      exact ⟨rfl, hbw⟩
end Go.Proofs
end

section
set_option linter.unusedVariables false
set_option linter.unusedSimpArgs false
namespace Go.Proofs.YtcdfdnmnnepnoaaDoor
open Go.Am Go.Shelf
/-- What is asked of the function that reads a text. -/
def tkV (s : List UInt8) : AV := match tkR s with
  | none => .tu [.sc (.string (str [])), .sc (.string (str [])), .sc (.bool false)]
  | some (a, r) => .tu [.sc (.string (str a)), .sc (.string (str r)), .sc (.bool true)]
structure Tk (P : Program) : Prop where
  take : ∀ (s : List UInt8) (h : Heap), s.length ≤ 1099511627776 → AWF P ann 0 22 [.sc (.string (str s))] h fun v h' => v = tkV s ∧ h' = h
theorem trim_nil {l : List UInt8} : Lib.trimB l 0 = [] ↔ l.all (· == 0) = true := by
  have hl : ∀ l : List UInt8, l.dropWhile (· == 0) = [] ↔ l.all (· == 0) = true := by
    intro l
    induction l with
    | nil => simp
    | cons a l ih =>
      rw [List.dropWhile_cons, List.all_cons]
      by_cases ha : a = 0
      · subst ha
        simpa using ih
      · simp [ha]
  unfold Lib.trimB Lib.trimLeftB Lib.trimRightB
  rw [hl, List.all_reverse]
  constructor
  · intro h
    rw [← List.all_reverse, ← hl]
    cases hd : l.reverse.dropWhile (· == 0) with
    | nil => rfl
    | cons a t =>
      have h1 : a == (0 : UInt8) := by
        rw [hd] at h
        exact (by simpa using h : _ ∧ _).1 |> fun q => by simpa using q
      have := List.head?_dropWhile_not (p := fun x : UInt8 => x == 0) (l := l.reverse)
      rw [hd] at this
      simp at this
      simp at h1
      exact absurd h1 this
  · intro h
    rw [← List.all_reverse, ← hl] at h
    rw [h]
    rfl
theorem str_get {l : List UInt8} (h : 8 ≤ l.length) : (str l).get! 7 = l[7]! := by
  have h7 : 7 < l.length := by omega
  simp [str, ByteArray.get!, h7]
theorem tkB_eq : ∀ (f : Nat) (acc s : List UInt8), s.length < f → Go.Proofs.tkB f acc (str s) = match tkR s with
    | none => (⟨#[]⟩, ⟨#[]⟩, false)
    | some (a, r) => (str (acc ++ a), str r, true)
  | 0, acc, s, h => by omega
  | f + 1, acc, s, h => by
    rw [tkB, tkR, str_size]
    by_cases h7 : s.length ≤ 7
    · rw [if_pos h7, dif_pos h7]
    rw [if_neg h7, dif_neg h7, str_get (by omega)]
    have ex : (str s).extract 8 s.length = str (s.drop 8) := by rw [str_extract, List.take_length]
    have e7 : (str s).extract 0 7 = str (s.take 7) := by rw [str_extract, List.drop_zero]
    rw [ex, e7]
    generalize hb : s[7]! = b
    by_cases h8 : b.toNat = 8
    · rw [if_pos h8, if_pos h8, tkB_eq f _ _ (by simp; omega)]
      have : (str (s.take 7)).data.toList = s.take 7 := rfl
      rw [this]
      cases tkR (s.drop 8) with
      | none => rfl
      | some p => simp
    rw [if_neg h8, if_neg h8]
    have e1 : (str (s.take 7)).extract b.toNat 7 = str ((s.take 7).drop b.toNat) := by rw [str_extract, List.take_take, Nat.min_self]
    have e2 : (str (s.take 7)).extract 0 b.toNat = str ((s.take 7).take b.toNat) := by rw [str_extract, List.drop_zero]
    have e3 : (str ((s.take 7).drop b.toNat)).data.toList = (s.take 7).drop b.toNat := rfl
    have e4 : (str ((s.take 7).take b.toNat)).data.toList = (s.take 7).take b.toNat := rfl
    rw [e1, e2, e3, e4]
    by_cases hq : b.toNat < 7 ∧ ((s.take 7).drop b.toNat).all (· == 0) = true
    · rw [if_pos ⟨hq.1, trim_nil.2 hq.2⟩, if_pos hq, List.take_take, Nat.min_eq_left (by omega)]
      rfl
    · rw [if_neg fun q => hq ⟨q.1, trim_nil.1 q.2⟩, if_neg hq]
theorem tk : Tk Tryd.prog where
  take s h hs := by
    have hw := fun w => Tryd.takeText_walk (str s) w (by rw [str_size]; omega)
    rw [str_size, tkB_eq _ _ _ (Nat.lt_succ_self _)] at hw
    unfold tkV
    revert hw
    cases tkR s with
    | none => exact fun hw => .sem (M5_grow (P := Tryd.prog) (args := [.string (str s)]) (rs := [.string ⟨#[]⟩, .string ⟨#[]⟩, .bool false]) ⟨_, Tryd.func22, rfl, by decide⟩ (by simp [scalarV]) fun w => hw w)
    | some p => exact fun hw => .sem (M5_grow (P := Tryd.prog) (args := [.string (str s)]) (rs := [.string (str p.1), .string (str p.2), .bool true]) ⟨_, Tryd.func22, rfl, by decide⟩ (by simp [scalarV]) fun w => hw w)
end Go.Proofs.YtcdfdnmnnepnoaaDoor
end

section
set_option linter.unusedVariables false
set_option linter.unusedSimpArgs false
namespace Go.Proofs.YtcdfdnmnnepnoaaDoor
open Go.Am
section
variable {P : Program} {t : Nat → AV} {h : Heap}
def aexIxs (t : Nat → AV) (h : Heap) (i : AV) : AV → Option AR
  | .sc (.string b) => (asI i).bind fun i => if 0 ≤ i then (b[i.toNat]?).bind fun c => some (.val (.sc (.int .u8 c.toNat)) t h) else none
  | _ => none
theorem aex_ixs {x i : Opd} : aex P (.ixs x i) ⟨t, h⟩ = aexIxs t h (i.ev t) (x.ev t) := by
  simp only [aex, aexIxs]
  generalize asI (i.ev t) = q
  cases q <;> cases x.ev t <;> first | rfl | (rename_i v; cases v <;> rfl)
theorem str_at {l : List UInt8} {i : Nat} : (str l)[i]? = l[i]? := by
  by_cases hi : i < l.length
  · rw [getElem?_pos (str l) i (by rw [str_size]; exact hi), List.getElem?_eq_getElem hi]
    rfl
  · rw [getElem?_neg (str l) i (by rw [str_size]; exact hi), List.getElem?_eq_none (by omega)]
theorem ixs_nat {l : List UInt8} {k : IntKind} {i : Nat} : aexIxs t h (.sc (.int k (i : Nat))) (.sc (.string (str l))) = (l[i]?).bind fun c => some (.val (.sc (.int .u8 c.toNat)) t h) := by
  show (if 0 ≤ ((i : Nat) : Int) then ((str l)[((i : Nat) : Int).toNat]?).bind _ else none) = _
  rw [if_pos (Int.natCast_nonneg _), Int.toNat_natCast, str_at]
end
attribute [go_sem ↓] aex_ixs
attribute [go_sem] ixs_nat
def tnV (s : List UInt8) : AV := if 8 ≤ s.length then .tu [.sc (.int .i64 (numOf (s.take 8))), .sc (.string (str (s.drop 8))), .sc (.bool true)] else .tu [.sc (.int .i64 (0 : Nat)), .sc (.string (str [])), .sc (.bool false)]
theorem be_snoc (l : List UInt8) (b : UInt8) : be (l ++ [b]) = be l * 256 + b.toNat := by simp [be]
theorem be_pow' : ∀ (l : List UInt8) (a : Nat), l.foldl (fun a b => a * 256 + b.toNat) a < (a + 1) * 256 ^ l.length
  | [], a => by simp
  | b :: l, a => by
    have h1 := be_pow' l (a * 256 + b.toNat)
    have h2 := b.toNat_lt
    rw [List.foldl_cons, List.length_cons, Nat.pow_succ']
    refine Nat.lt_of_lt_of_le h1 ?_
    rw [← Nat.mul_assoc]
    exact Nat.mul_le_mul_right _ (by omega)
theorem be_pow (l : List UInt8) : be l < 256 ^ l.length := by have := be_pow' l 0; rw [Nat.zero_add, Nat.one_mul] at this; exact this
variable {P : Program} (H : Has P)
include H
theorem takeNumber_ok (s : List UInt8) (h : Heap) : AWF P ann 0 21 [.sc (.string (str s))] h fun v h' => v = tnV s ∧ h' = h := by
  refine AWF.fnc H.f0_21 rfl ?_
  (refine W_seq_gen fun N hN => ?_); simp (disch := first | omega | (simp only [List.length_cons, List.length_nil, List.length_append, u8s_len]; omega)) only [go_sem, ↓reduceIte, true_and, Nat.reduceLeDiff, Nat.reduceEqDiff, Nat.reduceAdd, Nat.reduceBEq, Int.reduceEq, H.cv_3_5, H.cv_3_56, H.cv_5_3, H.cv_5_56, H.cv_56_3, H.cv_56_5]
  refine hN _ ?_; clear hN N
  by_cases h8 : s.length < 8
  · have h8n : ¬ 8 ≤ s.length := by omega
    (refine W_seq_gen fun N hN => ?_); simp (disch := first | omega | (simp only [List.length_cons, List.length_nil, List.length_append, u8s_len]; omega)) only [go_sem, ↓reduceIte, true_and, Nat.reduceLeDiff, Nat.reduceEqDiff, Nat.reduceAdd, Nat.reduceBEq, Int.reduceEq, H.cv_3_5, H.cv_3_56, H.cv_5_3, H.cv_5_56, H.cv_56_3, H.cv_56_5, h8]
    unfold tnV
    rw [if_neg h8n]
    rfl
  have h8p : 8 ≤ s.length := by omega
  (refine W_seq_gen fun N hN => ?_); simp (disch := first | omega | (simp only [List.length_cons, List.length_nil, List.length_append, u8s_len]; omega)) only [go_sem, ↓reduceIte, true_and, Nat.reduceLeDiff, Nat.reduceEqDiff, Nat.reduceAdd, Nat.reduceBEq, Int.reduceEq, H.cv_3_5, H.cv_3_56, H.cv_5_3, H.cv_5_56, H.cv_56_3, H.cv_56_5, h8]
  refine hN _ ?_; clear hN N
  (refine W_seq_gen fun N hN => ?_); simp (disch := first | omega | (simp only [List.length_cons, List.length_nil, List.length_append, u8s_len]; omega)) only [go_sem, ↓reduceIte, true_and, Nat.reduceLeDiff, Nat.reduceEqDiff, Nat.reduceAdd, Nat.reduceBEq, Int.reduceEq, H.cv_3_5, H.cv_3_56, H.cv_5_3, H.cv_5_56, H.cv_56_3, H.cv_56_5]
  refine hN _ ?_; clear hN N
  (refine W_seq_gen fun M hM => ?_)
  (refine W_seq_gen fun N hN => ?_); simp (disch := first | omega | (simp only [List.length_cons, List.length_nil, List.length_append, u8s_len]; omega)) only [go_sem, ↓reduceIte, true_and, Nat.reduceLeDiff, Nat.reduceEqDiff, Nat.reduceAdd, Nat.reduceBEq, Int.reduceEq, H.cv_3_5, H.cv_3_56, H.cv_5_3, H.cv_5_56, H.cv_56_3, H.cv_56_5]
  refine hN _ ?_; clear hN N
  simp (disch := first | omega | (simp only [List.length_cons, List.length_nil, List.length_append, u8s_len]; omega)) only [go_sem, ↓reduceIte, true_and, Nat.reduceLeDiff, Nat.reduceEqDiff, Nat.reduceAdd, Nat.reduceBEq, Int.reduceEq, H.cv_3_5, H.cv_3_56, H.cv_5_3, H.cv_5_56, H.cv_56_3, H.cv_56_5]
  refine AW_loopN (fun n t h' => h' = h ∧ ∃ i, n = 8 - i ∧ i ≤ 8 ∧ t 0 = .sc (.string (str s)) ∧ t 5 = .sc (.int .u64 (be (s.take i) : Nat)) ∧ t 10 = .sc (.int .i64 (i : Nat)))
    (n := 8) ⟨rfl, 0, rfl, Nat.zero_le _, rfl, rfl, rfl⟩ ?_
  rintro n t h' ⟨rfl, i, rfl, hi, t0, t5, t10⟩
  rcases Nat.lt_or_ge i 8 with hlt | hge
  · have g0 : s[i]? = some s[i] := List.getElem?_eq_getElem (by omega)
    have hbl := s[i].toNat_lt
    have hp : be (s.take i) < 72057594037927936 := by
      have h1 := be_pow (s.take i)
      have h2 : (s.take i).length ≤ 7 := by simp; omega
      exact Nat.lt_of_lt_of_le h1 (Nat.le_trans (Nat.pow_le_pow_right (by decide) h2) (by decide))
    have hsn : be (s.take (i + 1)) = be (s.take i) * 256 + s[i].toNat := by rw [List.take_add_one, g0, ← be_snoc]; rfl
    have q1 : scalarBin P .shl 56 (.int .u64 (be (s.take i) : Nat)) (.int .u64 ((8 : Nat) : Int)) = some (.int .u64 ((be (s.take i) * 256 : Nat) : Int)) := by
      rw [sb_shl (by omega)]
      have : (2 : Int) ^ (min ((8 : Nat) : Int).toNat IntKind.u64.bits) = 256 := by decide
      rw [this, wrap_u64m]
      congr 2
      omega
    have hor : be (s.take i) * 256 ||| s[i].toNat = be (s.take (i + 1)) := by
      rw [hsn, Nat.mul_comm]
      exact (Nat.two_pow_add_eq_or_of_lt (i := 8) hbl _).symm
    have q2 : scalarBin P .or 56 (.int .u64 ((be (s.take i) * 256 : Nat) : Int)) (.int .u64 (s[i].toNat : Nat)) = some (.int .u64 (be (s.take (i + 1)) : Nat)) := by
      rw [← hor]
      exact sb_or rfl (Nat.lt_of_lt_of_le (by omega) (Nat.le_refl (2 ^ 64))) (Nat.lt_of_lt_of_le (by omega) (Nat.le_refl (2 ^ 64)))
    have q3 : IntKind.u64.wrap ((s[i].toNat : Nat) : Int) = ((s[i].toNat : Nat) : Int) := by rw [wrap_u64m]; omega
    (refine W_seq_gen fun N hN => ?_); simp (disch := first | omega | (simp only [List.length_cons, List.length_nil, List.length_append, u8s_len]; omega)) only [go_sem, ↓reduceIte, true_and, Nat.reduceLeDiff, Nat.reduceEqDiff, Nat.reduceAdd, Nat.reduceBEq, Int.reduceEq, H.cv_3_5, H.cv_3_56, H.cv_5_3, H.cv_5_56, H.cv_56_3, H.cv_56_5, t10, hlt]
    refine hN _ ?_; clear hN N
    (refine W_seq_gen fun N hN => ?_); simp (disch := first | omega | (simp only [List.length_cons, List.length_nil, List.length_append, u8s_len]; omega)) only [go_sem, ↓reduceIte, true_and, Nat.reduceLeDiff, Nat.reduceEqDiff, Nat.reduceAdd, Nat.reduceBEq, Int.reduceEq, H.cv_3_5, H.cv_3_56, H.cv_5_3, H.cv_5_56, H.cv_56_3, H.cv_56_5]
    refine hN _ ?_; clear hN N
    (refine W_seq_gen fun N hN => ?_)
    rw [W_block]
    (refine W_seq_gen fun N hN => ?_); simp (disch := first | omega | (simp only [List.length_cons, List.length_nil, List.length_append, u8s_len]; omega)) only [go_sem, ↓reduceIte, true_and, Nat.reduceLeDiff, Nat.reduceEqDiff, Nat.reduceAdd, Nat.reduceBEq, Int.reduceEq, H.cv_3_5, H.cv_3_56, H.cv_5_3, H.cv_5_56, H.cv_56_3, H.cv_56_5, t10]
    refine hN _ ?_; clear hN N
    simp (disch := first | omega | (simp only [List.length_cons, List.length_nil, List.length_append, u8s_len]; omega)) only [go_sem, ↓reduceIte, true_and, Nat.reduceLeDiff, Nat.reduceEqDiff, Nat.reduceAdd, Nat.reduceBEq, Int.reduceEq, H.cv_3_5, H.cv_3_56, H.cv_5_3, H.cv_5_56, H.cv_56_3, H.cv_56_5, t0, t5, q1, g0, Option.bind_some, q3, q2]
    refine hN _ ?_; clear hN N
    simp (disch := first | omega | (simp only [List.length_cons, List.length_nil, List.length_append, u8s_len]; omega)) only [go_sem, ↓reduceIte, true_and, Nat.reduceLeDiff, Nat.reduceEqDiff, Nat.reduceAdd, Nat.reduceBEq, Int.reduceEq, H.cv_3_5, H.cv_3_56, H.cv_5_3, H.cv_5_56, H.cv_56_3, H.cv_56_5, t10, nat_add]
    exact ⟨8 - (i + 1), by omega, i + 1, rfl, by omega, t0, rfl, rfl⟩
  obtain rfl : i = 8 := by omega
  have hU : IntKind.i64.wrap (IntKind.u64.wrap ((be (s.take 8) : Nat) - ((4611686018427387904 : Nat) : Int))) = numOf (s.take 8) := by
    have := be_lt (l := s.take 8) (by simp; omega)
    simp only [IntKind.wrap, IntKind.bits, IntKind.signed]
    simp
    unfold numOf
    omega
  (refine W_seq_gen fun N hN => ?_); simp (disch := first | omega | (simp only [List.length_cons, List.length_nil, List.length_append, u8s_len]; omega)) only [go_sem, ↓reduceIte, true_and, Nat.reduceLeDiff, Nat.reduceEqDiff, Nat.reduceAdd, Nat.reduceBEq, Int.reduceEq, H.cv_3_5, H.cv_3_56, H.cv_5_3, H.cv_5_56, H.cv_56_3, H.cv_56_5, t10, Nat.lt_irrefl]
  refine hN _ ?_; clear hN N
  (refine W_seq_gen fun N hN => ?_); simp (disch := first | omega | (simp only [List.length_cons, List.length_nil, List.length_append, u8s_len]; omega)) only [go_sem, ↓reduceIte, true_and, Nat.reduceLeDiff, Nat.reduceEqDiff, Nat.reduceAdd, Nat.reduceBEq, Int.reduceEq, H.cv_3_5, H.cv_3_56, H.cv_5_3, H.cv_5_56, H.cv_56_3, H.cv_56_5]
  refine hM _ ?_; clear hN N hM M
  (refine W_seq_gen fun N hN => ?_); simp (disch := first | omega | (simp only [List.length_cons, List.length_nil, List.length_append, u8s_len]; omega)) only [go_sem, ↓reduceIte, true_and, Nat.reduceLeDiff, Nat.reduceEqDiff, Nat.reduceAdd, Nat.reduceBEq, Int.reduceEq, H.cv_3_5, H.cv_3_56, H.cv_5_3, H.cv_5_56, H.cv_56_3, H.cv_56_5, t5, t0, sls_l (l := s) (u := 8) h8p]
  refine hN _ ?_; clear hN N
  simp (disch := first | omega | (simp only [List.length_cons, List.length_nil, List.length_append, u8s_len]; omega)) only [go_sem, ↓reduceIte, true_and, Nat.reduceLeDiff, Nat.reduceEqDiff, Nat.reduceAdd, Nat.reduceBEq, Int.reduceEq, H.cv_3_5, H.cv_3_56, H.cv_5_3, H.cv_5_56, H.cv_56_3, H.cv_56_5]
  unfold tnV
  rw [if_pos h8p]
  rw [hU]
end Go.Proofs.YtcdfdnmnnepnoaaDoor
end

section
set_option linter.unusedVariables false
set_option linter.unusedSimpArgs false
namespace Go.Proofs.YtcdfdnmnnepnoaaDoor
open Go.Am
def ParR : Option (List Vl) → AV → Prop
  | some l, r => ∃ v, r = .tu [v, .sc (.int .i64 (0 : Nat))] ∧ SL 5 v (vls l)
  | none, r => r = .tu [.sc (.slice none 0 0), .sc (.int .i64 (5 : Nat))]
theorem str_ne {k : UInt8} {l : List UInt8} : (str (k :: l) = ⟨#[]⟩) = False := by
  simp [str]
theorem str_nil : (str [] = ⟨#[]⟩) = True := by simp [str]
variable {P : Program} (H : Has P) (HC : HasC P) (T : Tk P)
include H HC T
set_option maxHeartbeats 4000000 in
theorem parse_ok (s : List UInt8) (hs : s.length ≤ 1099511627776) (h : Heap) : AWF P ann 0 10 [.sc (.string (str s))] h fun r h' => ParR (prs (s.length + 1) 0 s) r ∧ h' = h := by
  refine AWF.fnPurec H.f0_10 rfl ?_
  (refine W_seq_gen fun N hN => ?_); simp (disch := first | omega | (simp only [List.length_cons, List.length_nil, List.length_append, u8s_len]; omega)) only [go_sem, ↓reduceIte, true_and, Nat.reduceLeDiff, Nat.reduceEqDiff, Nat.reduceAdd, Nat.reduceBEq, Int.reduceEq, H.cv_3_5, H.cv_3_56, H.cv_5_3, H.cv_5_56, H.cv_56_3, H.cv_56_5]
  refine hN _ ?_; clear hN N
  (refine W_seq_gen fun N hN => ?_); simp (disch := first | omega | (simp only [List.length_cons, List.length_nil, List.length_append, u8s_len]; omega)) only [go_sem, ↓reduceIte, true_and, Nat.reduceLeDiff, Nat.reduceEqDiff, Nat.reduceAdd, Nat.reduceBEq, Int.reduceEq, H.cv_3_5, H.cv_3_56, H.cv_5_3, H.cv_5_56, H.cv_56_3, H.cv_56_5]
  refine hN _ ?_; clear hN N
  (refine W_seq_gen fun M hM => ?_)
  (refine W_seq_gen fun N hN => ?_); simp (disch := first | omega | (simp only [List.length_cons, List.length_nil, List.length_append, u8s_len]; omega)) only [go_sem, ↓reduceIte, true_and, Nat.reduceLeDiff, Nat.reduceEqDiff, Nat.reduceAdd, Nat.reduceBEq, Int.reduceEq, H.cv_3_5, H.cv_3_56, H.cv_5_3, H.cv_5_56, H.cv_56_3, H.cv_56_5]
  refine hN _ ?_; clear hN N
  simp (disch := first | omega | (simp only [List.length_cons, List.length_nil, List.length_append, u8s_len]; omega)) only [go_sem, ↓reduceIte, true_and, Nat.reduceLeDiff, Nat.reduceEqDiff, Nat.reduceAdd, Nat.reduceBEq, Int.reduceEq, H.cv_3_5, H.cv_3_56, H.cv_5_3, H.cv_5_56, H.cv_56_3, H.cv_56_5]
  refine AW_loopN (fun n t h' => (∀ o, ¬ h o = none → h' o = h o) ∧ ∃ (s' : List UInt8) (ls : List Vl) (f : Nat) (z : AV), n = s'.length ∧ t 5 = .sc (.string (str s')) ∧ t 4 = z ∧ SG 5 z (vls ls) ∧ s'.length < f ∧ s'.length ≤ s.length ∧ ls.length ≤ 16 ∧ prs (s.length + 1) 0 s = (prs f ls.length s').map (ls ++ ·))
    (n := s.length) ⟨fun _ _ => rfl, s, [], s.length + 1, _, rfl, rfl, rfl, SG.nil, by omega, Nat.le_refl _, by simp, by simp⟩ ?_
  rintro n t h' ⟨hh, s', ls, f, z, rfl, t5, t4, hz, hf, hsl, hll, he⟩
  cases s' with
  | nil =>
    (refine W_seq_gen fun N hN => ?_); simp (disch := first | omega | (simp only [List.length_cons, List.length_nil, List.length_append, u8s_len]; omega)) only [go_sem, ↓reduceIte, true_and, Nat.reduceLeDiff, Nat.reduceEqDiff, Nat.reduceAdd, Nat.reduceBEq, Int.reduceEq, H.cv_3_5, H.cv_3_56, H.cv_5_3, H.cv_5_56, H.cv_56_3, H.cv_56_5, t5, str_nil]
    refine hM _ ?_; clear hN N hM M
    simp (disch := first | omega | (simp only [List.length_cons, List.length_nil, List.length_append, u8s_len]; omega)) only [go_sem, ↓reduceIte, true_and, Nat.reduceLeDiff, Nat.reduceEqDiff, Nat.reduceAdd, Nat.reduceBEq, Int.reduceEq, H.cv_3_5, H.cv_3_56, H.cv_5_3, H.cv_5_56, H.cv_56_3, H.cv_56_5, t4]
    rw [he]
    have hp : prs f ls.length [] = some [] := by rw [prs]
    rw [hp]
    exact ⟨⟨_, rfl, by simpa using hz.sl.dis⟩, hh⟩
  | cons k s1 =>
    (refine W_seq_gen fun N hN => ?_); simp (disch := first | omega | (simp only [List.length_cons, List.length_nil, List.length_append, u8s_len]; omega)) only [go_sem, ↓reduceIte, true_and, Nat.reduceLeDiff, Nat.reduceEqDiff, Nat.reduceAdd, Nat.reduceBEq, Int.reduceEq, H.cv_3_5, H.cv_3_56, H.cv_5_3, H.cv_5_56, H.cv_56_3, H.cv_56_5, t5, str_ne]
    refine hN _ ?_; clear hN N
    rw [W_block]
    have g0 : (k :: s1)[(0 : Nat)]? = some k := rfl
    have hk : IntKind.i64.wrap ((k.toNat : Nat) : Int) = ((k.toNat : Nat) : Int) := wrap_i64u (by omega) (by have := k.toNat_lt; omega)
    (refine W_seq_gen fun N hN => ?_); simp (disch := first | omega | (simp only [List.length_cons, List.length_nil, List.length_append, u8s_len]; omega)) only [go_sem, ↓reduceIte, true_and, Nat.reduceLeDiff, Nat.reduceEqDiff, Nat.reduceAdd, Nat.reduceBEq, Int.reduceEq, H.cv_3_5, H.cv_3_56, H.cv_5_3, H.cv_5_56, H.cv_56_3, H.cv_56_5, t5, g0, Option.bind_some, hk]
    intro b hb
    have hh2 : ∀ o, ¬ h o = none → upd h' b (some (.arr [.sc (.int .i64 (k.toNat : Nat)), .sc (.int .i64 (0 : Nat)), .sc (.string ⟨#[]⟩), .sc (.int .i64 (0 : Nat)), .sc (.int .i64 (0 : Nat))])) o = h o := fun o ho => by
      have := hh o ho
      rw [upd_keep hb o (by rw [this]; exact ho), this]
    have hnb : h b = none := by
      apply Classical.byContradiction
      intro hq
      exact hq (by rw [← hh b hq]; exact hb)
    have f1 : upd h' b (some (.arr [.sc (.int .i64 (k.toNat : Nat)), .sc (.int .i64 (0 : Nat)), .sc (.string ⟨#[]⟩), .sc (.int .i64 (0 : Nat)), .sc (.int .i64 (0 : Nat))])) b = some (.arr [.sc (.int .i64 (k.toNat : Nat)), .sc (.int .i64 (0 : Nat)), .sc (.string ⟨#[]⟩), .sc (.int .i64 (0 : Nat)), .sc (.int .i64 (0 : Nat))]) := upd_same _ _ _
    refine hN _ ?_; clear hN N
    generalize upd h' b (some (.arr [.sc (.int .i64 (k.toNat : Nat)), .sc (.int .i64 (0 : Nat)), .sc (.string ⟨#[]⟩), .sc (.int .i64 (0 : Nat)), .sc (.int .i64 (0 : Nat))])) = h2 at hh2 f1
    clear hb hh
    have a1 : ∀ (t : Nat → AV) (h : Heap), aexSls t h (some (.sc (.int .i64 ((1 : Nat) : Int)))) none (.sc (.string (str (k :: s1)))) = some (.val (.sc (.string (str s1))) t h) := fun t h => sls_l (l := k :: s1) (u := 1) (by simp)
    refine W_forget (fun t => t 4 = z ∧ t 5 = .sc (.string (str (k :: s1))) ∧ t 6 = .op b 0 ∧ t 7 = .sc (.bool false) ∧ t 8 = .sc (.bool true) ∧ True) (by simp [upd_at, *] <;> (first | rfl | exact ⟨rfl, rfl⟩ | exact ⟨rfl, rfl, rfl⟩ | exact ⟨rfl, rfl, rfl, rfl⟩ | exact ⟨rfl, rfl, rfl, rfl, rfl⟩)) ?_; rintro t ⟨t4, t5, t6, t7, t8, -⟩
    (refine W_seq_gen fun N hN => ?_); simp (disch := first | omega | (simp only [List.length_cons, List.length_nil, List.length_append, u8s_len]; omega)) only [go_sem, ↓reduceIte, true_and, Nat.reduceLeDiff, Nat.reduceEqDiff, Nat.reduceAdd, Nat.reduceBEq, Int.reduceEq, H.cv_3_5, H.cv_3_56, H.cv_5_3, H.cv_5_56, H.cv_56_3, H.cv_56_5, t5, a1]
    refine hN _ ?_; clear hN N
    refine W_forget (fun t => t 4 = z ∧ t 5 = .sc (.string (str s1)) ∧ t 6 = .op b 0 ∧ t 7 = .sc (.bool false) ∧ t 8 = .sc (.bool true) ∧ True) (by simp [upd_at, *] <;> (first | rfl | exact ⟨rfl, rfl⟩ | exact ⟨rfl, rfl, rfl⟩ | exact ⟨rfl, rfl, rfl, rfl⟩ | exact ⟨rfl, rfl, rfl, rfl, rfl⟩)) ?_; rintro t ⟨t4, t5, t6, t7, t8, -⟩
    (refine W_seq_gen fun K hK => ?_)
    obtain ⟨f, rfl⟩ : ∃ g, f = g + 1 := ⟨f - 1, by omega⟩
    rw [prs_cons] at he
    have bad : ∀ (t : Nat → AV) (h3 : Heap) (q1 q2 : Bool), t 7 = .sc (.bool q1) → t 8 = .sc (.bool q2) → (q1 && q2) = false → (∀ o, ¬ h o = none → h3 o = h o) → rdV (k :: s1) = none → K ⟨t, h3⟩ := by
      intro t h3 q1 q2 t7 t8 hq hk3 hr
      refine hK _ ?_; clear hK K
      rw [hr] at he
      cases q1 with
      | false =>
        (refine W_seq_gen fun N hN => ?_); simp (disch := first | omega | (simp only [List.length_cons, List.length_nil, List.length_append, u8s_len]; omega)) only [go_sem, ↓reduceIte, true_and, Nat.reduceLeDiff, Nat.reduceEqDiff, Nat.reduceAdd, Nat.reduceBEq, Int.reduceEq, H.cv_3_5, H.cv_3_56, H.cv_5_3, H.cv_5_56, H.cv_56_3, H.cv_56_5, t7]
        rw [he]
        exact ⟨rfl, hk3⟩
      | true =>
        cases q2 with
        | true => cases hq
        | false =>
          (refine W_seq_gen fun N hN => ?_); simp (disch := first | omega | (simp only [List.length_cons, List.length_nil, List.length_append, u8s_len]; omega)) only [go_sem, ↓reduceIte, true_and, Nat.reduceLeDiff, Nat.reduceEqDiff, Nat.reduceAdd, Nat.reduceBEq, Int.reduceEq, H.cv_3_5, H.cv_3_56, H.cv_5_3, H.cv_5_56, H.cv_56_3, H.cv_56_5, t7, t8]
          rw [he]
          exact ⟨rfl, hk3⟩
    have fin : ∀ (t : Nat → AV) (h3 : Heap) (v : Vl) (r : List UInt8), t 4 = z → t 5 = .sc (.string (str r)) → t 6 = .op b 0 → t 7 = .sc (.bool true) → t 8 = .sc (.bool true) → h3 b = some (.arr v.cells) → (∀ o, ¬ h o = none → h3 o = h o) → rdV (k :: s1) = some (v, r) → K ⟨t, h3⟩ := by
      intro t h3 v r t4 t5 t6 t7 t8 f1 hk3 hr
      refine hK _ ?_; clear hK bad K
      have hrl := rdV_len hr
      rw [hr] at he
      simp only at he
      rw [Vl.cells] at f1
      (refine W_seq_gen fun N hN => ?_); simp (disch := first | omega | (simp only [List.length_cons, List.length_nil, List.length_append, u8s_len]; omega)) only [go_sem, ↓reduceIte, true_and, Nat.reduceLeDiff, Nat.reduceEqDiff, Nat.reduceAdd, Nat.reduceBEq, Int.reduceEq, H.cv_3_5, H.cv_3_56, H.cv_5_3, H.cv_5_56, H.cv_56_3, H.cv_56_5, t6, t7, t8, f1]
      refine (check_ok H HC v _).mono ?_
      rintro _ _ ⟨rfl, hh'⟩; subst hh'
      by_cases hc : checkS v = 0
      · have e1 := @vls_len ls
        by_cases h16 : ls.length = 16
        · have h16b : (((ls.length : Nat) : Int) == ((16 : Nat) : Int)) = true := by rw [h16]; rfl
          rw [if_neg (by omega)] at he
          rw [contK_some]; simp (disch := first | omega | (simp only [List.length_cons, List.length_nil, List.length_append, u8s_len]; omega)) only [go_sem, ↓reduceIte, true_and, Nat.reduceLeDiff, Nat.reduceEqDiff, Nat.reduceAdd, Nat.reduceBEq, Int.reduceEq, H.cv_3_5, H.cv_3_56, H.cv_5_3, H.cv_5_56, H.cv_56_3, H.cv_56_5, hc, t4, hz.sl.dis.len, e1, h16b]
          rw [he]
          exact ⟨rfl, hk3⟩
        · have h16b : (((ls.length : Nat) : Int) == ((16 : Nat) : Int)) = false := by simpa using (by omega : ¬ ((ls.length : Nat) : Int) = 16)
          rw [if_pos ⟨hc, h16⟩] at he
          have e2 : vls ls ++ [v.cells] = vls (ls ++ [v]) := by simp [vls]
          have hz2 := hz.cat [v.cells]
          rw [e2] at hz2
          have a2 := fun (t : Nat → AV) (h : Heap) => hz.app (t := t) (h := h) (ys := [v.cells]) (bytes := 48) (by rw [e1]; simp; omega)
          rw [Vl.cells] at a2 hz2
          rw [contK_some]; simp (disch := first | omega | (simp only [List.length_cons, List.length_nil, List.length_append, u8s_len]; omega)) only [go_sem, ↓reduceIte, true_and, Nat.reduceLeDiff, Nat.reduceEqDiff, Nat.reduceAdd, Nat.reduceBEq, Int.reduceEq, H.cv_3_5, H.cv_3_56, H.cv_5_3, H.cv_5_56, H.cv_56_3, H.cv_56_5, hc, t4, hz.sl.dis.len, e1, h16b]
          refine hN _ ?_; clear hN N
          simp (disch := first | omega | (simp only [List.length_cons, List.length_nil, List.length_append, u8s_len]; omega)) only [go_sem, ↓reduceIte, true_and, Nat.reduceLeDiff, Nat.reduceEqDiff, Nat.reduceAdd, Nat.reduceBEq, Int.reduceEq, H.cv_3_5, H.cv_3_56, H.cv_5_3, H.cv_5_56, H.cv_56_3, H.cv_56_5, t4, t6, f1, a2]
          refine ⟨r.length, ?_, hk3, r, ls ++ [v], f, _, rfl, t5, rfl, hz2, ?_, ?_, ?_, ?_⟩
          · simp only [List.length_cons] at hrl ⊢; exact hrl
          · simp only [List.length_cons] at hrl hf; omega
          · simp only [List.length_cons] at hrl hsl; omega
          · simp; omega
          · rw [he, Option.map_map, List.length_append, List.length_singleton]
            congr 1
            funext l
            simp
      · have hc2 : ((checkS v : Nat) : Int) ≠ ((0 : Nat) : Int) := by omega
        have hc3 : (((checkS v : Nat) : Int) != ((0 : Nat) : Int)) = true := by simpa using hc
        rw [if_neg (by omega)] at he
        rw [contK_some]; simp (disch := first | omega | (simp only [List.length_cons, List.length_nil, List.length_append, u8s_len]; omega)) only [go_sem, ↓reduceIte, true_and, Nat.reduceLeDiff, Nat.reduceEqDiff, Nat.reduceAdd, Nat.reduceBEq, Int.reduceEq, H.cv_3_5, H.cv_3_56, H.cv_5_3, H.cv_5_56, H.cv_56_3, H.cv_56_5, hc3]
        rw [he]
        exact ⟨rfl, hk3⟩
    clear hK hM
    have hs1 : s1.length ≤ 1099511627776 := by simp only [List.length_cons] at hsl; omega
    clear hz he hf hsl hll
    have hkl := k.toNat_lt
    have keep : ∀ (h3 : Heap) (x : Option AObj), (∀ o, ¬ h o = none → h3 o = h o) → ∀ o, ¬ h o = none → upd h3 b x o = h o := fun h3 x hk o ho => (upd_ne _ _ fun e => ho (by rw [e]; exact hnb)).trans (hk o ho)
    by_cases k1 : k = 1
    · have q1 : (((k.toNat : Nat) : Int) == ((1 : Nat) : Int)) = true := by rw [k1]; rfl
      have hk1 : ((k.toNat : Nat) : Int) = 1 := by rw [k1]; rfl
      (refine W_seq_gen fun N hN => ?_); simp (disch := first | omega | (simp only [List.length_cons, List.length_nil, List.length_append, u8s_len]; omega)) only [go_sem, ↓reduceIte, true_and, Nat.reduceLeDiff, Nat.reduceEqDiff, Nat.reduceAdd, Nat.reduceBEq, Int.reduceEq, H.cv_3_5, H.cv_3_56, H.cv_5_3, H.cv_5_56, H.cv_56_3, H.cv_56_5, t6, f1]
      refine hN _ ?_; clear hN N
      simp (disch := first | omega | (simp only [List.length_cons, List.length_nil, List.length_append, u8s_len]; omega)) only [go_sem, ↓reduceIte, true_and, Nat.reduceLeDiff, Nat.reduceEqDiff, Nat.reduceAdd, Nat.reduceBEq, Int.reduceEq, H.cv_3_5, H.cv_3_56, H.cv_5_3, H.cv_5_56, H.cv_56_3, H.cv_56_5, q1, t5]
      refine (takeNumber_ok H s1 _).mono ?_
      rintro _ _ ⟨rfl, hh'⟩; subst hh'
      unfold tnV
      by_cases h8 : 8 ≤ s1.length
      · rw [if_pos h8]
        rw [contK_some]; simp (disch := first | omega | (simp only [List.length_cons, List.length_nil, List.length_append, u8s_len]; omega)) only [go_sem, ↓reduceIte, true_and, Nat.reduceLeDiff, Nat.reduceEqDiff, Nat.reduceAdd, Nat.reduceBEq, Int.reduceEq, H.cv_3_5, H.cv_3_56, H.cv_5_3, H.cv_5_56, H.cv_56_3, H.cv_56_5, t6, f1]
        exact fin _ _ (numV (numOf (s1.take 8))) (s1.drop 8) t4 rfl t6 rfl t8 ((upd_same _ _ _).trans (by rw [hk1]; rfl)) (keep _ _ hh2) (by rw [rdV, if_pos k1, if_pos h8])
      · rw [if_neg h8]
        rw [contK_some]; simp (disch := first | omega | (simp only [List.length_cons, List.length_nil, List.length_append, u8s_len]; omega)) only [go_sem, ↓reduceIte, true_and, Nat.reduceLeDiff, Nat.reduceEqDiff, Nat.reduceAdd, Nat.reduceBEq, Int.reduceEq, H.cv_3_5, H.cv_3_56, H.cv_5_3, H.cv_5_56, H.cv_56_3, H.cv_56_5, t6, f1]
        exact bad _ _ false true rfl t8 rfl (keep _ _ hh2) (by rw [rdV, if_pos k1, if_neg h8])
    have q1 : (((k.toNat : Nat) : Int) == ((1 : Nat) : Int)) = false := by
      rw [beq_eq_false_iff_ne]
      intro e
      exact k1 (UInt8.toNat_inj.1 (by have : k.toNat = 1 := by omega
                                      rw [this]; rfl))
    by_cases k2 : k = 2
    · have q2 : (((k.toNat : Nat) : Int) == ((2 : Nat) : Int)) = true := by rw [k2]; rfl
      have hk2 : ((k.toNat : Nat) : Int) = 2 := by rw [k2]; rfl
      (refine W_seq_gen fun N hN => ?_); simp (disch := first | omega | (simp only [List.length_cons, List.length_nil, List.length_append, u8s_len]; omega)) only [go_sem, ↓reduceIte, true_and, Nat.reduceLeDiff, Nat.reduceEqDiff, Nat.reduceAdd, Nat.reduceBEq, Int.reduceEq, H.cv_3_5, H.cv_3_56, H.cv_5_3, H.cv_5_56, H.cv_56_3, H.cv_56_5, t6, f1]
      refine hN _ ?_; clear hN N
      simp (disch := first | omega | (simp only [List.length_cons, List.length_nil, List.length_append, u8s_len]; omega)) only [go_sem, ↓reduceIte, true_and, Nat.reduceLeDiff, Nat.reduceEqDiff, Nat.reduceAdd, Nat.reduceBEq, Int.reduceEq, H.cv_3_5, H.cv_3_56, H.cv_5_3, H.cv_5_56, H.cv_56_3, H.cv_56_5, q1, q2, t5]
      refine (T.take s1 _ hs1).mono ?_
      rintro _ _ ⟨rfl, hh'⟩; subst hh'
      unfold tkV
      cases hr : tkR s1 with
      | some p =>
        obtain ⟨a, r⟩ := p
        simp only
        rw [contK_some]; simp (disch := first | omega | (simp only [List.length_cons, List.length_nil, List.length_append, u8s_len]; omega)) only [go_sem, ↓reduceIte, true_and, Nat.reduceLeDiff, Nat.reduceEqDiff, Nat.reduceAdd, Nat.reduceBEq, Int.reduceEq, H.cv_3_5, H.cv_3_56, H.cv_5_3, H.cv_5_56, H.cv_56_3, H.cv_56_5, t6, f1]
        exact fin _ _ (textV a) r t4 rfl t6 rfl t8 ((upd_same _ _ _).trans (by rw [hk2]; rfl)) (keep _ _ hh2) (by rw [rdV, if_neg k1, if_pos k2, hr]; rfl)
      | none =>
        simp only
        rw [contK_some]; simp (disch := first | omega | (simp only [List.length_cons, List.length_nil, List.length_append, u8s_len]; omega)) only [go_sem, ↓reduceIte, true_and, Nat.reduceLeDiff, Nat.reduceEqDiff, Nat.reduceAdd, Nat.reduceBEq, Int.reduceEq, H.cv_3_5, H.cv_3_56, H.cv_5_3, H.cv_5_56, H.cv_56_3, H.cv_56_5, t6, f1]
        exact bad _ _ false true rfl t8 rfl (keep _ _ hh2) (by rw [rdV, if_neg k1, if_pos k2, hr]; rfl)
    have q2 : (((k.toNat : Nat) : Int) == ((2 : Nat) : Int)) = false := by
      rw [beq_eq_false_iff_ne]
      intro e
      exact k2 (UInt8.toNat_inj.1 (by have : k.toNat = 2 := by omega
                                      rw [this]; rfl))
    by_cases k3 : k = 3
    · have q3 : (((k.toNat : Nat) : Int) == ((3 : Nat) : Int)) = true := by rw [k3]; rfl
      have hk3 : ((k.toNat : Nat) : Int) = 3 := by rw [k3]; rfl
      (refine W_seq_gen fun N hN => ?_); simp (disch := first | omega | (simp only [List.length_cons, List.length_nil, List.length_append, u8s_len]; omega)) only [go_sem, ↓reduceIte, true_and, Nat.reduceLeDiff, Nat.reduceEqDiff, Nat.reduceAdd, Nat.reduceBEq, Int.reduceEq, H.cv_3_5, H.cv_3_56, H.cv_5_3, H.cv_5_56, H.cv_56_3, H.cv_56_5, t6, f1]
      refine hN _ ?_; clear hN N
      simp (disch := first | omega | (simp only [List.length_cons, List.length_nil, List.length_append, u8s_len]; omega)) only [go_sem, ↓reduceIte, true_and, Nat.reduceLeDiff, Nat.reduceEqDiff, Nat.reduceAdd, Nat.reduceBEq, Int.reduceEq, H.cv_3_5, H.cv_3_56, H.cv_5_3, H.cv_5_56, H.cv_56_3, H.cv_56_5, q1, q2, q3, t5]
      refine (takeNumber_ok H s1 _).mono ?_
      rintro _ _ ⟨rfl, hh'⟩; subst hh'
      unfold tnV
      by_cases h8 : 8 ≤ s1.length
      · rw [if_pos h8]
        rw [contK_some]; simp (disch := first | omega | (simp only [List.length_cons, List.length_nil, List.length_append, u8s_len]; omega)) only [go_sem, ↓reduceIte, true_and, Nat.reduceLeDiff, Nat.reduceEqDiff, Nat.reduceAdd, Nat.reduceBEq, Int.reduceEq, H.cv_3_5, H.cv_3_56, H.cv_5_3, H.cv_5_56, H.cv_56_3, H.cv_56_5, t6, f1]
        refine (takeNumber_ok H (s1.drop 8) _).mono ?_
        rintro _ _ ⟨rfl, hh'⟩; subst hh'
        unfold tnV
        by_cases h9 : 8 ≤ (s1.drop 8).length
        · have h16 : 16 ≤ s1.length := by simp at h9; omega
          rw [if_pos h9]
          rw [contK_some]; simp (disch := first | omega | (simp only [List.length_cons, List.length_nil, List.length_append, u8s_len]; omega)) only [go_sem, ↓reduceIte, true_and, Nat.reduceLeDiff, Nat.reduceEqDiff, Nat.reduceAdd, Nat.reduceBEq, Int.reduceEq, H.cv_3_5, H.cv_3_56, H.cv_5_3, H.cv_5_56, H.cv_56_3, H.cv_56_5, t6, f1, upd_same]
          exact fin _ _ (pointV (numOf (s1.take 8)) (numOf ((s1.drop 8).take 8))) ((s1.drop 8).drop 8) t4 rfl t6 rfl rfl ((upd_same _ _ _).trans (by rw [hk3]; rfl)) (keep _ _ hh2) (by rw [rdV, if_neg k1, if_neg k2, if_pos k3, if_pos h16, List.drop_drop])
        · have h16 : ¬ 16 ≤ s1.length := by simp at h9; omega
          rw [if_neg h9]
          rw [contK_some]; simp (disch := first | omega | (simp only [List.length_cons, List.length_nil, List.length_append, u8s_len]; omega)) only [go_sem, ↓reduceIte, true_and, Nat.reduceLeDiff, Nat.reduceEqDiff, Nat.reduceAdd, Nat.reduceBEq, Int.reduceEq, H.cv_3_5, H.cv_3_56, H.cv_5_3, H.cv_5_56, H.cv_56_3, H.cv_56_5, t6, f1, upd_same]
          exact bad _ _ true false rfl rfl rfl (keep _ _ hh2) (by rw [rdV, if_neg k1, if_neg k2, if_pos k3, if_neg h16])
      · rw [if_neg h8]
        have h16 : ¬ 16 ≤ s1.length := by omega
        rw [contK_some]; simp (disch := first | omega | (simp only [List.length_cons, List.length_nil, List.length_append, u8s_len]; omega)) only [go_sem, ↓reduceIte, true_and, Nat.reduceLeDiff, Nat.reduceEqDiff, Nat.reduceAdd, Nat.reduceBEq, Int.reduceEq, H.cv_3_5, H.cv_3_56, H.cv_5_3, H.cv_5_56, H.cv_56_3, H.cv_56_5, t6, f1]
        refine (takeNumber_ok H [] _).mono ?_
        rintro _ _ ⟨rfl, hh'⟩; subst hh'
        unfold tnV
        rw [if_neg (by simp)]
        rw [contK_some]; simp (disch := first | omega | (simp only [List.length_cons, List.length_nil, List.length_append, u8s_len]; omega)) only [go_sem, ↓reduceIte, true_and, Nat.reduceLeDiff, Nat.reduceEqDiff, Nat.reduceAdd, Nat.reduceBEq, Int.reduceEq, H.cv_3_5, H.cv_3_56, H.cv_5_3, H.cv_5_56, H.cv_56_3, H.cv_56_5, t6, f1, upd_same]
        exact bad _ _ false false rfl rfl rfl (keep _ _ hh2) (by rw [rdV, if_neg k1, if_neg k2, if_pos k3, if_neg h16])
    have q3 : (((k.toNat : Nat) : Int) == ((3 : Nat) : Int)) = false := by
      rw [beq_eq_false_iff_ne]
      intro e
      exact k3 (UInt8.toNat_inj.1 (by have : k.toNat = 3 := by omega
                                      rw [this]; rfl))
    (refine W_seq_gen fun N hN => ?_); simp (disch := first | omega | (simp only [List.length_cons, List.length_nil, List.length_append, u8s_len]; omega)) only [go_sem, ↓reduceIte, true_and, Nat.reduceLeDiff, Nat.reduceEqDiff, Nat.reduceAdd, Nat.reduceBEq, Int.reduceEq, H.cv_3_5, H.cv_3_56, H.cv_5_3, H.cv_5_56, H.cv_56_3, H.cv_56_5, t6, f1]
    refine hN _ ?_; clear hN N
    simp (disch := first | omega | (simp only [List.length_cons, List.length_nil, List.length_append, u8s_len]; omega)) only [go_sem, ↓reduceIte, true_and, Nat.reduceLeDiff, Nat.reduceEqDiff, Nat.reduceAdd, Nat.reduceBEq, Int.reduceEq, H.cv_3_5, H.cv_3_56, H.cv_5_3, H.cv_5_56, H.cv_56_3, H.cv_56_5, q1, q2, q3]
    exact bad _ _ false true t7 t8 rfl hh2 (by rw [rdV, if_neg k1, if_neg k2, if_neg k3])
end Go.Proofs.YtcdfdnmnnepnoaaDoor
end
