/- append. -/
import Derived.Test.YtcdfdnmnnepnoaaDoorAmOps8
set_option linter.unusedVariables false
set_option linter.unusedSimpArgs false
namespace Go.Am
variable {P : Program} {G : Gh} {h : Heap} {w : World} {n : Nat} {t : Nat → AV} {a : Act}


theorem choose_cells {cs : List AV} {R : Nat → AV → Value → Prop} (hc : ∀ (m : Nat) c, cs[m]? = some c → ∃ d, R m c d) : ∃ ds : List Value, ds.length = cs.length ∧ ∀ (m : Nat) c, cs[m]? = some c → ∃ d, ds[m]? = some d ∧ R m c d := by
  induction cs generalizing R with
  | nil => exact ⟨[], rfl, fun m c h => by simp at h⟩
  | cons c r ih =>
    obtain ⟨d, hd⟩ := hc 0 c rfl
    obtain ⟨ds, h1, h2⟩ := ih (R := fun m => R (m + 1)) (fun m c hm => hc (m + 1) c (by simpa using hm))
    refine ⟨d :: ds, by simp [h1], ?_⟩
    intro m c' hm
    cases m with
    | zero => simp at hm; subst hm; exact ⟨d, rfl, hd⟩
    | succ m => simpa using h2 m c' (by simpa using hm)

theorem chunks_flatten (sz : Nat) : ∀ (k : Nat) (cs : List AV), k * sz ≤ cs.length → (chunks sz k cs).flatten = cs.take (k * sz) ∧ (chunks sz k cs).length = k ∧ ∀ e ∈ chunks sz k cs, e.length = sz
  | 0, cs, _ => by simp [chunks]
  | k + 1, cs, hl => by
    have hl2 : sz + k * sz ≤ cs.length := by rw [Nat.add_mul] at hl; omega
    obtain ⟨h1, h2, h3⟩ := chunks_flatten sz k (cs.drop sz) (by rw [List.length_drop]; omega)
    refine ⟨?_, by simp [chunks, h2], ?_⟩
    · simp only [chunks, List.flatten_cons, h1]
      have : (k + 1) * sz = sz + k * sz := by rw [Nat.add_mul]; omega
      rw [this, List.take_add]
    · intro e he
      simp only [chunks, List.mem_cons] at he
      rcases he with rfl | he
      · rw [List.length_take]; omega
      · exact h3 e he


structure Sr (P : Program) (ty tx e : TypeId) (i : TypeInfo) (vy : Value) (n : Nat) (news : List Value) (w : World) : Prop where
  newsLen : news.length = n * i.size
  nothing : n = 0 → ∀ (rty : TypeId) (base : Option Addr) (len cap : Nat), len ≤ cap → (Builtin.append_ #[ty, tx] rty #[.slice base len cap, vy]).run P w = .ok (.slice base len cap) w
  room : ∀ (rty : TypeId) (b off len cap : Nat), len + n ≤ cap → (∀ j, j < news.length → (w.cell? ⟨b, off + len * i.size + j, none⟩).isSome = true) → (∀ j, j < news.length → w.frozen? ⟨b, off + len * i.size + j, none⟩ = false) →
    (Builtin.append_ #[ty, tx] rty #[.slice (some ⟨b, off, none⟩) len cap, vy]).run P w = .ok (.slice (some ⟨b, off, none⟩) (len + n) cap) (w.setCells b (off + len * i.size) news)
  grow : ∀ (rty : TypeId) (z : Value) (base : Option Addr) (len cap : Nat) (olds : List Value), i.zero = some z → (Builtin.firstCells i.size len (.slice base len cap)).run P w.drew = .ok olds.toArray w.drew → cap < len + n →
    ((len + n : Nat) : Int) ≤ 9223372036854775807 → Builtin.nextslicecap (len + n) cap * i.bytes ≤ 281474976710656 →
    (Builtin.append_ #[ty, tx] rty #[.slice base len cap, vy]).run P w =
      .ok (.slice (some ⟨w.heap.size, 0, none⟩) (len + n) (grownCap w (len + n) cap e))
        (w.drew.alloc (.cells ((olds ++ news).toArray ++ Builtin.zeroCells z.cells (grownCap w (len + n) cap e - (len + n))) e))

theorem Sr.ofSrc {ty tx e : TypeId} {i : TypeInfo} {vy : Value} {k : Nat} {news : List Value} (ht : P.underlying ty = some (.slice e)) (hi : P.info? e = some i) (hs : Src P i.size tx vy k news w) : Sr P ty tx e i vy k news w where
  newsLen := hs.newsLen
  nothing hk rty base len cap hlc := by
    subst hk
    have hnn : news = [] := List.eq_nil_of_length_eq_zero (by rw [hs.newsLen]; simp)
    have q1 := hs.len
    have q2 := hs.cells
    rw [hnn] at q2
    rcases hs.kind with ⟨e', hk⟩ | hk <;> cases base <;> simp [Builtin.append_, run_underlying ht, run_underlying hk, sizeOf, typeInfo, hi, q1, q2, hlc, storeCells]
  room rty b off len cap hr c1 c2 := run_append_room_src (P := P) w ty tx rty e i ht hi b off len cap _ _ news hs hr c1 c2
  grow rty z base len cap olds hz hold hg h63 hfit := run_append_grow_src (P := P) w ty tx rty e i z ht hi hz base len cap olds hold vy k news hs hg h63 hfit


theorem elems_src (hi : Inv G h w) {sz : Nat} {tx : TypeId} (hk : (∃ e', P.underlying tx = some (.slice e')) ∨ P.underlying tx = some .string) {y : AV} {cv : Value} (hv : VRel G y cv) {ys : List (List AV)}
    (hy : elemsOf h sz y = some ys) : ∃ news, Src P sz tx cv ys.length news w ∧ (∀ (m : Nat) c, ys.flatten[m]? = some c → ∃ d, news[m]? = some d ∧ VRel G c d) ∧ (∀ e ∈ ys, e.length = sz) ∧ ∀ c ∈ ys.flatten, c.one = true := by
  unfold elemsOf at hy
  split at hy
  · simp at hy
    subst hy
    have e := hv.sc_inv.1
    subst e
    refine ⟨[], ⟨hk, fun _ => rfl, run_firstCells_none w sz 0 0 0, run_firstCells_none w.drew sz 0 0 0, by simp, fun _ h => by cases h⟩, fun m c hm => by simp at hm, by simp, by simp⟩
  · rename_i s
    split at hy
    · rename_i e1
      subst e1
      simp at hy
      subst hy
      have e := hv.sc_inv.1
      subst e
      have hl : (s.data.toList.map fun b => [AV.int .u8 b.toNat]).length = s.size := by rw [List.length_map, Array.length_toList]; rfl
      have hfl : (s.data.toList.map fun b => [AV.int .u8 b.toNat]).flatten = s.data.toList.map fun b => AV.int .u8 b.toNat := by
        generalize s.data.toList = l
        induction l with
        | nil => rfl
        | cons x r ih => simp [ih]
      rw [hl]
      refine ⟨byteCells s, ⟨hk, fun _ => rfl, firstCells_string s w, firstCells_string s w.drew, by rw [byteCells_length, Nat.mul_one], fun u hu => by obtain ⟨_, _, rfl⟩ := List.mem_map.1 hu; rfl⟩, ?_, ?_, ?_⟩
      · intro m c hm
        rw [hfl, List.getElem?_map, Option.map_eq_some_iff] at hm
        obtain ⟨x, hx, rfl⟩ := hm
        exact ⟨.int .u8 x.toNat, by unfold byteCells; rw [List.getElem?_map, hx]; rfl, .sc rfl⟩
      · intro e he
        obtain ⟨x, _, rfl⟩ := List.mem_map.1 he
        rfl
      · intro c hc
        rw [hfl] at hc
        obtain ⟨x, _, rfl⟩ := List.mem_map.1 hc
        rfl
    · simp at hy
  · rename_i own sz' es lim
    split at hy
    · rename_i e1
      subst e1
      simp at hy
      subst hy
      cases hv with
      | bz hz =>
        exact ⟨[], ⟨hk, fun _ => rfl, run_firstCells_some w _ _ _ _ 0 [] (by simp) (fun j u hj => by simp at hj), run_firstCells_some w.drew _ _ _ _ 0 [] (by simp) (fun j u hj => by simp at hj), by simp, fun u hu => by simp at hu⟩,
          fun m c hm => by simp at hm, fun e he => by simp at he, fun c hc => by simp at hc⟩
      | @bs _ _ _ _ b o cap cv h1 h01 h2 h3 h4 h5 =>
        obtain ⟨news, e1, e2⟩ := choose_cells (cs := es.flatten) (R := fun m c d => d = cv m ∧ VRel G c d) (fun m c hm => ⟨cv m, rfl, h3 m c hm⟩)
        have hlen := flatten_len es h1
        refine ⟨news, ?_, fun m c hm => by obtain ⟨d, q1, _, q2⟩ := e2 m c hm; exact ⟨d, q1, q2⟩, h1, h01⟩
        have hget : ∀ (j : Nat) u, news[j]? = some u → ∃ c, es.flatten[j]? = some c ∧ u = cv j ∧ VRel G c u := by
          intro j u hj
          have hlt : j < es.flatten.length := by
            rcases Nat.lt_or_ge j news.length with h | h
            · omega
            · rw [List.getElem?_eq_none h] at hj; cases hj
          obtain ⟨d, q1, q2, q3⟩ := e2 j _ (List.getElem?_eq_getElem hlt)
          rw [q1] at hj
          cases hj
          exact ⟨_, List.getElem?_eq_getElem hlt, q2, q3⟩
        have hcell : ∀ j u, news[j]? = some u → w.cell? ((⟨b, o, none⟩ : Addr).add j) = some u := by
          intro j u hj
          obtain ⟨c, q1, rfl, _⟩ := hget j u hj
          rw [add_at]
          exact hi.pub _ _ _ (h2 j c q1)
        have hone : ∀ u ∈ news, u.oneCell' = true := by
          intro u hu
          obtain ⟨j, hj⟩ := List.getElem?_of_mem hu
          obtain ⟨c, q1, _, q3⟩ := hget j u hj
          exact q3.oneCell (h01 c (List.mem_of_getElem? q1))
        exact ⟨hk, fun _ => rfl, run_firstCells_some w _ _ _ _ cap news (by rw [e1, hlen]) hcell, run_firstCells_some w.drew _ _ _ _ cap news (by rw [e1, hlen]) (by simpa using hcell), by rw [e1, hlen], hone⟩
    · simp at hy
  · rename_i ob c sz' k lim
    split at hy
    · rename_i e1
      subst e1
      split at hy
      · rename_i cs hcs
        split at hy
        · rename_i hle
          obtain rfl := Option.some.inj hy
          obtain ⟨f1, f2, f3⟩ := chunks_flatten sz' k ((cs.drop c).map AV.disc) (by rw [List.length_map, List.length_drop]; omega)
          obtain ⟨_, _, ds0, _, _, _, _, _, hone0, _⟩ := hi.arr _ _ hcs
          have hcellsone : ∀ x ∈ ((chunks sz' k ((cs.drop c).map AV.disc)).flatten), x.one = true := by
            intro x hx
            rw [f1] at hx
            obtain ⟨y, hy, rfl⟩ := List.mem_map.1 (List.mem_of_mem_take hx)
            rw [disc_one]
            exact hone0 y (List.mem_of_mem_drop hy)
          have hrd : ∀ (m : Nat) x, (chunks sz' k ((cs.drop c).map AV.disc)).flatten[m]? = some x → ∃ d, w.cell? ⟨ob, c + m, none⟩ = some d ∧ VRel G x d := by
            intro m x hm
            rw [f1] at hm
            have hlt : m < k * sz' := by
              rcases Nat.lt_or_ge m (k * sz') with h | h
              · exact h
              · rw [List.getElem?_eq_none (by rw [List.length_take]; omega)] at hm; cases hm
            rw [List.getElem?_take, if_pos hlt, List.getElem?_map, List.getElem?_drop, Option.map_eq_some_iff] at hm
            obtain ⟨y, hy, rfl⟩ := hm
            obtain ⟨d, q1, q2, _⟩ := hi.cell hcs hy
            exact ⟨d, q1, q2.disc⟩
          obtain ⟨news, e1, e2⟩ := choose_cells hrd
          have hlen : (chunks sz' k ((cs.drop c).map AV.disc)).flatten.length = k * sz' := by rw [flatten_len _ f3, f2]
          rw [f2]
          refine ⟨news, ?_, fun m x hm => by obtain ⟨d, q1, _, q2⟩ := e2 m x hm; exact ⟨d, q1, q2⟩, f3, hcellsone⟩
          cases hv with
          | @rs _ _ _ _ _ ad cap g1 g2 g3 =>
            have hcell : ∀ j u, news[j]? = some u → w.cell? (ad.add j) = some u := by
              intro j u hj
              have hlt : j < (chunks sz' k ((cs.drop c).map AV.disc)).flatten.length := by
                rcases Nat.lt_or_ge j news.length with h | h
                · omega
                · rw [List.getElem?_eq_none h] at hj; cases hj
              obtain ⟨d, q1, q2, q3⟩ := e2 j _ (List.getElem?_eq_getElem hlt)
              rw [q1] at hj
              cases hj
              rcases g1 with rfl | g1
              · rw [add_at]; exact q2
              · rw [hlen, g1.1, Nat.zero_mul] at hlt; omega
            have hone : ∀ u ∈ news, u.oneCell' = true := by
              intro u hu
              obtain ⟨j, hj⟩ := List.getElem?_of_mem hu
              have hlt : j < (chunks sz' k ((cs.drop c).map AV.disc)).flatten.length := by
                rcases Nat.lt_or_ge j news.length with h | h
                · omega
                · rw [List.getElem?_eq_none h] at hj; cases hj
              obtain ⟨d, q1, q2, q3⟩ := e2 j _ (List.getElem?_eq_getElem hlt)
              rw [q1] at hj
              cases hj
              exact q3.oneCell (hcellsone _ (List.mem_of_getElem? (List.getElem?_eq_getElem hlt)))
            exact ⟨hk, fun _ => rfl, run_firstCells_some w _ _ _ _ cap news (by rw [e1, hlen]) hcell, run_firstCells_some w.drew _ _ _ _ cap news (by rw [e1, hlen]) (by simpa using hcell), by rw [e1, hlen], hone⟩
        · simp at hy
      · simp at hy
    · simp at hy
  · simp at hy

end Go.Am
