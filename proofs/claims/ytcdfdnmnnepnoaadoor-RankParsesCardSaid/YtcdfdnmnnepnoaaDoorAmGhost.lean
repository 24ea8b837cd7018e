/- Steps of thought: objects that are values from now on. -/
import Derived.Test.YtcdfdnmnnepnoaaDoorAmOps12
set_option linter.unusedVariables false
set_option linter.unusedSimpArgs false
namespace Go.Am
variable {P : Program} {G : Gh} {h : Heap} {w : World} {n : Nat} {t : Nat → AV} {a : Act}

def Gh.freeze (G : Gh) (o lo up : Nat) (ds : Array Value) (loc : Option Loc) : Gh :=
  { pub := fun x i => if x = o then (if lo ≤ i ∧ i < up then ds[i]? else none) else G.pub x i, own := fun x => if x = o then loc else G.own x }

theorem freeze_pub (hi : Inv G h w) {o : Nat} {cs : List AV} (ho : h o = some (.arr cs)) {lo up : Nat} {ds : Array Value} {loc : Option Loc} : ∀ x i v, G.pub x i = some v → (G.freeze o lo up ds loc).pub x i = some v := by
  intro x i v hv
  have hne : x ≠ o := by
    intro e
    subst e
    rw [(hi.arr _ _ ho).1 i] at hv
    cases hv
  show (if x = o then _ else G.pub x i) = some v
  rw [if_neg hne]
  exact hv

theorem OwnOk.freeze {o lo up : Nat} {ds : Array Value} {loc : Option Loc} (hn : G.own o = none) {l : Loc} {v : AV} {cv : Value} (ho : OwnOk G w l v cv) : OwnOk (G.freeze o lo up ds loc) w l v cv := by
  intro sz es lim e ad len cap e'
  obtain ⟨h1, h2, h3⟩ := ho sz es lim e ad len cap e'
  have hne : ad.block ≠ o := by
    intro e
    rw [e, hn] at h1
    cases h1
  refine ⟨?_, fun i hi => ?_, h3⟩
  · show (if ad.block = o then _ else G.own ad.block) = some l
    rw [if_neg hne]
    exact h1
  · show (if ad.block = o then _ else G.pub ad.block i) = none
    rw [if_neg hne]
    exact h2 i hi

theorem Inv.freeze (hi : Inv G h w) {o : Nat} {cs : List AV} (ho : h o = some (.arr cs)) {ds : Array Value} {e : TypeId} {fz : Nat × Nat} (hh : w.heap[o]? = some (.cells ds e fz)) (lo up : Nat) (loc : Option Loc) : Inv (G.freeze o lo up ds loc) (upd h o none) w where
  pub := fun x i v hv => by
    have hv : (if x = o then (if lo ≤ i ∧ i < up then ds[i]? else none) else G.pub x i) = some v := hv
    by_cases ex : x = o
    · rw [if_pos ex] at hv
      by_cases hc : lo ≤ i ∧ i < up
      · rw [if_pos hc] at hv
        rw [ex, cell_of_heap hh]; exact hv
      · rw [if_neg hc] at hv; cases hv
    · rw [if_neg ex] at hv
      exact hi.pub x i v hv
  arr := fun x cs' hx => by
    unfold upd at hx
    split at hx
    · cases hx
    · rename_i hne
      obtain ⟨g1, g2, ds2, e2, fz2, g3, g4, g5, g50, g6⟩ := hi.arr x cs' hx
      refine ⟨fun i => ?_, ?_, ds2, e2, fz2, g3, g4, g5, g50, ?_⟩
      · show (if x = o then _ else G.pub x i) = none
        rw [if_neg hne]; exact g1 i
      · show (if x = o then _ else G.own x) = none
        rw [if_neg hne]; exact g2
      · intro m c hm
        obtain ⟨cv, h7, h8, h9⟩ := g6 m c hm
        exact ⟨cv, h7, h8.mono (freeze_pub hi ho), h9.freeze (hi.arr _ _ ho).2.1⟩
  map := fun x es hx => by
    unfold upd at hx
    split at hx
    · cases hx
    · rename_i hne
      obtain ⟨g1, g2, ents, clock, g3, g4, g5, g6⟩ := hi.map x es hx
      refine ⟨fun i => ?_, ?_, ents, clock, g3, g4, ?_, g6⟩
      · show (if x = o then _ else G.pub x i) = none
        rw [if_neg hne]; exact g1 i
      · show (if x = o then _ else G.own x) = none
        rw [if_neg hne]; exact g2
      · intro m y hy
        obtain ⟨z, q1, q2, q3, q4, q5⟩ := g5 m y hy
        exact ⟨z, q1, q2, q3, q4.mono (freeze_pub hi ho), q5⟩
  own := fun x l hl => by
    have hl : (if x = o then loc else G.own x) = some l := hl
    split at hl
    · rename_i e
      subst e
      exact lt_of_heap hh
    · exact hi.own x _ hl

theorem Kept.freeze (hi : Inv G h w) {o : Nat} {cs : List AV} (ho : h o = some (.arr cs)) {lo up : Nat} {ds : Array Value} {loc : Option Loc} : Kept G h w (G.freeze o lo up ds loc) (upd h o none) w := by
  refine ⟨freeze_pub hi ho, rfl, rfl, rfl, Nat.le_refl _, ?_, ?_⟩
  · intro x hx h1 h2
    have hne : x ≠ o := by
      intro e
      subst e
      rw [ho] at h2
      cases h2
    refine ⟨rfl, fun i => ?_, ?_, ?_⟩
    · show (if x = o then _ else G.pub x i) = _
      rw [if_neg hne]
    · show (if x = o then _ else G.own x) = none
      rw [if_neg hne]; exact h1
    · rw [upd_ne _ _ hne]; exact h2
  · intro x hx h2
    unfold upd
    split
    · rfl
    · exact h2

theorem FRel.freeze (hf : FRel G w n t a) (hi : Inv G h w) {o : Nat} {cs : List AV} (ho : h o = some (.arr cs)) (lo up : Nat) (ds : Array Value) (loc : Option Loc) : FRel (G.freeze o lo up ds loc) w n t a :=
  hf.move (freeze_pub hi ho) fun i v cv q => q.freeze (hi.arr _ _ ho).2.1


theorem FRel.tell (hf : FRel G w n t a) {i : Nat} {v : AV} (hv : VRel G v (a.tmps.getD i undef)) (ho : OwnOk G w (.slot i) v (a.tmps.getD i undef)) : FRel G w n (upd t i v) a where
  size := hf.size
  defers := hf.defers
  val := fun j => by
    unfold upd
    split
    · rename_i e; subst e; exact hv
    · exact hf.val j
  own := fun j => by
    unfold upd
    split
    · rename_i e; subst e; exact ho
    · exact hf.own j


theorem VRel.frozen {G' : Gh} {cs : List AV} {ds : Array Value} {o c sz k : Nat} {lim : Option Nat} {cv : Value} (own : Bool) (hp : ∀ i, c ≤ i → i < c + k * sz → G'.pub o i = ds[i]?)
    (hr : ∀ (m : Nat) y, cs[m]? = some y → ∃ d, ds[m]? = some d ∧ VRel G' y d) (h1 : ∀ y ∈ cs, y.one = true) (hle : c + k * sz ≤ cs.length) (hv : VRel G' (.rs o c sz k lim) cv)
    (hown : own = true → ∃ cap, lim = some cap ∧ 0 < cap) : VRel G' (.bs own sz (chunks sz k ((cs.drop c).map AV.disc)) lim) cv := by
  cases hv with
  | @rs _ _ _ _ _ ad cap g1 g2 g3 =>
    obtain ⟨f1, f2, f3⟩ := chunks_flatten sz k ((cs.drop c).map AV.disc) (by rw [List.length_map, List.length_drop]; omega)
    rcases g1 with rfl | ⟨rfl, rfl⟩
    · have get : ∀ (m : Nat) x, (chunks sz k ((cs.drop c).map AV.disc)).flatten[m]? = some x → m < k * sz ∧ ∃ y, x = y.disc ∧ cs[c + m]? = some y := by
        intro m x hm
        rw [f1] at hm
        have hlt : m < k * sz := by
          rcases Nat.lt_or_ge m (k * sz) with h | h
          · exact h
          · rw [List.getElem?_eq_none (by rw [List.length_take]; omega)] at hm; cases hm
        rw [List.getElem?_take, if_pos hlt, List.getElem?_map, List.getElem?_drop, Option.map_eq_some_iff] at hm
        obtain ⟨y, hy, rfl⟩ := hm
        exact ⟨hlt, y, rfl, hy⟩
      have := VRel.bs (G := G') (own := own) (sz := sz) (es := chunks sz k ((cs.drop c).map AV.disc)) (lim := lim) (b := o) (o := c) (cap := cap) (fun m => ds.getD (c + m) Go.undef) f3
        (fun x hx => by
          rw [f1] at hx
          obtain ⟨y, hy, rfl⟩ := List.mem_map.1 (List.mem_of_mem_take hx)
          rw [disc_one]
          exact h1 y (List.mem_of_mem_drop hy))
        (fun m x hm => by
          obtain ⟨hlt, y, rfl, hy⟩ := get m x hm
          obtain ⟨d, q1, q2⟩ := hr _ _ hy
          rw [hp _ (by omega) (by omega), Array.getD_eq_getD_getElem?, q1]
          rfl)
        (fun m x hm => by
          obtain ⟨hlt, y, rfl, hy⟩ := get m x hm
          obtain ⟨d, q1, q2⟩ := hr _ _ hy
          rw [Array.getD_eq_getD_getElem?, q1]
          exact q2.disc) (by rw [f2]; exact g2) g3
      rw [f2] at this
      exact this
    · cases own with
      | true =>
        obtain ⟨cap, q1, q2⟩ := hown rfl
        have := g3 cap q1
        omega
      | false => exact .bz fun q hq => (g3 q hq).symm

theorem freeze_in {o lo up : Nat} {ds : Array Value} {loc : Option Loc} : ∀ i, lo ≤ i → i < up → (G.freeze o lo up ds loc).pub o i = ds[i]? := by
  intro i h1 h2
  show (if o = o then (if lo ≤ i ∧ i < up then ds[i]? else none) else _) = _
  rw [if_pos rfl, if_pos ⟨h1, h2⟩]

theorem upd_comm {α : Type} {f : Nat → α} {i j : Nat} {x y : α} (hne : i ≠ j) : upd (upd f i x) j y = upd (upd f j y) i x := by
  funext k
  unfold upd
  by_cases h1 : k = i
  · by_cases h2 : k = j
    · exact absurd (h1.symm.trans h2) hne
    · rw [if_neg h2, if_pos h1, if_pos h1]
  · by_cases h2 : k = j
    · rw [if_pos h2, if_neg h1, if_pos h2]
    · rw [if_neg h2, if_neg h1, if_neg h1, if_neg h2]


theorem Inv.retell (hi : Inv G h w) {o : Nat} {cs cs' : List AV} (ho : h o = some (.arr cs)) (hl : cs'.length = cs.length) (h1 : ∀ c ∈ cs', c.one = true)
    (hc : ∀ (m : Nat) c' c cv, cs'[m]? = some c' → cs[m]? = some c → VRel G c cv → OwnOk G w (.cell o m) c cv → VRel G c' cv ∧ OwnOk G w (.cell o m) c' cv) : Inv G (upd h o (some (.arr cs'))) w where
  pub := hi.pub
  arr := fun x ds hx => by
    unfold upd at hx
    split at hx
    · rename_i e
      subst e
      simp at hx
      subst hx
      obtain ⟨g1, g2, ds2, e2, fz2, g3, g4, g5, g50, g6⟩ := hi.arr x cs ho
      refine ⟨g1, g2, ds2, e2, fz2, g3, g4, by omega, h1, ?_⟩
      intro m c hm
      have hlt : m < cs.length := by
        rcases Nat.lt_or_ge m cs'.length with h | h
        · omega
        · rw [List.getElem?_eq_none h] at hm; cases hm
      obtain ⟨cv, q1, q2, q3⟩ := g6 m _ (List.getElem?_eq_getElem hlt)
      obtain ⟨r1, r2⟩ := hc m c _ cv hm (List.getElem?_eq_getElem hlt) q2 q3
      exact ⟨cv, q1, r1, r2⟩
    · exact hi.arr x ds hx
  map := fun x es hx => by
    unfold upd at hx
    split at hx
    · simp at hx
    · exact hi.map x es hx
  own := hi.own

theorem Kept.retell {o : Nat} (ho : h o ≠ none) (ob : AObj) : Kept G h w G (upd h o (some ob)) w :=
  ⟨fun _ _ _ h => h, rfl, rfl, rfl, Nat.le_refl _, fun x hx h1 h2 => ⟨rfl, fun _ => rfl, h1, upd_none ho h2⟩, fun x hx h2 => upd_none ho h2⟩

theorem ghost_sound {s s' : St} (hg : Ghost s s') (hf : FRel G w n s.t a) (hi : Inv G s.h w) : ∃ G', FRel G' w n s'.t a ∧ Inv G' s'.h w ∧ Kept G s.h w G' s'.h w := by
  cases hg with
  | @slot t h i o c sz k lim cs own ht ho hle hown =>
    obtain ⟨h1, h2, ds, e, fz, h3, h4, h5, h50, h6⟩ := hi.arr o cs ho
    have hv := hf.val i
    refine ⟨G.freeze o c (c + k * sz) ds (if own then some (.slot i) else none), ?_, hi.freeze ho h3 _ _ _, .freeze hi ho⟩
    have hf' := hf.freeze hi ho c (c + k * sz) ds (if own then some (.slot i) else none)
    have hv' := hf'.val i
    have ht' : t i = .rs o c sz k lim := ht
    simp only [ht'] at hv'
    refine hf'.tell (VRel.frozen own freeze_in (fun m y hy => ?_) h50 hle hv' (fun ho' => ?_)) ?_
    · obtain ⟨d, q1, q2, _⟩ := h6 m y hy
      exact ⟨d, q1, q2.mono (freeze_pub hi ho)⟩
    · obtain ⟨_, cap, q1, q2, _⟩ := hown ho'
      exact ⟨cap, q1, q2⟩
    · intro sz' es lim' e1 ad len cap e2
      cases own with
      | false => cases e1
      | true =>
        obtain ⟨rfl, cap', q1, q2, q3⟩ := hown rfl
        cases e1
        rw [e2] at hv'
        cases hv' with
        | rs g1 g2 g3 =>
          have hcc := g3 cap' q1
          subst hcc
          obtain rfl : ad = ⟨o, 0, none⟩ := by
            rcases g1 with g1 | ⟨_, g1⟩
            · exact g1
            · omega
          refine ⟨?_, fun j hj => ?_, ds, e, fz, h3, h4.un, by simp; omega, rfl⟩
          · show (if o = o then _ else _) = _
            rw [if_pos rfl]
            rfl
          · show (if o = o then (if 0 ≤ j ∧ j < 0 + k * sz then ds[j]? else none) else _) = none
            rw [if_pos rfl, if_neg]
            simp only at hj
            omega
  | @part t h i o c sz k lim cs dd m ht hm ho hle =>
    obtain ⟨h1, h2, ds, e, fz, h3, h4, h5, h50, h6⟩ := hi.arr o cs ho
    refine ⟨G.freeze o c (c + k * sz) ds none, ?_, hi.freeze ho h3 _ _ _, .freeze hi ho⟩
    have hf' := hf.freeze hi ho c (c + k * sz) ds none
    have hv' := hf'.val i
    have ht' : t i = .ag dd := ht
    simp only [ht'] at hv'
    refine hf'.tell ?_ (.of_not rfl)
    generalize a.tmps.getD i Go.undef = cx at hv'
    cases hv' with
    | ag g0 g1 g2 =>
      refine .ag ?_ (by rw [g1, List.length_set]) ?_
      · intro x hx
        rcases List.mem_or_eq_of_mem_set hx with hx | rfl
        · exact g0 x hx
        · rfl
      · intro j x hj
        rw [List.getElem?_set] at hj
        split at hj
        · rename_i e'
          subst e'
          split at hj
          · cases hj
            exact VRel.frozen false freeze_in (fun m y hy => by
              obtain ⟨d, q1, q2, _⟩ := h6 m y hy
              exact ⟨d, q1, q2.mono (freeze_pub hi ho)⟩) h50 hle (g2 _ _ hm) (by simp)
          · cases hj
        · exact g2 j x hj
  | @tup t h i o c sz k lim cs dd m ht hm ho hle =>
    obtain ⟨h1, h2, ds, e, fz, h3, h4, h5, h50, h6⟩ := hi.arr o cs ho
    refine ⟨G.freeze o c (c + k * sz) ds none, ?_, hi.freeze ho h3 _ _ _, .freeze hi ho⟩
    have hf' := hf.freeze hi ho c (c + k * sz) ds none
    have hv' := hf'.val i
    have ht' : t i = .tu dd := ht
    simp only [ht'] at hv'
    refine hf'.tell ?_ (.of_not rfl)
    generalize a.tmps.getD i Go.undef = cx at hv'
    cases hv' with
    | tu g1 g2 =>
      refine .tu (by rw [g1, List.length_set]) ?_
      intro j x hj
      rw [List.getElem?_set] at hj
      split at hj
      · rename_i e'
        subst e'
        split at hj
        · cases hj
          exact VRel.frozen false freeze_in (fun m y hy => by
            obtain ⟨d, q1, q2, _⟩ := h6 m y hy
            exact ⟨d, q1, q2.mono (freeze_pub hi ho)⟩) h50 hle (g2 _ _ hm) (by simp)
        · cases hj
      · exact g2 j x hj
  | @tup2 t h i o c sz k lim cs dd ee m q ht hm hq ho hle =>
    obtain ⟨h1, h2, ds, e, fz, h3, h4, h5, h50, h6⟩ := hi.arr o cs ho
    refine ⟨G.freeze o c (c + k * sz) ds none, ?_, hi.freeze ho h3 _ _ _, .freeze hi ho⟩
    have hf' := hf.freeze hi ho c (c + k * sz) ds none
    have hv' := hf'.val i
    have ht' : t i = .tu dd := ht
    simp only [ht'] at hv'
    refine hf'.tell ?_ (.of_not rfl)
    generalize a.tmps.getD i Go.undef = cx at hv'
    cases hv' with
    | @tu _ dx g1 g2 =>
      refine .tu (by rw [g1, List.length_set]) ?_
      intro j x hj
      rw [List.getElem?_set] at hj
      split at hj
      · rename_i e'
        subst e'
        split at hj
        · cases hj
          have hag := g2 _ _ hm
          generalize dx.getD m Go.undef = cy at hag
          cases hag with
          | ag k0 k1 k2 =>
            refine .ag ?_ (by rw [k1, List.length_set]) ?_
            · intro x hx
              rcases List.mem_or_eq_of_mem_set hx with hx | rfl
              · exact k0 x hx
              · rfl
            · intro j x hj
              rw [List.getElem?_set] at hj
              split at hj
              · rename_i e'
                subst e'
                split at hj
                · cases hj
                  exact VRel.frozen false freeze_in (fun m y hy => by
                    obtain ⟨d, q1, q2, _⟩ := h6 m y hy
                    exact ⟨d, q1, q2.mono (freeze_pub hi ho)⟩) h50 hle (k2 _ _ hq) (by simp)
                · cases hj
              · exact k2 j x hj
        · cases hj
      · exact g2 j x hj
  | @cell t h o' m o c sz k lim cs dd ho' hm ho hne hle =>
    obtain ⟨h1, h2, ds, e, fz, h3, h4, h5, h50, h6⟩ := hi.arr o cs ho
    have hf' := hf.freeze hi ho c (c + k * sz) ds none
    have hi' := hi.freeze ho h3 c (c + k * sz) none
    have hk' : Kept G h w (G.freeze o c (c + k * sz) ds none) (upd h o none) w := .freeze hi ho
    have ho2 : upd h o none o' = some (.arr dd) := by rw [upd_ne _ _ hne.symm]; exact ho'
    refine ⟨G.freeze o c (c + k * sz) ds none, hf', ?_, ?_⟩
    · rw [upd_comm hne.symm]
      refine hi'.retell ho2 (by rw [List.length_set]) ?_ ?_
      · intro x hx
        rcases List.mem_or_eq_of_mem_set hx with hx | rfl
        · exact (hi.arr o' dd ho').2.2.choose_spec.choose_spec.choose_spec.2.2.2.1 x hx
        · rfl
      · intro j c' c0 cv hj hj0 q1 q2
        rw [List.getElem?_set] at hj
        split at hj
        · rename_i e'
          subst e'
          split at hj
          · cases hj
            rw [hm] at hj0
            cases hj0
            refine ⟨VRel.frozen false freeze_in (fun m y hy => ?_) h50 hle q1 (by simp), .of_not rfl⟩
            obtain ⟨d, r1, r2, _⟩ := h6 m y hy
            exact ⟨d, r1, r2.mono (freeze_pub hi ho)⟩
          · cases hj
        · rw [hj0] at hj
          cases hj
          exact ⟨q1, q2⟩
    · rw [upd_comm hne.symm]
      exact hk'.trans (.retell (by rw [ho2]; simp) _)
  | @lim t h i own sz es lim ht =>
    have hv := hf.val i
    have ht' : t i = .bs own sz es lim := ht
    simp only [ht'] at hv
    refine ⟨G, hf.tell ?_ (.of_not rfl), hi, .refl _ _ _⟩
    generalize a.tmps.getD i Go.undef = cx at hv
    cases hv with
    | bs cv g1 g2 g3 g4 g5 g6 => exact .bs cv g1 g2 g3 g4 g5 (fun c hc => by cases hc)
    | bz g1 => exact .bz (fun c hc => by cases hc)
  | @clim t h o m own sz es lim dd ho hm =>
    refine ⟨G, hf, ?_, .retell (by show h o ≠ none; rw [ho]; simp) _⟩
    refine hi.retell ho (by rw [List.length_set]) ?_ ?_
    · intro x hx
      rcases List.mem_or_eq_of_mem_set hx with hx | rfl
      · exact (hi.arr o dd ho).2.2.choose_spec.choose_spec.choose_spec.2.2.2.1 x hx
      · rfl
    · intro j c' c0 cv hj hj0 q1 q2
      rw [List.getElem?_set] at hj
      split at hj
      · rename_i e'
        subst e'
        split at hj
        · cases hj
          rw [hm] at hj0
          cases hj0
          refine ⟨?_, .of_not rfl⟩
          cases q1 with
          | bs cv g1 g2 g3 g4 g5 g6 => exact .bs cv g1 g2 g3 g4 g5 (fun c hc => by cases hc)
          | bz g1 => exact .bz (fun c hc => by cases hc)
        · cases hj
      · rw [hj0] at hj
        cases hj
        exact ⟨q1, q2⟩
  | @ptr t h i o c cs ht ho =>
    obtain ⟨h1, h2, ds, e, fz, h3, h4, h5, h50, h6⟩ := hi.arr o cs ho
    refine ⟨G.freeze o c cs.length ds none, ?_, hi.freeze ho h3 _ _ _, .freeze hi ho⟩
    have hf' := hf.freeze hi ho c cs.length ds none
    have hv' := hf'.val i
    have ht' : t i = .op o c := ht
    simp only [ht'] at hv'
    refine hf'.tell ?_ (.of_not rfl)
    generalize a.tmps.getD i Go.undef = cx at hv'
    cases hv' with
    | op =>
      have get : ∀ (m : Nat) x, ((cs.drop c).map AV.disc)[m]? = some x → ∃ y, x = y.disc ∧ cs[c + m]? = some y := by
        intro m x hm
        rw [List.getElem?_map, List.getElem?_drop, Option.map_eq_some_iff] at hm
        obtain ⟨y, hy, rfl⟩ := hm
        exact ⟨y, rfl, hy⟩
      refine .cp (fun m => ds.getD (c + m) Go.undef) ?_ ?_ ?_
      · intro x hx
        obtain ⟨y, hy, rfl⟩ := List.mem_map.1 hx
        rw [disc_one]
        exact h50 y (List.mem_of_mem_drop hy)
      · intro m x hm
        obtain ⟨y, rfl, hy⟩ := get m x hm
        obtain ⟨d, q1, q2, _⟩ := h6 _ _ hy
        have hlt := (List.getElem?_eq_some_iff.1 hy).1
        rw [freeze_in _ (by omega) hlt, Array.getD_eq_getD_getElem?, q1]
        rfl
      · intro m x hm
        obtain ⟨y, rfl, hy⟩ := get m x hm
        obtain ⟨d, q1, q2, _⟩ := h6 _ _ hy
        rw [Array.getD_eq_getD_getElem?, q1]
        exact (q2.mono (freeze_pub hi ho)).disc

end Go.Am
