/- Rows that grow, as objects. -/
import Derived.Test.YtcdfdnmnnepnoaaDoorAmRd
import Derived.Test.YtcdfdnmnnepnoaaDoorAmOb
set_option linter.unusedVariables false
set_option linter.unusedSimpArgs false
namespace Go.Am

theorem AWF.fncA {P : Program} {ann : Ann} {k f : Nat} {args : List AV} {h : Heap} {Q : AV → Heap → Prop} {np nt : Nat} {code : AC} {res : List ARes} (hc : cFn P ann k f = some ⟨np, nt, code, res⟩) (hl : args.length = np)
    (hw : AW P ann code ⟨initT args, h⟩ fun e s => (e = .ret ∨ e = .normal) ∧ ∃ v, resA res s = some v ∧ Q v s.h) : AWF P ann k f args h Q :=
  .mk _ hc hl hw fun e s ⟨he, v, hv, hq⟩ => ⟨he, v, hv, .inl hq⟩
theorem AWF.fnPureA {P : Program} {ann : Ann} {k f : Nat} {args : List AV} {h : Heap} {Q : AV → Prop} {np nt : Nat} {code : AC} {res : List ARes} (hc : cFn P ann k f = some ⟨np, nt, code, res⟩) (hl : args.length = np)
    (hw : AW P ann code ⟨initT args, h⟩ fun e s => (e = .ret ∨ e = .normal) ∧ (∃ v, resA res s = some v ∧ Q v) ∧ ∀ o, h o ≠ none → s.h o = h o) : AWF P ann k f args h fun v h' => Q v ∧ h' = h :=
  .mk _ hc hl hw fun e s ⟨he, ⟨v, hv, hq⟩, hh⟩ => ⟨he, v, hv, .inr ⟨hh, hq, rfl⟩⟩

def GE (sz : Nat) (es : List (List AV)) : Prop := ∀ e ∈ es, e.length = sz ∧ e.map AV.disc = e
theorem GE.nil {sz : Nat} : GE sz [] := fun e h => (List.not_mem_nil h).elim
theorem GE.app {sz : Nat} {es ys : List (List AV)} (h1 : GE sz es) (h2 : GE sz ys) : GE sz (es ++ ys) := fun e h => (List.mem_append.1 h).elim (h1 e) (h2 e)
theorem ge_u8s {l : List UInt8} : GE 1 (u8s l) := fun e h => by
  obtain ⟨b, _, rfl⟩ := List.mem_map.1 h
  exact ⟨rfl, rfl⟩
theorem GE.tail {sz : Nat} {e : List AV} {es : List (List AV)} (h : GE sz (e :: es)) : GE sz es := fun x hx => h x (by simp [hx])
theorem GE.len {sz : Nat} : ∀ {es : List (List AV)}, GE sz es → es.flatten.length = es.length * sz
  | [], _ => by simp
  | e :: es, h => by
    rw [List.flatten_cons, List.length_append, h.tail.len, (h e (by simp)).1, List.length_cons, Nat.succ_mul]
    omega
theorem GE.disc {sz : Nat} : ∀ {es : List (List AV)}, GE sz es → es.flatten.map AV.disc = es.flatten
  | [], _ => rfl
  | e :: es, h => by rw [List.flatten_cons, List.map_append, h.tail.disc, (h e (by simp)).2]
theorem GE.chunks {sz : Nat} : ∀ {es : List (List AV)} (r : List AV), GE sz es → chunks sz es.length (es.flatten ++ r) = es
  | [], _, _ => rfl
  | e :: es, r, h => by
    have hl := (h e (by simp)).1
    rw [List.flatten_cons, List.length_cons, Go.Am.chunks, List.append_assoc, List.take_left' hl, List.drop_left' hl, h.tail.chunks]

theorem rs_ge {h : Heap} {o n sz : Nat} {lim : Option Nat} {es : List (List AV)} {z : List AV} (hg : GE sz es) (ho : h o = some (.arr (es.flatten ++ z))) (hn : n = es.length) : RD h sz (.rs o 0 sz n lim) es := by
  subst hn
  refine ⟨?_, .inr ⟨_, _, _, _, rfl⟩⟩
  have h1 : 0 + es.length * sz ≤ (es.flatten ++ z).length := by rw [List.length_append, hg.len]; omega
  simp only [elemsOf, if_true, ho, if_pos h1, List.drop_zero, List.map_append, hg.disc, hg.chunks]

def RW (h0 h : Heap) (sz : Nat) (r : AV) (es : List (List AV)) : Prop :=
  (∀ x, h0 x ≠ none → h x = h0 x) ∧ ((r = .sc (.slice none 0 0) ∧ es = []) ∨ ∃ o cap z, h0 o = none ∧ r = .rs o 0 sz es.length (some cap) ∧ es.length ≤ cap ∧ z.length = (cap - es.length) * sz ∧ h o = some (.arr (es.flatten ++ z)))
section
variable {h0 h : Heap} {sz : Nat} {r : AV} {es : List (List AV)}
theorem RW.nil : RW h h sz (.sc (.slice none 0 0)) [] := ⟨fun _ _ => rfl, .inl ⟨rfl, rfl⟩⟩
theorem RW.dis (H : RW h0 h sz r es) : r.dis = r ∧ r.disc = r ∧ r.isOwn = false := by
  rcases H.2 with ⟨rfl, _⟩ | ⟨_, _, _, _, rfl, _⟩ <;> exact ⟨rfl, rfl, rfl⟩
theorem RW.rd (H : RW h0 h sz r es) (hg : GE sz es) : RD h sz r es := by
  rcases H.2 with ⟨rfl, rfl⟩ | ⟨o, cap, z, h1, rfl, h2, h3, h4⟩
  · exact SL.nil.rd
  · exact rs_ge hg h4 rfl
theorem rep_flat {n : Nat} {z : List AV} : (List.replicate n z).flatten.length = n * z.length := by
  rw [List.length_flatten]; simp
theorem setRange_at {a b c : List AV} {n : Nat} (hn : n = a.length) : setRange (a ++ c) n b = a ++ (b ++ c.drop b.length) := by
  subst hn
  unfold setRange
  rw [List.take_left, List.append_assoc, ← List.drop_drop, List.drop_left]

theorem after_row {P : Program} {ann : Ann} {dst : Option Nat} {Q : St → Prop} {ys : List (List AV)} {bytes : Nat} {z : List AV} {t : Nat → AV} (H : RW h0 h sz r es) (hg : GE sz es) (hy : GE sz ys) (hz : z.length = sz) (hb : (es.length + ys.length) * bytes ≤ 2 ^ 47)
    (hQ : ∀ x h2, RW h0 h2 sz x (es ++ ys) → Q ⟨putd t dst x, h2⟩) : after P ann dst h Q (aexAppO sz bytes z t h ys r) := by
  by_cases c : ys.length = 0
  · obtain rfl : ys = [] := List.eq_nil_of_length_eq_zero c
    rw [List.append_nil] at hQ
    rcases id H.2 with ⟨rfl, rfl⟩ | ⟨o, cap, z', h1, rfl, h2, h3, h4⟩
    · exact hQ _ _ H
    · have : aexAppO sz bytes z t h [] (.rs o 0 sz es.length (some cap)) = some (.val (.rs o 0 sz es.length (some cap)) t h) := by simp [aexAppO]
      rw [this]
      exact hQ _ _ H
  · rcases id H.2 with ⟨rfl, rfl⟩ | ⟨o, cap, z', h1, rfl, h2, h3, h4⟩
    · have hb2 : ¬ ys.length * bytes > 2 ^ 47 := by simp at hb; omega
      have : aexAppO sz bytes z t h ys (.sc (.slice none 0 0)) = some (grownO sz z ys.flatten ys.length t) := by simp [aexAppO, c]; omega
      rw [this]
      intro b cc hbn hle
      refine hQ _ _ ⟨fun x hx => ?_, .inr ⟨b, cc, _, ?_, rfl, hle, ?_, by rw [upd_same, hy.disc]; rfl⟩⟩
      · have : x ≠ b := fun e => by subst e; exact hx (by rw [← H.1 x hx]; exact hbn)
        rw [upd_ne _ _ this]
        exact H.1 x hx
      · cases hq : h0 b with
        | none => rfl
        | some X => have := H.1 b (by rw [hq]; simp); rw [hq, hbn] at this; cases this
      · rw [rep_flat, hz]; rfl
    · have hl : (es.flatten ++ z').length = es.length * sz + (cap - es.length) * sz := by rw [List.length_append, hg.len, h3]
      have hcs : es.length * sz + (cap - es.length) * sz = cap * sz := by rw [← Nat.add_mul]; congr 1; omega
      have e1 : 0 + cap * sz ≤ (es.flatten ++ z').length := by omega
      simp only [aexAppO, ne_eq, not_true_eq_false, if_false, if_neg c, h4, if_pos (And.intro e1 h2)]
      by_cases c2 : es.length + ys.length ≤ cap
      · rw [if_pos c2]
        have e : setRange (es.flatten ++ z') (0 + es.length * sz) (ys.flatten.map AV.disc) = (es ++ ys).flatten ++ z'.drop ys.flatten.length := by
          rw [setRange_at (by rw [hg.len]; omega), hy.disc, List.flatten_append, List.append_assoc]
        simp only [after, e]
        rw [← List.length_append]
        refine hQ _ _ ⟨fun x hx => ?_, .inr ⟨o, cap, _, h1, rfl, by rw [List.length_append]; exact c2, ?_, by rw [upd_same]⟩⟩
        · have : x ≠ o := fun e => hx (by rw [e]; exact h1)
          rw [upd_ne _ _ this]
          exact H.1 x hx
        · rw [List.length_drop, h3, hy.len, List.length_append, ← Nat.sub_mul]
          congr 1
          omega
      · have hb2 : ¬ (es.length + ys.length) * bytes > 2 ^ 47 := by omega
        rw [if_neg c2, if_neg hb2]
        intro b cc hbn hle
        have e : ((es.flatten ++ z').drop 0).take (es.length * sz) = es.flatten := by rw [List.drop_zero, List.take_left' hg.len]
        rw [e, ← List.flatten_append, (hg.app hy).disc, ← List.length_append]
        refine hQ _ _ ⟨fun x hx => ?_, .inr ⟨b, cc, _, ?_, rfl, by rw [List.length_append]; exact hle, ?_, by rw [upd_same]⟩⟩
        · have : x ≠ b := fun e => by subst e; exact hx (by rw [← H.1 x hx]; exact hbn)
          rw [upd_ne _ _ this]
          exact H.1 x hx
        · cases hq : h0 b with
          | none => rfl
          | some X => have := H.1 b (by rw [hq]; simp); rw [hq, hbn] at this; cases this
        · rw [rep_flat, hz]
end
end Go.Am
