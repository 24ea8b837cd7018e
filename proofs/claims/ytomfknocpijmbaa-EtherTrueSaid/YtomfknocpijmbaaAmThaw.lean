/- Behind a call: what it hands over does not grow. -/
import Derived.Test.YtomfknocpijmbaaAmRow
namespace Go.Am
theorem AWF.disR {P : Program} {ann : Ann} {k f : Nat} {args : List AV} {h : Heap} {R Q : AV → Heap → Prop} (H : AWF P ann k f args h R) (hq : ∀ v h', R v h' → Q v.dis h') : AWF P ann k f args h Q :=
 .ghost R H fun v h' hr => ⟨_, h', .nil, dis_own v, hq v h' hr⟩
theorem A_ob {P : Program} {ann : Ann} {c : AC} {t : Nat → AV} {h0 h1 : Heap} {l : List (Nat × AObj)} {Q : Ex → St → Prop} (hO : OB h0 l h1) (H : ∀ hc, OB h0 l hc → AW P ann c ⟨t, hc⟩ Q) : AW P ann c ⟨t, h1⟩ Q := H h1 hO
end Go.Am
