/- Walk: (mir.frame).term. Walk: mir.Right. -/
import Derived.Test.YtbppamjogdjfkaaN9
import Derived.Test.YtbppamjogdjfkaaN6
import Derived.Test.YtbppamjogdjfkaaN7
set_option linter.unusedSimpArgs false
set_option linter.unusedVariables false
namespace Go.Proofs.Ytbppamjogdjfkaa
open Go.RowKit
theorem sl_cells {w : World} {g off n c : Nat} (xs : List Int) (hn : xs.length = n) (hc : n ≤ c) (hm : c ≤ 9223372036854775807) (hg : g < w.heap.size) (h : ∀ i x, xs[i]? = some x → InI x ∧ w.cell? ⟨g, off + i, none⟩ = some (.int .i64 x)) :
    Sl w (fun _ => True) (some ⟨g, off, none⟩) n c xs := by
  refine ⟨hn, hc, by unfold maxLen; omega, fun h => by simp at h, fun _ => ⟨g, off, rfl, hg, trivial, fun i x hx => ⟨[.int .i64 x], ⟨rfl, (h i x hx).1⟩, fun j u hj => ?_⟩⟩⟩
  cases j with
  | zero =>
    simp at hj; subst hj
    have := (h i x hx).2
    simpa [Rep.size] using this
  | succ j => simp at hj
end Go.Proofs.Ytbppamjogdjfkaa
set_option linter.unusedSimpArgs false
set_option linter.unusedVariables false
namespace Go.Proofs.Ytbppamjogdjfkaa
open Go.RowKit
theorem rightm_eq {b : Bool} (w : World) (S1 S2 : Nat → Prop) (m : Machine) (A1 A2 : Option Addr) (n1 c1 n2 c2 : Nat) (h1 : Sl w S1 A1 n1 c1 m.args) (h2 : Sl w S2 A2 n2 c2 m.saved) (hi : InI m.ret) (hb : rightM m = b) :
    Calls Try.prog 15 #[.agg #[.int .i64 m.regs, .slice A1 n1 c1, .int .i64 m.ret, .slice A2 n2 c2]] w (RetX (.bool b) w) := hb ▸ rightm_any w S1 S2 m A1 A2 n1 c1 n2 c2 h1 h2 hi
end Go.Proofs.Ytbppamjogdjfkaa
