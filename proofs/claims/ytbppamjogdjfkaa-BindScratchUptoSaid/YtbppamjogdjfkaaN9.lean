/- Walks: the small functions of mir.Right. Walk: (mir.frame).ins. -/
import Derived.Test.YtbppamjogdjfkaaW1
import Derived.Test.YtbppamjogdjfkaaOwn
import Derived.Test.YtbppamjogdjfkaaN8
set_option linter.unusedSimpArgs false
set_option linter.unusedVariables false
namespace Go.Proofs.Ytbppamjogdjfkaa
open Go.RowKit

/-- A frame, in memory. -/
def FrameAt (w : World) (g : Nat) (m : Machine) (frame blocks : Int) : Prop :=
  g < w.heap.size ∧ w.cell? ⟨g, 0, none⟩ = some (.int .i64 m.regs) ∧ w.cell? ⟨g, 4, none⟩ = some (.int .i64 frame) ∧ w.cell? ⟨g, 5, none⟩ = some (.int .i64 blocks)
end Go.Proofs.Ytbppamjogdjfkaa
set_option linter.unusedSimpArgs false
set_option linter.unusedVariables false
namespace Go.Proofs.Ytbppamjogdjfkaa
open Go.RowKit
section
variable {m : Machine} {frame : Int} {i : Ins} {nm : Nat}
theorem insP9_c (h : 99 < IntKind.u64.wrap i.callee) : insP9 m frame i = 2 := by unfold insP9; rw [if_pos h]
theorem insP9_m (hm : m.args.length = nm) (h : IntKind.u64.wrap i.callee ≤ 99) (h1 : IntKind.u64.wrap nm < IntKind.u64.wrap i.many) : insP9 m frame i = 2 := by unfold insP9; rw [if_neg (by omega), if_pos (by rw [hm]; exact h1)]
theorem insP9_r (hm : m.args.length = nm) (h : IntKind.u64.wrap i.callee ≤ 99) (h1 : IntKind.u64.wrap i.many ≤ IntKind.u64.wrap nm) (h2 : anyF (regBad m) [i.dst, i.a, i.b] = true) : insP9 m frame i = 10 := by
  unfold insP9; rw [if_neg (by omega), if_neg (by rw [hm]; omega), if_pos h2]
theorem insP9_s (hm : m.args.length = nm) (h : IntKind.u64.wrap i.callee ≤ 99) (h1 : IntKind.u64.wrap i.many ≤ IntKind.u64.wrap nm) (h2 : anyF (regBad m) [i.dst, i.a, i.b] = false) (h3 : bt (hasP i.op) 16 = true) (h4 : IntKind.u64.wrap frame ≤ IntKind.u64.wrap i.imm) : insP9 m frame i = 11 := by
  unfold insP9; rw [if_neg (by omega), if_neg (by rw [hm]; omega), if_neg (by rw [h2]; simp), if_pos (by rw [h3]; simpa using h4)]
theorem insP9_n (hm : m.args.length = nm) (h : IntKind.u64.wrap i.callee ≤ 99) (h1 : IntKind.u64.wrap i.many ≤ IntKind.u64.wrap nm) (h2 : anyF (regBad m) [i.dst, i.a, i.b] = false) (h4 : IntKind.u64.wrap i.imm < IntKind.u64.wrap frame) : insP9 m frame i = 0 := by
  unfold insP9; rw [if_neg (by omega), if_neg (by rw [hm]; omega), if_neg (by rw [h2]; simp), if_neg (by simp; intro _; omega)]
theorem insP9_t (hm : m.args.length = nm) (h : IntKind.u64.wrap i.callee ≤ 99) (h1 : IntKind.u64.wrap i.many ≤ IntKind.u64.wrap nm) (h2 : anyF (regBad m) [i.dst, i.a, i.b] = false) (h4 : bt (hasP i.op) 16 = false) : insP9 m frame i = 0 := by
  unfold insP9; rw [if_neg (by omega), if_neg (by rw [hm]; omega), if_neg (by rw [h2]; simp), if_neg (by rw [h4]; simp)]
end
end Go.Proofs.Ytbppamjogdjfkaa
