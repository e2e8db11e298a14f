/- Walk: MirTells. The walk's world under a name. -/
import Derived.Test.YtkjipgelbjaggaaM47
import Derived.Test.YtkjipgelbjaggaaM38
import Derived.Test.YtkjipgelbjaggaaM46
import Derived.Test.YtkjipgelbjaggaaM00
set_option linter.unusedSimpArgs false
set_option linter.unusedVariables false
namespace Go.Proofs.Ytkjipgelbjaggaa
open Go.RowKit
theorem blocksOf_le (most : Int) (h0 : 0 ≤ most) : ∀ (l : List Block) (n : Int), (∀ b ∈ l, SmallB 1048576 b) → 0 ≤ n → n ≤ most + 3000000 → 0 ≤ blocksOf most n l ∧ blocksOf most n l ≤ most + 3000000
  | [], n, _, h1, h2 => ⟨h1, h2⟩
  | b :: l, n, hb, h1, h2 => by
    simp only [blocksOf]
    split
    · have hs := hb b List.mem_cons_self
      have hl := hs.1
      have ha := argsOf_le most 1048576 b.ins (n + 1 + b.ins.length) hs.2
      exact blocksOf_le most h0 l _ (fun y hy => hb y (List.mem_cons_of_mem _ hy)) (by omega) (by omega)
    · exact ⟨h1, h2⟩
/-- A row that has been lent. -/
def LentP {α : Type} [Rep α] [Lend α] (xs : List α) : Post := fun v w => ∃ S A n c, v = .slice A n c ∧ xs.length = n ∧ Sl w S A (n + 12) c (row xs)
theorem LentP.stable_ {α : Type} [Rep α] [Lend α] {xs : List α} {F : World → Prop} {mem : Bool} (hm : mem = true) : stable F mem (LentP xs) :=
  stable_mem hm fun _ _ u ⟨S, A, n, c, h, h1, h2⟩ => ⟨S, A, n, c, h, h1, h2.ext u⟩
end Go.Proofs.Ytkjipgelbjaggaa
set_option linter.unusedSimpArgs false
set_option linter.unusedVariables false
namespace Go.Proofs.Ytkjipgelbjaggaa
theorem name_world {P : Program} {c : Code} {Q : Exit → Act → World → Prop} {a : Act} {w : World} (h : ∀ W' : World, W' = w → c.wp P Q a W') : c.wp P Q a w := h w rfl
end Go.Proofs.Ytkjipgelbjaggaa
