/- Walks: small functions. Walks: small functions, second part. -/
import Derived.Test.YtljglhaeonbfoaaGreatDoorG0
import Derived.Test.YtljglhaeonbfoaaGreatDoorG20
set_option linter.unusedSimpArgs false
set_option linter.unusedVariables false
namespace Go.Proofs.YtljglhaeonbfoaaGreatDoor
open Go.RowKit
theorem idxF_ge {α : Type} (f : α → Bool) (xs : List α) : ∀ k : Nat, decide (idxF f k xs ≥ 0) = anyF f xs := by
 induction xs with
 | nil => intro k; rfl
 | cons x l ih =>
  intro k
  simp only [idxF, anyF]
  by_cases hx : f x = true
  ·simp [hx]
  ·have := ih (k + 1)
   simpa [hx] using this
end Go.Proofs.YtljglhaeonbfoaaGreatDoor
namespace Go.Proofs.YtljglhaeonbfoaaGreatDoor
open Go.RowKit
theorem pick_any (x n : Int) (w : World) (hx : InI x) (hn : InI n) : Calls Tryz.prog 18 #[.int .i64 x, .int .i64 n] w (Ret (.int .i64 (pickI x n)) w) := by
 obtain ⟨x1, x2⟩ := hx
 obtain ⟨n1, n2⟩ := hn
 by_cases h1 : n < 1
 ·have key : pickI x n = 0 := by simp [pickI, h1]
  have K := hide key; clear key
  go_enter Tryz.func18, Tryz.ntmps18
  go_wp2; go_ret; exact Ret.i K.out.symm
 have b1 : x.tmod n < n := Int.tmod_lt_of_pos _ (by omega)
 have b2 : -n < x.tmod n := by
  have := Int.tmod_lt_of_pos (-x) (show 0 < n by omega)
  rw [Int.neg_tmod] at this
  omega
 have b3 : (n == 0) = false := by rw [beq_eq_false_iff_ne]; omega
 by_cases h2 : x.tmod n < 0
 ·have key : pickI x n = x.tmod n + n := by simp [pickI, h1, h2]
  have K := hide key; clear key
  go_enter Tryz.func18, Tryz.ntmps18
  go_wp2; go_ret; exact Ret.i K.out.symm
 ·have key : pickI x n = x.tmod n := by simp [pickI, h1, h2]
  have K := hide key; clear key
  go_enter Tryz.func18, Tryz.ntmps18
  go_wp2; go_ret; exact Ret.i K.out.symm
end Go.Proofs.YtljglhaeonbfoaaGreatDoor
