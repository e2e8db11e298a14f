/- Two arrays of two numbers, held against each other. -/
import Derived.Test.YtoghikagooegbaaBase
set_option linter.unusedSimpArgs false
set_option linter.unusedVariables false
namespace Go.Proofs.Ytoghikagooegbaa
section
variable {P : Program} (w : World)
theorem run_equalIn_arr2 (d : Nat) (t : TypeId) (k : IntKind) (a0 a1 b0 b1 : Int) (ht : P.underlying t = some (.array 2 (P.elem t))) (he : P.underlying (P.elem t) = some (.int (P.intKind (P.elem t)))) (hsz : ∀ w, (sizeOf (P.elem t)).run P w = .ok 1 w) (hd : 0 < d) :
    (Op.equalIn (d + 1) t (.agg #[.int k a0, .int k a1]) (.agg #[.int k b0, .int k b1])).run P w = .ok (a0 == b0 && a1 == b1) w := by
  obtain ⟨d, rfl⟩ : ∃ e, d = e + 1 := ⟨d - 1, by omega⟩
  rw [Op.equalIn]
  rw [Sem.run_bind, run_underlying ht]
  simp only [Result.andThen_ok]
  have hia : ∀ w, (isAgg (P.elem t)).run P w = .ok false w := fun w => by simp [isAgg, run_underlying he]
  simp [Sem.run_bind, hsz, List.range', part, hia, Op.equalIn, run_underlying he]
  by_cases h0 : a0 = b0 <;> by_cases h1 : a1 = b1 <;> simp [h0, h1]
end
attribute [go_sem] run_equalIn_arr2
end Go.Proofs.Ytoghikagooegbaa
