/- Two places, held against each other. -/
import Derived.Test.YtoghikagooegbaaBase
set_option linter.unusedSimpArgs false
set_option linter.unusedVariables false
namespace Go.Proofs.Ytoghikagooegbaa
section
theorem run_equalIn_Loc (w : World) (d : Nat) (a0 b0 : Bool) (a1 b1 : Int) :
    (Op.equalIn (d + 2) 40 (.agg #[.bool a0, .int .i64 a1]) (.agg #[.bool b0, .int .i64 b1])).run Try.prog w = .ok (a0 == b0 && a1 == b1) w := by
  have hs : Try.prog.stoodInHeld 40 = false := by kernel_rfl
  have hsz4 : ∀ w, (sizeOf 4).run Try.prog w = .ok 1 w := fun w => by kernel_rfl
  have hsz3 : ∀ w, (sizeOf 3).run Try.prog w = .ok 1 w := fun w => by kernel_rfl
  have hia4 : ∀ w, (isAgg 4).run Try.prog w = .ok false w := fun w => by kernel_rfl
  have hia3 : ∀ w, (isAgg 3).run Try.prog w = .ok false w := fun w => by kernel_rfl
  rw [Op.equalIn]
  rw [Sem.run_bind, run_underlying Try.underlying40]
  simp only [Result.andThen_ok]
  simp [Sem.run_bind, hs, hsz3, hsz4, part, hia3, hia4, Op.equalIn, run_underlying Try.underlying4, run_underlying Try.underlying3]
  by_cases h0 : a0 = b0 <;> by_cases h1 : a1 = b1 <;> simp [h0, h1]
end
attribute [go_sem] run_equalIn_Loc
end Go.Proofs.Ytoghikagooegbaa
