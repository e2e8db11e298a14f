/- Walks: mrun's small functions. -/
import Derived.Test.YtoghikagooegbaaLocK
import Derived.Test.YtoghikagooegbaaTypes09
import Derived.Test.YtoghikagooegbaaW19
import Derived.Test.YtoghikagooegbaaOwn2
import Derived.Outline
set_option linter.unusedSimpArgs false
set_option linter.unusedVariables false
namespace Go.Proofs.Ytoghikagooegbaa
open Go.RowKit Go.Maps
theorem zero_int (w : World) : (zeroValue 3).run Try.prog w = .ok (.int .i64 0) w := by kernel_rfl
/-- Keys: places. -/
noncomputable def locK : KeyT Try.prog Loc where
  t := 40
  good x := InI x.n
  val x := .agg #[.bool x.slot, .int .i64 x.n]
  lit := locLit
  law := Keyed.of_law loc_law
  of := keyOf_loc
  inv v l h := keyOf_loc_inv h
  inj x y hx hy h := locLit_inj hx hy h
noncomputable def cellE : ElT Try.prog Int := intE 3 Try.underlying3 zero_int
abbrev CMap (w : World) (b n : Nat) (f : Loc → Option Int) : Prop := MapP locK cellE w b n f
end Go.Proofs.Ytoghikagooegbaa
