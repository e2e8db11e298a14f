/- Walks: lists of numbers: the same, copied. -/
import Derived.Test.YtoghikagooegbaaW3
import Derived.Test.YtoghikagooegbaaS06
import Derived.Test.YtoghikagooegbaaEq2
set_option linter.unusedSimpArgs false
set_option linter.unusedVariables false
namespace Go.Proofs.Ytoghikagooegbaa
open Go.RowKit

theorem mem_at {α : Type} {xs : List α} {k : Nat} {x : α} (h : xs[k]? = some x) : x ∈ xs := List.mem_of_getElem? h
theorem some_eq {α : Type} {a b : α} {x : Option α} (h : x = some a) (h' : x = some b) : a = b := by rw [h] at h'; exact Option.some.inj h'

theorem sameInts_any (w : World) (S S' : Nat → Prop) (A A' : Option Addr) (n c c' : Nat) (xs : List Int) (h : Sl w S A n c xs) (h' : Sl w S' A' n c' xs) :
    Calls Try.prog 37 #[.slice A n c, .slice A' n c'] w (RetX (.bool true) w) := by
  have hn := h.nle
  have HS := hide h; clear h
  have HS' := hide h'; clear h'
  go_enter Try.func37, Try.ntmps37
  go_wp2
  go_loopw [5] (fun i wr => ∃ k : Nat, k ≤ n ∧ i = .int .i64 k ∧ ∃ u, wr = w.ext u) (fun i _ => n - (intOf i).toNat)
  case atStart => exact ⟨0, Nat.zero_le _, rfl, ext_refl _⟩
  case round =>
    obtain ⟨k, hk, rfl, u, rfl⟩ := hrel
    by_cases hlt : k < n
    · obtain ⟨b, off, x, rfl, hb, hx, -, hc⟩ := at_int HS.out hlt
      obtain ⟨b', off', x', rfl, hb', hx', -, hc'⟩ := at_int HS'.out hlt
      obtain rfl := some_eq hx hx'
      clear hx hx'
      go_wp2
      refine wp_region_ext (by kernel_rfl) (by kernel_rfl) ?_
      repeat (any_goals (first | go_big_quiet_step ((fail)) | quiet_step ((fail))))
      refine wpQuiet_nil ?_
      rintro _ ⟨uq, rfl⟩
      go_wp2
      go_roundw
      case rel => exact ⟨k + 1, by omega, by go_num, Below.to_ext (by repeat (first | exact Below.refl _ _ | assumption | refine Below.alloc ?_ (by simp [size_ext]; try omega) _ | refine Below.ext ?_ (by simp [size_ext]; try omega) _ | refine Below.drew ?_ | refine Below.setCell ?_ (by simp [size_ext]; try omega) _))⟩
      case measure => simp [intOf]; omega
    · go_wp2
      go_ret
      exact RetX.b rfl (by repeat (first | exact Below.refl _ _ | assumption | refine Below.alloc ?_ (by simp [size_ext]; try omega) _ | refine Below.ext ?_ (by simp [size_ext]; try omega) _ | refine Below.drew ?_ | refine Below.setCell ?_ (by simp [size_ext]; try omega) _))
end Go.Proofs.Ytoghikagooegbaa
