/- Walks: a machine of two registers; tables; letters; sizes. -/
import Derived.Test.YtahblhiolkdnnaaW3
set_option linter.unusedSimpArgs false
set_option linter.unusedVariables false
namespace Go.Proofs.Ytahblhiolkdnnaa
open Go.RowKit

theorem two_any (w : World) : Calls Try.prog 30 #[] w (RetV (⟨2, [1], 0, []⟩ : Machine) w) := by
  go_enter Try.func30, Try.ntmps30
  go_wp2
  refine bodyPost_ret (v := .agg #[.int .i64 2, .slice (some ⟨w.heap.size + 1, 0, none⟩) 1 1, .int .i64 0, .slice none 0 0]) (by simp [results, Try.results30, go_sem]) rfl ⟨_, rfl, ?_, Below.to_ext (by repeat (first | exact Below.refl _ _ | assumption | refine Below.alloc ?_ (by simp [size_ext]; try omega) _ | refine Below.ext ?_ (by simp [size_ext]; try omega) _ | refine Below.drew ?_ | refine Below.setCell ?_ (by simp [size_ext]; try omega) _))⟩
  refine Machine.mk_ (by unfold InI; decide) ?_ (by unfold InI; decide) Sl.nil
  exact Sl.lit (us := [.int .i64 1]) (by simp) (S := fun b => w.heap.size ≤ b) (RepL.single ⟨rfl, by unfold InI; decide⟩) rfl (by decide) (fun _ h => h) (by simp)

theorem in_any (s : ByteArray) (c : Int) (w : World) (hs : s.size ≤ 9223372036854775807) : Calls Try.prog 51 #[.string s, .int .u8 c] w (Ret (.bool (hasB c s.data.toList)) w) := by
  go_enter Try.func51, Try.ntmps51
  go_wp2
  go_loop [5] (fun i => ∃ k : Nat, k ≤ s.size ∧ i = .int .i64 k ∧ hasB c s.data.toList = hasB c (s.data.toList.drop k)) (fun i => s.size - (intOf i).toNat)
  case atStart => exact ⟨0, Nat.zero_le _, rfl, rfl⟩
  case round =>
    obtain ⟨k, hk, rfl, hr⟩ := hrel
    have HR := hide hr; clear hr
    by_cases hlt : k < s.size
    · have hx : s.data.toList.drop k = s[k] :: s.data.toList.drop (k + 1) := List.drop_eq_getElem_cons (by simpa using hlt)
      have HX := hide hx; clear hx
      by_cases hv : (s[k].toNat : Int) = c
      · have hv' : ((s[k].toNat : Int) == c) = true := by simpa using hv
        have HV := hide hv; clear hv
        go_wp2
        go_ret
        exact Ret.b (by rw [HR.out, HX.out]; simp [hasB, hv'])
      · have hv' : ((s[k].toNat : Int) == c) = false := by simpa using hv
        have HV := hide hv; clear hv
        go_wp2
        go_round
        case rel => exact ⟨k + 1, by omega, by go_num, by rw [HR.out, HX.out]; simp [hasB, hv']⟩
        case measure => simp [intOf]; omega
    · go_wp2
      go_ret
      exact Ret.b (by rw [HR.out, List.drop_eq_nil_of_le (by simpa using hlt)]; rfl)
end Go.Proofs.Ytahblhiolkdnnaa
