/- Walks: the table of parts. -/
import Derived.Test.YtkjipgelbjaggaaM07
set_option linter.unusedSimpArgs false
set_option linter.unusedVariables false
namespace Go.Proofs.Ytkjipgelbjaggaa
open Go.RowKit

def tabAt (k i : Nat) : Int := if 2 ≤ i ∧ i < k then 7 else if i = 1 then 9 else if i = 11 then 11 else if i = 12 then 14 else if i = 13 then 32 else if i = 15 then 3 else if i = 16 then 18 else if i = 17 then 17 else 0
theorem tab_hasP (i : Nat) (h : i < 18) : tabAt 11 i = hasP i := by
  have : i = 0 ∨ i = 1 ∨ i = 2 ∨ i = 3 ∨ i = 4 ∨ i = 5 ∨ i = 6 ∨ i = 7 ∨ i = 8 ∨ i = 9 ∨ i = 10 ∨ i = 11 ∨ i = 12 ∨ i = 13 ∨ i = 14 ∨ i = 15 ∨ i = 16 ∨ i = 17 := by omega
  rcases this with h | h | h | h | h | h | h | h | h | h | h | h | h | h | h | h | h | h <;> subst h <;> decide
theorem hasP_out (o : Int) (h : o < 0 ∨ 18 ≤ o) : hasP o = 0 := by
  unfold hasP
  rw [if_neg (by omega), if_neg (by omega), if_neg (by omega), if_neg (by omega), if_neg (by omega), if_neg (by omega), if_neg (by omega), if_neg (by omega)]
theorem has_any (o : Int) (w : World) : Calls Try.prog 44 #[.int .i64 o] w (RetX (.int .u8 (hasP o)) w) := by
  go_enter Try.func44, Try.ntmps44
  go_wp2
  go_loopw [4] (fun i wr => ∃ k : Nat, ∃ T : Array Value, 2 ≤ k ∧ k ≤ 11 ∧ i = .int .i64 k ∧ wr = w.alloc (.cells T 142) ∧ T.size = 18 ∧ ∀ j, j < 18 → T[j]? = some (.int .u8 (tabAt k j))) (fun i _ => 11 - (intOf i).toNat)
  case atStart => exact ⟨2, _, by omega, by omega, rfl, rfl, rfl, by
      intro i h
      have : i = 0 ∨ i = 1 ∨ i = 2 ∨ i = 3 ∨ i = 4 ∨ i = 5 ∨ i = 6 ∨ i = 7 ∨ i = 8 ∨ i = 9 ∨ i = 10 ∨ i = 11 ∨ i = 12 ∨ i = 13 ∨ i = 14 ∨ i = 15 ∨ i = 16 ∨ i = 17 := by omega
      rcases this with h | h | h | h | h | h | h | h | h | h | h | h | h | h | h | h | h | h <;> subst h <;> rfl⟩
  case round =>
    obtain ⟨k, T, hk2, hk, rfl, rfl, hT, hx⟩ := hrel
    have HX := hide hx; have HT := hide hT
    clear hx hT
    by_cases hlt : k ≤ 10
    · have hc := HX.out k (by omega)
      go_wp2
      go_roundw
      case rel =>
        refine ⟨k + 1, T.setIfInBounds k (.int .u8 7), by omega, by omega, by go_num, rfl, by simp [HT.out], fun j hj => ?_⟩
        rw [Array.getElem?_setIfInBounds]
        by_cases e : k = j
        · subst e; rw [if_pos rfl, if_pos (by rw [HT.out]; omega)]; simp [tabAt, hk2]
        · rw [if_neg e, HX.out j hj]
          have : tabAt (k + 1) j = tabAt k j := by
            unfold tabAt
            by_cases h2 : 2 ≤ j ∧ j < k
            · rw [if_pos h2, if_pos (by omega)]
            · rw [if_neg h2, if_neg (by omega)]
          rw [this]
      case measure => simp [intOf]; omega
    · obtain rfl : k = 11 := by omega
      by_cases h0 : o < 0
      · have hz := hasP_out o (.inl h0)
        have HZ := hide hz; clear hz
        go_wp2
        go_ret
        exact RetX.i HZ.out.symm (by repeat (first | exact Below.refl _ _ | assumption | refine Below.alloc ?_ (by simp [size_ext]; try omega) _ | refine Below.ext ?_ (by simp [size_ext]; try omega) _ | refine Below.drew ?_ | refine Below.setCell ?_ (by simp [size_ext]; try omega) _))
      by_cases h18 : 18 ≤ o
      · have hz := hasP_out o (.inr h18)
        have HZ := hide hz; clear hz
        have h0' : decide (o < 0) = false := by simpa using h0
        go_wp2
        go_ret
        exact RetX.i HZ.out.symm (by repeat (first | exact Below.refl _ _ | assumption | refine Below.alloc ?_ (by simp [size_ext]; try omega) _ | refine Below.ext ?_ (by simp [size_ext]; try omega) _ | refine Below.drew ?_ | refine Below.setCell ?_ (by simp [size_ext]; try omega) _))
      · obtain ⟨j, rfl⟩ := Int.eq_ofNat_of_zero_le (show 0 ≤ o by omega)
        have hc := HX.out j (by omega)
        have hj : (j : Int) < 18 := by omega
        have hz := tab_hasP j (by omega)
        have HZ := hide hz; clear hz
        have h0x : decide ((j : Int) < 0) = false := by simp
        have h18' : decide ((j : Int) ≥ 18) = false := by simpa using h18
        clear h0 h18
        go_wp2
        go_ret
        exact RetX.i HZ.out (by repeat (first | exact Below.refl _ _ | assumption | refine Below.alloc ?_ (by simp [size_ext]; try omega) _ | refine Below.ext ?_ (by simp [size_ext]; try omega) _ | refine Below.drew ?_ | refine Below.setCell ?_ (by simp [size_ext]; try omega) _))
end Go.Proofs.Ytkjipgelbjaggaa
