/- Walks: lists of numbers: the same, copied. -/
import Derived.Test.YtahblhiolkdnnaaW3
import Derived.Test.YtahblhiolkdnnaaS06
import Derived.Test.YtahblhiolkdnnaaEq2
set_option linter.unusedSimpArgs false
set_option linter.unusedVariables false
namespace Go.Proofs.Ytahblhiolkdnnaa
open Go.RowKit

theorem mem_at {α : Type} {xs : List α} {k : Nat} {x : α} (h : xs[k]? = some x) : x ∈ xs := List.mem_of_getElem? h
theorem some_eq {α : Type} {a b : α} {x : Option α} (h : x = some a) (h' : x = some b) : a = b := by rw [h] at h'; exact Option.some.inj h'

theorem sameInts_any (w : World) (S S' : Nat → Prop) (A A' : Option Addr) (n c c' : Nat) (xs : List Int) (h : Sl w S A n c xs) (h' : Sl w S' A' n c' xs) :
    Calls Try.prog 84 #[.slice A n c, .slice A' n c'] w (RetX (.bool true) w) := by
  have hn := h.nle
  have HS := hide h; clear h
  have HS' := hide h'; clear h'
  go_enter Try.func84, Try.ntmps84
  go_wp2
  go_loopw [5] (fun i wr => ∃ k : Nat, k ≤ n ∧ i = .int .i64 k ∧ ∃ u, wr = w.ext u) (fun i _ => n - (intOf i).toNat)
  case atStart => exact ⟨0, Nat.zero_le _, rfl, ext_refl _⟩
  case round =>
    obtain ⟨k, hk, rfl, u, rfl⟩ := hrel
    by_cases hlt : k < n
    · obtain ⟨b, off, x, rfl, hb, hx, -, hc⟩ := at_int HS.out hlt
      obtain ⟨b', off', x', rfl, hb', hx', -, hc'⟩ := at_int HS'.out hlt
      obtain rfl := some_eq hx hx'
      clear hx hx'
      go_wp2
      refine wp_region_ext (by kernel_rfl) (by kernel_rfl) ?_
      repeat (any_goals (first | go_big_quiet_step ((fail)) | quiet_step ((fail))))
      refine wpQuiet_nil ?_
      rintro _ ⟨uq, rfl⟩
      go_wp2
      go_roundw
      case rel => exact ⟨k + 1, by omega, by go_num, Below.to_ext (by repeat (first | exact Below.refl _ _ | assumption | refine Below.alloc ?_ (by simp [size_ext]; try omega) _ | refine Below.ext ?_ (by simp [size_ext]; try omega) _ | refine Below.drew ?_ | refine Below.setCell ?_ (by simp [size_ext]; try omega) _))⟩
      case measure => simp [intOf]; omega
    · go_wp2
      go_ret
      exact RetX.b rfl (by repeat (first | exact Below.refl _ _ | assumption | refine Below.alloc ?_ (by simp [size_ext]; try omega) _ | refine Below.ext ?_ (by simp [size_ext]; try omega) _ | refine Below.drew ?_ | refine Below.setCell ?_ (by simp [size_ext]; try omega) _))
theorem copyInts_any (w : World) (S : Nat → Prop) (A : Option Addr) (n c : Nat) (xs : List Int) (h : Sl w S A n c xs) (hm : xs.length ≤ 1048576) :
    Calls Try.prog 83 #[.slice A n c] w (RetO 3 xs w) := by
  have HL := hide h.len
  have hn : n ≤ 1048576 := by rw [← h.len]; exact hm
  cases A with
  | none =>
    have h0 : n = 0 := by have := h.2.2.2.1 rfl; have := h.2.1; omega
    have h0' : c = 0 := h.2.2.2.1 rfl
    subst h0 h0'
    obtain rfl : xs = [] := List.eq_nil_of_length_eq_zero HL.out
    go_enter Try.func83, Try.ntmps83
    go_wp2
    go_ret
    exact RetO.mk_ (OwnL.nil_ _ _ _ (fun _ => False)) (fun _ h => h.elim) (by repeat (first | exact Below.refl _ _ | assumption | refine Below.alloc ?_ (by simp [size_ext]; try omega) _ | refine Below.ext ?_ (by simp [size_ext]; try omega) _ | refine Below.drew ?_ | refine Below.setCell ?_ (by simp [size_ext]; try omega) _))
  | some ad =>
    obtain ⟨vs, hr, hc⟩ := (h.more (S' := fun b => b < w.heap.size) (fun b hb _ => hb)).from_
    have HR := hide hr; have HC := hide hc; clear hr hc h
    obtain ⟨i0, hi, hz, hz1, hz2⟩ := info_parts info_int
    have HI0 := hide hi; have HZ := hide hz; have HZ1 := hide hz1; have HZ2 := hide hz2
    clear hi hz hz1 hz2
    go_enter Try.func83, Try.ntmps83
    go_wp2_with (at_builtin; refine wpList_push_at (α := Int) _ rfl (.tmp 4) (.tmp 5) 22 rfl _ 3 i0 _ 8 Try.underlying22 HI0.out HZ.out HZ1.out HZ2.out rfl (by decide) (fun _ => False) (fun b => b < w.heap.size) (.slice none 0 0) [] xs rfl (OwnL.nil_ _ w.heap.size _ _) ad n c vs rfl HL.out HR.out HC.out (fun _ _ h => h.elim) (fun g hg => by simp [Value.ownBlock] at hg) (fun _ h => h) (by simp [maxLen]; omega) (by simp; omega) (Nat.le_refl _) ?_; intro v' w1 hown' hg _)
    have HO' := hide hown'; have HG := hide hg
    clear hown' hg
    go_wp2
    go_ret
    have ho := HO'.out
    rw [List.nil_append] at ho
    refine RetO.mk_ (S := fun _ => False) ?_ (fun _ h => h.elim) ((Below.refl _ _).grown HG.out (Nat.le_refl _) (by simp [Value.ownBlock]))
    obtain ⟨vals, h1, h2, h3⟩ := ho
    refine ⟨vals, h1, ?_, fun _ _ h => h⟩
    exact RepL.ints_more h2

end Go.Proofs.Ytahblhiolkdnnaa
