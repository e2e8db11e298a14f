/- Walks: is a number one of some; are calls the same. -/
import Derived.Test.YtkjipgelbjaggaaM40
import Derived.Test.YtkjipgelbjaggaaM15
set_option linter.unusedSimpArgs false
set_option linter.unusedVariables false
namespace Go.Proofs.Ytkjipgelbjaggaa
open Go.RowKit Go.Maps
theorem index_any (w : World) (S : Nat → Prop) (A : Option Addr) (n c : Nat) (xs : List Int) (v : Int) (h : Sl w S A n c xs) :
    Calls Try.prog 72 #[.slice A n c, .int .i64 v] w (Ret (.int .i64 (idxF (fun x => x == v) 0 xs)) w) := by
  have hn := h.nle
  have HL := hide h.len
  have HS := hide h
  clear h
  go_enter Try.func72, Try.ntmps72
  go_wp2
  go_loop [8] (fun i => ∃ k : Nat, k ≤ n ∧ i = .int .i64 k ∧ idxF (fun x => x == v) 0 xs = idxF (fun x => x == v) k (xs.drop k)) (fun i => n - (intOf i).toNat)
  case atStart => exact ⟨0, Nat.zero_le _, rfl, rfl⟩
  case round =>
    obtain ⟨k, hk, rfl, hr⟩ := hrel
    have HR := hide hr; clear hr
    by_cases hlt : k < n
    · obtain ⟨b, off, x, rfl, hb, hx, hxi, hc⟩ := at_int HS.out hlt
      have HX := hide (drop_at hx); clear hx
      by_cases hv : x = v
      · subst hv
        have e : (x == x) = true := by simp
        go_wp2
        go_ret
        exact Ret.i (by rw [HR.out, HX.out]; simp [idxF])
      · have e : (v == x) = false := by rw [beq_eq_false_iff_ne]; exact fun h => hv h.symm
        have HV := hide (show (x == v) = false by rw [beq_eq_false_iff_ne]; exact hv)
        clear hv
        go_wp2
        go_round
        case rel => exact ⟨k + 1, by omega, by go_num, by rw [HR.out, HX.out]; simp [idxF, HV.out]⟩
        case measure => simp [intOf]; omega
    · go_wp2
      go_ret
      exact Ret.i (by rw [HR.out, drop_end HL.out hlt]; rfl)
theorem anyF_hasI (v : Int) : ∀ xs : List Int, anyF (fun x => x == v) xs = hasI v xs
  | [] => rfl
  | x :: l => by simp only [anyF, hasI, anyF_hasI v l]
theorem contains_any (w : World) (S : Nat → Prop) (A : Option Addr) (n c : Nat) (xs : List Int) (v : Int) (h : Sl w S A n c xs) :
    Calls Try.prog 48 #[.slice A n c, .int .i64 v] w (Ret (.bool (hasI v xs)) w) := by
  go_enter Try.func48, Try.ntmps48
  go_wp2_with (go_at_call 72; refine (index_any _ S A n c xs v h).mono ?_; rintro e w' ⟨rfl, rfl⟩)
  go_ret
  exact Ret.b (by rw [idxF_ge _ xs 0, anyF_hasI])
theorem isSaved_any (w : World) (S2 : Nat → Prop) (m : Machine) (v1 : Value) (A2 : Option Addr) (n2 c2 : Nat) (h2 : Sl w S2 A2 n2 c2 m.saved) (r : Int) :
    Calls Try.prog 26 #[.agg #[.int .i64 m.regs, v1, .int .i64 m.ret, .slice A2 n2 c2], .int .i64 r] w (RetX (.bool (hasI r m.saved)) w) := by
  have HS := hide h2
  clear h2
  go_enter Try.func26, Try.ntmps26
  go_wp2_with (go_at_call 48; refine (contains_any _ S2 A2 n2 c2 m.saved r (by repeat (first | assumption | exact Hd.out (by assumption) | apply Sl.alloc | apply Sl.ext | apply Sl.drew | apply Sl.drewN))).mono ?_; rintro e w' ⟨rfl, rfl⟩)
  go_ret
  exact RetX.b rfl (by repeat (first | exact Below.refl _ _ | assumption | refine Below.alloc ?_ (by simp [size_ext]; try omega) _ | refine Below.ext ?_ (by simp [size_ext]; try omega) _ | refine Below.drew ?_ | refine Below.setCell ?_ (by simp [size_ext]; try omega) _))
set_option maxHeartbeats 1000000 in
theorem sameCalls_any (w : World) (S S' : Nat → Prop) (A A' : Option Addr) (n c c' : Nat) (xs : List Call) (h : Sl w S A n c xs) (h' : Sl w S' A' n c' xs) :
    Calls Try.prog 13 #[.slice A n c, .slice A' n c'] w (RetX (.bool true) w) := by
  have hn := h.nle
  have HS := hide h; clear h
  have HS' := hide h'; clear h'
  go_enter Try.func13, Try.ntmps13
  go_wp2_with fail
  go_loopw [5] (fun i wr => ∃ k : Nat, k ≤ n ∧ i = .int .i64 k ∧ ∃ u, wr = w.ext u) (fun i _ => n - (intOf i).toNat)
  case atStart => exact ⟨0, Nat.zero_le _, rfl, ext_refl _⟩
  case round =>
    obtain ⟨k, hk, rfl, u, rfl⟩ := hrel
    by_cases hlt : k < n
    · obtain ⟨b, off, x, Aa, na, ca, rfl, hb, hx, hxi, hs, c0, c1⟩ := at_Call HS.out hlt
      obtain ⟨b', off', x', Ab, nb, cb, rfl, hb', hx', hxi', hs', c0', c1'⟩ := at_Call HS'.out hlt
      obtain rfl := some_eq hx hx'
      obtain rfl : na = nb := by rw [← hs.len, ← hs'.len]
      have HA := hide hs; have HB := hide hs'
      have hf : (x.callee != x.callee) = false := by simp
      clear hx hx' hs hs'
      go_wp2_with fail
      refine wp_region_ext (by kernel_rfl) (by kernel_rfl) ?_
      repeat (any_goals (first | go_big_quiet_step (((go_at_call 14; exact quiet_retx (sameInts_any _ S S' Aa Ab na ca cb x.args ((HA.out.ext _).ext _) ((HB.out.ext _).ext _))))) | quiet_step (((go_at_call 14; exact quiet_retx (sameInts_any _ S S' Aa Ab na ca cb x.args ((HA.out.ext _).ext _) ((HB.out.ext _).ext _)))))))
      refine wpQuiet_nil ?_
      rintro _ ⟨uq, rfl⟩
      go_wp2_with fail
      go_roundw
      case rel => exact ⟨k + 1, by omega, by go_num, Below.to_ext (by repeat (first | exact Below.refl _ _ | assumption | refine Below.alloc ?_ (by simp [size_ext]; try omega) _ | refine Below.ext ?_ (by simp [size_ext]; try omega) _ | refine Below.drew ?_ | refine Below.setCell ?_ (by simp [size_ext]; try omega) _))⟩
      case measure => simp [intOf]; omega
    · go_wp2_with fail
      go_ret
      exact RetX.b rfl (by repeat (first | exact Below.refl _ _ | assumption | refine Below.alloc ?_ (by simp [size_ext]; try omega) _ | refine Below.ext ?_ (by simp [size_ext]; try omega) _ | refine Below.drew ?_ | refine Below.setCell ?_ (by simp [size_ext]; try omega) _))
end Go.Proofs.Ytkjipgelbjaggaa
