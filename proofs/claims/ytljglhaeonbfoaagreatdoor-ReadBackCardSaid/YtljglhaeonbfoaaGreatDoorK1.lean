/- Walks: copies of lists of structs; what is the same is found the same. Written by gen_kit.py. -/
import Derived.Test.YtljglhaeonbfoaaGreatDoorG25
set_option linter.unusedSimpArgs false
set_option linter.unusedVariables false
namespace Go.Proofs.YtljglhaeonbfoaaGreatDoor
open Go.RowKit
theorem sameIns_any (w : World) (S S' : Nat → Prop) (A0 A0' : Option Addr) (n0 c0 c0' : Nat) (x : Ins) (h0 : Sl w S A0 n0 c0 x.args) (h0' : Sl w S' A0' n0 c0' x.args) :
  Calls Tryz.prog 170 #[.agg #[.int .i64 x.op, .int .i64 x.dst, .int .i64 x.a, .int .i64 x.b, .int .i64 x.imm, .int .i64 x.callee, .slice A0 n0 c0, .int .i64 x.many], .agg #[.int .i64 x.op, .int .i64 x.dst, .int .i64 x.a, .int .i64 x.b, .int .i64 x.imm, .int .i64 x.callee, .slice A0' n0 c0', .int .i64 x.many]] w (RetX (.bool true) w) := by
 have H0 := hide h0; clear h0
 have H0' := hide h0'; clear h0'
 go_enter Tryz.func170, Tryz.ntmps170
 go_wp2_with (first | (go_at_call 54; refine (sameInts_any _ S S' A0 A0' n0 c0 c0' x.args (by repeat (first | assumption | exact Hd.out (by assumption) | apply Sl.alloc | apply Sl.ext | apply Sl.drew | apply Sl.drewN)) (by repeat (first | assumption | exact Hd.out (by assumption) | apply Sl.alloc | apply Sl.ext | apply Sl.drew | apply Sl.drewN))).mono ?_; rintro e _ ⟨rfl, ux, rfl⟩))
 go_ret
 exact RetX.b rfl (by repeat (first | exact Below.refl _ _ | assumption | refine Below.alloc ?_ (by simp [size_ext]; try omega) _ | refine Below.ext ?_ (by simp [size_ext]; try omega) _ | refine Below.drew ?_ | refine Below.setCell ?_ (by simp [size_ext]; try omega) _))
theorem sameRow_any (w : World) (S S' : Nat → Prop) (A A' : Option Addr) (n c c' : Nat) (xs : List Ins) (h : Sl w S A n c xs) (h' : Sl w S' A' n c' xs) :
  Calls Tryz.prog 129 #[.slice A n c, .slice A' n c'] w (RetX (.bool true) w) := by
 have hn := h.nle
 have HS := hide h; clear h
 have HS' := hide h'; clear h'
 go_enter Tryz.func129, Tryz.ntmps129
 go_wp2
 go_loopw [5] (fun i wr => ∃ k : Nat, k ≤ n ∧ i = .int .i64 k ∧ ∃ u, wr = w.ext u) (fun i _ => n - (intOf i).toNat)
 case atStart => exact ⟨0, Nat.zero_le _, rfl, ext_refl _⟩
 case round =>
  obtain ⟨k, hk, rfl, u, rfl⟩ := hrel
  by_cases hlt : k < n
  ·obtain ⟨b, off, x, A0, n0, c0, rfl, hb, hx, -, -, -, -, -, -, hs0, -, d0, d1, d2, d3, d4, d5, d6, d7⟩ := at_Ins HS.out hlt
   obtain ⟨b', off', x', A0', n0', c0', rfl, hb', hx', -, -, -, -, -, -, hs'0, -, e0, e1, e2, e3, e4, e5, e6, e7⟩ := at_Ins HS'.out hlt
   obtain rfl := some_eq hx hx'
   clear hx hx'
   obtain rfl : n0 = n0' := hs0.len.symm.trans hs'0.len
   have HI0 := hide hs0; have HI0' := hide hs'0
   clear hs0 hs'0
   go_wp2
   refine wp_region_ext (by kernel_rfl) (by kernel_rfl) ?_
   repeat (any_goals (first | go_big_quiet_step (((go_at_call 170; exact quiet_retx (sameIns_any _ S S' A0 A0' n0 c0 c0' x (by repeat (first | assumption | exact Hd.out (by assumption) | apply Sl.alloc | apply Sl.ext | apply Sl.drew | apply Sl.drewN)) (by repeat (first | assumption | exact Hd.out (by assumption) | apply Sl.alloc | apply Sl.ext | apply Sl.drew | apply Sl.drewN)))))) | quiet_step (((go_at_call 170; exact quiet_retx (sameIns_any _ S S' A0 A0' n0 c0 c0' x (by repeat (first | assumption | exact Hd.out (by assumption) | apply Sl.alloc | apply Sl.ext | apply Sl.drew | apply Sl.drewN)) (by repeat (first | assumption | exact Hd.out (by assumption) | apply Sl.alloc | apply Sl.ext | apply Sl.drew | apply Sl.drewN))))))))
   refine wpQuiet_nil ?_
   rintro _ ⟨uq, rfl⟩
   go_wp2
   go_roundw
   case rel => exact ⟨k + 1, by omega, by go_num, Below.to_ext (by repeat (first | exact Below.refl _ _ | assumption | refine Below.alloc ?_ (by simp [size_ext]; try omega) _ | refine Below.ext ?_ (by simp [size_ext]; try omega) _ | refine Below.drew ?_ | refine Below.setCell ?_ (by simp [size_ext]; try omega) _))⟩
   case measure => simp [intOf]; omega
  ·go_wp2
   go_ret
   exact RetX.b rfl (by repeat (first | exact Below.refl _ _ | assumption | refine Below.alloc ?_ (by simp [size_ext]; try omega) _ | refine Below.ext ?_ (by simp [size_ext]; try omega) _ | refine Below.drew ?_ | refine Below.setCell ?_ (by simp [size_ext]; try omega) _))
theorem sameBlock_any (w : World) (S S' : Nat → Prop) (A0 A0' : Option Addr) (n0 c0 c0' : Nat) (x : Block) (h0 : Sl w S A0 n0 c0 x.ins) (h0' : Sl w S' A0' n0 c0' x.ins) :
  Calls Tryz.prog 82 #[.agg #[.slice A0 n0 c0, .int .i64 x.term.kind, .int .i64 x.term.a, .int .i64 x.term.to0, .int .i64 x.term.to1], .agg #[.slice A0' n0 c0', .int .i64 x.term.kind, .int .i64 x.term.a, .int .i64 x.term.to0, .int .i64 x.term.to1]] w (RetX (.bool true) w) := by
 have H0 := hide h0; clear h0
 have H0' := hide h0'; clear h0'
 go_enter Tryz.func82, Tryz.ntmps82
 go_wp2_with (first | (go_at_call 129; refine (sameRow_any _ S S' A0 A0' n0 c0 c0' x.ins (by repeat (first | assumption | exact Hd.out (by assumption) | apply Sl.alloc | apply Sl.ext | apply Sl.drew | apply Sl.drewN)) (by repeat (first | assumption | exact Hd.out (by assumption) | apply Sl.alloc | apply Sl.ext | apply Sl.drew | apply Sl.drewN))).mono ?_; rintro e _ ⟨rfl, ux, rfl⟩))
 go_ret
 exact RetX.b rfl (by repeat (first | exact Below.refl _ _ | assumption | refine Below.alloc ?_ (by simp [size_ext]; try omega) _ | refine Below.ext ?_ (by simp [size_ext]; try omega) _ | refine Below.drew ?_ | refine Below.setCell ?_ (by simp [size_ext]; try omega) _))
theorem sameBlocks_any (w : World) (S S' : Nat → Prop) (A A' : Option Addr) (n c c' : Nat) (xs : List Block) (h : Sl w S A n c xs) (h' : Sl w S' A' n c' xs) :
  Calls Tryz.prog 55 #[.slice A n c, .slice A' n c'] w (RetX (.bool true) w) := by
 have hn := h.nle
 have HS := hide h; clear h
 have HS' := hide h'; clear h'
 go_enter Tryz.func55, Tryz.ntmps55
 go_wp2
 go_loopw [5] (fun i wr => ∃ k : Nat, k ≤ n ∧ i = .int .i64 k ∧ ∃ u, wr = w.ext u) (fun i _ => n - (intOf i).toNat)
 case atStart => exact ⟨0, Nat.zero_le _, rfl, ext_refl _⟩
 case round =>
  obtain ⟨k, hk, rfl, u, rfl⟩ := hrel
  by_cases hlt : k < n
  ·obtain ⟨b, off, x, A0, n0, c0, rfl, hb, hx, hs0, -, -, -, -, d0, d1, d2, d3, d4⟩ := at_Block HS.out hlt
   obtain ⟨b', off', x', A0', n0', c0', rfl, hb', hx', hs'0, -, -, -, -, e0, e1, e2, e3, e4⟩ := at_Block HS'.out hlt
   obtain rfl := some_eq hx hx'
   clear hx hx'
   obtain rfl : n0 = n0' := hs0.len.symm.trans hs'0.len
   have HI0 := hide hs0; have HI0' := hide hs'0
   clear hs0 hs'0
   go_wp2
   refine wp_region_ext (by kernel_rfl) (by kernel_rfl) ?_
   repeat (any_goals (first | go_big_quiet_step (((go_at_call 82; exact quiet_retx (sameBlock_any _ S S' A0 A0' n0 c0 c0' x (by repeat (first | assumption | exact Hd.out (by assumption) | apply Sl.alloc | apply Sl.ext | apply Sl.drew | apply Sl.drewN)) (by repeat (first | assumption | exact Hd.out (by assumption) | apply Sl.alloc | apply Sl.ext | apply Sl.drew | apply Sl.drewN)))))) | quiet_step (((go_at_call 82; exact quiet_retx (sameBlock_any _ S S' A0 A0' n0 c0 c0' x (by repeat (first | assumption | exact Hd.out (by assumption) | apply Sl.alloc | apply Sl.ext | apply Sl.drew | apply Sl.drewN)) (by repeat (first | assumption | exact Hd.out (by assumption) | apply Sl.alloc | apply Sl.ext | apply Sl.drew | apply Sl.drewN))))))))
   refine wpQuiet_nil ?_
   rintro _ ⟨uq, rfl⟩
   go_wp2
   go_roundw
   case rel => exact ⟨k + 1, by omega, by go_num, Below.to_ext (by repeat (first | exact Below.refl _ _ | assumption | refine Below.alloc ?_ (by simp [size_ext]; try omega) _ | refine Below.ext ?_ (by simp [size_ext]; try omega) _ | refine Below.drew ?_ | refine Below.setCell ?_ (by simp [size_ext]; try omega) _))⟩
   case measure => simp [intOf]; omega
  ·go_wp2
   go_ret
   exact RetX.b rfl (by repeat (first | exact Below.refl _ _ | assumption | refine Below.alloc ?_ (by simp [size_ext]; try omega) _ | refine Below.ext ?_ (by simp [size_ext]; try omega) _ | refine Below.drew ?_ | refine Below.setCell ?_ (by simp [size_ext]; try omega) _))
end Go.Proofs.YtljglhaeonbfoaaGreatDoor
