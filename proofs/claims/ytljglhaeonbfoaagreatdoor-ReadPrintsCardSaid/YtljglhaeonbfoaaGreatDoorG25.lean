/- Two arrays of two numbers, held against each other. Walks: lists of numbers: the same, copied. law05: walks: is a register saved. (As in law09's texts, without what they lean on.) Walks: copies of lists of structs; what is the same is found the same. Written by gen_kit.py. Walks: how great targets are. -/
import Derived.Test.YtljglhaeonbfoaaGreatDoorG0
import Derived.Test.YtljglhaeonbfoaaGreatDoorG23
import Derived.Test.YtljglhaeonbfoaaGreatDoorG20
set_option linter.unusedSimpArgs false
set_option linter.unusedVariables false
namespace Go.Proofs.YtljglhaeonbfoaaGreatDoor
section
variable {P : Program} (w : World)
theorem run_equalIn_arr2 (d : Nat) (t : TypeId) (k : IntKind) (a0 a1 b0 b1 : Int) (ht : P.underlying t = some (.array 2 (P.elem t))) (he : P.underlying (P.elem t) = some (.int (P.intKind (P.elem t)))) (hsz : ∀ w, (sizeOf (P.elem t)).run P w = .ok 1 w) (hd : 0 < d) :
  (Op.equalIn (d + 1) t (.agg #[.int k a0, .int k a1]) (.agg #[.int k b0, .int k b1])).run P w = .ok (a0 == b0 && a1 == b1) w := by
 obtain ⟨d, rfl⟩ : ∃ e, d = e + 1 := ⟨d - 1, by omega⟩
 rw [Op.equalIn]
 rw [Sem.run_bind, run_underlying ht]
 simp only [Result.andThen_ok]
 have hia : ∀ w, (isAgg (P.elem t)).run P w = .ok false w := fun w => by simp [isAgg, run_underlying he]
 simp [Sem.run_bind, hsz, List.range', part, hia, Op.equalIn, run_underlying he]
 by_cases h0 : a0 = b0 <;> by_cases h1 : a1 = b1 <;> simp [h0, h1]
end
attribute [go_sem] run_equalIn_arr2
end Go.Proofs.YtljglhaeonbfoaaGreatDoor
namespace Go.Proofs.YtljglhaeonbfoaaGreatDoor
open Go.RowKit
theorem mem_at {α : Type} {xs : List α} {k : Nat} {x : α} (h : xs[k]? = some x) : x ∈ xs := List.mem_of_getElem? h
theorem some_eq {α : Type} {a b : α} {x : Option α} (h : x = some a) (h' : x = some b) : a = b := by rw [h] at h'; exact Option.some.inj h'
theorem sameInts_any (w : World) (S S' : Nat → Prop) (A A' : Option Addr) (n c c' : Nat) (xs : List Int) (h : Sl w S A n c xs) (h' : Sl w S' A' n c' xs) :
  Calls Tryz.prog 54 #[.slice A n c, .slice A' n c'] w (RetX (.bool true) w) := by
 have hn := h.nle
 have HS := hide h; clear h
 have HS' := hide h'; clear h'
 go_enter Tryz.func54, Tryz.ntmps54
 go_wp2
 go_loopw [5] (fun i wr => ∃ k : Nat, k ≤ n ∧ i = .int .i64 k ∧ ∃ u, wr = w.ext u) (fun i _ => n - (intOf i).toNat)
 case atStart => exact ⟨0, Nat.zero_le _, rfl, ext_refl _⟩
 case round =>
  obtain ⟨k, hk, rfl, u, rfl⟩ := hrel
  by_cases hlt : k < n
  ·obtain ⟨b, off, x, rfl, hb, hx, -, hc⟩ := at_int HS.out hlt
   obtain ⟨b', off', x', rfl, hb', hx', -, hc'⟩ := at_int HS'.out hlt
   obtain rfl := some_eq hx hx'
   clear hx hx'
   go_wp2
   refine wp_region_ext (by kernel_rfl) (by kernel_rfl) ?_
   repeat (any_goals (first | go_big_quiet_step ((fail)) | quiet_step ((fail))))
   refine wpQuiet_nil ?_
   rintro _ ⟨uq, rfl⟩
   go_wp2
   go_roundw
   case rel => exact ⟨k + 1, by omega, by go_num, Below.to_ext (by repeat (first | exact Below.refl _ _ | assumption | refine Below.alloc ?_ (by simp [size_ext]; try omega) _ | refine Below.ext ?_ (by simp [size_ext]; try omega) _ | refine Below.drew ?_ | refine Below.setCell ?_ (by simp [size_ext]; try omega) _))⟩
   case measure => simp [intOf]; omega
  ·go_wp2
   go_ret
   exact RetX.b rfl (by repeat (first | exact Below.refl _ _ | assumption | refine Below.alloc ?_ (by simp [size_ext]; try omega) _ | refine Below.ext ?_ (by simp [size_ext]; try omega) _ | refine Below.drew ?_ | refine Below.setCell ?_ (by simp [size_ext]; try omega) _))
end Go.Proofs.YtljglhaeonbfoaaGreatDoor
namespace Go.Proofs.YtljglhaeonbfoaaGreatDoor
open Go.RowKit
theorem index5_any (w : World) (S : Nat → Prop) (A : Option Addr) (n c : Nat) (xs : List Int) (v : Int) (h : Sl w S A n c xs) :
  Calls Tryz.prog 135 #[.slice A n c, .int .i64 v] w (Ret (.int .i64 (idxF (fun x => x == v) 0 xs)) w) := by
 have hn := h.nle
 have HL := hide h.len
 have HS := hide h
 clear h
 go_enter Tryz.func135, Tryz.ntmps135
 go_wp2
 go_loop [8] (fun i => ∃ k : Nat, k ≤ n ∧ i = .int .i64 k ∧ idxF (fun x => x == v) 0 xs = idxF (fun x => x == v) k (xs.drop k)) (fun i => n - (intOf i).toNat)
 case atStart => exact ⟨0, Nat.zero_le _, rfl, rfl⟩
 case round =>
  obtain ⟨k, hk, rfl, hr⟩ := hrel
  have HR := hide hr; clear hr
  by_cases hlt : k < n
  ·obtain ⟨b, off, x, rfl, hb, hx, hxi, hc⟩ := at_int HS.out hlt
   have HX := hide (drop_at hx); clear hx
   by_cases hv : x = v
   ·subst hv
    have e : (x == x) = true := by simp
    go_wp2
    go_ret
    exact Ret.i (by rw [HR.out, HX.out]; simp [idxF])
   ·have e : (v == x) = false := by rw [beq_eq_false_iff_ne]; exact fun h => hv h.symm
    have HV := hide (show (x == v) = false by rw [beq_eq_false_iff_ne]; exact hv)
    clear hv
    go_wp2
    go_round
    case rel => exact ⟨k + 1, by omega, by go_num, by rw [HR.out, HX.out]; simp [idxF, HV.out]⟩
    case measure => simp [intOf]; omega
  ·go_wp2
   go_ret
   exact Ret.i (by rw [HR.out, drop_end HL.out hlt]; rfl)
theorem anyF5_hasI (v : Int) : ∀ xs : List Int, anyF (fun x => x == v) xs = hasI v xs
 | [] => rfl
 | x :: l => by simp only [anyF, hasI, anyF5_hasI v l]
theorem idx5_ge (f : Int → Bool) : ∀ (xs : List Int) (k : Nat), decide (0 ≤ idxF f k xs) = anyF f xs
 | [], _ => rfl
 | x :: l, k => by
  unfold idxF anyF
  cases hf : f x
  ·simp only [Bool.false_or]; exact idx5_ge f l (k + 1)
  ·simp
theorem contains5_any (w : World) (S : Nat → Prop) (A : Option Addr) (n c : Nat) (xs : List Int) (v : Int) (h : Sl w S A n c xs) :
  Calls Tryz.prog 93 #[.slice A n c, .int .i64 v] w (Ret (.bool (hasI v xs)) w) := by
 go_enter Tryz.func93, Tryz.ntmps93
 go_wp2_with (go_at_call 135; refine (index5_any _ S A n c xs v h).mono ?_; rintro e w' ⟨rfl, rfl⟩)
 go_ret
 exact Ret.b (by rw [← anyF5_hasI, ← idx5_ge _ xs 0])
end Go.Proofs.YtljglhaeonbfoaaGreatDoor
namespace Go.Proofs.YtljglhaeonbfoaaGreatDoor
open Go.RowKit
def OkIns (x : Ins) : Prop := InI x.op ∧ InI x.dst ∧ InI x.a ∧ InI x.b ∧ InI x.imm ∧ InI x.callee ∧ InI x.many
def OkBlock (x : Block) : Prop := InI x.term.kind ∧ InI x.term.a ∧ InI x.term.to0 ∧ InI x.term.to1
theorem sameIns_any (w : World) (S S' : Nat → Prop) (A0 A0' : Option Addr) (n0 c0 c0' : Nat) (x : Ins) (h0 : Sl w S A0 n0 c0 x.args) (h0' : Sl w S' A0' n0 c0' x.args) :
  Calls Tryz.prog 170 #[.agg #[.int .i64 x.op, .int .i64 x.dst, .int .i64 x.a, .int .i64 x.b, .int .i64 x.imm, .int .i64 x.callee, .slice A0 n0 c0, .int .i64 x.many], .agg #[.int .i64 x.op, .int .i64 x.dst, .int .i64 x.a, .int .i64 x.b, .int .i64 x.imm, .int .i64 x.callee, .slice A0' n0 c0', .int .i64 x.many]] w (RetX (.bool true) w) := by
 have H0 := hide h0; clear h0
 have H0' := hide h0'; clear h0'
 go_enter Tryz.func170, Tryz.ntmps170
 go_wp2_with (first | (go_at_call 54; refine (sameInts_any _ S S' A0 A0' n0 c0 c0' x.args (by repeat (first | assumption | exact Hd.out (by assumption) | apply Sl.alloc | apply Sl.ext | apply Sl.drew | apply Sl.drewN)) (by repeat (first | assumption | exact Hd.out (by assumption) | apply Sl.alloc | apply Sl.ext | apply Sl.drew | apply Sl.drewN))).mono ?_; rintro e _ ⟨rfl, ux, rfl⟩))
 go_ret
 exact RetX.b rfl (by repeat (first | exact Below.refl _ _ | assumption | refine Below.alloc ?_ (by simp [size_ext]; try omega) _ | refine Below.ext ?_ (by simp [size_ext]; try omega) _ | refine Below.drew ?_ | refine Below.setCell ?_ (by simp [size_ext]; try omega) _))
theorem sameRow_any (w : World) (S S' : Nat → Prop) (A A' : Option Addr) (n c c' : Nat) (xs : List Ins) (h : Sl w S A n c xs) (h' : Sl w S' A' n c' xs) :
  Calls Tryz.prog 129 #[.slice A n c, .slice A' n c'] w (RetX (.bool true) w) := by
 have hn := h.nle
 have HS := hide h; clear h
 have HS' := hide h'; clear h'
 go_enter Tryz.func129, Tryz.ntmps129
 go_wp2
 go_loopw [5] (fun i wr => ∃ k : Nat, k ≤ n ∧ i = .int .i64 k ∧ ∃ u, wr = w.ext u) (fun i _ => n - (intOf i).toNat)
 case atStart => exact ⟨0, Nat.zero_le _, rfl, ext_refl _⟩
 case round =>
  obtain ⟨k, hk, rfl, u, rfl⟩ := hrel
  by_cases hlt : k < n
  ·obtain ⟨b, off, x, A0, n0, c0, rfl, hb, hx, -, -, -, -, -, -, hs0, -, d0, d1, d2, d3, d4, d5, d6, d7⟩ := at_Ins HS.out hlt
   obtain ⟨b', off', x', A0', n0', c0', rfl, hb', hx', -, -, -, -, -, -, hs'0, -, e0, e1, e2, e3, e4, e5, e6, e7⟩ := at_Ins HS'.out hlt
   obtain rfl := some_eq hx hx'
   clear hx hx'
   obtain rfl : n0 = n0' := hs0.len.symm.trans hs'0.len
   have HI0 := hide hs0; have HI0' := hide hs'0
   clear hs0 hs'0
   go_wp2
   refine wp_region_ext (by kernel_rfl) (by kernel_rfl) ?_
   repeat (any_goals (first | go_big_quiet_step (((go_at_call 170; exact quiet_retx (sameIns_any _ S S' A0 A0' n0 c0 c0' x (by repeat (first | assumption | exact Hd.out (by assumption) | apply Sl.alloc | apply Sl.ext | apply Sl.drew | apply Sl.drewN)) (by repeat (first | assumption | exact Hd.out (by assumption) | apply Sl.alloc | apply Sl.ext | apply Sl.drew | apply Sl.drewN)))))) | quiet_step (((go_at_call 170; exact quiet_retx (sameIns_any _ S S' A0 A0' n0 c0 c0' x (by repeat (first | assumption | exact Hd.out (by assumption) | apply Sl.alloc | apply Sl.ext | apply Sl.drew | apply Sl.drewN)) (by repeat (first | assumption | exact Hd.out (by assumption) | apply Sl.alloc | apply Sl.ext | apply Sl.drew | apply Sl.drewN))))))))
   refine wpQuiet_nil ?_
   rintro _ ⟨uq, rfl⟩
   go_wp2
   go_roundw
   case rel => exact ⟨k + 1, by omega, by go_num, Below.to_ext (by repeat (first | exact Below.refl _ _ | assumption | refine Below.alloc ?_ (by simp [size_ext]; try omega) _ | refine Below.ext ?_ (by simp [size_ext]; try omega) _ | refine Below.drew ?_ | refine Below.setCell ?_ (by simp [size_ext]; try omega) _))⟩
   case measure => simp [intOf]; omega
  ·go_wp2
   go_ret
   exact RetX.b rfl (by repeat (first | exact Below.refl _ _ | assumption | refine Below.alloc ?_ (by simp [size_ext]; try omega) _ | refine Below.ext ?_ (by simp [size_ext]; try omega) _ | refine Below.drew ?_ | refine Below.setCell ?_ (by simp [size_ext]; try omega) _))
theorem sameBlock_any (w : World) (S S' : Nat → Prop) (A0 A0' : Option Addr) (n0 c0 c0' : Nat) (x : Block) (h0 : Sl w S A0 n0 c0 x.ins) (h0' : Sl w S' A0' n0 c0' x.ins) :
  Calls Tryz.prog 82 #[.agg #[.slice A0 n0 c0, .int .i64 x.term.kind, .int .i64 x.term.a, .int .i64 x.term.to0, .int .i64 x.term.to1], .agg #[.slice A0' n0 c0', .int .i64 x.term.kind, .int .i64 x.term.a, .int .i64 x.term.to0, .int .i64 x.term.to1]] w (RetX (.bool true) w) := by
 have H0 := hide h0; clear h0
 have H0' := hide h0'; clear h0'
 go_enter Tryz.func82, Tryz.ntmps82
 go_wp2_with (first | (go_at_call 129; refine (sameRow_any _ S S' A0 A0' n0 c0 c0' x.ins (by repeat (first | assumption | exact Hd.out (by assumption) | apply Sl.alloc | apply Sl.ext | apply Sl.drew | apply Sl.drewN)) (by repeat (first | assumption | exact Hd.out (by assumption) | apply Sl.alloc | apply Sl.ext | apply Sl.drew | apply Sl.drewN))).mono ?_; rintro e _ ⟨rfl, ux, rfl⟩))
 go_ret
 exact RetX.b rfl (by repeat (first | exact Below.refl _ _ | assumption | refine Below.alloc ?_ (by simp [size_ext]; try omega) _ | refine Below.ext ?_ (by simp [size_ext]; try omega) _ | refine Below.drew ?_ | refine Below.setCell ?_ (by simp [size_ext]; try omega) _))
theorem sameBlocks_any (w : World) (S S' : Nat → Prop) (A A' : Option Addr) (n c c' : Nat) (xs : List Block) (h : Sl w S A n c xs) (h' : Sl w S' A' n c' xs) :
  Calls Tryz.prog 55 #[.slice A n c, .slice A' n c'] w (RetX (.bool true) w) := by
 have hn := h.nle
 have HS := hide h; clear h
 have HS' := hide h'; clear h'
 go_enter Tryz.func55, Tryz.ntmps55
 go_wp2
 go_loopw [5] (fun i wr => ∃ k : Nat, k ≤ n ∧ i = .int .i64 k ∧ ∃ u, wr = w.ext u) (fun i _ => n - (intOf i).toNat)
 case atStart => exact ⟨0, Nat.zero_le _, rfl, ext_refl _⟩
 case round =>
  obtain ⟨k, hk, rfl, u, rfl⟩ := hrel
  by_cases hlt : k < n
  ·obtain ⟨b, off, x, A0, n0, c0, rfl, hb, hx, hs0, -, -, -, -, d0, d1, d2, d3, d4⟩ := at_Block HS.out hlt
   obtain ⟨b', off', x', A0', n0', c0', rfl, hb', hx', hs'0, -, -, -, -, e0, e1, e2, e3, e4⟩ := at_Block HS'.out hlt
   obtain rfl := some_eq hx hx'
   clear hx hx'
   obtain rfl : n0 = n0' := hs0.len.symm.trans hs'0.len
   have HI0 := hide hs0; have HI0' := hide hs'0
   clear hs0 hs'0
   go_wp2
   refine wp_region_ext (by kernel_rfl) (by kernel_rfl) ?_
   repeat (any_goals (first | go_big_quiet_step (((go_at_call 82; exact quiet_retx (sameBlock_any _ S S' A0 A0' n0 c0 c0' x (by repeat (first | assumption | exact Hd.out (by assumption) | apply Sl.alloc | apply Sl.ext | apply Sl.drew | apply Sl.drewN)) (by repeat (first | assumption | exact Hd.out (by assumption) | apply Sl.alloc | apply Sl.ext | apply Sl.drew | apply Sl.drewN)))))) | quiet_step (((go_at_call 82; exact quiet_retx (sameBlock_any _ S S' A0 A0' n0 c0 c0' x (by repeat (first | assumption | exact Hd.out (by assumption) | apply Sl.alloc | apply Sl.ext | apply Sl.drew | apply Sl.drewN)) (by repeat (first | assumption | exact Hd.out (by assumption) | apply Sl.alloc | apply Sl.ext | apply Sl.drew | apply Sl.drewN))))))))
   refine wpQuiet_nil ?_
   rintro _ ⟨uq, rfl⟩
   go_wp2
   go_roundw
   case rel => exact ⟨k + 1, by omega, by go_num, Below.to_ext (by repeat (first | exact Below.refl _ _ | assumption | refine Below.alloc ?_ (by simp [size_ext]; try omega) _ | refine Below.ext ?_ (by simp [size_ext]; try omega) _ | refine Below.drew ?_ | refine Below.setCell ?_ (by simp [size_ext]; try omega) _))⟩
   case measure => simp [intOf]; omega
  ·go_wp2
   go_ret
   exact RetX.b rfl (by repeat (first | exact Below.refl _ _ | assumption | refine Below.alloc ?_ (by simp [size_ext]; try omega) _ | refine Below.ext ?_ (by simp [size_ext]; try omega) _ | refine Below.drew ?_ | refine Below.setCell ?_ (by simp [size_ext]; try omega) _))
end Go.Proofs.YtljglhaeonbfoaaGreatDoor
namespace Go.Proofs.YtljglhaeonbfoaaGreatDoor
open Go.RowKit
theorem argsOf_le (most : Int) (M : Nat) : ∀ (l : List Ins) (n : Int), (∀ i ∈ l, i.args.length ≤ M) → n ≤ argsOf most n l ∧ argsOf most n l ≤ max n (most + M) := by
 intro l
 induction l with
 | nil => intro n _; simp [argsOf]; omega
 | cons i l ih =>
  intro n h
  simp only [argsOf]
  split
  ·have := ih (n + i.args.length) (fun j hj => h j (by simp [hj]))
   have h1 := h i (by simp)
   omega
  ·omega
end Go.Proofs.YtljglhaeonbfoaaGreatDoor
