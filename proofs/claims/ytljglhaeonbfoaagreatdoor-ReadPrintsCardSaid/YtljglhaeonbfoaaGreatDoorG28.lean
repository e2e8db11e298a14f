/- law04: walks: is an instruction, an end right? Printed by gen_w4o.py. law04: walks: is an end right? What it needs. law04: walks: is an instruction right? -/
import Derived.Test.YtljglhaeonbfoaaGreatDoorG23
import Derived.Test.YtljglhaeonbfoaaGreatDoorG19
import Derived.BigGuardPart
set_option linter.unusedSimpArgs false
set_option linter.unusedVariables false
namespace Go.Proofs.YtljglhaeonbfoaaGreatDoor
open Go.RowKit
def OkI4 (x : Ins) : Prop := InI x.op ∧ InI x.dst ∧ InI x.a ∧ InI x.b ∧ InI x.imm ∧ InI x.callee ∧ InI x.many
def OkT4 (x : Term) : Prop := InI x.kind ∧ InI x.a ∧ InI x.to0 ∧ InI x.to1
theorem anyF_any4 {α : Type} (f : α → Bool) : ∀ xs : List α, anyF f xs = xs.any f := by
 intro xs
 induction xs with
 | nil => rfl
 | cons x l ih => simp [anyF, ih]
theorem any_not4 {α : Type} (f : α → Bool) (xs : List α) : (!xs.any fun x => !f x) = xs.all f := by
 induction xs with
 | nil => rfl
 | cons x l ih => simp [List.any_cons, List.all_cons, ← ih]
theorem indexInts4_any (w : World) (S : Nat → Prop) (A : Option Addr) (n c : Nat) (xs : List Int) (f : Int → Bool) (fn : FuncId) (caps : Array Value) (h : Sl w S A n c xs)
  (hfn : ∀ (vs : Array Value) (w : World), (callFunc fn vs).run Tryz.prog w = .ok (.enter fn vs) w) (hf : ∀ (x : Int) (u : Ext), InI x → Calls Tryz.prog fn (#[.int .i64 x] ++ caps) (w.ext u) (RetX (.bool (f x)) (w.ext u))) :
  Calls Tryz.prog 163 #[.slice A n c, .func (.func fn) #[] caps] w (RetX (.int .i64 (idxF f 0 xs)) w) := by
 have hn := h.nle
 have HL := hide h.len
 have HS := hide h; have HF := hide hf
 clear h hf
 go_enter Tryz.func163, Tryz.ntmps163
 go_wp2
 go_loopw [8] (fun i wr => ∃ k : Nat, k ≤ n ∧ i = .int .i64 k ∧ idxF f 0 xs = idxF f k (xs.drop k) ∧ ∃ u, wr = w.ext u) (fun i _ => n - (intOf i).toNat)
 case atStart => exact ⟨0, Nat.zero_le _, rfl, rfl, ext_refl _⟩
 case round =>
  obtain ⟨k, hk, rfl, hr, u, rfl⟩ := hrel
  have HR := hide hr; clear hr
  by_cases hlt : k < n
  ·obtain ⟨b, off, x, rfl, hb, hx, hxi, c0⟩ := at_int (HS.out.ext u) hlt
   have HX := hide (drop_at hx); clear hx
   have HC := hide (HF.out x  u hxi)
   by_cases hv : f x = true
   ·have HV := hide hv; clear hv
    go_wp2_with (refine HC.out.mono ?_; rintro e _ ⟨rfl, ux, rfl⟩; rw [HV.out])
    go_ret
    exact RetX.i (by rw [HR.out, HX.out]; simp [idxF, HV.out]) (by repeat (first | exact Below.refl _ _ | assumption | refine Below.alloc ?_ (by simp [size_ext]; try omega) _ | refine Below.ext ?_ (by simp [size_ext]; try omega) _ | refine Below.drew ?_ | refine Below.setCell ?_ (by simp [size_ext]; try omega) _))
   ·have HV := hide (show f x = false by simpa using hv); clear hv
    go_wp2_with (refine HC.out.mono ?_; rintro e _ ⟨rfl, ux, rfl⟩; rw [HV.out])
    go_roundw
    case rel => exact ⟨k + 1, by omega, by go_num, by rw [HR.out, HX.out]; simp [idxF, HV.out], Below.to_ext (by repeat (first | exact Below.refl _ _ | assumption | refine Below.alloc ?_ (by simp [size_ext]; try omega) _ | refine Below.ext ?_ (by simp [size_ext]; try omega) _ | refine Below.drew ?_ | refine Below.setCell ?_ (by simp [size_ext]; try omega) _))⟩
    case measure => simp [intOf]; omega
  ·go_wp2
   go_ret
   exact RetX.i (by rw [HR.out, drop_end HL.out hlt]; rfl) (by repeat (first | exact Below.refl _ _ | assumption | refine Below.alloc ?_ (by simp [size_ext]; try omega) _ | refine Below.ext ?_ (by simp [size_ext]; try omega) _ | refine Below.drew ?_ | refine Below.setCell ?_ (by simp [size_ext]; try omega) _))
theorem containsInts4_any (w : World) (S : Nat → Prop) (A : Option Addr) (n c : Nat) (xs : List Int) (f : Int → Bool) (fn : FuncId) (caps : Array Value) (h : Sl w S A n c xs)
  (hfn : ∀ (vs : Array Value) (w : World), (callFunc fn vs).run Tryz.prog w = .ok (.enter fn vs) w) (hf : ∀ (x : Int) (u : Ext), InI x → Calls Tryz.prog fn (#[.int .i64 x] ++ caps) (w.ext u) (RetX (.bool (f x)) (w.ext u))) :
  Calls Tryz.prog 120 #[.slice A n c, .func (.func fn) #[] caps] w (RetX (.bool (anyF f xs)) w) := by
 have HS := hide h; have HF := hide hf
 clear h hf
 go_enter Tryz.func120, Tryz.ntmps120
 go_wp2_with (go_at_call 163; refine (indexInts4_any _ S _ _ _ xs f fn caps HS.out hfn HF.out).mono ?_; rintro e _ ⟨rfl, ux, rfl⟩)
 go_ret
 exact RetX.b (idxF_ge f xs 0) (by repeat (first | exact Below.refl _ _ | assumption | refine Below.alloc ?_ (by simp [size_ext]; try omega) _ | refine Below.ext ?_ (by simp [size_ext]; try omega) _ | refine Below.drew ?_ | refine Below.setCell ?_ (by simp [size_ext]; try omega) _))
theorem indexIns4_any (w : World) (S : Nat → Prop) (A : Option Addr) (n c : Nat) (xs : List Ins) (f : Ins → Bool) (fn : FuncId) (caps : Array Value) (h : Sl w S A n c xs)
  (hfn : ∀ (vs : Array Value) (w : World), (callFunc fn vs).run Tryz.prog w = .ok (.enter fn vs) w) (hf : ∀ (x : Ins) (A1 : Option Addr) (n1 c1 : Nat) (u : Ext), (Sl (w.ext u) S A1 n1 c1 x.args ∧ OkI4 x) → Calls Tryz.prog fn (#[.agg #[.int .i64 x.op, .int .i64 x.dst, .int .i64 x.a, .int .i64 x.b, .int .i64 x.imm, .int .i64 x.callee, .slice A1 n1 c1, .int .i64 x.many]] ++ caps) (w.ext u) (RetX (.bool (f x)) (w.ext u))) :
  Calls Tryz.prog 121 #[.slice A n c, .func (.func fn) #[] caps] w (RetX (.int .i64 (idxF f 0 xs)) w) := by
 have hn := h.nle
 have HL := hide h.len
 have HS := hide h; have HF := hide hf
 clear h hf
 go_enter Tryz.func121, Tryz.ntmps121
 go_wp2
 go_loopw [8] (fun i wr => ∃ k : Nat, k ≤ n ∧ i = .int .i64 k ∧ idxF f 0 xs = idxF f k (xs.drop k) ∧ ∃ u, wr = w.ext u) (fun i _ => n - (intOf i).toNat)
 case atStart => exact ⟨0, Nat.zero_le _, rfl, rfl, ext_refl _⟩
 case round =>
  obtain ⟨k, hk, rfl, hr, u, rfl⟩ := hrel
  have HR := hide hr; clear hr
  by_cases hlt : k < n
  ·obtain ⟨b, off, x, A1, n1, c1, rfl, hb, hx, i1, i2, i3, i4, i5, i6, hs1, i7, c0, c1_, c2, c3, c4, c5, c6, c7⟩ := at_Ins (HS.out.ext u) hlt
   have HX := hide (drop_at hx); clear hx
   have HC := hide (HF.out x A1 n1 c1 u ⟨hs1, i1, i2, i3, i4, i5, i6, i7⟩)
   by_cases hv : f x = true
   ·have HV := hide hv; clear hv
    go_wp2_with (refine HC.out.mono ?_; rintro e _ ⟨rfl, ux, rfl⟩; rw [HV.out])
    go_ret
    exact RetX.i (by rw [HR.out, HX.out]; simp [idxF, HV.out]) (by repeat (first | exact Below.refl _ _ | assumption | refine Below.alloc ?_ (by simp [size_ext]; try omega) _ | refine Below.ext ?_ (by simp [size_ext]; try omega) _ | refine Below.drew ?_ | refine Below.setCell ?_ (by simp [size_ext]; try omega) _))
   ·have HV := hide (show f x = false by simpa using hv); clear hv
    go_wp2_with (refine HC.out.mono ?_; rintro e _ ⟨rfl, ux, rfl⟩; rw [HV.out])
    go_roundw
    case rel => exact ⟨k + 1, by omega, by go_num, by rw [HR.out, HX.out]; simp [idxF, HV.out], Below.to_ext (by repeat (first | exact Below.refl _ _ | assumption | refine Below.alloc ?_ (by simp [size_ext]; try omega) _ | refine Below.ext ?_ (by simp [size_ext]; try omega) _ | refine Below.drew ?_ | refine Below.setCell ?_ (by simp [size_ext]; try omega) _))⟩
    case measure => simp [intOf]; omega
  ·go_wp2
   go_ret
   exact RetX.i (by rw [HR.out, drop_end HL.out hlt]; rfl) (by repeat (first | exact Below.refl _ _ | assumption | refine Below.alloc ?_ (by simp [size_ext]; try omega) _ | refine Below.ext ?_ (by simp [size_ext]; try omega) _ | refine Below.drew ?_ | refine Below.setCell ?_ (by simp [size_ext]; try omega) _))
theorem containsIns4_any (w : World) (S : Nat → Prop) (A : Option Addr) (n c : Nat) (xs : List Ins) (f : Ins → Bool) (fn : FuncId) (caps : Array Value) (h : Sl w S A n c xs)
  (hfn : ∀ (vs : Array Value) (w : World), (callFunc fn vs).run Tryz.prog w = .ok (.enter fn vs) w) (hf : ∀ (x : Ins) (A1 : Option Addr) (n1 c1 : Nat) (u : Ext), (Sl (w.ext u) S A1 n1 c1 x.args ∧ OkI4 x) → Calls Tryz.prog fn (#[.agg #[.int .i64 x.op, .int .i64 x.dst, .int .i64 x.a, .int .i64 x.b, .int .i64 x.imm, .int .i64 x.callee, .slice A1 n1 c1, .int .i64 x.many]] ++ caps) (w.ext u) (RetX (.bool (f x)) (w.ext u))) :
  Calls Tryz.prog 67 #[.slice A n c, .func (.func fn) #[] caps] w (RetX (.bool (anyF f xs)) w) := by
 have HS := hide h; have HF := hide hf
 clear h hf
 go_enter Tryz.func67, Tryz.ntmps67
 go_wp2_with (go_at_call 121; refine (indexIns4_any _ S _ _ _ xs f fn caps HS.out hfn HF.out).mono ?_; rintro e _ ⟨rfl, ux, rfl⟩)
 go_ret
 exact RetX.b (idxF_ge f xs 0) (by repeat (first | exact Below.refl _ _ | assumption | refine Below.alloc ?_ (by simp [size_ext]; try omega) _ | refine Below.ext ?_ (by simp [size_ext]; try omega) _ | refine Below.drew ?_ | refine Below.setCell ?_ (by simp [size_ext]; try omega) _))
theorem indexBlocks4_any (w : World) (S : Nat → Prop) (A : Option Addr) (n c : Nat) (xs : List Block) (f : Block → Bool) (fn : FuncId) (caps : Array Value) (h : Sl w S A n c xs)
  (hfn : ∀ (vs : Array Value) (w : World), (callFunc fn vs).run Tryz.prog w = .ok (.enter fn vs) w) (hf : ∀ (x : Block) (A1 : Option Addr) (n1 c1 : Nat) (u : Ext), (Sl (w.ext u) S A1 n1 c1 x.ins ∧ OkT4 x.term) → Calls Tryz.prog fn (#[.agg #[.slice A1 n1 c1, .int .i64 x.term.kind, .int .i64 x.term.a, .int .i64 x.term.to0, .int .i64 x.term.to1]] ++ caps) (w.ext u) (RetX (.bool (f x)) (w.ext u))) :
  Calls Tryz.prog 68 #[.slice A n c, .func (.func fn) #[] caps] w (RetX (.int .i64 (idxF f 0 xs)) w) := by
 have hn := h.nle
 have HL := hide h.len
 have HS := hide h; have HF := hide hf
 clear h hf
 go_enter Tryz.func68, Tryz.ntmps68
 go_wp2
 go_loopw [8] (fun i wr => ∃ k : Nat, k ≤ n ∧ i = .int .i64 k ∧ idxF f 0 xs = idxF f k (xs.drop k) ∧ ∃ u, wr = w.ext u) (fun i _ => n - (intOf i).toNat)
 case atStart => exact ⟨0, Nat.zero_le _, rfl, rfl, ext_refl _⟩
 case round =>
  obtain ⟨k, hk, rfl, hr, u, rfl⟩ := hrel
  have HR := hide hr; clear hr
  by_cases hlt : k < n
  ·obtain ⟨b, off, x, A1, n1, c1, rfl, hb, hx, hs1, i1, i2, i3, i4, c0, c1_, c2, c3, c4⟩ := at_Block (HS.out.ext u) hlt
   have HX := hide (drop_at hx); clear hx
   have HC := hide (HF.out x A1 n1 c1 u ⟨hs1, i1, i2, i3, i4⟩)
   by_cases hv : f x = true
   ·have HV := hide hv; clear hv
    go_wp2_with (refine HC.out.mono ?_; rintro e _ ⟨rfl, ux, rfl⟩; rw [HV.out])
    go_ret
    exact RetX.i (by rw [HR.out, HX.out]; simp [idxF, HV.out]) (by repeat (first | exact Below.refl _ _ | assumption | refine Below.alloc ?_ (by simp [size_ext]; try omega) _ | refine Below.ext ?_ (by simp [size_ext]; try omega) _ | refine Below.drew ?_ | refine Below.setCell ?_ (by simp [size_ext]; try omega) _))
   ·have HV := hide (show f x = false by simpa using hv); clear hv
    go_wp2_with (refine HC.out.mono ?_; rintro e _ ⟨rfl, ux, rfl⟩; rw [HV.out])
    go_roundw
    case rel => exact ⟨k + 1, by omega, by go_num, by rw [HR.out, HX.out]; simp [idxF, HV.out], Below.to_ext (by repeat (first | exact Below.refl _ _ | assumption | refine Below.alloc ?_ (by simp [size_ext]; try omega) _ | refine Below.ext ?_ (by simp [size_ext]; try omega) _ | refine Below.drew ?_ | refine Below.setCell ?_ (by simp [size_ext]; try omega) _))⟩
    case measure => simp [intOf]; omega
  ·go_wp2
   go_ret
   exact RetX.i (by rw [HR.out, drop_end HL.out hlt]; rfl) (by repeat (first | exact Below.refl _ _ | assumption | refine Below.alloc ?_ (by simp [size_ext]; try omega) _ | refine Below.ext ?_ (by simp [size_ext]; try omega) _ | refine Below.drew ?_ | refine Below.setCell ?_ (by simp [size_ext]; try omega) _))
theorem containsBlocks4_any (w : World) (S : Nat → Prop) (A : Option Addr) (n c : Nat) (xs : List Block) (f : Block → Bool) (fn : FuncId) (caps : Array Value) (h : Sl w S A n c xs)
  (hfn : ∀ (vs : Array Value) (w : World), (callFunc fn vs).run Tryz.prog w = .ok (.enter fn vs) w) (hf : ∀ (x : Block) (A1 : Option Addr) (n1 c1 : Nat) (u : Ext), (Sl (w.ext u) S A1 n1 c1 x.ins ∧ OkT4 x.term) → Calls Tryz.prog fn (#[.agg #[.slice A1 n1 c1, .int .i64 x.term.kind, .int .i64 x.term.a, .int .i64 x.term.to0, .int .i64 x.term.to1]] ++ caps) (w.ext u) (RetX (.bool (f x)) (w.ext u))) :
  Calls Tryz.prog 25 #[.slice A n c, .func (.func fn) #[] caps] w (RetX (.bool (anyF f xs)) w) := by
 have HS := hide h; have HF := hide hf
 clear h hf
 go_enter Tryz.func25, Tryz.ntmps25
 go_wp2_with (go_at_call 68; refine (indexBlocks4_any _ S _ _ _ xs f fn caps HS.out hfn HF.out).mono ?_; rintro e _ ⟨rfl, ux, rfl⟩)
 go_ret
 exact RetX.b (idxF_ge f xs 0) (by repeat (first | exact Below.refl _ _ | assumption | refine Below.alloc ?_ (by simp [size_ext]; try omega) _ | refine Below.ext ?_ (by simp [size_ext]; try omega) _ | refine Below.drew ?_ | refine Below.setCell ?_ (by simp [size_ext]; try omega) _))
theorem variable_ir (n : Int) (w : World) : Calls Tryz.prog 108 #[.int .i64 n] w (Ret (.bool (vOk n)) w) := by
 unfold vOk
 by_cases h : 1 ≤ n
 ·have hd : decide (1 ≤ n) = true := by simpa using h
  go_enter Tryz.func108, Tryz.ntmps108
  go_wp2_with fail
  go_ret
  exact Ret.b (by simp [h])
 ·have hd : decide (1 ≤ n) = false := by simpa using h
  go_enter Tryz.func108, Tryz.ntmps108
  go_wp2_with fail
  go_ret
  exact Ret.b (by simp [h])
theorem fits_ir (b : Bool) (n : Int) (w : World) : Calls Tryz.prog 119 #[.bool b, .int .i64 n] w (Ret (.bool (fits04 b n)) w) := by
 have HV := hide (variable_ir n w)
 cases b with
 | true =>
  have HE := hide (show fits04 true n = vOk n from rfl)
  generalize vOk n = r at HV HE
  go_enter Tryz.func119, Tryz.ntmps119
  go_wp2_with (go_at_call 108; (with_reducible refine HV.out.mono ?_); rintro e w' ⟨rfl, rfl⟩)
  go_ret
  exact Ret.b HE.out.symm
 | false =>
  clear HV
  go_enter Tryz.func119, Tryz.ntmps119
  go_wp2_with fail
  go_ret
  exact Ret.b rfl
theorem none1_ir (n : Int) (w : World) : Calls Tryz.prog 162 #[.int .i64 n] w (RetX (.bool (n != 0)) w) := by
 go_enter Tryz.func162, Tryz.ntmps162
 go_wp2_with fail
 go_ret
 exact RetX.b rfl (by repeat (first | exact Below.refl _ _ | assumption | refine Below.alloc ?_ (by simp [size_ext]; try omega) _ | refine Below.ext ?_ (by simp [size_ext]; try omega) _ | refine Below.drew ?_ | refine Below.setCell ?_ (by simp [size_ext]; try omega) _))
theorem none_ir (w : World) (S : Nat → Prop) (A : Option Addr) (n c : Nat) (xs : List Int) (h : Sl w S A n c xs) : Calls Tryz.prog 118 #[.slice A n c] w (RetX (.bool (xs.all (· == 0))) w) := by
 have HC := hide (containsInts4_any w S A n c xs (fun n => n != 0) 162 #[] h (fun _ _ => by kernel_rfl) (fun x u _ => none1_ir x _))
 have HE := hide (show xs.all (· == 0) = !anyF (fun n => n != 0) xs from by rw [anyF_any4, ← any_not4]; rfl)
 generalize anyF (fun n : Int => n != 0) xs = r at HC HE
 clear h
 go_enter Tryz.func118, Tryz.ntmps118
 go_wp2_with (go_at_call 120; (with_reducible refine HC.out.mono ?_); rintro e _ ⟨rfl, u, rfl⟩)
 go_ret
 exact RetX.b HE.out.symm (by repeat (first | exact Below.refl _ _ | assumption | refine Below.alloc ?_ (by simp [size_ext]; try omega) _ | refine Below.ext ?_ (by simp [size_ext]; try omega) _ | refine Below.drew ?_ | refine Below.setCell ?_ (by simp [size_ext]; try omega) _))
theorem odd_ir (n : Int) (w : World) : Calls Tryz.prog 117 #[.int .i64 n] w (RetX (.bool (!vOk n)) w) := by
 have HV := hide (variable_ir n w)
 obtain ⟨r, hr⟩ : ∃ r, vOk n = r := ⟨_, rfl⟩
 rw [hr] at HV
 have HR := hide hr
 clear hr
 go_enter Tryz.func117, Tryz.ntmps117
 go_wp2_with (go_at_call 108; (with_reducible refine HV.out.mono ?_); rintro e w' ⟨rfl, rfl⟩)
 go_ret
 exact RetX.b (by rw [HR.out]) (by repeat (first | exact Below.refl _ _ | assumption | refine Below.alloc ?_ (by simp [size_ext]; try omega) _ | refine Below.ext ?_ (by simp [size_ext]; try omega) _ | refine Below.drew ?_ | refine Below.setCell ?_ (by simp [size_ext]; try omega) _))
def shL (o : Int) : Bool × Bool × Bool × Bool × Bool := if o = 13 then (false, false, false, false, true) else if o = 1 then (true, false, false, true, false) else if o = 12 then (false, true, true, true, false) else if o = 11 then (true, true, false, true, false) else if o = 14 then (true, true, false, false, false) else (true, true, true, false, false)
def shIs (o : Int) : Bool := o == 13 || o == 1 || o == 12 || o == 11 || o == 14 || (decide (2 ≤ o) && decide (o ≤ 10))
def shV (x : Bool × Bool × Bool × Bool × Bool) : Array Value := #[.bool x.1, .bool x.2.1, .bool x.2.2.1, .bool x.2.2.2.1, .bool x.2.2.2.2]
theorem results_cell_tmp1 {P : Program} {fn : Func} {p t1 : Tmp} {ty : TypeId} {a : Addr} {v : Value} (h : fn.results = #[.cell p ty, .tmp t1]) (tmps : Array Value) (w : World)
  (hp : tmps.getD p undef = .pointer (some a)) (hl : (loadVar ty a).run P w = .ok v w) : (results fn tmps).run P w = .ok (.tuple #[v, tmps.getD t1 undef]) w := by
 have hp' : tmps[p]?.getD undef = .pointer (some a) := by simpa using hp
 simp [results, h, hp', asAddr, hl]
theorem size_shape4 : (Tryz.prog.info? 154).map (·.size) = some 5 := by kernel_rfl
theorem results_shape {fn : Func} {p t1 : Tmp} {g : Nat} {c : Array Value} (hc : c.size = 5) (h : fn.results = #[.cell p 154, .tmp t1]) (tmps : Array Value) (w : World)
  (hp : tmps.getD p undef = .pointer (some ⟨g, 0, none⟩)) (hg : w.heap[g]? = some (.cells c 154 (0, 0))) : (results fn tmps).run Tryz.prog w = .ok (.tuple #[.agg c, tmps.getD t1 undef]) w :=
 results_cell_tmp1 h tmps w hp (run_loadVar_row w g _ _ _ (0, 0) _ hg Tryz.underlying154 rfl (by rw [hc]; exact size_shape4))
set_option maxRecDepth 100000 in
set_option maxHeartbeats 8000000 in
theorem shaped_ir (o : Int) (w : World) : Calls Tryz.prog 116 #[.int .i64 o] w (RetX (.tuple #[.agg (shV (shL o)), .bool (shIs o)]) w) := by
 by_cases h1 : o = 13
 ·subst h1
  go_enter Tryz.func116, Tryz.ntmps116
  go_wp2_with fail
  exact bodyPost_ret (results_shape (g := w.heap.size) (c := shV (shL 13)) rfl Tryz.results116 _ _ rfl (heap_alloc_new w _)) rfl ⟨rfl, Below.to_ext (by repeat (first | exact Below.refl _ _ | assumption | refine Below.alloc ?_ (by simp [size_ext]; try omega) _ | refine Below.ext ?_ (by simp [size_ext]; try omega) _ | refine Below.drew ?_ | refine Below.setCell ?_ (by simp [size_ext]; try omega) _))⟩
 have b1 : (o == 13) = false := by simpa using h1
 by_cases h2 : o = 1
 ·subst h2
  go_enter Tryz.func116, Tryz.ntmps116
  go_wp2_with fail
  exact bodyPost_ret (results_shape (g := w.heap.size) (c := shV (shL 1)) rfl Tryz.results116 _ _ rfl (heap_alloc_new w _)) rfl ⟨rfl, Below.to_ext (by repeat (first | exact Below.refl _ _ | assumption | refine Below.alloc ?_ (by simp [size_ext]; try omega) _ | refine Below.ext ?_ (by simp [size_ext]; try omega) _ | refine Below.drew ?_ | refine Below.setCell ?_ (by simp [size_ext]; try omega) _))⟩
 have b2 : (o == 1) = false := by simpa using h2
 by_cases h3 : o = 12
 ·subst h3
  go_enter Tryz.func116, Tryz.ntmps116
  go_wp2_with fail
  exact bodyPost_ret (results_shape (g := w.heap.size) (c := shV (shL 12)) rfl Tryz.results116 _ _ rfl (heap_alloc_new w _)) rfl ⟨rfl, Below.to_ext (by repeat (first | exact Below.refl _ _ | assumption | refine Below.alloc ?_ (by simp [size_ext]; try omega) _ | refine Below.ext ?_ (by simp [size_ext]; try omega) _ | refine Below.drew ?_ | refine Below.setCell ?_ (by simp [size_ext]; try omega) _))⟩
 have b3 : (o == 12) = false := by simpa using h3
 by_cases h4 : o = 11
 ·subst h4
  go_enter Tryz.func116, Tryz.ntmps116
  go_wp2_with fail
  exact bodyPost_ret (results_shape (g := w.heap.size) (c := shV (shL 11)) rfl Tryz.results116 _ _ rfl (heap_alloc_new w _)) rfl ⟨rfl, Below.to_ext (by repeat (first | exact Below.refl _ _ | assumption | refine Below.alloc ?_ (by simp [size_ext]; try omega) _ | refine Below.ext ?_ (by simp [size_ext]; try omega) _ | refine Below.drew ?_ | refine Below.setCell ?_ (by simp [size_ext]; try omega) _))⟩
 have b4 : (o == 11) = false := by simpa using h4
 by_cases h5 : o = 14
 ·subst h5
  go_enter Tryz.func116, Tryz.ntmps116
  go_wp2_with fail
  exact bodyPost_ret (results_shape (g := w.heap.size) (c := shV (shL 14)) rfl Tryz.results116 _ _ rfl (heap_alloc_new w _)) rfl ⟨rfl, Below.to_ext (by repeat (first | exact Below.refl _ _ | assumption | refine Below.alloc ?_ (by simp [size_ext]; try omega) _ | refine Below.ext ?_ (by simp [size_ext]; try omega) _ | refine Below.drew ?_ | refine Below.setCell ?_ (by simp [size_ext]; try omega) _))⟩
 have b5 : (o == 14) = false := by simpa using h5
 have HL := hide (show shL o = (true, true, true, false, false) from by unfold shL; rw [if_neg h1, if_neg h2, if_neg h3, if_neg h4, if_neg h5])
 have HI := hide (show shIs o = (decide (2 ≤ o) && decide (o ≤ 10)) from by unfold shIs; rw [b1, b2, b3, b4, b5]; rfl)
 clear h1 h2 h3 h4 h5
 by_cases h6 : 2 ≤ o
 ·have b6 : decide (2 ≤ o) = true := by simpa using h6
  go_enter Tryz.func116, Tryz.ntmps116
  go_wp2_with fail
  exact bodyPost_ret (results_shape (g := w.heap.size) (c := shV (true, true, true, false, false)) rfl Tryz.results116 _ _ rfl (heap_alloc_new w _)) rfl ⟨by rw [HL.out, HI.out]; simp [b6], Below.to_ext (by repeat (first | exact Below.refl _ _ | assumption | refine Below.alloc ?_ (by simp [size_ext]; try omega) _ | refine Below.ext ?_ (by simp [size_ext]; try omega) _ | refine Below.drew ?_ | refine Below.setCell ?_ (by simp [size_ext]; try omega) _))⟩
 ·have b6 : decide (2 ≤ o) = false := by simpa using h6
  go_enter Tryz.func116, Tryz.ntmps116
  go_wp2_with fail
  exact bodyPost_ret (results_shape (g := w.heap.size) (c := shV (true, true, true, false, false)) rfl Tryz.results116 _ _ rfl (heap_alloc_new w _)) rfl ⟨by rw [HL.out, HI.out]; simp [b6], Below.to_ext (by repeat (first | exact Below.refl _ _ | assumption | refine Below.alloc ?_ (by simp [size_ext]; try omega) _ | refine Below.ext ?_ (by simp [size_ext]; try omega) _ | refine Below.drew ?_ | refine Below.setCell ?_ (by simp [size_ext]; try omega) _))⟩
end Go.Proofs.YtljglhaeonbfoaaGreatDoor
namespace Go.Proofs.YtljglhaeonbfoaaGreatDoor
open Go.RowKit
theorem repl2 {w : World} {S : Nat → Prop} {x y : Int} (hx : InI x) (hy : InI y) : RepL w S [x, y] [.int .i64 x, .int .i64 y] := ⟨[.int .i64 x], [.int .i64 y], rfl, ⟨rfl, hx⟩, [.int .i64 y], [], rfl, ⟨rfl, hy⟩, rfl⟩
theorem repl3 {w : World} {S : Nat → Prop} {x y z : Int} (hx : InI x) (hy : InI y) (hz : InI z) : RepL w S [x, y, z] [.int .i64 x, .int .i64 y, .int .i64 z] := ⟨[.int .i64 x], [.int .i64 y, .int .i64 z], rfl, ⟨rfl, hx⟩, repl2 hy hz⟩
theorem none2_ir (W : World) (x y : Int) (hx : InI x) (hy : InI y) : Calls Tryz.prog 118 #[.slice (some ⟨W.heap.size, 0, none⟩) 2 2] (W.alloc (.cells #[.int .i64 x, .int .i64 y] 3)) (RetX (.bool (x == 0 && y == 0)) (W.alloc (.cells #[.int .i64 x, .int .i64 y] 3))) := by
 have h := none_ir (W.alloc (.cells #[.int .i64 x, .int .i64 y] 3)) (fun _ => True) _ 2 2 [x, y] (Sl.lit (S := fun _ => False) (us := [.int .i64 x, .int .i64 y]) rfl (repl2 hx hy) rfl (by decide) (fun _ h => h.elim) trivial)
 simpa using h
theorem none3_ir (W : World) (x y z : Int) (hx : InI x) (hy : InI y) (hz : InI z) : Calls Tryz.prog 118 #[.slice (some ⟨W.heap.size, 0, none⟩) 3 3] (W.alloc (.cells #[.int .i64 x, .int .i64 y, .int .i64 z] 3)) (RetX (.bool (x == 0 && (y == 0 && z == 0))) (W.alloc (.cells #[.int .i64 x, .int .i64 y, .int .i64 z] 3))) := by
 have h := none_ir (W.alloc (.cells #[.int .i64 x, .int .i64 y, .int .i64 z] 3)) (fun _ => True) _ 3 3 [x, y, z] (Sl.lit (S := fun _ => False) (us := [.int .i64 x, .int .i64 y, .int .i64 z]) rfl (repl3 hx hy hz) rfl (by decide) (fun _ h => h.elim) trivial)
 simpa using h
theorem sl_two {W : World} {C o : Nat} {x y : Int} (hx : InI x) (hy : InI y) (hl : C < W.heap.size) (c2 : W.cell? ⟨C, o, none⟩ = some (.int .i64 x)) (c3 : W.cell? ⟨C, o + 1, none⟩ = some (.int .i64 y)) : Sl W (fun _ => True) (some ⟨C, o, none⟩) 2 2 [x, y] := by
 refine ⟨rfl, Nat.le_refl _, by unfold maxLen; decide, (fun h => by cases h), fun _ => ⟨C, o, rfl, hl, trivial, fun j z hj => ?_⟩⟩
 match j, hj with
 | 0, hj =>
  obtain rfl : x = z := Option.some.inj hj
  refine ⟨[.int .i64 x], ⟨rfl, hx⟩, fun i u hu => ?_⟩
  match i, hu with
  | 0, hu => obtain rfl := Option.some.inj hu; exact c2
 | 1, hj =>
  obtain rfl : y = z := Option.some.inj hj
  refine ⟨[.int .i64 y], ⟨rfl, hy⟩, fun i u hu => ?_⟩
  match i, hu with
  | 0, hu => obtain rfl := Option.some.inj hu; exact c3
abbrev tmV (t : Term) : Value := .agg #[.int .i64 t.kind, .int .i64 t.a, .int .i64 t.to0, .int .i64 t.to1]
set_option maxRecDepth 100000 in
set_option maxHeartbeats 8000000 in
theorem isTerm_ir (t : Term) (w : World) (h : OkT4 t) : Calls Tryz.prog 66 #[tmV t] w (RetX (.bool (termB t)) w) := by
 obtain ⟨k, a, x, y⟩ := t
 obtain ⟨hk, ha, hx, hy⟩ := h
 simp only at hk ha hx hy
 obtain ⟨C, hC⟩ : ∃ C, w.heap.size = C := ⟨_, rfl⟩
 obtain ⟨W0, hW0⟩ : ∃ W, w.alloc (.cells #[.int .i64 k, .int .i64 a, .int .i64 x, .int .i64 y] 50) = W := ⟨_, rfl⟩
 have hrow : W0.heap[C]? = some (.cells #[.int .i64 k, .int .i64 a, .int .i64 x, .int .i64 y] 50 (0, 0)) := by rw [← hW0, ← hC]; exact heap_alloc_new w _
 have c0 : W0.cell? ⟨C, 0, none⟩ = some (.int .i64 k) := cell_of_row W0 C _ _ _ (0, 0) hrow
 have c1 : W0.cell? ⟨C, 1, none⟩ = some (.int .i64 a) := cell_of_row W0 C _ _ _ (0, 0) hrow
 have c2 : W0.cell? ⟨C, 2, none⟩ = some (.int .i64 x) := cell_of_row W0 C _ _ _ (0, 0) hrow
 have c3 : W0.cell? ⟨C, 3, none⟩ = some (.int .i64 y) := cell_of_row W0 C _ _ _ (0, 0) hrow
 have cl : C < W0.heap.size := (Array.getElem?_eq_some_iff.1 hrow).1
 have HB0 := hide (show Below w.heap.size w W0 from by rw [← hW0]; exact (Below.refl _ _).alloc (Nat.le_refl _) _)
 have hBL : w.heap.size ≤ W0.heap.size := HB0.out.size
 have H1 := hide (none2_ir W0 a y ha hy)
 have H2 := hide (variable_ir a W0)
 have H3 := hide (fits_ir (a != 0) a W0)
 have H4 := hide (show Calls Tryz.prog 118 #[.slice (some ⟨C, 2, none⟩) 2 2] W0 (RetX (.bool (x == 0 && y == 0)) W0) from by
  have h := none_ir W0 (fun _ => True) (some ⟨C, 2, none⟩) 2 2 [x, y] (sl_two hx hy cl c2 c3)
  simpa using h)
 have H5 := hide (none3_ir W0 a x y ha hx hy)
 clear hrow
 by_cases h1 : k = 1
 ·subst h1
  have HE := hide (show termB ⟨1, a, x, y⟩ = (a == 0 && y == 0) from rfl)
  generalize (a == 0 && y == 0) = r at H1 HE
  clear H2 H3 H4 H5
  go_enter Tryz.func66, Tryz.ntmps66
  go_wp2_with (go_at_call 118; (with_reducible refine H1.out.mono ?_); rintro e _ ⟨rfl, u, rfl⟩)
  go_ret
  exact RetX.b HE.out.symm ((HB0.out.alloc hBL _).ext (by simp; omega) u)
 have b1 : (k == 1) = false := by simpa using h1
 by_cases h2 : k = 2
 ·subst h2
  have HE := hide (show termB ⟨2, a, x, y⟩ = vOk a from rfl)
  generalize vOk a = r at H2 HE
  clear H1 H3 H4 H5
  go_enter Tryz.func66, Tryz.ntmps66
  go_wp2_with (go_at_call 108; (with_reducible refine H2.out.mono ?_); rintro e _ ⟨rfl, rfl⟩)
  go_ret
  exact RetX.b HE.out.symm HB0.out
 have b2 : (k == 2) = false := by simpa using h2
 by_cases h3 : k = 3
 ·subst h3
  have HE := hide (show termB ⟨3, a, x, y⟩ = (fits04 (a != 0) a && (x == 0 && y == 0)) from rfl)
  obtain ⟨q1, hq1⟩ : ∃ q, (a != 0) = q := ⟨_, rfl⟩
  rw [hq1] at H3 HE
  generalize fits04 q1 a = r1 at H3 HE
  generalize (x == 0 && y == 0) = r2 at H4 HE
  clear H1 H2 H5
  cases r1
  all_goals
   go_enter Tryz.func66, Tryz.ntmps66
   go_wp2_with (first | (go_at_call 119; (with_reducible refine H3.out.mono ?_); rintro e _ ⟨rfl, rfl⟩) | (go_at_call 118; (with_reducible refine H4.out.mono ?_); rintro e _ ⟨rfl, u, rfl⟩))
   go_ret
  ·exact RetX.b (by rw [HE.out]; rfl) HB0.out
  ·exact RetX.b (by rw [HE.out]; rfl) (HB0.out.ext hBL u)
 have b3 : (k == 3) = false := by simpa using h3
 have HE := hide (show termB ⟨k, a, x, y⟩ = (k == 4 && (a == 0 && (x == 0 && y == 0))) from by
  unfold termB
  rw [if_neg h1, if_neg h2, if_neg h3]
  simp only
  rw [Bool.and_assoc (a == 0)])
 obtain ⟨q4, hq4⟩ : ∃ q, (k == 4) = q := ⟨_, rfl⟩
 rw [hq4] at HE
 generalize (a == 0 && (x == 0 && y == 0)) = r2 at H5 HE
 clear h1 h2 h3 H1 H2 H3 H4
 cases q4 with
 | true =>
  go_enter Tryz.func66, Tryz.ntmps66
  go_wp2_with (go_at_call 118; (with_reducible refine H5.out.mono ?_); rintro e _ ⟨rfl, u, rfl⟩)
  go_ret
  exact RetX.b (by rw [HE.out]; rfl) ((HB0.out.alloc hBL _).ext (by simp; omega) u)
 | false =>
  go_enter Tryz.func66, Tryz.ntmps66
  go_wp2_with fail
  go_ret
  exact RetX.b (by rw [HE.out]; rfl) HB0.out
end Go.Proofs.YtljglhaeonbfoaaGreatDoor
namespace Go.Proofs.YtljglhaeonbfoaaGreatDoor
open Go.RowKit
theorem shIs_eq (o : Int) : shIs o = (decide (1 ≤ o) && decide (o ≤ 14)) := by
 unfold shIs
 rw [Bool.eq_iff_iff]
 simp
 omega
theorem shL_eq {o : Int} (h : shIs o = true) (h13 : o ≠ 13) : shL o = (hasD04 o, hasA04 o, hasB04 o, hasI04 o, false) := by
 rw [shIs_eq] at h
 simp only [Bool.and_eq_true, decide_eq_true_eq] at h
 obtain ⟨h1, h2⟩ := h
 rcases (by omega : o = 1 ∨ o = 2 ∨ o = 3 ∨ o = 4 ∨ o = 5 ∨ o = 6 ∨ o = 7 ∨ o = 8 ∨ o = 9 ∨ o = 10 ∨ o = 11 ∨ o = 12 ∨ o = 14) with rfl | rfl | rfl | rfl | rfl | rfl | rfl | rfl | rfl | rfl | rfl | rfl | rfl <;> decide
theorem none3g_ir (W : World) (g : Nat) (hg : g = W.heap.size) (x y z : Int) (hx : InI x) (hy : InI y) (hz : InI z) {r : Bool} (hr : (x == 0 && (y == 0 && z == 0)) = r) : Calls Tryz.prog 118 #[.slice (some ⟨g, 0, none⟩) 3 3] (W.alloc (.cells #[.int .i64 x, .int .i64 y, .int .i64 z] 3)) (RetX (.bool r) (W.alloc (.cells #[.int .i64 x, .int .i64 y, .int .i64 z] 3))) := by
 subst hg hr
 exact none3_ir W x y z hx hy hz
theorem u64_le99 {c : Int} (h : InI c) : decide (IntKind.u64.wrap c ≤ 99) = (decide (0 ≤ c) && decide (c ≤ 99)) := by
 unfold InI at h
 rw [Bool.eq_iff_iff]
 simp only [Bool.and_eq_true, decide_eq_true_eq]
 have e : IntKind.u64.wrap c = c % 18446744073709551616 := by rfl
 rw [e]
 omega
abbrev insV (i : Ins) (A : Option Addr) (n c : Nat) : Value := .agg #[.int .i64 i.op, .int .i64 i.dst, .int .i64 i.a, .int .i64 i.b, .int .i64 i.imm, .int .i64 i.callee, .slice A n c, .int .i64 i.many]
set_option maxRecDepth 100000 in
set_option maxHeartbeats 16000000 in
theorem isIns_ir (x : Ins) (w : World) (S : Nat → Prop) (A : Option Addr) (n c : Nat) (h : Sl w S A n c x.args) (hok : OkI4 x) : Calls Tryz.prog 65 #[insV x A n c] w (RetX (.bool (insB x)) w) := by
 obtain ⟨o, dst, a, b, imm, callee, args, many⟩ := x
 obtain ⟨ho, hd, ha, hb, hi, hc, hm⟩ := hok
 simp only at h ho hd ha hb hi hc hm
 obtain ⟨C, hC⟩ : ∃ C, w.heap.size = C := ⟨_, rfl⟩
 obtain ⟨W0, hW0⟩ : ∃ W, w.alloc (.cells #[.int .i64 o, .int .i64 dst, .int .i64 a, .int .i64 b, .int .i64 imm, .int .i64 callee, .slice A n c, .int .i64 many] 45) = W := ⟨_, rfl⟩
 have hrow : W0.heap[C]? = some (.cells #[.int .i64 o, .int .i64 dst, .int .i64 a, .int .i64 b, .int .i64 imm, .int .i64 callee, .slice A n c, .int .i64 many] 45 (0, 0)) := by rw [← hW0, ← hC]; exact heap_alloc_new w _
 have c0 : W0.cell? ⟨C, 0, none⟩ = some (.int .i64 o) := cell_of_row W0 C _ _ _ (0, 0) hrow
 have c1 : W0.cell? ⟨C, 1, none⟩ = some (.int .i64 dst) := cell_of_row W0 C _ _ _ (0, 0) hrow
 have c2 : W0.cell? ⟨C, 2, none⟩ = some (.int .i64 a) := cell_of_row W0 C _ _ _ (0, 0) hrow
 have c3 : W0.cell? ⟨C, 3, none⟩ = some (.int .i64 b) := cell_of_row W0 C _ _ _ (0, 0) hrow
 have c4 : W0.cell? ⟨C, 4, none⟩ = some (.int .i64 imm) := cell_of_row W0 C _ _ _ (0, 0) hrow
 have c5 : W0.cell? ⟨C, 5, none⟩ = some (.int .i64 callee) := cell_of_row W0 C _ _ _ (0, 0) hrow
 have c6 : W0.cell? ⟨C, 6, none⟩ = some (.slice A n c) := cell_of_row W0 C _ _ _ (0, 0) hrow
 have c7 : W0.cell? ⟨C, 7, none⟩ = some (.int .i64 many) := cell_of_row W0 C _ _ _ (0, 0) hrow
 have cl : C < W0.heap.size := (Array.getElem?_eq_some_iff.1 hrow).1
 have HB0 := hide (show Below w.heap.size w W0 from by rw [← hW0]; exact (Below.refl _ _).alloc (Nat.le_refl _) _)
 have HBL := hide (show w.heap.size ≤ W0.heap.size from HB0.out.size)
 have HSL := hide (show Sl W0 S A n c args from by rw [← hW0]; exact h.alloc _)
 have hl := h.len
 clear hrow h
 cases his : shIs o with
 | false =>
  have HE := hide (show insB ⟨o, dst, a, b, imm, callee, args, many⟩ = false from by unfold insB; rw [← shIs_eq o, his]; rfl)
  have HSH := hide (shaped_ir o W0)
  rw [his] at HSH
  generalize shL o = sh at HSH
  obtain ⟨s1, s2, s3, s4, s5⟩ := sh
  simp only [shV] at HSH
  go_enter Tryz.func65, Tryz.ntmps65
  go_wp2_with (first | (go_at_call 116; (with_reducible refine HSH.out.mono ?_); rintro e _ ⟨rfl, u, rfl⟩))
  go_ret
  exact RetX.b HE.out.symm (by repeat (first | exact HB0.out | refine Below.alloc ?_ (by have := HBL.out; simp [size_ext]; omega) _ | refine Below.ext ?_ (by have := HBL.out; simp [size_ext]; omega) _))
 | true =>
  by_cases hm0 : many = 0
  ·have bm : (many != 0) = false := by simp [hm0]
   have HM0 := hide hm0
   clear hm0
   by_cases h13 : o = 13
   ·subst h13
    have HSH := hide (show Calls Tryz.prog 116 #[.int .i64 13] W0 (RetX (.tuple #[.agg #[.bool false, .bool false, .bool false, .bool false, .bool true], .bool true]) W0) from shaped_ir 13 W0)
    have HF := hide (fun (W : World) => fits_ir (dst != 0) dst W)
    have HCO := hide (fun (W : World) (h : Sl W S A n c args) => containsInts4_any W S A n c args (fun v => !vOk v) 117 #[] h (fun _ _ => by kernel_rfl) (fun x u2 _ => odd_ir x _))
    obtain ⟨q1, hq1⟩ : ∃ q, (dst != 0) = q := ⟨_, rfl⟩
    rw [hq1] at HF
    obtain ⟨r1, hr1⟩ : ∃ r, (a == 0 && (b == 0 && imm == 0)) = r := ⟨_, rfl⟩
    have HN := hide (fun (W : World) (g : Nat) (hg : g = W.heap.size) => none3g_ir W g hg a b imm ha hb hi hr1)
    obtain ⟨r3, hr3⟩ : ∃ r, fits04 q1 dst = r := ⟨_, rfl⟩
    rw [hr3] at HF
    obtain ⟨r5, hr5⟩ : ∃ r, anyF (fun v => !vOk v) args = r := ⟨_, rfl⟩
    rw [hr5] at HCO
    obtain ⟨b99, h99⟩ : ∃ q, decide (IntKind.u64.wrap callee ≤ 99) = q := ⟨_, rfl⟩
    obtain ⟨l8, hl8⟩ : ∃ q, decide ((n : Int) ≤ 8) = q := ⟨_, rfl⟩
    have HE := hide (show insB ⟨13, dst, a, b, imm, callee, args, many⟩ = ((r1 && b99) && r3 && l8 && !r5) from by
     unfold insB
     simp only [if_pos]
     rw [← hr1, ← h99, ← hl8, ← hr3, ← hr5, ← hq1, HM0.out, anyF_any4, any_not4, u64_le99 hc, Bool.and_assoc (a == 0), show decide (args.length ≤ 8) = decide ((n : Int) ≤ 8) from by rw [hl, Bool.eq_iff_iff]; simp; try omega]
     rfl)
    have HNX := hide hr1; clear hr1 hr3 hr5 hl
    cases r1 with
    | false =>
     go_enter Tryz.func65, Tryz.ntmps65
     go_wp2_with (first | (go_at_call 116; (with_reducible refine HSH.out.mono ?_); rintro e _ ⟨rfl, u, rfl⟩) | (go_at_call 118; (with_reducible refine (HN.out _ _ (by simp [size_ext]; try omega)).mono ?_); rintro e _ ⟨rfl, u2, rfl⟩) | (go_at_call 119; (with_reducible refine (HF.out _).mono ?_); rintro e _ ⟨rfl, rfl⟩) | (go_at_call 120; (with_reducible refine (HCO.out _ (by repeat (first | assumption | exact Hd.out (by assumption) | apply Sl.alloc | apply Sl.ext | apply Sl.drew | apply Sl.drewN))).mono ?_); rintro e _ ⟨rfl, u3, rfl⟩))
     go_ret
     exact RetX.b (by rw [HE.out]; rfl) (by repeat (first | exact HB0.out | refine Below.alloc ?_ (by have := HBL.out; simp [size_ext]; try omega) _ | refine Below.ext ?_ (by have := HBL.out; simp [size_ext]; try omega) _))
    | true =>
     cases b99 with
     | false =>
      go_enter Tryz.func65, Tryz.ntmps65
      go_wp2_with (first | (go_at_call 116; (with_reducible refine HSH.out.mono ?_); rintro e _ ⟨rfl, u, rfl⟩) | (go_at_call 118; (with_reducible refine (HN.out _ _ (by simp [size_ext]; try omega)).mono ?_); rintro e _ ⟨rfl, u2, rfl⟩) | (go_at_call 119; (with_reducible refine (HF.out _).mono ?_); rintro e _ ⟨rfl, rfl⟩) | (go_at_call 120; (with_reducible refine (HCO.out _ (by repeat (first | assumption | exact Hd.out (by assumption) | apply Sl.alloc | apply Sl.ext | apply Sl.drew | apply Sl.drewN))).mono ?_); rintro e _ ⟨rfl, u3, rfl⟩))
      go_ret
      exact RetX.b (by rw [HE.out]; rfl) (by repeat (first | exact HB0.out | refine Below.alloc ?_ (by have := HBL.out; simp [size_ext]; try omega) _ | refine Below.ext ?_ (by have := HBL.out; simp [size_ext]; try omega) _))
     | true =>
      cases r3 with
      | false =>
       go_enter Tryz.func65, Tryz.ntmps65
       go_wp2_with (first | (go_at_call 116; (with_reducible refine HSH.out.mono ?_); rintro e _ ⟨rfl, u, rfl⟩) | (go_at_call 118; (with_reducible refine (HN.out _ _ (by simp [size_ext]; try omega)).mono ?_); rintro e _ ⟨rfl, u2, rfl⟩) | (go_at_call 119; (with_reducible refine (HF.out _).mono ?_); rintro e _ ⟨rfl, rfl⟩) | (go_at_call 120; (with_reducible refine (HCO.out _ (by repeat (first | assumption | exact Hd.out (by assumption) | apply Sl.alloc | apply Sl.ext | apply Sl.drew | apply Sl.drewN))).mono ?_); rintro e _ ⟨rfl, u3, rfl⟩))
       go_ret
       exact RetX.b (by rw [HE.out]; rfl) (by repeat (first | exact HB0.out | refine Below.alloc ?_ (by have := HBL.out; simp [size_ext]; try omega) _ | refine Below.ext ?_ (by have := HBL.out; simp [size_ext]; try omega) _))
      | true =>
       cases l8 with
       | false =>
        go_enter Tryz.func65, Tryz.ntmps65
        go_wp2_with (first | (go_at_call 116; (with_reducible refine HSH.out.mono ?_); rintro e _ ⟨rfl, u, rfl⟩) | (go_at_call 118; (with_reducible refine (HN.out _ _ (by simp [size_ext]; try omega)).mono ?_); rintro e _ ⟨rfl, u2, rfl⟩) | (go_at_call 119; (with_reducible refine (HF.out _).mono ?_); rintro e _ ⟨rfl, rfl⟩) | (go_at_call 120; (with_reducible refine (HCO.out _ (by repeat (first | assumption | exact Hd.out (by assumption) | apply Sl.alloc | apply Sl.ext | apply Sl.drew | apply Sl.drewN))).mono ?_); rintro e _ ⟨rfl, u3, rfl⟩))
        go_ret
        exact RetX.b (by rw [HE.out]; rfl) (by repeat (first | exact HB0.out | refine Below.alloc ?_ (by have := HBL.out; simp [size_ext]; try omega) _ | refine Below.ext ?_ (by have := HBL.out; simp [size_ext]; try omega) _))
       | true =>
        go_enter Tryz.func65, Tryz.ntmps65
        go_wp2_with (first | (go_at_call 116; (with_reducible refine HSH.out.mono ?_); rintro e _ ⟨rfl, u, rfl⟩) | (go_at_call 118; (with_reducible refine (HN.out _ _ (by simp [size_ext]; try omega)).mono ?_); rintro e _ ⟨rfl, u2, rfl⟩) | (go_at_call 119; (with_reducible refine (HF.out _).mono ?_); rintro e _ ⟨rfl, rfl⟩) | (go_at_call 120; (with_reducible refine (HCO.out _ (by repeat (first | assumption | exact Hd.out (by assumption) | apply Sl.alloc | apply Sl.ext | apply Sl.drew | apply Sl.drewN))).mono ?_); rintro e _ ⟨rfl, u3, rfl⟩))
        go_ret
        exact RetX.b (by rw [HE.out]; rfl) (by repeat (first | exact HB0.out | refine Below.alloc ?_ (by have := HBL.out; simp [size_ext]; try omega) _ | refine Below.ext ?_ (by have := HBL.out; simp [size_ext]; try omega) _))
   ·obtain ⟨d1, hd1⟩ : ∃ q, hasD04 o = q := ⟨_, rfl⟩
    obtain ⟨a1, ha1⟩ : ∃ q, hasA04 o = q := ⟨_, rfl⟩
    obtain ⟨b1, hb1⟩ : ∃ q, hasB04 o = q := ⟨_, rfl⟩
    obtain ⟨m1, hm1⟩ : ∃ q, hasI04 o = q := ⟨_, rfl⟩
    have HSH := hide (show Calls Tryz.prog 116 #[.int .i64 o] W0 (RetX (.tuple #[.agg #[.bool d1, .bool a1, .bool b1, .bool m1, .bool false], .bool true]) W0) from by have h := shaped_ir o W0; rw [his, shL_eq his h13, hd1, ha1, hb1, hm1] at h; exact h)
    have HF1 := hide (fun (W : World) => fits_ir d1 dst W)
    have HF2 := hide (fun (W : World) => fits_ir a1 a W)
    have HF3 := hide (fun (W : World) => fits_ir b1 b W)
    obtain ⟨r1, hr1⟩ : ∃ r, fits04 d1 dst = r := ⟨_, rfl⟩
    obtain ⟨r2, hr2⟩ : ∃ r, fits04 a1 a = r := ⟨_, rfl⟩
    obtain ⟨r3, hr3⟩ : ∃ r, fits04 b1 b = r := ⟨_, rfl⟩
    rw [hr1] at HF1; rw [hr2] at HF2; rw [hr3] at HF3
    obtain ⟨i0, hi0⟩ : ∃ q, (imm != 0) = q := ⟨_, rfl⟩
    obtain ⟨lo, hlo⟩ : ∃ q, decide (imm < -1099511627776) = q := ⟨_, rfl⟩
    obtain ⟨hi9, hhi⟩ : ∃ q, decide (1099511627776 < imm) = q := ⟨_, rfl⟩
    obtain ⟨z1, hz1⟩ : ∃ q, (callee == 0) = q := ⟨_, rfl⟩
    obtain ⟨z2, hz2⟩ : ∃ q, ((n : Int) == 0) = q := ⟨_, rfl⟩
    have HE := hide (show insB ⟨o, dst, a, b, imm, callee, args, many⟩ = ((m1 || !i0) && !lo && !hi9 && z1 && z2 && r1 && r2 && r3) from by
     unfold insB
     rw [if_neg h13, ← shIs_eq o, his, HM0.out]
     simp only
     rw [hd1, ha1, hb1, hm1, hr1, hr2, hr3, hz1, show (imm == 0) = !i0 from by rw [← hi0]; simp [bne], show immOk imm = (!lo && !hi9) from by rw [← hlo, ← hhi]; unfold immOk; rw [Bool.eq_iff_iff]; simp, show decide (args = []) = z2 from by rw [← hz2, Bool.eq_iff_iff]; simp; rw [← List.length_eq_zero_iff]; omega]
     cases m1 <;> cases i0 <;> cases lo <;> cases hi9 <;> cases z1 <;> cases z2 <;> cases r1 <;> cases r2 <;> rfl)
    have h13b : (o == 13) = false := by simpa using h13
    clear hr1 hr2 hr3 hd1 ha1 hb1 hm1 his h13 hl
    cases m1 with
    | false =>
     cases i0 with
     | true =>
      go_enter Tryz.func65, Tryz.ntmps65
      go_wp2_with (first | (go_at_call 116; (with_reducible refine HSH.out.mono ?_); rintro e _ ⟨rfl, u, rfl⟩) | (go_at_call 119; (with_reducible refine (HF1.out _).mono ?_); rintro e _ ⟨rfl, rfl⟩) | (go_at_call 119; (with_reducible refine (HF2.out _).mono ?_); rintro e _ ⟨rfl, rfl⟩) | (go_at_call 119; (with_reducible refine (HF3.out _).mono ?_); rintro e _ ⟨rfl, rfl⟩))
      go_ret
      exact RetX.b (by rw [HE.out]; first | rfl | simp) (by repeat (first | exact HB0.out | refine Below.alloc ?_ (by have := HBL.out; simp [size_ext]; try omega) _ | refine Below.ext ?_ (by have := HBL.out; simp [size_ext]; try omega) _))
     | false =>
      cases lo with
      | true =>
       go_enter Tryz.func65, Tryz.ntmps65
       go_wp2_with (first | (go_at_call 116; (with_reducible refine HSH.out.mono ?_); rintro e _ ⟨rfl, u, rfl⟩) | (go_at_call 119; (with_reducible refine (HF1.out _).mono ?_); rintro e _ ⟨rfl, rfl⟩) | (go_at_call 119; (with_reducible refine (HF2.out _).mono ?_); rintro e _ ⟨rfl, rfl⟩) | (go_at_call 119; (with_reducible refine (HF3.out _).mono ?_); rintro e _ ⟨rfl, rfl⟩))
       go_ret
       exact RetX.b (by rw [HE.out]; first | rfl | simp) (by repeat (first | exact HB0.out | refine Below.alloc ?_ (by have := HBL.out; simp [size_ext]; try omega) _ | refine Below.ext ?_ (by have := HBL.out; simp [size_ext]; try omega) _))
      | false =>
       cases hi9 with
       | true =>
        go_enter Tryz.func65, Tryz.ntmps65
        go_wp2_with (first | (go_at_call 116; (with_reducible refine HSH.out.mono ?_); rintro e _ ⟨rfl, u, rfl⟩) | (go_at_call 119; (with_reducible refine (HF1.out _).mono ?_); rintro e _ ⟨rfl, rfl⟩) | (go_at_call 119; (with_reducible refine (HF2.out _).mono ?_); rintro e _ ⟨rfl, rfl⟩) | (go_at_call 119; (with_reducible refine (HF3.out _).mono ?_); rintro e _ ⟨rfl, rfl⟩))
        go_ret
        exact RetX.b (by rw [HE.out]; first | rfl | simp) (by repeat (first | exact HB0.out | refine Below.alloc ?_ (by have := HBL.out; simp [size_ext]; try omega) _ | refine Below.ext ?_ (by have := HBL.out; simp [size_ext]; try omega) _))
       | false =>
        cases z1 with
        | false =>
         go_enter Tryz.func65, Tryz.ntmps65
         go_wp2_with (first | (go_at_call 116; (with_reducible refine HSH.out.mono ?_); rintro e _ ⟨rfl, u, rfl⟩) | (go_at_call 119; (with_reducible refine (HF1.out _).mono ?_); rintro e _ ⟨rfl, rfl⟩) | (go_at_call 119; (with_reducible refine (HF2.out _).mono ?_); rintro e _ ⟨rfl, rfl⟩) | (go_at_call 119; (with_reducible refine (HF3.out _).mono ?_); rintro e _ ⟨rfl, rfl⟩))
         go_ret
         exact RetX.b (by rw [HE.out]; first | rfl | simp) (by repeat (first | exact HB0.out | refine Below.alloc ?_ (by have := HBL.out; simp [size_ext]; try omega) _ | refine Below.ext ?_ (by have := HBL.out; simp [size_ext]; try omega) _))
        | true =>
         cases z2 with
         | false =>
          go_enter Tryz.func65, Tryz.ntmps65
          go_wp2_with (first | (go_at_call 116; (with_reducible refine HSH.out.mono ?_); rintro e _ ⟨rfl, u, rfl⟩) | (go_at_call 119; (with_reducible refine (HF1.out _).mono ?_); rintro e _ ⟨rfl, rfl⟩) | (go_at_call 119; (with_reducible refine (HF2.out _).mono ?_); rintro e _ ⟨rfl, rfl⟩) | (go_at_call 119; (with_reducible refine (HF3.out _).mono ?_); rintro e _ ⟨rfl, rfl⟩))
          go_ret
          exact RetX.b (by rw [HE.out]; first | rfl | simp) (by repeat (first | exact HB0.out | refine Below.alloc ?_ (by have := HBL.out; simp [size_ext]; try omega) _ | refine Below.ext ?_ (by have := HBL.out; simp [size_ext]; try omega) _))
         | true =>
          cases r1 with
          | false =>
           go_enter Tryz.func65, Tryz.ntmps65
           go_wp2_with (first | (go_at_call 116; (with_reducible refine HSH.out.mono ?_); rintro e _ ⟨rfl, u, rfl⟩) | (go_at_call 119; (with_reducible refine (HF1.out _).mono ?_); rintro e _ ⟨rfl, rfl⟩) | (go_at_call 119; (with_reducible refine (HF2.out _).mono ?_); rintro e _ ⟨rfl, rfl⟩) | (go_at_call 119; (with_reducible refine (HF3.out _).mono ?_); rintro e _ ⟨rfl, rfl⟩))
           go_ret
           exact RetX.b (by rw [HE.out]; first | rfl | simp) (by repeat (first | exact HB0.out | refine Below.alloc ?_ (by have := HBL.out; simp [size_ext]; try omega) _ | refine Below.ext ?_ (by have := HBL.out; simp [size_ext]; try omega) _))
          | true =>
           cases r2 with
           | false =>
            go_enter Tryz.func65, Tryz.ntmps65
            go_wp2_with (first | (go_at_call 116; (with_reducible refine HSH.out.mono ?_); rintro e _ ⟨rfl, u, rfl⟩) | (go_at_call 119; (with_reducible refine (HF1.out _).mono ?_); rintro e _ ⟨rfl, rfl⟩) | (go_at_call 119; (with_reducible refine (HF2.out _).mono ?_); rintro e _ ⟨rfl, rfl⟩) | (go_at_call 119; (with_reducible refine (HF3.out _).mono ?_); rintro e _ ⟨rfl, rfl⟩))
            go_ret
            exact RetX.b (by rw [HE.out]; first | rfl | simp) (by repeat (first | exact HB0.out | refine Below.alloc ?_ (by have := HBL.out; simp [size_ext]; try omega) _ | refine Below.ext ?_ (by have := HBL.out; simp [size_ext]; try omega) _))
           | true =>
            go_enter Tryz.func65, Tryz.ntmps65
            go_wp2_with (first | (go_at_call 116; (with_reducible refine HSH.out.mono ?_); rintro e _ ⟨rfl, u, rfl⟩) | (go_at_call 119; (with_reducible refine (HF1.out _).mono ?_); rintro e _ ⟨rfl, rfl⟩) | (go_at_call 119; (with_reducible refine (HF2.out _).mono ?_); rintro e _ ⟨rfl, rfl⟩) | (go_at_call 119; (with_reducible refine (HF3.out _).mono ?_); rintro e _ ⟨rfl, rfl⟩))
            go_ret
            exact RetX.b (by rw [HE.out]; first | rfl | simp) (by repeat (first | exact HB0.out | refine Below.alloc ?_ (by have := HBL.out; simp [size_ext]; try omega) _ | refine Below.ext ?_ (by have := HBL.out; simp [size_ext]; try omega) _))
    | true =>
     cases lo with
     | true =>
      go_enter Tryz.func65, Tryz.ntmps65
      go_wp2_with (first | (go_at_call 116; (with_reducible refine HSH.out.mono ?_); rintro e _ ⟨rfl, u, rfl⟩) | (go_at_call 119; (with_reducible refine (HF1.out _).mono ?_); rintro e _ ⟨rfl, rfl⟩) | (go_at_call 119; (with_reducible refine (HF2.out _).mono ?_); rintro e _ ⟨rfl, rfl⟩) | (go_at_call 119; (with_reducible refine (HF3.out _).mono ?_); rintro e _ ⟨rfl, rfl⟩))
      go_ret
      exact RetX.b (by rw [HE.out]; first | rfl | simp) (by repeat (first | exact HB0.out | refine Below.alloc ?_ (by have := HBL.out; simp [size_ext]; try omega) _ | refine Below.ext ?_ (by have := HBL.out; simp [size_ext]; try omega) _))
     | false =>
      cases hi9 with
      | true =>
       go_enter Tryz.func65, Tryz.ntmps65
       go_wp2_with (first | (go_at_call 116; (with_reducible refine HSH.out.mono ?_); rintro e _ ⟨rfl, u, rfl⟩) | (go_at_call 119; (with_reducible refine (HF1.out _).mono ?_); rintro e _ ⟨rfl, rfl⟩) | (go_at_call 119; (with_reducible refine (HF2.out _).mono ?_); rintro e _ ⟨rfl, rfl⟩) | (go_at_call 119; (with_reducible refine (HF3.out _).mono ?_); rintro e _ ⟨rfl, rfl⟩))
       go_ret
       exact RetX.b (by rw [HE.out]; first | rfl | simp) (by repeat (first | exact HB0.out | refine Below.alloc ?_ (by have := HBL.out; simp [size_ext]; try omega) _ | refine Below.ext ?_ (by have := HBL.out; simp [size_ext]; try omega) _))
      | false =>
       cases z1 with
       | false =>
        go_enter Tryz.func65, Tryz.ntmps65
        go_wp2_with (first | (go_at_call 116; (with_reducible refine HSH.out.mono ?_); rintro e _ ⟨rfl, u, rfl⟩) | (go_at_call 119; (with_reducible refine (HF1.out _).mono ?_); rintro e _ ⟨rfl, rfl⟩) | (go_at_call 119; (with_reducible refine (HF2.out _).mono ?_); rintro e _ ⟨rfl, rfl⟩) | (go_at_call 119; (with_reducible refine (HF3.out _).mono ?_); rintro e _ ⟨rfl, rfl⟩))
        go_ret
        exact RetX.b (by rw [HE.out]; first | rfl | simp) (by repeat (first | exact HB0.out | refine Below.alloc ?_ (by have := HBL.out; simp [size_ext]; try omega) _ | refine Below.ext ?_ (by have := HBL.out; simp [size_ext]; try omega) _))
       | true =>
        cases z2 with
        | false =>
         go_enter Tryz.func65, Tryz.ntmps65
         go_wp2_with (first | (go_at_call 116; (with_reducible refine HSH.out.mono ?_); rintro e _ ⟨rfl, u, rfl⟩) | (go_at_call 119; (with_reducible refine (HF1.out _).mono ?_); rintro e _ ⟨rfl, rfl⟩) | (go_at_call 119; (with_reducible refine (HF2.out _).mono ?_); rintro e _ ⟨rfl, rfl⟩) | (go_at_call 119; (with_reducible refine (HF3.out _).mono ?_); rintro e _ ⟨rfl, rfl⟩))
         go_ret
         exact RetX.b (by rw [HE.out]; first | rfl | simp) (by repeat (first | exact HB0.out | refine Below.alloc ?_ (by have := HBL.out; simp [size_ext]; try omega) _ | refine Below.ext ?_ (by have := HBL.out; simp [size_ext]; try omega) _))
        | true =>
         cases r1 with
         | false =>
          go_enter Tryz.func65, Tryz.ntmps65
          go_wp2_with (first | (go_at_call 116; (with_reducible refine HSH.out.mono ?_); rintro e _ ⟨rfl, u, rfl⟩) | (go_at_call 119; (with_reducible refine (HF1.out _).mono ?_); rintro e _ ⟨rfl, rfl⟩) | (go_at_call 119; (with_reducible refine (HF2.out _).mono ?_); rintro e _ ⟨rfl, rfl⟩) | (go_at_call 119; (with_reducible refine (HF3.out _).mono ?_); rintro e _ ⟨rfl, rfl⟩))
          go_ret
          exact RetX.b (by rw [HE.out]; first | rfl | simp) (by repeat (first | exact HB0.out | refine Below.alloc ?_ (by have := HBL.out; simp [size_ext]; try omega) _ | refine Below.ext ?_ (by have := HBL.out; simp [size_ext]; try omega) _))
         | true =>
          cases r2 with
          | false =>
           go_enter Tryz.func65, Tryz.ntmps65
           go_wp2_with (first | (go_at_call 116; (with_reducible refine HSH.out.mono ?_); rintro e _ ⟨rfl, u, rfl⟩) | (go_at_call 119; (with_reducible refine (HF1.out _).mono ?_); rintro e _ ⟨rfl, rfl⟩) | (go_at_call 119; (with_reducible refine (HF2.out _).mono ?_); rintro e _ ⟨rfl, rfl⟩) | (go_at_call 119; (with_reducible refine (HF3.out _).mono ?_); rintro e _ ⟨rfl, rfl⟩))
           go_ret
           exact RetX.b (by rw [HE.out]; first | rfl | simp) (by repeat (first | exact HB0.out | refine Below.alloc ?_ (by have := HBL.out; simp [size_ext]; try omega) _ | refine Below.ext ?_ (by have := HBL.out; simp [size_ext]; try omega) _))
          | true =>
           go_enter Tryz.func65, Tryz.ntmps65
           go_wp2_with (first | (go_at_call 116; (with_reducible refine HSH.out.mono ?_); rintro e _ ⟨rfl, u, rfl⟩) | (go_at_call 119; (with_reducible refine (HF1.out _).mono ?_); rintro e _ ⟨rfl, rfl⟩) | (go_at_call 119; (with_reducible refine (HF2.out _).mono ?_); rintro e _ ⟨rfl, rfl⟩) | (go_at_call 119; (with_reducible refine (HF3.out _).mono ?_); rintro e _ ⟨rfl, rfl⟩))
           go_ret
           exact RetX.b (by rw [HE.out]; first | rfl | simp) (by repeat (first | exact HB0.out | refine Below.alloc ?_ (by have := HBL.out; simp [size_ext]; try omega) _ | refine Below.ext ?_ (by have := HBL.out; simp [size_ext]; try omega) _))
  ·have bm : (many != 0) = true := by simpa using hm0
   have HE := hide (show insB ⟨o, dst, a, b, imm, callee, args, many⟩ = false from by
    unfold insB
    simp only
    rw [show (many == 0) = false from by simpa using hm0]
    simp)
   have HSH := hide (shaped_ir o W0)
   rw [his] at HSH
   generalize shL o = sh at HSH
   obtain ⟨s1, s2, s3, s4, s5⟩ := sh
   simp only [shV] at HSH
   clear hm0
   go_enter Tryz.func65, Tryz.ntmps65
   go_wp2_with (first | (go_at_call 116; (with_reducible refine HSH.out.mono ?_); rintro e _ ⟨rfl, u, rfl⟩))
   go_ret
   exact RetX.b HE.out.symm (by repeat (first | exact HB0.out | refine Below.alloc ?_ (by have := HBL.out; simp [size_ext]; try omega) _ | refine Below.ext ?_ (by have := HBL.out; simp [size_ext]; try omega) _))
end Go.Proofs.YtljglhaeonbfoaaGreatDoor
