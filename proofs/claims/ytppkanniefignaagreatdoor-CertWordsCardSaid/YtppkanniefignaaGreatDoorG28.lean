/- Walks: small functions. law28: walks: can a certificate be written? Printed by gen_p28a.py. law28: walks: can a fact, a row, a certificate be written? law28: walks: a line as it is shown. -/
import Derived.Test.YtppkanniefignaaGreatDoorG0
import Derived.Test.YtppkanniefignaaGreatDoorG27
import Derived.Test.YtppkanniefignaaGreatDoorG38
import Derived.Test.YtppkanniefignaaGreatDoorG20
import Derived.Test.YtppkanniefignaaGreatDoorG32
set_option linter.unusedSimpArgs false
set_option linter.unusedVariables false
namespace Go.Proofs.YtppkanniefignaaGreatDoor
open Go.RowKit
theorem idxF_ge {α : Type} (f : α → Bool) (xs : List α) : ∀ k : Nat, decide (idxF f k xs ≥ 0) = anyF f xs := by
 induction xs with
 | nil => intro k; rfl
 | cons x l ih =>
  intro k
  simp only [idxF, anyF]
  by_cases hx : f x = true
  ·simp [hx]
  ·have := ih (k + 1)
   simpa [hx] using this
end Go.Proofs.YtppkanniefignaaGreatDoor
namespace Go.Proofs.YtppkanniefignaaGreatDoor
open Go.RowKit Go.Maps
theorem within28_any (n a b : Int) (w : World) : Calls Tryz.prog 146 #[.int .i64 n, .int .i64 a, .int .i64 b] w (Ret (.bool (inR n a b)) w) := by
 unfold inR
 by_cases h : a ≤ n
 ·have hd : decide (a ≤ n) = true := by simpa using h
  go_enter Tryz.func146, Tryz.ntmps146
  go_wp2_with fail
  go_ret
  exact Ret.b (by simp [h])
 ·have hd : decide (a ≤ n) = false := by simpa using h
  go_enter Tryz.func146, Tryz.ntmps146
  go_wp2_with fail
  go_ret
  exact Ret.b (by simp [h])
theorem anyF_any28 {α : Type} (f : α → Bool) : ∀ xs : List α, anyF f xs = xs.any f := by
 intro xs
 induction xs with
 | nil => rfl
 | cons x l ih => simp [anyF, ih]
theorem any_not {α : Type} (f : α → Bool) (xs : List α) : (!xs.any fun x => !f x) = xs.all f := by
 induction xs with
 | nil => rfl
 | cons x l ih => simp [List.any_cons, List.all_cons, ← ih]
theorem indexInts28_any (w : World) (S : Nat → Prop) (A : Option Addr) (n c : Nat) (xs : List Int) (f : Int → Bool) (fn : FuncId) (caps : Array Value) (h : Sl w S A n c xs)
  (hfn : ∀ (vs : Array Value) (w : World), (callFunc fn vs).run Tryz.prog w = .ok (.enter fn vs) w) (hf : ∀ (x : Int) (u : Ext), InI x → Calls Tryz.prog fn (#[.int .i64 x] ++ caps) (w.ext u) (RetX (.bool (f x)) (w.ext u))) :
  Calls Tryz.prog 170 #[.slice A n c, .func (.func fn) #[] caps] w (RetX (.int .i64 (idxF f 0 xs)) w) := by
 have hn := h.nle
 have HL := hide h.len
 have HS := hide h; have HF := hide hf
 clear h hf
 go_enter Tryz.func170, Tryz.ntmps170
 go_wp2
 go_loopw [8] (fun i wr => ∃ k : Nat, k ≤ n ∧ i = .int .i64 k ∧ idxF f 0 xs = idxF f k (xs.drop k) ∧ ∃ u, wr = w.ext u) (fun i _ => n - (intOf i).toNat)
 case atStart => exact ⟨0, Nat.zero_le _, rfl, rfl, ext_refl _⟩
 case round =>
  obtain ⟨k, hk, rfl, hr, u, rfl⟩ := hrel
  have HR := hide hr; clear hr
  by_cases hlt : k < n
  ·obtain ⟨b, off, x, rfl, hb, hx, hxi, c0⟩ := at_int (HS.out.ext u) hlt
   have HX := hide (drop_at hx); clear hx
   by_cases hv : f x = true
   ·have HV := hide hv; clear hv
    go_wp2_with (refine (HF.out x  _ hxi).mono ?_; rintro e _ ⟨rfl, ux, rfl⟩; rw [HV.out])
    go_ret
    exact RetX.i (by rw [HR.out, HX.out]; simp [idxF, HV.out]) (by repeat (first | exact Below.refl _ _ | assumption | refine Below.alloc ?_ (by simp [size_ext]; try omega) _ | refine Below.ext ?_ (by simp [size_ext]; try omega) _ | refine Below.drew ?_ | refine Below.setCell ?_ (by simp [size_ext]; try omega) _))
   ·have HV := hide (show f x = false by simpa using hv); clear hv
    go_wp2_with (refine (HF.out x  _ hxi).mono ?_; rintro e _ ⟨rfl, ux, rfl⟩; rw [HV.out])
    go_roundw
    case rel => exact ⟨k + 1, by omega, by go_num, by rw [HR.out, HX.out]; simp [idxF, HV.out], Below.to_ext (by repeat (first | exact Below.refl _ _ | assumption | refine Below.alloc ?_ (by simp [size_ext]; try omega) _ | refine Below.ext ?_ (by simp [size_ext]; try omega) _ | refine Below.drew ?_ | refine Below.setCell ?_ (by simp [size_ext]; try omega) _))⟩
    case measure => simp [intOf]; omega
  ·go_wp2
   go_ret
   exact RetX.i (by rw [HR.out, drop_end HL.out hlt]; rfl) (by repeat (first | exact Below.refl _ _ | assumption | refine Below.alloc ?_ (by simp [size_ext]; try omega) _ | refine Below.ext ?_ (by simp [size_ext]; try omega) _ | refine Below.drew ?_ | refine Below.setCell ?_ (by simp [size_ext]; try omega) _))
theorem containsInts28_any (w : World) (S : Nat → Prop) (A : Option Addr) (n c : Nat) (xs : List Int) (f : Int → Bool) (fn : FuncId) (caps : Array Value) (h : Sl w S A n c xs)
  (hfn : ∀ (vs : Array Value) (w : World), (callFunc fn vs).run Tryz.prog w = .ok (.enter fn vs) w) (hf : ∀ (x : Int) (u : Ext), InI x → Calls Tryz.prog fn (#[.int .i64 x] ++ caps) (w.ext u) (RetX (.bool (f x)) (w.ext u))) :
  Calls Tryz.prog 147 #[.slice A n c, .func (.func fn) #[] caps] w (RetX (.bool (anyF f xs)) w) := by
 have HS := hide h; have HF := hide hf
 clear h hf
 go_enter Tryz.func147, Tryz.ntmps147
 go_wp2_with (go_at_call 170; refine (indexInts28_any _ S _ _ _ xs f fn caps HS.out hfn HF.out).mono ?_; rintro e _ ⟨rfl, ux, rfl⟩)
 go_ret
 exact RetX.b (idxF_ge f xs 0) (by repeat (first | exact Below.refl _ _ | assumption | refine Below.alloc ?_ (by simp [size_ext]; try omega) _ | refine Below.ext ?_ (by simp [size_ext]; try omega) _ | refine Below.drew ?_ | refine Below.setCell ?_ (by simp [size_ext]; try omega) _))
theorem indexTiles28_any (w : World) (S : Nat → Prop) (A : Option Addr) (n c : Nat) (xs : List Tile) (f : Tile → Bool) (fn : FuncId) (caps : Array Value) (h : Sl w S A n c xs)
  (hfn : ∀ (vs : Array Value) (w : World), (callFunc fn vs).run Tryz.prog w = .ok (.enter fn vs) w) (hf : ∀ (x : Tile) (A1 : Option Addr) (n1 c1 : Nat) (u : Ext), Sl (w.ext u) S A1 n1 c1 x.blocks → Calls Tryz.prog fn (#[.agg #[.int .i64 x.kind, .int .i64 x.parent, .slice A1 n1 c1]] ++ caps) (w.ext u) (RetX (.bool (f x)) (w.ext u))) :
  Calls Tryz.prog 149 #[.slice A n c, .func (.func fn) #[] caps] w (RetX (.int .i64 (idxF f 0 xs)) w) := by
 have hn := h.nle
 have HL := hide h.len
 have HS := hide h; have HF := hide hf
 clear h hf
 go_enter Tryz.func149, Tryz.ntmps149
 go_wp2
 go_loopw [8] (fun i wr => ∃ k : Nat, k ≤ n ∧ i = .int .i64 k ∧ idxF f 0 xs = idxF f k (xs.drop k) ∧ ∃ u, wr = w.ext u) (fun i _ => n - (intOf i).toNat)
 case atStart => exact ⟨0, Nat.zero_le _, rfl, rfl, ext_refl _⟩
 case round =>
  obtain ⟨k, hk, rfl, hr, u, rfl⟩ := hrel
  have HR := hide hr; clear hr
  by_cases hlt : k < n
  ·obtain ⟨b, off, x, A1, n1, c1, rfl, hb, hx, hx1, hx2, hs1, c0, c1_, c2⟩ := at_Tile (HS.out.ext u) hlt
   have HX := hide (drop_at hx); clear hx
   by_cases hv : f x = true
   ·have HV := hide hv; clear hv
    go_wp2_with (refine (HF.out x A1 n1 c1 _ hs1).mono ?_; rintro e _ ⟨rfl, ux, rfl⟩; rw [HV.out])
    go_ret
    exact RetX.i (by rw [HR.out, HX.out]; simp [idxF, HV.out]) (by repeat (first | exact Below.refl _ _ | assumption | refine Below.alloc ?_ (by simp [size_ext]; try omega) _ | refine Below.ext ?_ (by simp [size_ext]; try omega) _ | refine Below.drew ?_ | refine Below.setCell ?_ (by simp [size_ext]; try omega) _))
   ·have HV := hide (show f x = false by simpa using hv); clear hv
    go_wp2_with (refine (HF.out x A1 n1 c1 _ hs1).mono ?_; rintro e _ ⟨rfl, ux, rfl⟩; rw [HV.out])
    go_roundw
    case rel => exact ⟨k + 1, by omega, by go_num, by rw [HR.out, HX.out]; simp [idxF, HV.out], Below.to_ext (by repeat (first | exact Below.refl _ _ | assumption | refine Below.alloc ?_ (by simp [size_ext]; try omega) _ | refine Below.ext ?_ (by simp [size_ext]; try omega) _ | refine Below.drew ?_ | refine Below.setCell ?_ (by simp [size_ext]; try omega) _))⟩
    case measure => simp [intOf]; omega
  ·go_wp2
   go_ret
   exact RetX.i (by rw [HR.out, drop_end HL.out hlt]; rfl) (by repeat (first | exact Below.refl _ _ | assumption | refine Below.alloc ?_ (by simp [size_ext]; try omega) _ | refine Below.ext ?_ (by simp [size_ext]; try omega) _ | refine Below.drew ?_ | refine Below.setCell ?_ (by simp [size_ext]; try omega) _))
theorem containsTiles28_any (w : World) (S : Nat → Prop) (A : Option Addr) (n c : Nat) (xs : List Tile) (f : Tile → Bool) (fn : FuncId) (caps : Array Value) (h : Sl w S A n c xs)
  (hfn : ∀ (vs : Array Value) (w : World), (callFunc fn vs).run Tryz.prog w = .ok (.enter fn vs) w) (hf : ∀ (x : Tile) (A1 : Option Addr) (n1 c1 : Nat) (u : Ext), Sl (w.ext u) S A1 n1 c1 x.blocks → Calls Tryz.prog fn (#[.agg #[.int .i64 x.kind, .int .i64 x.parent, .slice A1 n1 c1]] ++ caps) (w.ext u) (RetX (.bool (f x)) (w.ext u))) :
  Calls Tryz.prog 108 #[.slice A n c, .func (.func fn) #[] caps] w (RetX (.bool (anyF f xs)) w) := by
 have HS := hide h; have HF := hide hf
 clear h hf
 go_enter Tryz.func108, Tryz.ntmps108
 go_wp2_with (go_at_call 149; refine (indexTiles28_any _ S _ _ _ xs f fn caps HS.out hfn HF.out).mono ?_; rintro e _ ⟨rfl, ux, rfl⟩)
 go_ret
 exact RetX.b (idxF_ge f xs 0) (by repeat (first | exact Below.refl _ _ | assumption | refine Below.alloc ?_ (by simp [size_ext]; try omega) _ | refine Below.ext ?_ (by simp [size_ext]; try omega) _ | refine Below.drew ?_ | refine Below.setCell ?_ (by simp [size_ext]; try omega) _))
theorem indexRows28_any (w : World) (S : Nat → Prop) (A : Option Addr) (n c : Nat) (xs : List (List Fact)) (f : (List Fact) → Bool) (fn : FuncId) (caps : Array Value) (h : Sl w S A n c xs)
  (hfn : ∀ (vs : Array Value) (w : World), (callFunc fn vs).run Tryz.prog w = .ok (.enter fn vs) w) (hf : ∀ (x : (List Fact)) (A1 : Option Addr) (n1 c1 : Nat) (u : Ext), Sl (w.ext u) S A1 n1 c1 x → Calls Tryz.prog fn (#[.slice A1 n1 c1] ++ caps) (w.ext u) (RetX (.bool (f x)) (w.ext u))) :
  Calls Tryz.prog 150 #[.slice A n c, .func (.func fn) #[] caps] w (RetX (.int .i64 (idxF f 0 xs)) w) := by
 have hn := h.nle
 have HL := hide h.len
 have HS := hide h; have HF := hide hf
 clear h hf
 go_enter Tryz.func150, Tryz.ntmps150
 go_wp2
 go_loopw [8] (fun i wr => ∃ k : Nat, k ≤ n ∧ i = .int .i64 k ∧ idxF f 0 xs = idxF f k (xs.drop k) ∧ ∃ u, wr = w.ext u) (fun i _ => n - (intOf i).toNat)
 case atStart => exact ⟨0, Nat.zero_le _, rfl, rfl, ext_refl _⟩
 case round =>
  obtain ⟨k, hk, rfl, hr, u, rfl⟩ := hrel
  have HR := hide hr; clear hr
  by_cases hlt : k < n
  ·obtain ⟨b, off, x, A1, n1, c1, rfl, hb, hx, hs1, c0⟩ := at_factRow (HS.out.ext u) hlt
   have HX := hide (drop_at hx); clear hx
   by_cases hv : f x = true
   ·have HV := hide hv; clear hv
    go_wp2_with (refine (HF.out x A1 n1 c1 _ hs1).mono ?_; rintro e _ ⟨rfl, ux, rfl⟩; rw [HV.out])
    go_ret
    exact RetX.i (by rw [HR.out, HX.out]; simp [idxF, HV.out]) (by repeat (first | exact Below.refl _ _ | assumption | refine Below.alloc ?_ (by simp [size_ext]; try omega) _ | refine Below.ext ?_ (by simp [size_ext]; try omega) _ | refine Below.drew ?_ | refine Below.setCell ?_ (by simp [size_ext]; try omega) _))
   ·have HV := hide (show f x = false by simpa using hv); clear hv
    go_wp2_with (refine (HF.out x A1 n1 c1 _ hs1).mono ?_; rintro e _ ⟨rfl, ux, rfl⟩; rw [HV.out])
    go_roundw
    case rel => exact ⟨k + 1, by omega, by go_num, by rw [HR.out, HX.out]; simp [idxF, HV.out], Below.to_ext (by repeat (first | exact Below.refl _ _ | assumption | refine Below.alloc ?_ (by simp [size_ext]; try omega) _ | refine Below.ext ?_ (by simp [size_ext]; try omega) _ | refine Below.drew ?_ | refine Below.setCell ?_ (by simp [size_ext]; try omega) _))⟩
    case measure => simp [intOf]; omega
  ·go_wp2
   go_ret
   exact RetX.i (by rw [HR.out, drop_end HL.out hlt]; rfl) (by repeat (first | exact Below.refl _ _ | assumption | refine Below.alloc ?_ (by simp [size_ext]; try omega) _ | refine Below.ext ?_ (by simp [size_ext]; try omega) _ | refine Below.drew ?_ | refine Below.setCell ?_ (by simp [size_ext]; try omega) _))
theorem containsRows28_any (w : World) (S : Nat → Prop) (A : Option Addr) (n c : Nat) (xs : List (List Fact)) (f : (List Fact) → Bool) (fn : FuncId) (caps : Array Value) (h : Sl w S A n c xs)
  (hfn : ∀ (vs : Array Value) (w : World), (callFunc fn vs).run Tryz.prog w = .ok (.enter fn vs) w) (hf : ∀ (x : (List Fact)) (A1 : Option Addr) (n1 c1 : Nat) (u : Ext), Sl (w.ext u) S A1 n1 c1 x → Calls Tryz.prog fn (#[.slice A1 n1 c1] ++ caps) (w.ext u) (RetX (.bool (f x)) (w.ext u))) :
  Calls Tryz.prog 109 #[.slice A n c, .func (.func fn) #[] caps] w (RetX (.bool (anyF f xs)) w) := by
 have HS := hide h; have HF := hide hf
 clear h hf
 go_enter Tryz.func109, Tryz.ntmps109
 go_wp2_with (go_at_call 150; refine (indexRows28_any _ S _ _ _ xs f fn caps HS.out hfn HF.out).mono ?_; rintro e _ ⟨rfl, ux, rfl⟩)
 go_ret
 exact RetX.b (idxF_ge f xs 0) (by repeat (first | exact Below.refl _ _ | assumption | refine Below.alloc ?_ (by simp [size_ext]; try omega) _ | refine Below.ext ?_ (by simp [size_ext]; try omega) _ | refine Below.drew ?_ | refine Below.setCell ?_ (by simp [size_ext]; try omega) _))
theorem strange28_any (x : Int) (w : World) : Calls Tryz.prog 145 #[.int .i64 x] w (RetX (.bool (!inR x 0 200)) w) := by
 have HW := hide (within28_any x 0 200 w)
 generalize inR x 0 200 = q at HW ⊢
 go_enter Tryz.func145, Tryz.ntmps145
 go_wp2_with (first | (go_at_call 146; (with_reducible refine HW.out.mono ?_); rintro e _ ⟨rfl, rfl⟩))
 go_ret
 exact RetX.b rfl (Below.refl _ _)
set_option maxRecDepth 100000 in
set_option maxHeartbeats 8000000 in
theorem tileOk28_any (w : World) (S : Nat → Prop) (A : Option Addr) (n c : Nat) (t : Tile) (h : Sl w S A n c t.blocks) : Calls Tryz.prog 105 #[.agg #[.int .i64 t.kind, .int .i64 t.parent, .slice A n c]] w (RetX (.bool (tileOk t)) w) := by
 obtain ⟨kd, pr, bl⟩ := t
 simp only at h
 have HL := hide h.len
 obtain ⟨W0, hW0⟩ : ∃ W0, w.alloc (.cells #[.int .i64 kd, .int .i64 pr, .slice A n c] 35) = W0 := ⟨_, rfl⟩
 have HC := hide (show Calls Tryz.prog 147 #[.slice A n c, .func (.func 145) #[] #[]] W0 (RetX (.bool (anyF (fun b => !inR b 0 200) bl)) W0) from containsInts28_any W0 S A n c bl _ 145 #[] (by rw [← hW0]; exact h.alloc _) (fun _ _ => by kernel_rfl) (fun x u _ => strange28_any x _))
 obtain ⟨q4, h4⟩ : ∃ q, anyF (fun b => !inR b 0 200) bl = q := ⟨_, rfl⟩
 obtain ⟨q1, h1⟩ : ∃ q, inR kd 1 5 = q := ⟨_, rfl⟩
 obtain ⟨q2, h2⟩ : ∃ q, inR pr (-1) 200 = q := ⟨_, rfl⟩
 obtain ⟨q3, h3⟩ : ∃ q, decide ((n : Int) ≤ 200) = q := ⟨_, rfl⟩
 have HE := hide (show tileOk ⟨kd, pr, bl⟩ = (q1 && q2 && q3 && !q4) from by
  unfold tileOk
  simp only
  rw [h1, h2, ← any_not, ← anyF_any28, h4, HL.out, ← h3, show decide ((n : Int) ≤ 200) = decide (n ≤ 200) from by rw [Bool.eq_iff_iff]; simp; omega])
 have H1 := hide (show Calls Tryz.prog 146 #[.int .i64 kd, .int .i64 1, .int .i64 5] W0 (Ret (.bool q1) W0) from h1 ▸ within28_any kd 1 5 W0)
 have H2 := hide (show Calls Tryz.prog 146 #[.int .i64 pr, .int .i64 (-1), .int .i64 200] W0 (Ret (.bool q2) W0) from h2 ▸ within28_any pr (-1) 200 W0)
 rw [h4] at HC
 have HB := hide (show Below w.heap.size w W0 from by rw [← hW0]; exact (Below.refl _ _).alloc (Nat.le_refl _) _)
 obtain ⟨g, hg⟩ : ∃ g, w.heap.size = g := ⟨_, rfl⟩
 have hrow : W0.heap[g]? = some (.cells #[.int .i64 kd, .int .i64 pr, .slice A n c] 35 (0, 0)) := by rw [← hW0, ← hg]; exact heap_alloc_new w _
 obtain ⟨k0, k1, k2⟩ := cells3 hrow
 have gl : g < W0.heap.size := (Array.getElem?_eq_some_iff.1 hrow).1
 have HW := hide hW0; have HG := hide hg
 clear h h1 h2 h4 hrow hW0 hg
 cases q1 <;> cases q2 <;> cases q3
 all_goals
  go_enter Tryz.func105, Tryz.ntmps105
  go_wp2_with (go_at_call 146; refine Hd.out ?_)
  rw [HW.out, HG.out]
  refine hide ?_
  refine H1.out.mono ?_
  rintro e _ ⟨rfl, rfl⟩
  go_wp2_with (first | (go_at_call 146; (with_reducible refine H2.out.mono ?_); rintro e _ ⟨rfl, rfl⟩) | (go_at_call 147; (with_reducible refine HC.out.mono ?_); rintro e _ ⟨rfl, u1, rfl⟩))
  go_ret
  first | exact RetX.b (by rw [HE.out]; rfl) HB.out | exact RetX.b (by rw [HE.out]; simp) HB.out | exact RetX.b (by rw [HE.out]; simp) (HB.out.ext HB.out.size _)
end Go.Proofs.YtppkanniefignaaGreatDoor
namespace Go.Proofs.YtppkanniefignaaGreatDoor
open Go.RowKit Go.Maps
set_option maxRecDepth 100000 in
set_option maxHeartbeats 8000000 in
theorem factOk28_any (w : World) (f : Fact) : Calls Tryz.prog 148 #[facV f] w (RetX (.bool (factOk f)) w) := by
 obtain ⟨v, ⟨s, n⟩⟩ := f
 have H1 := hide (fun W => within28_any v 1 201 W)
 have H2 := hide (fun W => within28_any v (-64) 0 W)
 obtain ⟨q1, h1⟩ : ∃ q, inR v 1 201 = q := ⟨_, rfl⟩
 obtain ⟨q2, h2⟩ : ∃ q, inR v (-64) 0 = q := ⟨_, rfl⟩
 rw [h1] at H1
 rw [h2] at H2
 cases s with
 | true =>
  have H3 := hide (fun W => within28_any n 0 400 W)
  obtain ⟨q3, h3⟩ : ∃ q, inR n 0 400 = q := ⟨_, rfl⟩
  rw [h3] at H3
  have HE := hide (show factOk ⟨v, ⟨true, n⟩⟩ = ((q1 || q2) && q3) from by unfold factOk; simp only [if_true]; rw [h1, h2, h3])
  clear h1 h2 h3
  cases q1 <;> cases q2
  all_goals
   go_enter Tryz.func148, Tryz.ntmps148
   go_wp2_with (first | (go_at_call 146; (with_reducible refine (H1.out _).mono ?_); rintro e _ ⟨rfl, rfl⟩) | (go_at_call 146; (with_reducible refine (H2.out _).mono ?_); rintro e _ ⟨rfl, rfl⟩) | (go_at_call 146; (with_reducible refine (H3.out _).mono ?_); rintro e _ ⟨rfl, rfl⟩))
   go_ret
   exact RetX.b (by rw [HE.out]; simp) ((Below.refl _ _).alloc (Nat.le_refl _) _)
 | false =>
  have H3 := hide (fun W => within28_any n 0 64 W)
  obtain ⟨q3, h3⟩ : ∃ q, inR n 0 64 = q := ⟨_, rfl⟩
  rw [h3] at H3
  have HE := hide (show factOk ⟨v, ⟨false, n⟩⟩ = ((q1 || q2) && q3) from by unfold factOk; simp only [Bool.false_eq_true, if_false]; rw [h1, h2, h3])
  clear h1 h2 h3
  cases q1 <;> cases q2
  all_goals
   go_enter Tryz.func148, Tryz.ntmps148
   go_wp2_with (first | (go_at_call 146; (with_reducible refine (H1.out _).mono ?_); rintro e _ ⟨rfl, rfl⟩) | (go_at_call 146; (with_reducible refine (H2.out _).mono ?_); rintro e _ ⟨rfl, rfl⟩) | (go_at_call 146; (with_reducible refine (H3.out _).mono ?_); rintro e _ ⟨rfl, rfl⟩))
   go_ret
   exact RetX.b (by rw [HE.out]; simp) ((Below.refl _ _).alloc (Nat.le_refl _) _)
theorem rowL_none (f : Fact) (l : List Fact) : rowL none (f :: l) = (factOk f && rowL (some f) l) := rfl
theorem rowL_some (g f : Fact) (l : List Fact) : rowL (some g) (f :: l) = (factOk f && aheadF g f && rowL (some f) l) := rfl
def prevF (l : List Fact) (k : Nat) : Option Fact := if k = 0 then none else l[k - 1]?
theorem prevF_succ {l : List Fact} {k : Nat} {x : Fact} (h : l[k]? = some x) : prevF l (k + 1) = some x := by unfold prevF; rw [if_neg (by omega)]; simpa using h
set_option maxRecDepth 100000 in
set_option maxHeartbeats 16000000 in
theorem rowOk28_any (w : World) (S : Nat → Prop) (A : Option Addr) (n c : Nat) (l : List Fact) (h : Sl w S A n c l) : Calls Tryz.prog 107 #[.slice A n c] w (RetX (.bool (rowOk l)) w) := by
 have hn := h.nle
 have HL := hide h.len
 have HS := hide h
 obtain ⟨R0, hR0⟩ : ∃ R, rowL none l = R := ⟨_, rfl⟩
 have HR0 := hide hR0
 have HRO := hide (show rowOk l = (R0 && decide (n ≤ 600)) from by unfold rowOk; rw [hR0, h.len])
 rw [HRO.out]
 clear h hR0
 go_enter Tryz.func107, Tryz.ntmps107
 go_wp2_with fail
 go_loopw [7] (fun i wr => ∃ k : Nat, k ≤ n ∧ i = .int .i64 k ∧ rowL (prevF l k) (l.drop k) = R0 ∧ ∃ u, wr = w.ext u) (fun i _ => n - (intOf i).toNat)
 case atStart => exact ⟨0, Nat.zero_le _, rfl, HR0.out, ext_refl _⟩
 case round =>
  obtain ⟨k, hk, rfl, hr, u, rfl⟩ := hrel
  have HR := hide hr; clear hr
  by_cases hlt : k < n
  ·obtain ⟨b, off, x, rfl, hb, hx, hx1, hx2, c0, c1, c2⟩ := at_Fact (HS.out.ext u) hlt
   obtain ⟨vx, ⟨sx, nx⟩⟩ := x
   dsimp only at c0 c1 c2 hx1 hx2
   have HX := hide (drop_at hx)
   have HPS := hide (prevF_succ hx)
   obtain ⟨We, hWe⟩ : ∃ W, (w.ext u).alloc (.cells #[.int .i64 vx, .bool sx, .int .i64 nx] 42) = W := ⟨_, rfl⟩
   obtain ⟨F, hF⟩ : ∃ F, (w.ext u).heap.size = F := ⟨_, rfl⟩
   have hrow : We.heap[F]? = some (.cells #[.int .i64 vx, .bool sx, .int .i64 nx] 42 (0, 0)) := by rw [← hWe, ← hF]; exact heap_alloc_new _ _
   obtain ⟨m0, m1, m2⟩ := cells3 hrow
   have ml : F < We.heap.size := (Array.getElem?_eq_some_iff.1 hrow).1
   have HBE := hide (show Below w.heap.size w We from by rw [← hWe]; exact (Below.of_ext w u (Nat.le_refl _)).alloc (by rw [size_ext]; omega) _)
   have HSE := hide (show Sl We S (some ⟨b, off, none⟩) n c l from by rw [← hWe]; exact (HS.out.ext u).alloc _)
   have HFO := hide (fun W : World => factOk28_any W ⟨vx, ⟨sx, nx⟩⟩)
   obtain ⟨q1, h1⟩ : ∃ q, factOk ⟨vx, ⟨sx, nx⟩⟩ = q := ⟨_, rfl⟩
   rw [h1] at HFO
   replace HFO := hide (show ∀ W : World, Calls Tryz.prog 148 #[.agg #[.int .i64 vx, .bool sx, .int .i64 nx]] W (RetX (.bool q1) W) from HFO.out)
   have HQ1 := hide h1
   have HWE := hide hWe
   have hFe : w.heap.size + u.blocks.size = F := by rw [← hF, size_ext]
   have HFE := hide hFe
   clear hx hrow h1 hWe hF hFe
   go_upto_region 4 with (fail)
   rw [HWE.out]
   try rw [HFE.out]
   clear c0 c1 c2
   cases q1 with
   | false =>
    have HE := hide (show R0 = false from by rw [← HR.out, HX.out]; cases prevF l k <;> simp [rowL, HQ1.out])
    refine wp_region_flow_ext [] [] (by kernel_rfl) rfl (by kernel_rfl) ?_
    repeat (refine flow_known (by kernel_rfl) (fun K hK => ?_); go_simp; (first | (refine hK _ ?_; clear hK K) | (refine ⟨undef, (by intros; rw [if_neg (by decide)]), hK _ ?_⟩; clear hK K) | (apply Exists.intro; refine ⟨fun _ => ?_, hK _ ?_⟩; ((go_at_call 148; with_reducible exact HFO.out _)); clear hK K)))
    refine flow_done [] (by kernel_rfl) ?_
    intro uf
    simp only [List.nil_append, List.cons_append, endH_f, endH_t, endH_nil]
    go_simp
    go_wp2_with fail
    go_ret
    exact RetX.b (by rw [HE.out]; rfl) (HBE.out.ext HBE.out.size _)
   | true =>
    by_cases hk0 : k = 0
    ·have HE := hide (show rowL (prevF l (k + 1)) (l.drop (k + 1)) = R0 from by rw [← HR.out, HX.out, HPS.out, show prevF l k = none from if_pos hk0, rowL_none, HQ1.out]; rfl)
     have hz2 : decide (0 < k) = false := by simp; omega
     clear hk0
     refine wp_region_flow_ext [] [] (by kernel_rfl) rfl (by kernel_rfl) ?_
     repeat (refine flow_known (by kernel_rfl) (fun K hK => ?_); go_simp; (first | (refine hK _ ?_; clear hK K) | (refine ⟨undef, (by intros; rw [if_neg (by decide)]), hK _ ?_⟩; clear hK K) | (apply Exists.intro; refine ⟨fun _ => ?_, hK _ ?_⟩; ((go_at_call 148; with_reducible exact HFO.out _)); clear hK K)))
     refine flow_done [] (by kernel_rfl) ?_
     intro uf
     simp only [List.nil_append, List.cons_append, endH_f, endH_t, endH_nil]
     go_simp
     go_wp2_with fail
     go_roundw
     case rel => exact ⟨k + 1, by omega, by go_num, HE.out, (HBE.out.ext HBE.out.size _).to_ext⟩
     case measure => simp [intOf]; omega
    ·obtain ⟨m, hm⟩ : ∃ m, k - 1 = m := ⟨_, rfl⟩
     have hmn : m < n := by omega
     obtain ⟨bq, oq, y, hAq, hbq, hyq, hy1, hy2, d0, d1, d2⟩ := at_Fact HSE.out hmn
     injection hAq with hAq
     injection hAq with e1 e2 e3
     subst e1 e2
     obtain ⟨vy, ⟨sy, ny⟩⟩ := y
     dsimp only at d0 d1 d2 hy1 hy2
     have hz2 : decide (0 < k) = true := by simp; omega
     have hm1 : (k : Int) - 1 = (m : Int) := by omega
     have hmi : (m : Int) < n := by omega
     have hmw : IntKind.i64.wrap (m : Int) = (m : Int) := IntWalk.i64_in _ (by omega)
     obtain ⟨bh, hbh⟩ : ∃ b, aheadF ⟨vy, ⟨sy, ny⟩⟩ ⟨vx, ⟨sx, nx⟩⟩ = b := ⟨_, rfl⟩
     have HAH := hide (fun (W : World) => show Calls Tryz.prog 19 #[.agg #[.int .i64 vy, .bool sy, .int .i64 ny], .agg #[.int .i64 vx, .bool sx, .int .i64 nx]] W (RetX (.bool bh) W) from hbh ▸ ahead28_any W ⟨vy, ⟨sy, ny⟩⟩ ⟨vx, ⟨sx, nx⟩⟩ ⟨hy1, hy2⟩ ⟨hx1, hx2⟩)
     have HE := hide (show R0 = (bh && rowL (prevF l (k + 1)) (l.drop (k + 1))) from by rw [← HR.out, HX.out, HPS.out, show prevF l k = some ⟨vy, ⟨sy, ny⟩⟩ from by unfold prevF; rw [if_neg hk0, hm]; exact hyq, rowL_some, HQ1.out, hbh]; rfl)
     clear hyq hm hbh hy1 hy2 hk0
     cases bh with
     | false =>
      refine wp_region_flow_ext [] [] (by kernel_rfl) rfl (by kernel_rfl) ?_
      repeat (refine flow_known (by kernel_rfl) (fun K hK => ?_); go_simp; (first | (refine hK _ ?_; clear hK K) | (refine ⟨undef, (by intros; rw [if_neg (by decide)]), hK _ ?_⟩; clear hK K) | (apply Exists.intro; refine ⟨fun _ => ?_, hK _ ?_⟩; (first | (go_at_call 148; with_reducible exact HFO.out _) | (go_at_call 19; with_reducible exact HAH.out _)); clear hK K)))
      refine flow_done [] (by kernel_rfl) ?_
      intro uf
      simp only [List.nil_append, List.cons_append, endH_f, endH_t, endH_nil]
      go_simp
      go_wp2_with fail
      go_ret
      exact RetX.b (by rw [HE.out]; rfl) (HBE.out.ext HBE.out.size _)
     | true =>
      refine wp_region_flow_ext [] [] (by kernel_rfl) rfl (by kernel_rfl) ?_
      repeat (refine flow_known (by kernel_rfl) (fun K hK => ?_); go_simp; (first | (refine hK _ ?_; clear hK K) | (refine ⟨undef, (by intros; rw [if_neg (by decide)]), hK _ ?_⟩; clear hK K) | (apply Exists.intro; refine ⟨fun _ => ?_, hK _ ?_⟩; (first | (go_at_call 148; with_reducible exact HFO.out _) | (go_at_call 19; with_reducible exact HAH.out _)); clear hK K)))
      refine flow_done [] (by kernel_rfl) ?_
      intro uf
      simp only [List.nil_append, List.cons_append, endH_f, endH_t, endH_nil]
      go_simp
      go_wp2_with fail
      go_roundw
      case rel => exact ⟨k + 1, by omega, by go_num, by rw [HE.out]; rfl, (HBE.out.ext HBE.out.size _).to_ext⟩
      case measure => simp [intOf]; omega
  ·have HE := hide (show R0 = true from by rw [← HR.out, drop_end HL.out hlt]; cases prevF l k <;> rfl)
   go_wp2_with fail
   go_ret
   exact RetX.b (by rw [HE.out]; simp; omega) (by repeat (first | exact Below.refl _ _ | assumption | refine Below.alloc ?_ (by simp [size_ext]; try omega) _ | refine Below.ext ?_ (by simp [size_ext]; try omega) _ | refine Below.drew ?_ | refine Below.setCell ?_ (by simp [size_ext]; try omega) _))
theorem odd28_any (w : World) (S : Nat → Prop) (A : Option Addr) (n c : Nat) (t : Tile) (h : Sl w S A n c t.blocks) : Calls Tryz.prog 104 #[.agg #[.int .i64 t.kind, .int .i64 t.parent, .slice A n c]] w (RetX (.bool (!tileOk t)) w) := by
 have HT := hide (tileOk28_any (w.alloc (.cells #[.int .i64 t.kind, .int .i64 t.parent, .slice A n c] 35)) S A n c t (h.alloc _))
 generalize tileOk t = q at HT ⊢
 clear h
 go_enter Tryz.func104, Tryz.ntmps104
 go_wp2_with (first | (go_at_call 105; (with_reducible refine HT.out.mono ?_); rintro e _ ⟨rfl, u, rfl⟩))
 go_ret
 exact RetX.b rfl (((Below.refl _ _).alloc (Nat.le_refl _) _).ext (by simp) _)
theorem strangeRow28_any (w : World) (S : Nat → Prop) (A : Option Addr) (n c : Nat) (l : List Fact) (h : Sl w S A n c l) : Calls Tryz.prog 106 #[.slice A n c] w (RetX (.bool (!rowOk l)) w) := by
 have HT := hide (rowOk28_any w S A n c l h)
 generalize rowOk l = q at HT ⊢
 clear h
 go_enter Tryz.func106, Tryz.ntmps106
 go_wp2_with (first | (go_at_call 107; (with_reducible refine HT.out.mono ?_); rintro e _ ⟨rfl, u, rfl⟩))
 go_ret
 exact RetX.b rfl ((Below.refl _ _).ext (Nat.le_refl _) _)
set_option maxRecDepth 100000 in
set_option maxHeartbeats 8000000 in
theorem fits28_any (w : World) (S S2 : Nat → Prop) (A B : Option Addr) (n k m j : Nat) (x : Cert) (h : Sl w S A n k x.tiles) (g : Sl w S2 B m j x.facts) : Calls Tryz.prog 49 #[.agg #[.slice A n k, .slice B m j]] w (RetX (.bool (fitsB x)) w) := by
 obtain ⟨tl, fl⟩ := x
 simp only at h g
 have hn := h.nle
 have hm := g.nle
 obtain ⟨W0, hW0⟩ : ∃ W0, w.alloc (.cells #[.slice A n k, .slice B m j] 26) = W0 := ⟨_, rfl⟩
 obtain ⟨q1, h1⟩ : ∃ q, decide ((n : Int) ≤ 200) = q := ⟨_, rfl⟩
 obtain ⟨q2, h2⟩ : ∃ q, decide ((m : Int) ≤ 400) = q := ⟨_, rfl⟩
 obtain ⟨q3, h3⟩ : ∃ q, anyF (fun t => !tileOk t) tl = q := ⟨_, rfl⟩
 obtain ⟨q4, h4⟩ : ∃ q, anyF (fun t => !rowOk t) fl = q := ⟨_, rfl⟩
 have HE := hide (show fitsB ⟨tl, fl⟩ = (q1 && q2 && !q3 && !q4) from by
  unfold fitsB
  simp only
  rw [h.len, g.len, ← any_not tileOk, ← any_not rowOk, ← anyF_any28, ← anyF_any28, h3, h4, ← h1, ← h2, show decide ((n : Int) ≤ 200) = decide (n ≤ 200) from by rw [Bool.eq_iff_iff]; simp; omega, show decide ((m : Int) ≤ 400) = decide (m ≤ 400) from by rw [Bool.eq_iff_iff]; simp; omega])
 have HC1 := hide (show Calls Tryz.prog 108 #[.slice A n k, .func (.func 104) #[] #[]] W0 (RetX (.bool q3) W0) from h3 ▸ containsTiles28_any W0 S A n k tl _ 104 #[] (by rw [← hW0]; exact h.alloc _) (fun _ _ => by kernel_rfl) (fun x A1 n1 c1 u hs => odd28_any _ S A1 n1 c1 x hs))
 have HC2 := hide (fun u : Ext => show Calls Tryz.prog 109 #[.slice B m j, .func (.func 106) #[] #[]] (W0.ext u) (RetX (.bool q4) (W0.ext u)) from h4 ▸ containsRows28_any (W0.ext u) S2 B m j fl _ 106 #[] (by rw [← hW0]; exact (g.alloc _).ext u) (fun _ _ => by kernel_rfl) (fun x A1 n1 c1 u hs => strangeRow28_any _ S2 A1 n1 c1 x hs))
 have HB := hide (show Below w.heap.size w W0 from by rw [← hW0]; exact (Below.refl _ _).alloc (Nat.le_refl _) _)
 obtain ⟨F, hF⟩ : ∃ g, w.heap.size = g := ⟨_, rfl⟩
 have hrow : W0.heap[F]? = some (.cells #[.slice A n k, .slice B m j] 26 (0, 0)) := by rw [← hW0, ← hF]; exact heap_alloc_new w _
 have k0 : W0.cell? ⟨F, 0, none⟩ = some (.slice A n k) := cell_of_row W0 F _ _ _ (0, 0) hrow
 have k1 : W0.cell? ⟨F, 1, none⟩ = some (.slice B m j) := cell_of_row W0 F _ _ _ (0, 0) hrow
 have gl : F < W0.heap.size := (Array.getElem?_eq_some_iff.1 hrow).1
 clear h g h3 h4 hrow
 cases q1 <;> cases q2 <;> cases q3
 all_goals
  go_enter Tryz.func49, Tryz.ntmps49
  go_wp2_with (first | (go_at_call 108; (with_reducible refine HC1.out.mono ?_); rintro e _ ⟨rfl, u1, rfl⟩) | (go_at_call 109; (with_reducible refine (HC2.out _).mono ?_); rintro e _ ⟨rfl, u2, rfl⟩))
  go_ret
  first | exact RetX.b (by rw [HE.out]; simp) HB.out | exact RetX.b (by rw [HE.out]; simp) (HB.out.ext HB.out.size _) | exact RetX.b (by rw [HE.out]; simp) ((HB.out.ext HB.out.size _).ext (by rw [size_ext]; have := HB.out.size; omega) _)
end Go.Proofs.YtppkanniefignaaGreatDoor
namespace Go.Proofs.YtppkanniefignaaGreatDoor
open Go.RowKit Go.Maps
theorem OwnL.lit {α : Type} [Rep α] (w : World) (base : Nat) (T : TypeId) (S : Nat → Prop) (xs : List α) (us : List Value) (n g : Nat) (hr : RepL w S xs us) (hn : xs.length = n) (hm : n ≤ maxLen) (hb : base ≤ w.heap.size) (hg : g = w.heap.size) (hS : ¬ S g) : OwnL (w.alloc (.cells us.toArray T)) base T S (.slice (some ⟨g, 0, none⟩) n n) xs := by
 subst hg hn
 refine ⟨us, ⟨hr.len, .inr ⟨w.heap.size, xs.length, us.toArray, rfl, hb, heap_alloc_new w _, Nat.le_refl _, hm, ?_, ?_⟩⟩, hr.keep (by simp) fun b _ hl => Below.heap_alloc w _ b hl, fun x hx => by injection hx with hx; rw [← hx]; exact hS⟩
 ·simpa using hr.len
 ·exact List.take_of_length_le (by rw [← hr.len]; simp)
theorem OwnL.texts {w : World} {base : Nat} {T : TypeId} {S : Nat → Prop} {A : Option Addr} {n c : Nat} {xs : List ByteArray} (h : OwnL w base T S (.slice A n c) xs) (hne : xs ≠ []) : ∃ g, A = some ⟨g, 0, none⟩ ∧ g < w.heap.size ∧ xs.length = n ∧ n ≤ c ∧ ∀ (j : Nat) (x : ByteArray), xs[j]? = some x → w.cell? ⟨g, 0 + j, none⟩ = some (.string x) := by
 have hs := h.sl (S' := fun _ => True) fun _ _ _ => trivial
 have hn : 0 < n := by
  rw [← hs.len]
  cases xs with
  | nil => exact absurd rfl hne
  | cons x l => simp
 obtain ⟨g, x, us, e, _, hg, _⟩ := h.at_own hn
 refine ⟨g, e, hg, hs.len, hs.2.1, fun j x hj => ?_⟩
 have hjn : j < n := by rw [← hs.len]; exact (List.getElem?_eq_some_iff.1 hj).1
 obtain ⟨g2, y, us, e2, _, _, _, hy, hus, hc⟩ := h.at_own hjn
 rw [e] at e2
 injection e2 with e2
 injection e2 with e2
 subst e2
 rw [hj] at hy
 injection hy with hy
 subst hy
 obtain ⟨rfl, _⟩ := hus
 have := hc 0 _ rfl
 simpa [Rep.size] using this
theorem join28_any (w : World) (base : Nat) (T : TypeId) (S : Nat → Prop) (A : Option Addr) (n c : Nat) (xs : List ByteArray) (h : OwnL w base T S (.slice A n c) xs) (hne : xs ≠ []) (hl : xs.length ≤ 1048576) (hz : (joinW xs).size ≤ 140737488355328) : Calls Tryz.prog 26 #[.slice A n c, .string ⟨#[32]⟩] w (RetX (.string (joinW xs)) w) := by
 obtain ⟨g, rfl, hg, hn, hnc, hcells⟩ := h.texts hne
 subst hn
 have e := join_joinW xs
 have hj : (Lib.join (xs.map (·.data.toList)) (⟨#[32]⟩ : ByteArray).data.toList).length ≤ 140737488355328 := by
  have : (joinW xs).size = (Lib.join (xs.map (·.data.toList)) (⟨#[32]⟩ : ByteArray).data.toList).length := by rw [← e]; simp [ByteArray.size]
  omega
 refine (Tryz.strings_Join g 0 c xs ⟨#[32]⟩ w hcells hg (by omega) hnc hj).mono ?_
 rintro e' w' ⟨rfl, hb⟩
 exact ⟨by rw [e], hb.to_ext⟩
set_option maxRecDepth 100000 in
set_option maxHeartbeats 8000000 in
theorem shown28_any (w : World) (S : Nat → Prop) (A : Option Addr) (n c : Nat) (ps : List Pt) (h : Sl w S A n c ps) (hn : n ≤ 1048576) (hv : VarsP w) (hne : ps ≠ []) (hz : (lineB ps).size ≤ 1099511627776) : Calls Tryz.prog 101 #[.slice A n c] w (RetX (.string (lineB ps)) w) := by
 have HW := hide (words28_any w S A n c ps h hn hv)
 have hne2 : ps.map ptB ≠ [] := by simpa using hne
 obtain ⟨jt, hjt⟩ : ∃ j, joinW (ps.map ptB) = j := ⟨_, rfl⟩
 have h10 : (⟨#[10]⟩ : ByteArray).size = 1 := rfl
 have hsz : jt.size + 1 ≤ 1099511627776 := by rw [← hjt]; unfold lineB at hz; rw [ByteArray.size_append, h10] at hz; exact hz
 have hll : (ps.map ptB).length ≤ 1048576 := by rw [List.length_map, h.len]; exact hn
 have HJ := hide (fun (W : World) (A' : Option Addr) (n' c' : Nat) (ho : OwnL W w.heap.size 9 (fun _ => False) (.slice A' n' c') (ps.map ptB)) => show Calls Tryz.prog 26 #[.slice A' n' c', .string ⟨#[32]⟩] W (RetX (.string jt) W) from hjt ▸ join28_any W _ _ _ A' n' c' _ ho hne2 hll (by rw [hjt]; omega))
 have HE := hide (show lineB ps = jt ++ ⟨#[10]⟩ from by unfold lineB; rw [hjt])
 have g1 : jt.size + (⟨#[10]⟩ : ByteArray).size ≤ 9223372036854775807 := by rw [h10]; omega
 clear h hv hne hz hne2 hjt hsz hll h10
 go_enter Tryz.func101, Tryz.ntmps101
 go_wp2_with (first
  | (go_at_call 69; (with_reducible refine HW.out.mono ?_); rintro e _ ⟨A', c', rfl, ho, u1, rfl⟩; have HO := hide ho; clear ho)
  | (go_at_call 26; (with_reducible refine (HJ.out _ _ _ _ HO.out).mono ?_); rintro e _ ⟨rfl, u2, rfl⟩)
  | (simp only [run_string_add_sum _ _ _ g1]))
 go_ret
 exact ⟨by rw [HE.out]; rfl, ext_ext w u1 u2⟩
end Go.Proofs.YtppkanniefignaaGreatDoor
