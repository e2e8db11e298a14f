/- Iterators over a slice of numbers: what they hand on; lists of the call's own in boxes. -/
import Derived.Test.YtbppamjogdjfkaaMpIn
import Derived.Test.YtbppamjogdjfkaaN5
import Derived.RangeFuncNested
import Derived.RangeFuncBound
import Derived.RangeFuncCalls
import Derived.RangeFuncLeaves
import Derived.Shelf.Abstract
import Derived.Shelf.RegionOpen
import Derived.WalkKit
import Derived.OwnWalkIn
import Derived.TacticsInMore
import Derived.LoopNIn
import Derived.LoopIn
set_option linter.unusedSimpArgs false
set_option linter.unusedVariables false
namespace Go.Proofs.Ytbppamjogdjfkaa
open Go.RowKit Go.Shelf Go.Maps
attribute [local go_sem] Oper.semAt_some

abbrev ZI := { x : Int // InI x }
abbrev encZI : ZI → Array Value := fun x => #[.int .i64 x.1]
abbrev encIZ : Int × ZI → Array Value := fun x => #[.int .i64 x.1, .int .i64 x.2.1]
abbrev unZ (l : List ZI) : List Int := l.map (·.1)
abbrev unIZ (l : List (Int × ZI)) : List Int := l.map (·.2.1)
/-- A slice in a box. -/
def BoxL (W : World) (Bn : Nat) (S : Nat → Prop) (xs : List Int) : Prop :=
  ∃ A n c, W.heap[Bn]? = some (.cells #[.slice A n c] 22 (0, 0)) ∧ Sl W S A n c xs
/-- What a round keeps. -/
structure KeepX (X : Nat → Prop) (W W' : World) : Prop where
  size : W.heap.size ≤ W'.heap.size
  block : ∀ b, X b → W'.heap[b]? = W.heap[b]?
theorem KeepX.refl (X : Nat → Prop) (W : World) : KeepX X W W := ⟨Nat.le_refl _, fun _ _ => rfl⟩
theorem KeepX.trans {X : Nat → Prop} {A B C : World} (h : KeepX X A B) (k : KeepX X B C) : KeepX X A C := ⟨Nat.le_trans h.size k.size, fun b hb => (k.block b hb).trans (h.block b hb)⟩
theorem keepX_b {X : Nat → Prop} {w : World} (hX : ∀ b, X b → b < w.heap.size) (W : World) (l : Nat) (o o' : Obj) (hl : w.heap.size ≤ l) (_ : W.heap[l]? = some o) (_ : o.isCells = false) (_ : o.isWalk = false) : KeepX X W (W.putObj l o') :=
  ⟨by simp [World.putObj], fun b hb => World.putObj_heap_other (by have := hX b hb; omega)⟩
/-- The marks of loops that have been. -/
def marks (Ds : List Nat) : List Deferred := Ds.map fun D => { target := .collected D, args := #[] }
theorem leaves_marks {F : Fence} {n B : Nat} {P : Program} {fn : Func} {tmps : Array Value} {R : Ending → World → Prop} {u : FrameMode} {Q : World → Prop} (hu : u ≠ .run)
    (hQ : ∀ w D, B ≤ D → w.heap[D]? = some (.deferred (some [])) → Q w → Q (w.putObj D (.deferred none))) (hR : ∀ w, Q w → LeavesIn F n P fn tmps R [] u w) :
    ∀ (Ds : List Nat) (w : World), Ds.Nodup → (∀ D ∈ Ds, B ≤ D ∧ w.heap[D]? = some (.deferred (some []))) → Q w → LeavesInM F n P fn tmps R (marks Ds) u w
  | [], w, _, _, h => hR w h
  | D :: Ds, w, hn, hD, h => by
    rw [List.nodup_cons] at hn
    have h1 := hD D (by simp)
    refine ⟨hu, .inl ⟨D, _, rfl, run_takeDeferred h1.2, leaves_marks hu hQ hR Ds _ hn.2 (fun E hE => ⟨(hD E (by simp [hE])).1, ?_⟩) (hQ w D h1.1 h1.2 h)⟩⟩
    exact (World.putObj_heap_other (by intro e; exact hn.1 (by rw [← e]; exact hE))).trans (hD E (by simp [hE])).2
/-- It returns a list that it has made. -/
def RetInts (r : List Int) (w : World) (e : Ending) (w' : World) : Prop :=
  ∃ v, e = .returned v ∧ OwnL w' w.heap.size 3 (fun _ => False) v r ∧ Below w.heap.size w w'
/-! ### Values, Backward -/
set_option maxRecDepth 100000 in
set_option maxHeartbeats 2000000 in
theorem values1_in (F : Fence) (n : Nat) (h6 : F.fn 31) (hro : F.round = none) (hn : 1 ≤ n) (l Bn : Nat) (X S : Nat → Prop) (xs : List Int) (J Jx : List ZI → World → Prop)
    (hY : ∀ pre x W, J pre W → pre.length < xs.length → YieldAt F (n - 1) Try.prog l (encZI x) W fun e W' =>
      (e = .returned (.bool true) ∧ J (pre ++ [x]) W' ∧ KeepX X W W') ∨ (e = .returned (.bool false) ∧ Jx (pre ++ [x]) W'))
    (W : World) (hB : BoxL W Bn S xs) (hBn : X Bn) (hS : ∀ b, S b → X b) (h0 : J [] W) :
    CallsIn F n Try.prog 31 #[.func (.yield l) #[] #[], .pointer (some ⟨Bn, 0, none⟩)] W fun e W' => (∃ v, e = .returned v) ∧
      ((∃ ys, unZ ys = xs ∧ J ys W') ∨ (∃ pre, True ∧ Jx pre W')) := by
  obtain ⟨A, m, c, hrow, s1⟩ := hB
  have hm := s1.nle
  have L1 := s1.len
  have HX1 := hide L1
  have H1 := hide s1
  have k0 : W.cell? ⟨Bn, 0, none⟩ = some (.slice A m c) := cell_of_row W Bn _ _ _ (0, 0) hrow
  clear s1 hrow
  refine callsIn_of_wp Try.func31 rfl h6 ?_ hro
  simp only [Try.ntmps31, List.size_toArray, List.length_cons, List.length_nil, Nat.reduceAdd, Nat.reduceSub, Array.replicate_succ, Array.replicate_zero, List.push_toArray, List.append_toArray, List.nil_append, List.cons_append]
  gi_wp2
  gi_loopw [7] (fun i wr => ∃ (k : Nat) (pre : List ZI), k ≤ m ∧ i = .int .i64 k ∧ unZ pre = xs.take k ∧ J pre wr ∧ KeepX X W wr)
    (fun i _ => m - (Go.RowKit.intOf i).toNat)
  case atStart => exact ⟨0, [], Nat.zero_le _, rfl, rfl, h0, KeepX.refl _ _⟩
  case round =>
    obtain ⟨k, pre, hk, rfl, hpre, hJs, hbw⟩ := hrel
    have HBW := hide hbw
    have HPRE := hide hpre
    have S1 := H1.out.keep (w' := wr) hbw.size (fun b hb _ => hbw.block b (hS b hb))
    clear hbw hpre
    by_cases hlt : k < m
    · obtain ⟨g1, o1, v, rfl, hb1, hv, hvi, d1⟩ := at_int S1 hlt
      obtain ⟨x, hxv⟩ : ∃ x : ZI, x.1 = v := ⟨⟨v, hvi⟩, rfl⟩
      have hlp : pre.length < xs.length := by
        have := congrArg List.length HPRE.out
        rw [List.length_map, List.length_take] at this
        have := HX1.out
        omega
      have hyx := hY pre x wr hJs hlp
      have hex : encZI x = #[.int .i64 v] := by unfold encZI; rw [hxv]
      rw [hex] at hyx
      obtain ⟨fn, tmps, assign, body, hy, hR⟩ := hyx
      have HT := hide (take_at hv)
      have HXV := hide hxv
      clear hv hvi S1 hxv hex hY
      gi_wp2
      refine hR.mono ?_
      rintro e W3 (⟨rfl, hJ3, hk3⟩ | ⟨rfl, hJx3⟩)
      · gi_wp2
        go_roundw
        case rel => exact ⟨k + 1, pre ++ [x], by omega, by go_num, by rw [HT.out, ← HPRE.out, ← HXV.out]; simp, hJ3, HBW.out.trans hk3⟩
        case measure => simp [Go.RowKit.intOf]; omega
      · gi_wp2
        refine bodyPost_ret (results_none rfl _ _ _) rfl ?_
        exact ⟨⟨_, rfl⟩, .inr ⟨_, trivial, hJx3⟩⟩
    · obtain rfl : k = m := by omega
      gi_wp2
      go_end0
      refine ⟨⟨_, rfl⟩, .inl ⟨pre, ?_, hJs⟩⟩
      rw [HPRE.out, List.take_of_length_le (by rw [HX1.out]; exact Nat.le_refl _)]
set_option maxHeartbeats 1000000 in
theorem values_in (F : Fence) (n : Nat) (h5 : F.fn 19) (hro : F.round = none) (A : Option Addr) (m c : Nat) (w : World) :
    CallsIn F n Try.prog 19 #[.slice A m c] w fun e w' => e = .returned (.func (.func 31) #[] #[.pointer (some ⟨w.heap.size, 0, none⟩)]) ∧ w' = w.alloc (.cells #[.slice A m c] 22) := by
  refine callsIn_of_wp Try.func19 rfl h5 ?_ hro
  simp only [Try.ntmps19, List.size_toArray, List.length_cons, List.length_nil, Nat.reduceAdd, Nat.reduceSub, Array.replicate_succ, Array.replicate_zero, List.push_toArray, List.append_toArray, List.nil_append, List.cons_append]
  gi_wp2
  go_ret
  exact ⟨rfl, rfl⟩
theorem values_stops (F : Fence) (n : Nat) (h6 : F.fn 31) (hro : F.round = none) (hn : 1 ≤ n) (Bn : Nat) (X S : Nat → Prop) (xs : List Int) (w : World) (hB : BoxL w Bn S xs) (hBn : X Bn) (hS : ∀ b, S b → X b) :
    SeqStopsK F n Try.prog 31 #[.pointer (some ⟨Bn, 0, none⟩)] encZI (KeepX X) (fun ys => unZ ys = xs) (fun _ => True) xs.length w := fun l J Jx W hW _ _ hY h0 => by
  refine values1_in F n h6 hro hn l Bn X S xs J Jx hY W ?_ hBn hS h0
  obtain ⟨A, m, c, hrow, s1⟩ := hB
  exact ⟨A, m, c, (hW.block Bn (Array.getElem?_eq_some_iff.1 hrow).1).trans hrow, s1.belowAll hW⟩
set_option maxRecDepth 100000 in
set_option maxHeartbeats 2000000 in
theorem backward1_in (F : Fence) (n : Nat) (h6 : F.fn 46) (hro : F.round = none) (hn : 1 ≤ n) (l Bn : Nat) (X S : Nat → Prop) (xs : List Int) (J Jx : List (Int × ZI) → World → Prop)
    (hY : ∀ pre x W, J pre W → pre.length < xs.length → YieldAt F (n - 1) Try.prog l (encIZ x) W fun e W' =>
      (e = .returned (.bool true) ∧ J (pre ++ [x]) W' ∧ KeepX X W W') ∨ (e = .returned (.bool false) ∧ Jx (pre ++ [x]) W'))
    (W : World) (hB : BoxL W Bn S xs) (hBn : X Bn) (hS : ∀ b, S b → X b) (h0 : J [] W) :
    CallsIn F n Try.prog 46 #[.func (.yield l) #[] #[], .pointer (some ⟨Bn, 0, none⟩)] W fun e W' => (∃ v, e = .returned v) ∧
      ((∃ ys, unIZ ys = xs.reverse ∧ J ys W') ∨ (∃ pre, True ∧ Jx pre W')) := by
  obtain ⟨A, m, c, hrow, s1⟩ := hB
  have hm := s1.nle
  have L1 := s1.len
  have HX1 := hide L1
  have H1 := hide s1
  have HROW := hide hrow
  have k0 : W.cell? ⟨Bn, 0, none⟩ = some (.slice A m c) := cell_of_row W Bn _ _ _ (0, 0) hrow
  have hw0 : IntKind.i64.wrap ((m : Int) - 1) = (m : Int) - 1 := IntWalk.i64_in _ (by omega)
  clear s1 hrow L1
  refine callsIn_of_wp Try.func46 rfl h6 ?_ hro
  simp only [Try.ntmps46, List.size_toArray, List.length_cons, List.length_nil, Nat.reduceAdd, Nat.reduceSub, Array.replicate_succ, Array.replicate_zero, List.push_toArray, List.append_toArray, List.nil_append, List.cons_append]
  gi_wp2
  gi_loopw [3] (fun i wr => ∃ (q : Nat) (pre : List (Int × ZI)), q ≤ m ∧ i = .int .i64 ((q : Int) - 1) ∧ unIZ pre = xs.reverse.take (m - q) ∧ J pre wr ∧ KeepX X W wr)
    (fun i _ => (Go.RowKit.intOf i + 1).toNat)
  case atStart => exact ⟨m, [], Nat.le_refl _, rfl, by simp, h0, KeepX.refl _ _⟩
  case round =>
    obtain ⟨q, pre, hq, rfl, hpre, hJs, hbw⟩ := hrel
    have HBW := hide hbw
    have HPRE := hide hpre
    have hrow2 : wr.heap[Bn]? = some (.cells #[.slice A m c] 22 (0, 0)) := (hbw.block Bn hBn).trans HROW.out
    have k1 : wr.cell? ⟨Bn, 0, none⟩ = some (.slice A m c) := cell_of_row wr Bn _ _ _ (0, 0) hrow2
    have hBw : Bn < wr.heap.size := (Array.getElem?_eq_some_iff.1 hrow2).1
    have S1 := H1.out.keep (w' := wr) hbw.size (fun b hb _ => hbw.block b (hS b hb))
    clear hbw hpre hrow2
    cases q with
    | succ j =>
      have hj : ((j + 1 : Nat) : Int) - 1 = (j : Int) := by omega
      have hjm : (j : Int) < m := by omega
      have hj0 : (0 : Int) ≤ (j : Int) := by omega
      rw [hj]
      obtain ⟨g1, o1, v, rfl, hb1, hv, hvi, d1⟩ := at_int S1 (k := j) (by omega)
      obtain ⟨x, hx1, hxv⟩ : ∃ x : Int × ZI, x.1 = (j : Int) ∧ x.2.1 = v := ⟨(j, ⟨v, hvi⟩), rfl, rfl⟩
      have hlp : pre.length < xs.length := by
        have := congrArg List.length HPRE.out
        rw [List.length_map, List.length_take, List.length_reverse] at this
        have := HX1.out
        omega
      have hyx := hY pre x wr hJs hlp
      have hex : encIZ x = #[.int .i64 (j : Int), .int .i64 v] := by unfold encIZ; rw [hxv, hx1]
      rw [hex] at hyx
      obtain ⟨fn, tmps, assign, body, hy, hR⟩ := hyx
      have HT := hide (take_at (xs := xs.reverse) (k := m - (j + 1)) (x := v) (by
        rw [List.getElem?_reverse (by have := HX1.out; omega), HX1.out, ← hv]
        congr 1; omega))
      have HXV := hide hxv
      have hw1 : IntKind.i64.wrap ((j : Int) - 1) = (j : Int) - 1 := IntWalk.i64_in _ (by omega)
      clear hv hvi S1 hxv hx1 hex hY hj
      gi_wp2
      refine hR.mono ?_
      rintro e W3 (⟨rfl, hJ3, hk3⟩ | ⟨rfl, hJx3⟩)
      · gi_wp2
        go_roundw
        case rel => exact ⟨j, pre ++ [x], by omega, rfl, by rw [show m - j = m - (j + 1) + 1 by omega, HT.out, ← HPRE.out, ← HXV.out]; simp, hJ3, HBW.out.trans hk3⟩
        case measure => simp [Go.RowKit.intOf]
      · gi_wp2
        refine bodyPost_ret (results_none rfl _ _ _) rfl ?_
        exact ⟨⟨_, rfl⟩, .inr ⟨_, trivial, hJx3⟩⟩
    | zero =>
      have hj : ((0 : Nat) : Int) - 1 = -1 := by omega
      rw [hj]
      gi_wp2
      go_end0
      refine ⟨⟨_, rfl⟩, .inl ⟨pre, ?_, hJs⟩⟩
      rw [HPRE.out, List.take_of_length_le (by rw [List.length_reverse, HX1.out]; omega)]
set_option maxHeartbeats 1000000 in
theorem backward_in (F : Fence) (n : Nat) (h5 : F.fn 37) (hro : F.round = none) (A : Option Addr) (m c : Nat) (w : World) :
    CallsIn F n Try.prog 37 #[.slice A m c] w fun e w' => e = .returned (.func (.func 46) #[] #[.pointer (some ⟨w.heap.size, 0, none⟩)]) ∧ w' = w.alloc (.cells #[.slice A m c] 22) := by
  refine callsIn_of_wp Try.func37 rfl h5 ?_ hro
  simp only [Try.ntmps37, List.size_toArray, List.length_cons, List.length_nil, Nat.reduceAdd, Nat.reduceSub, Array.replicate_succ, Array.replicate_zero, List.push_toArray, List.append_toArray, List.nil_append, List.cons_append]
  gi_wp2
  go_ret
  exact ⟨rfl, rfl⟩
theorem backward_stops (F : Fence) (n : Nat) (h6 : F.fn 46) (hro : F.round = none) (hn : 1 ≤ n) (Bn : Nat) (X S : Nat → Prop) (xs : List Int) (w : World) (hB : BoxL w Bn S xs) (hBn : X Bn) (hS : ∀ b, S b → X b) :
    SeqStopsK F n Try.prog 46 #[.pointer (some ⟨Bn, 0, none⟩)] encIZ (KeepX X) (fun ys => unIZ ys = xs.reverse) (fun _ => True) xs.length w := fun l J Jx W hW _ _ hY h0 => by
  refine backward1_in F n h6 hro hn l Bn X S xs J Jx hY W ?_ hBn hS h0
  obtain ⟨A, m, c, hrow, s1⟩ := hB
  exact ⟨A, m, c, (hW.block Bn (Array.getElem?_eq_some_iff.1 hrow).1).trans hrow, s1.belowAll hW⟩
end Go.Proofs.Ytbppamjogdjfkaa
