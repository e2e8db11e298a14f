/- Walks: a brief's variables, and their colors, as an iterator hands them. -/
import Derived.Test.YthmglmmafgdmhaaGreatB23c
import Derived.Test.YthmglmmafgdmhaaGreatTB3
import Derived.Test.YthmglmmafgdmhaaGreatFlowR
import Derived.RangeFuncNested
import Derived.RangeFuncBound
import Derived.RangeFuncCalls
import Derived.RangeFuncLeaves
import Derived.Shelf.Abstract
import Derived.Shelf.RegionOpen
import Derived.WalkKit
import Derived.OwnWalkIn
import Derived.TacticsInMore
import Derived.LoopNIn
import Derived.LoopIn
set_option linter.unusedSimpArgs false
set_option linter.unusedVariables false
namespace Go.Proofs.YthmglmmafgdmhaaGreat
open Go.RowKit Go.Shelf Go.Maps
attribute [local go_sem] Oper.semAt_some

/-- A variable and its color, of a right brief. -/
abbrev VC := { p : Int × Int // (1 ≤ p.1 ∧ p.1 ≤ 200) ∧ (-1 ≤ p.2 ∧ p.2 ≤ 63) }
abbrev encVC : VC → Array Value := fun x => #[.int .i64 x.1.1, .int .i64 x.1.2]
abbrev unVC (l : List VC) : List (Int × Int) := l.map (·.1)
theorem vc_len {b : Brief} (R : RightB b) : (vcB b).length = b.vars.length := by unfold vcB; rw [List.length_zip, R.lc]; omega
/-- A brief in a box. -/
def BoxB (W : World) (Bn : Nat) (S : Nat → Prop) (b : Brief) : Prop :=
  ∃ A1 n1 c1 A2 n2 c2 A3 n3 c3, W.heap[Bn]? = some (.cells #[.slice A1 n1 c1, .slice A2 n2 c2, .slice A3 n3 c3] 43 (0, 0)) ∧ Sl W S A1 n1 c1 b.vars ∧ Sl W S A2 n2 c2 b.colors ∧ Sl W S A3 n3 c3 b.edge
/-- What a round keeps. -/
structure KeepX (X : Nat → Prop) (W W' : World) : Prop where
  size : W.heap.size ≤ W'.heap.size
  block : ∀ b, X b → W'.heap[b]? = W.heap[b]?
theorem KeepX.refl (X : Nat → Prop) (W : World) : KeepX X W W := ⟨Nat.le_refl _, fun _ _ => rfl⟩
theorem KeepX.trans {X : Nat → Prop} {A B C : World} (h : KeepX X A B) (k : KeepX X B C) : KeepX X A C := ⟨Nat.le_trans h.size k.size, fun b hb => (k.block b hb).trans (h.block b hb)⟩
theorem keepX_b {X : Nat → Prop} {w : World} (hX : ∀ b, X b → b < w.heap.size) (W : World) (l : Nat) (o o' : Obj) (hl : w.heap.size ≤ l) (_ : W.heap[l]? = some o) (_ : o.isCells = false) (_ : o.isWalk = false) : KeepX X W (W.putObj l o') :=
  ⟨by simp [World.putObj], fun b hb => World.putObj_heap_other (by have := hX b hb; omega)⟩
set_option maxRecDepth 100000 in
set_option maxHeartbeats 2000000 in
/-- **func(yield) { for k, v := range b.Vars { if !yield(v, b.Colors[k]) { return } } }** -/
theorem each1_in (F : Fence) (n : Nat) (h6 : F.fn 64) (hro : F.round = none) (hn : 1 ≤ n) (l Bn : Nat) (X S : Nat → Prop) (b : Brief) (R : RightB b) (J Jx : List VC → World → Prop)
    (hY : ∀ pre x W, J pre W → pre.length < b.vars.length → YieldAt F (n - 1) Tryz.prog l (encVC x) W fun e W' =>
      (e = .returned (.bool true) ∧ J (pre ++ [x]) W' ∧ KeepX X W W') ∨ (e = .returned (.bool false) ∧ Jx (pre ++ [x]) W'))
    (W : World) (hB : BoxB W Bn S b) (hBn : X Bn) (hS : ∀ b, S b → X b) (h0 : J [] W) :
    CallsIn F n Tryz.prog 64 #[.func (.yield l) #[] #[], .pointer (some ⟨Bn, 0, none⟩)] W fun e W' => (∃ v, e = .returned v) ∧
      ((∃ ys, unVC ys = vcB b ∧ J ys W') ∨ (∃ pre, True ∧ Jx pre W')) := by
  obtain ⟨A1, n1, c1, A2, n2, c2, A3, n3, c3, hrow, s1, s2, s3⟩ := hB
  have hn1 := rising_few R.rise
  have L1 := s1.len; have L2 := s2.len; have L3 := s3.len
  have hn1 : n1 ≤ 200 := by omega
  have e2 : n2 = n1 := by have := R.lc; omega
  subst e2
  have HBX := hide (show BoxB W Bn S b from ⟨A1, n2, c1, A2, n2, c2, A3, n3, c3, hrow, s1, s2, s3⟩)
  have HROW := hide hrow
  have H1 := hide s1; have H2 := hide s2
  have k0 : W.cell? ⟨Bn, 0, none⟩ = some (.slice A1 n2 c1) := cell_of_row W Bn _ _ _ (0, 0) hrow
  clear s1 s2 s3 hrow L2 L3
  have hlb : b.vars.length = n2 := L1
  refine callsIn_of_wp Tryz.func64 rfl h6 ?_ hro
  simp only [Tryz.ntmps64, List.size_toArray, List.length_cons, List.length_nil, Nat.reduceAdd, Nat.reduceSub, Array.replicate_succ, Array.replicate_zero, List.push_toArray, List.append_toArray, List.nil_append, List.cons_append]
  gi_wp2
  gi_loopw [8] (fun i wr => ∃ (k : Nat) (pre : List VC), k ≤ n2 ∧ i = .int .i64 k ∧ unVC pre = (vcB b).take k ∧ J pre wr ∧ KeepX X W wr)
    (fun i _ => n2 - (intOf i).toNat)
  case atStart => exact ⟨0, [], Nat.zero_le _, rfl, rfl, h0, KeepX.refl _ _⟩
  case round =>
    obtain ⟨k, pre, hk, rfl, hpre, hJs, hbw⟩ := hrel
    have HBW := hide hbw
    have HPRE := hide hpre
    have hrow2 : wr.heap[Bn]? = some (.cells #[.slice A1 n2 c1, .slice A2 n2 c2, .slice A3 n3 c3] 43 (0, 0)) := (hbw.block Bn hBn).trans HROW.out
    have k1 : wr.cell? ⟨Bn, 1, none⟩ = some (.slice A2 n2 c2) := cell_of_row wr Bn _ _ _ (0, 0) hrow2
    have hBw : Bn < wr.heap.size := (Array.getElem?_eq_some_iff.1 hrow2).1
    have S1 := H1.out.keep (w' := wr) hbw.size (fun b hb _ => hbw.block b (hS b hb))
    have S2 := H2.out.keep (w' := wr) hbw.size (fun b hb _ => hbw.block b (hS b hb))
    clear hbw hrow2 hpre
    by_cases hlt : k < n2
    · obtain ⟨g1, o1, v, rfl, hb1, hv, hvi, d1⟩ := at_int S1 hlt
      obtain ⟨g2, o2, c, rfl, hb2, hc, hci, d2⟩ := at_int S2 hlt
      have hvr := risingF_mem R.rise v (List.mem_of_getElem? hv)
      have hcr := R.col c (List.mem_of_getElem? hc)
      obtain ⟨x, hxv⟩ : ∃ x : VC, x.1 = (v, c) := ⟨⟨(v, c), ⟨by show 1 ≤ v; omega, hvr.2⟩, hcr⟩, rfl⟩
      have hlp : pre.length < b.vars.length := by
        have := congrArg List.length HPRE.out
        rw [List.length_map, List.length_take] at this
        omega
      have hyx := hY pre x wr hJs hlp
      have hex : encVC x = #[.int .i64 v, .int .i64 c] := by unfold encVC; rw [hxv]
      rw [hex] at hyx
      obtain ⟨fn, tmps, assign, body, hy, hR⟩ := hyx
      have HT := hide (take_at (vc_at hv hc))
      have HXV := hide hxv
      clear hv hc hvi hci hvr hcr S1 S2 hxv hex hY
      gi_wp2
      refine hR.mono ?_
      rintro e W3 (⟨rfl, hJ3, hk3⟩ | ⟨rfl, hJx3⟩)
      · gi_wp2
        go_roundw
        case rel => exact ⟨k + 1, pre ++ [x], by omega, by go_num, by rw [HT.out, ← HPRE.out, ← HXV.out]; simp, hJ3, HBW.out.trans hk3⟩
        case measure => simp [intOf]; omega
      · gi_wp2
        refine bodyPost_ret (results_none rfl _ _ _) rfl ?_
        exact ⟨⟨_, rfl⟩, .inr ⟨_, trivial, hJx3⟩⟩
    · obtain rfl : k = n2 := by omega
      gi_wp2
      go_end0
      refine ⟨⟨_, rfl⟩, .inl ⟨pre, ?_, hJs⟩⟩
      rw [HPRE.out, List.take_of_length_le (by rw [vc_len R]; omega)]
set_option maxHeartbeats 1000000 in
/-- b.each(): the brief is boxed; the function value captures the box. -/
theorem each_in (F : Fence) (n : Nat) (h5 : F.fn 40) (hro : F.round = none) (A1 A2 A3 : Option Addr) (n1 c1 n2 c2 n3 c3 : Nat) (w : World) :
    CallsIn F n Tryz.prog 40 #[.agg #[.slice A1 n1 c1, .slice A2 n2 c2, .slice A3 n3 c3]] w fun e w' => e = .returned (.func (.func 64) #[] #[.pointer (some ⟨w.heap.size, 0, none⟩)]) ∧ w' = w.alloc (.cells #[.slice A1 n1 c1, .slice A2 n2 c2, .slice A3 n3 c3] 43) := by
  refine callsIn_of_wp Tryz.func40 rfl h5 ?_ hro
  simp only [Tryz.ntmps40, List.size_toArray, List.length_cons, List.length_nil, Nat.reduceAdd, Nat.reduceSub, Array.replicate_succ, Array.replicate_zero, List.push_toArray, List.append_toArray, List.nil_append, List.cons_append]
  gi_wp2
  go_ret
  exact ⟨rfl, rfl⟩
/-- What each hands back goes through the brief's variables and colors. -/
theorem each_stops (F : Fence) (n : Nat) (h6 : F.fn 64) (hro : F.round = none) (hn : 1 ≤ n) (Bn : Nat) (X S : Nat → Prop) (b : Brief) (R : RightB b) (w : World) (hB : BoxB w Bn S b) (hBn : X Bn) (hS : ∀ b, S b → X b) :
    SeqStopsK F n Tryz.prog 64 #[.pointer (some ⟨Bn, 0, none⟩)] encVC (KeepX X) (fun ys => unVC ys = vcB b) (fun _ => True) b.vars.length w := fun l J Jx W hW _ _ hY h0 => by
  refine each1_in F n h6 hro hn l Bn X S b R J Jx hY W ?_ hBn hS h0
  obtain ⟨A1, n1, c1, A2, n2, c2, A3, n3, c3, hrow, s1, s2, s3⟩ := hB
  exact ⟨A1, n1, c1, A2, n2, c2, A3, n3, c3, (hW.block Bn (Array.getElem?_eq_some_iff.1 hrow).1).trans hrow, s1.belowAll hW, s2.belowAll hW, s3.belowAll hW⟩
end Go.Proofs.YthmglmmafgdmhaaGreat
