/- law05: walks: the document's IsSaved, Enough, Lost, Keeps; facts that are the same. Two places, held against each other. law05: walks: the document's Keeps; facts that are the same. -/
import Derived.Test.YtcfimcghckjmeaaGreatDoorM5e
import Derived.Test.YtcfimcghckjmeaaGreatDoorG22
import Derived.Test.YtcfimcghckjmeaaGreatDoorFlow6
import Derived.Test.YtcfimcghckjmeaaGreatDoorG0
set_option linter.unusedSimpArgs false
set_option linter.unusedVariables false
namespace Go.Proofs.YtcfimcghckjmeaaGreatDoor
open Go.RowKit

theorem OwnL.base' {α : Type} [Rep α] {w : World} {b b' : Nat} {T : TypeId} {S : Nat → Prop} {v : Value} {xs : List α} (h : OwnL w b T S v xs) (hb : b' ≤ b) : OwnL w b' T S v xs := by
  obtain ⟨vals, ⟨l1, l2⟩, hr, ha⟩ := h
  refine ⟨vals, ⟨l1, ?_⟩, hr, ha⟩
  rcases l2 with l2 | ⟨g, cap, cur, e, hg, rest⟩
  · exact .inl l2
  · exact .inr ⟨g, cap, cur, e, Nat.le_trans hb hg, rest⟩
theorem disSaved5_any (w : World) (S2 : Nat → Prop) (m : Machine) (v1 : Value) (A2 : Option Addr) (n2 c2 : Nat) (h2 : Sl w S2 A2 n2 c2 m.saved) (r : Int) :
    Calls Tryz.prog 17 #[.agg #[.int .i64 m.regs, v1, .int .i64 m.ret, .slice A2 n2 c2], .int .i64 r] w (RetX (.bool (hasI r m.saved)) w) := by
  have HS := hide h2
  clear h2
  go_enter Tryz.func17, Tryz.ntmps17
  go_wp2_with (go_at_call 43; refine (has05_any _ S2 A2 n2 c2 m.saved r (by repeat (first | assumption | exact Hd.out (by assumption) | apply Sl.alloc | apply Sl.ext | apply Sl.drew | apply Sl.drewN))).mono ?_; rintro e w' ⟨rfl, rfl⟩)
  go_ret
  exact RetX.b rfl (by repeat (first | exact Below.refl _ _ | assumption | refine Below.alloc ?_ (by simp [size_ext]; try omega) _ | refine Below.ext ?_ (by simp [size_ext]; try omega) _ | refine Below.drew ?_ | refine Below.setCell ?_ (by simp [size_ext]; try omega) _))
theorem enoughM_nat (m : Machine) (o a : Int) : enoughM m o a = (rightM m && (decide (o ≤ m.regs - 1) && decide (a ≤ (m.args.length : Int)))) := by
  unfold enoughM
  have : decide (o < m.regs) = decide (o ≤ m.regs - 1) := by
    apply Bool.eq_iff_iff.2
    simp only [decide_eq_true_eq]
    omega
  rw [this]
set_option maxHeartbeats 4000000 in
theorem denough5_any (w : World) (S1 S2 : Nat → Prop) (m : Machine) (A1 A2 : Option Addr) (n1 c1 n2 c2 : Nat) (h1 : Sl w S1 A1 n1 c1 m.args) (h2 : Sl w S2 A2 n2 c2 m.saved) (o a : Int) :
    Calls Tryz.prog 24 #[.agg #[.int .i64 m.regs, .slice A1 n1 c1, .int .i64 m.ret, .slice A2 n2 c2], .int .i64 o, .int .i64 a] w (RetX (.bool (enoughM m o a)) w) := by
  have H1 := hide h1; have H2 := hide h2
  have HRI := hide (fun (W : World) (h1 : Sl W S1 A1 n1 c1 m.args) (h2 : Sl W S2 A2 n2 c2 m.saved) => right5_any W S1 S2 m A1 A2 n1 c1 n2 c2 h1 h2)
  have hn := h1.nle
  have HL := hide h1.len
  have hg : enoughM m o a = (rightM m && (decide (o ≤ m.regs - 1) && decide (a ≤ (n1 : Int)))) := by rw [enoughM_nat, h1.len]
  rw [hg]
  cases hR : rightM m with
  | false =>
    rw [hR] at HRI
    clear h1 h2 hg hR
    go_enter Tryz.func24, Tryz.ntmps24
    go_wp2_with (go_at_call 15; refine (HRI.out _ (by repeat (first | assumption | exact Hd.out (by assumption) | apply Sl.alloc | apply Sl.ext | apply Sl.drew | apply Sl.drewN)) (by repeat (first | assumption | exact Hd.out (by assumption) | apply Sl.alloc | apply Sl.ext | apply Sl.drew | apply Sl.drewN))).mono ?_; rintro e _ ⟨rfl, ux, rfl⟩)
    go_ret
    exact RetX.b rfl (by repeat (first | exact Below.refl _ _ | assumption | refine Below.alloc ?_ (by simp [size_ext]; try omega) _ | refine Below.ext ?_ (by simp [size_ext]; try omega) _ | refine Below.drew ?_ | refine Below.setCell ?_ (by simp [size_ext]; try omega) _))
  | true =>
    obtain ⟨q1, q2, _⟩ := rightM_parts hR
    have hwr : IntKind.i64.wrap (m.regs - 1) = m.regs - 1 := IntWalk.i64_in _ (by omega)
    rw [hR] at HRI
    clear h1 h2 hg hR
    go_enter Tryz.func24, Tryz.ntmps24
    by_cases ho : o ≤ m.regs - 1
    · have e : decide (o ≤ m.regs - 1) = true := by simpa using ho
      rw [e]
      go_wp2_with (go_at_call 15; refine (HRI.out _ (by repeat (first | assumption | exact Hd.out (by assumption) | apply Sl.alloc | apply Sl.ext | apply Sl.drew | apply Sl.drewN)) (by repeat (first | assumption | exact Hd.out (by assumption) | apply Sl.alloc | apply Sl.ext | apply Sl.drew | apply Sl.drewN))).mono ?_; rintro e _ ⟨rfl, ux, rfl⟩)
      go_ret
      exact RetX.b (by simp) (by repeat (first | exact Below.refl _ _ | assumption | refine Below.alloc ?_ (by simp [size_ext]; try omega) _ | refine Below.ext ?_ (by simp [size_ext]; try omega) _ | refine Below.drew ?_ | refine Below.setCell ?_ (by simp [size_ext]; try omega) _))
    · have e : decide (o ≤ m.regs - 1) = false := by simpa using ho
      rw [e]
      go_wp2_with (go_at_call 15; refine (HRI.out _ (by repeat (first | assumption | exact Hd.out (by assumption) | apply Sl.alloc | apply Sl.ext | apply Sl.drew | apply Sl.drewN)) (by repeat (first | assumption | exact Hd.out (by assumption) | apply Sl.alloc | apply Sl.ext | apply Sl.drew | apply Sl.drewN))).mono ?_; rintro e _ ⟨rfl, ux, rfl⟩)
      go_ret
      exact RetX.b (by simp) (by repeat (first | exact Below.refl _ _ | assumption | refine Below.alloc ?_ (by simp [size_ext]; try omega) _ | refine Below.ext ?_ (by simp [size_ext]; try omega) _ | refine Below.drew ?_ | refine Below.setCell ?_ (by simp [size_ext]; try omega) _))
set_option maxRecDepth 100000 in
set_option maxHeartbeats 8000000 in
theorem dlost5_any (w : World) (S1 S2 : Nat → Prop) (m : Machine) (A1 A2 : Option Addr) (n1 c1 n2 c2 : Nat) (h1 : Sl w S1 A1 n1 c1 m.args) (h2 : Sl w S2 A2 n2 c2 m.saved) :
    Calls Tryz.prog 19 #[.agg #[.int .i64 m.regs, .slice A1 n1 c1, .int .i64 m.ret, .slice A2 n2 c2]] w (RetO 3 (lostM m) w) := by
  obtain ⟨i0, hi, hz, hz1, hz2⟩ := info_parts info_int
  have HI0 := hide hi; have HZ := hide hz; have HZ1 := hide hz1; have HZ2 := hide hz2
  clear hi hz hz1 hz2
  obtain ⟨g, hg⟩ : ∃ g, w.heap.size = g := ⟨_, rfl⟩
  have HGQ := hide hg
  obtain ⟨W0, hW0⟩ : ∃ W0, w.alloc (.cells #[.int .i64 m.regs, .slice A1 n1 c1, .int .i64 m.ret, .slice A2 n2 c2] 25) = W0 := ⟨_, rfl⟩
  have hrow : W0.heap[g]? = some (.cells #[.int .i64 m.regs, .slice A1 n1 c1, .int .i64 m.ret, .slice A2 n2 c2] 25 (0, 0)) := by rw [← hW0, ← hg]; exact heap_alloc_new w _
  have HROW := hide hrow
  have hz0 : W0.heap.size = g + 1 := by rw [← hW0, ← hg]; simp
  have HZ0 := hide hz0
  have HB0 := hide (show Below g w W0 by rw [← hW0, ← hg]; exact (Below.refl _ _).alloc (Nat.le_refl _) _)
  have H1 := hide (show Sl W0 (fun b => b < W0.heap.size) A1 n1 c1 m.args by rw [← hW0]; exact (h1.alloc _).more fun b hb _ => hb)
  have H2 := hide (show Sl W0 (fun b => b < W0.heap.size) A2 n2 c2 m.saved by rw [← hW0]; exact (h2.alloc _).more fun b hb _ => hb)
  have HRI := hide (fun (W : World) (hb : Below W0.heap.size W0 W) => right5_any W _ _ m A1 A2 n1 c1 n2 c2 (H1.out.below hb fun _ h => h) (H2.out.below hb fun _ h => h))
  have HHA := hide (fun (W : World) (hb : Below W0.heap.size W0 W) (r : Int) => has05_any W _ A2 n2 c2 m.saved r (H2.out.below hb fun _ h => h))
  have HCE := hide (fun (W : World) (hb : Below W0.heap.size W0 W) => show W.cell? ⟨g, 0, none⟩ = some (.int .i64 m.regs) ∧ W.cell? ⟨g, 1, none⟩ = some (.slice A1 n1 c1) ∧ W.cell? ⟨g, 2, none⟩ = some (.int .i64 m.ret) ∧ W.cell? ⟨g, 3, none⟩ = some (.slice A2 n2 c2) ∧ g < W.heap.size from by
    have hr : W.heap[g]? = some (.cells #[.int .i64 m.regs, .slice A1 n1 c1, .int .i64 m.ret, .slice A2 n2 c2] 25 (0, 0)) := (hb.block g (by rw [HZ0.out]; omega)).trans HROW.out
    exact ⟨cell_of_row W g _ _ _ (0, 0) hr, cell_of_row W g _ _ _ (0, 0) hr, cell_of_row W g _ _ _ (0, 0) hr, cell_of_row W g _ _ _ (0, 0) hr, by have := hb.size; rw [HZ0.out] at this; omega⟩)
  cases hR : rightM m with
  | false =>
    have HG := hide (show lostM m = [] from lostM_no hR)
    rw [hR] at HRI
    obtain ⟨k0, k1, k2, k3, hgl⟩ := HCE.out W0 (Below.refl _ _)
    clear hrow h1 h2 hR hz0
    go_enter Tryz.func19, Tryz.ntmps19
    go_wp2_with fail
    go_loopw [3, 4] (fun o i wr => o = .slice none 0 0 ∧ i = .int .i64 0 ∧ wr = W0) (fun _ _ _ => 0)
    case atStart => exact ⟨rfl, rfl, rfl⟩
    case round =>
      obtain ⟨rfl, rfl, rfl⟩ := hrel
      go_wp2_with (go_at_call 15; refine (HRI.out _ (Below.refl _ _)).mono ?_; rintro e _ ⟨rfl, ux, rfl⟩)
      go_ret
      rw [HG.out]
      exact RetO.mk_ (OwnL.nil_ _ _ _ (fun _ => False)) (fun _ h => h.elim) (by rw [HGQ.out]; exact HB0.out.ext (by rw [HZ0.out]; omega) ux)
  | true =>
    obtain ⟨q1, q2, _⟩ := rightM_parts hR
    obtain ⟨R, hRR⟩ : ∃ R : Nat, m.regs = (R : Int) := Int.eq_ofNat_of_zero_le (by omega)
    have HG := hide (show lostM m = lostTo R m.saved by rw [lostM_yes hR, hRR]; rfl)
    have hR64 : R ≤ 64 := by omega
    rw [hR] at HRI
    rw [hRR] at HRI HCE hW0 ⊢
    clear hrow h1 h2 hR q1 q2 hRR hz0
    go_enter Tryz.func19, Tryz.ntmps19
    go_wp2_with fail
    clear hW0
    have hZw : g + 1 ≤ W0.heap.size := by rw [HZ0.out]; omega
    go_loopw [3, 4] (fun o i wr => ∃ (k n ca : Nat) (Ao : Option Addr), o = .slice Ao n ca ∧ i = .int .i64 k ∧ k ≤ R ∧ (lostTo k m.saved).length = n ∧ OwnL wr (g + 1) 3 (fun _ => False) o (lostTo k m.saved) ∧ Below W0.heap.size W0 wr) (fun _ i _ => R - (intOf i).toNat)
    case atStart => exact ⟨0, 0, 0, none, rfl, rfl, Nat.zero_le _, rfl, OwnL.nil_ _ _ _ _, Below.refl _ _⟩
    case round =>
      obtain ⟨k, n, ca, Ao, rfl, rfl, hk, hn, hown, hb⟩ := hrel
      have HO := hide hown; have HBB := hide hb; have HN := hide hn
      obtain ⟨k0, k1, k2, k3, hgl⟩ := HCE.out wr hb
      have hrs : g + 1 ≤ wr.heap.size := by omega
      have HRW := hide (HRI.out wr hb)
      have HHW := hide (fun (u : Ext) => HHA.out (wr.ext u) (hb.ext (by have := hb.size; omega) u) k)
      have HLE := hide (lostTo_len k m.saved)
      have hn9 : n ≤ 64 := by have := HLE.out; omega
      clear hown hb hn
      by_cases hlt : k < R
      · have hkR : (k : Int) < R := by omega
        cases hh : hasI k m.saved with
        | true =>
          have HS := hide (show lostTo (k + 1) m.saved = lostTo k m.saved by rw [lostTo_succ, hh]; simp)
          rw [hh] at HHW
          clear hh
          go_wp2_with (first | (go_at_call 15; refine HRW.out.mono ?_; rintro e _ ⟨rfl, ux, rfl⟩) | (go_at_call 43; refine (HHW.out _).mono ?_; rintro e _ ⟨rfl, rfl⟩))
          go_roundw
          case rel => exact ⟨k + 1, n, ca, Ao, rfl, by go_num, by omega, by rw [HS.out]; exact HN.out, by rw [HS.out]; exact HO.out.ext ux, HBB.out.ext (by have := HBB.out.size; omega) ux⟩
          case measure => simp [intOf]; omega
        | false =>
          have HS := hide (show lostTo (k + 1) m.saved = lostTo k m.saved ++ [(k : Int)] by rw [lostTo_succ, hh]; simp)
          rw [hh] at HHW
          clear hh
          go_wp2_with (first | (go_at_call 15; refine HRW.out.mono ?_; rintro e _ ⟨rfl, ux, rfl⟩) | (go_at_call 43; refine (HHW.out _).mono ?_; rintro e _ ⟨rfl, rfl⟩; refine Hd.out ?_))
          obtain ⟨w2, hw2⟩ : ∃ w2, wr.ext ux = w2 := ⟨_, rfl⟩
          have HO2 := hide (show OwnL w2 (g + 1) 3 (fun _ => False) (.slice Ao n ca) (lostTo k m.saved) by rw [← hw2]; exact HO.out.ext ux)
          have HB2 := hide (show Below W0.heap.size W0 w2 by rw [← hw2]; exact HBB.out.ext (by have := HBB.out.size; omega) ux)
          have hs2 : g + 1 ≤ w2.heap.size := by rw [← hw2, size_ext]; omega
          rw [hw2]
          clear hw2 k0 k1 k2 k3 hgl hrs HRW HHW
          refine hide ?_
          go_wp2_with (at_builtin; refine wpList_push (α := Int) w2 [.int .i64 k] 3 rfl (.tmp 20) (.tmp 22) 23 rfl (g + 1) 3 i0 _ 8 Tryz.underlying23 HI0.out HZ.out HZ1.out HZ2.out rfl (by decide) (fun _ => False) (fun _ => False) (.slice Ao n ca) (lostTo k m.saved) (k : Int) rfl HO2.out _ rfl rfl ⟨rfl, (by unfold InI; omega)⟩ (fun _ h => h) (fun _ _ h => h) (fun _ h => h.elim) (by have := HLE.out; omega) (by have := HLE.out; omega) hs2 ?_; intro v' w3 hown' hg3 hv')
          obtain ⟨A3, c3, rfl⟩ := hown'.form
          have HO3 := hide hown'
          have HB3 := hide (HB2.out.trans (show Below W0.heap.size w2 w3 from below_push (base := W0.heap.size) (Below.refl _ _) (HO2.out.base' (by rw [HZ0.out]; exact Nat.le_refl _)) (by have := HB2.out.size; omega) hg3))
          clear hown' hg3 hv' hs2
          go_wp2_with fail
          go_roundw
          case rel => exact ⟨k + 1, _, c3, A3, rfl, by go_num, by omega, by rw [HS.out], by rw [HS.out]; exact HO3.out, HB3.out⟩
          case measure => simp [intOf]; omega
      · have hkR : ¬ ((k : Int) < R) := by omega
        go_wp2_with (go_at_call 15; refine HRW.out.mono ?_; rintro e _ ⟨rfl, ux, rfl⟩)
        go_ret
        obtain rfl : k = R := by omega
        have h := HO.out.ext ux
        rw [← HG.out] at h
        refine RetO.mk_ (h.base' (by rw [HGQ.out]; omega)) (fun _ h => h.elim) ?_
        rw [HGQ.out]
        exact (HB0.out.trans (HBB.out.mono (by rw [HZ0.out]; omega))).ext (by omega) ux
end Go.Proofs.YtcfimcghckjmeaaGreatDoor
set_option linter.unusedSimpArgs false
set_option linter.unusedVariables false
namespace Go.Proofs.YtcfimcghckjmeaaGreatDoor
section
theorem run_equalIn_Loc (w : World) (d : Nat) (a0 b0 : Bool) (a1 b1 : Int) :
    (Op.equalIn (d + 2) 72 (.agg #[.bool a0, .int .i64 a1]) (.agg #[.bool b0, .int .i64 b1])).run Tryz.prog w = .ok (a0 == b0 && a1 == b1) w := by
  have hs : Tryz.prog.stoodInHeld 72 = false := by kernel_rfl
  have hsz4 : ∀ w, (sizeOf 4).run Tryz.prog w = .ok 1 w := fun w => by kernel_rfl
  have hsz3 : ∀ w, (sizeOf 3).run Tryz.prog w = .ok 1 w := fun w => by kernel_rfl
  have hia4 : ∀ w, (isAgg 4).run Tryz.prog w = .ok false w := fun w => by kernel_rfl
  have hia3 : ∀ w, (isAgg 3).run Tryz.prog w = .ok false w := fun w => by kernel_rfl
  rw [Op.equalIn]
  rw [Sem.run_bind, run_underlying Tryz.underlying72]
  simp only [Result.andThen_ok]
  simp [Sem.run_bind, hs, hsz3, hsz4, part, hia3, hia4, Op.equalIn, run_underlying Tryz.underlying4, run_underlying Tryz.underlying3]
  by_cases h0 : a0 = b0 <;> by_cases h1 : a1 = b1 <;> simp [h0, h1]
end
attribute [go_sem] run_equalIn_Loc
end Go.Proofs.YtcfimcghckjmeaaGreatDoor
set_option linter.unusedSimpArgs false
set_option linter.unusedVariables false
namespace Go.Proofs.YtcfimcghckjmeaaGreatDoor
open Go.RowKit

def SlIk {α : Type} [Rep α] (n : Nat) (xs : List α) : Nat → Nat → Post := fun lo hi v w => ∃ A c, v = .slice A n c ∧ Sl w (fun b => lo ≤ b ∧ b < hi) A n c xs
theorem SlIk.stable_ {α : Type} [Rep α] {F : World → Prop} {n : Nat} {xs : List α} {mem : Bool} (hm : mem = true) (lo hi : Nat) : stable F mem (SlIk n xs lo hi) :=
  stable_mem hm fun _ _ u ⟨A, c, hv, h⟩ => ⟨A, c, hv, h.ext u⟩
theorem Fact.is_more {w w' : World} {S S' : Nat → Prop} {x : Fact} {vs : List Value} (h : Rep.is w S x vs) : Rep.is w' S' x vs := by
  obtain ⟨rfl, h0, h1⟩ := Fact.open_ h
  exact Fact.mk_ h0 h1
theorem RepL.facts_more {w w' : World} {S S' : Nat → Prop} {xs : List Fact} {us : List Value} (h : RepL w S xs us) : RepL w' S' xs us := by
  induction xs generalizing us with
  | nil => exact h
  | cons x l ih => obtain ⟨us, ts, rfl, h1, h2⟩ := h; exact ⟨us, ts, rfl, Fact.is_more h1, ih h2⟩
theorem OwnL.facts {w : World} {base : Nat} {T : TypeId} {S : Nat → Prop} {v : Value} {xs : List Fact} (h : OwnL w base T S v xs) : OwnL w base T (fun _ => False) v xs := by
  obtain ⟨vals, h1, h2, _⟩ := h
  exact ⟨vals, h1, RepL.facts_more h2, fun _ _ h => h⟩
set_option maxRecDepth 100000 in
set_option maxHeartbeats 8000000 in
theorem dkeeps5_any (w : World) (S1 S2 : Nat → Prop) (m : Machine) (A1 A2 : Option Addr) (n1 c1 n2 c2 : Nat) (h1 : Sl w S1 A1 n1 c1 m.args) (h2 : Sl w S2 A2 n2 c2 m.saved) :
    Calls Tryz.prog 22 #[.agg #[.int .i64 m.regs, .slice A1 n1 c1, .int .i64 m.ret, .slice A2 n2 c2]] w (RetO 74 (keepsM m) w) := by
  obtain ⟨i0, hi, hz, hz1, hz2⟩ := info_parts info_Fact
  have HI0 := hide hi; have HZ := hide hz; have HZ1 := hide hz1; have HZ2 := hide hz2
  clear hi hz hz1 hz2
  obtain ⟨g, hg⟩ : ∃ g, w.heap.size = g := ⟨_, rfl⟩
  have HGQ := hide hg
  have HL2 := hide h2.len
  have hn2 := h2.nle
  obtain ⟨W0, hW0⟩ : ∃ W0, w.alloc (.cells #[.int .i64 m.regs, .slice A1 n1 c1, .int .i64 m.ret, .slice A2 n2 c2] 25) = W0 := ⟨_, rfl⟩
  have HROW := hide (show W0.heap[g]? = some (.cells #[.int .i64 m.regs, .slice A1 n1 c1, .int .i64 m.ret, .slice A2 n2 c2] 25 (0, 0)) by rw [← hW0, ← hg]; exact heap_alloc_new w _)
  have HZ0 := hide (show W0.heap.size = g + 1 by rw [← hW0, ← hg]; simp)
  have HB0 := hide (show Below g w W0 by rw [← hW0, ← hg]; exact (Below.refl _ _).alloc (Nat.le_refl _) _)
  have H1 := hide (show Sl W0 (fun b => b < W0.heap.size) A1 n1 c1 m.args by rw [← hW0]; exact (h1.alloc _).more fun b hb _ => hb)
  have H2 := hide (show Sl W0 (fun b => b < W0.heap.size) A2 n2 c2 m.saved by rw [← hW0]; exact (h2.alloc _).more fun b hb _ => hb)
  have HRI := hide (fun (W : World) (hb : Below W0.heap.size W0 W) => right5_any W _ _ m A1 A2 n1 c1 n2 c2 (H1.out.below hb fun _ h => h) (H2.out.below hb fun _ h => h))
  have HCE := hide (fun (W : World) (hb : Below W0.heap.size W0 W) => show W.cell? ⟨g, 0, none⟩ = some (.int .i64 m.regs) ∧ W.cell? ⟨g, 1, none⟩ = some (.slice A1 n1 c1) ∧ W.cell? ⟨g, 2, none⟩ = some (.int .i64 m.ret) ∧ W.cell? ⟨g, 3, none⟩ = some (.slice A2 n2 c2) ∧ g < W.heap.size from by
    have hr : W.heap[g]? = some (.cells #[.int .i64 m.regs, .slice A1 n1 c1, .int .i64 m.ret, .slice A2 n2 c2] 25 (0, 0)) := (hb.block g (by rw [HZ0.out]; omega)).trans HROW.out
    exact ⟨cell_of_row W g _ _ _ (0, 0) hr, cell_of_row W g _ _ _ (0, 0) hr, cell_of_row W g _ _ _ (0, 0) hr, cell_of_row W g _ _ _ (0, 0) hr, by have := hb.size; rw [HZ0.out] at this; omega⟩)
  cases hR : rightM m with
  | false =>
    have HG := hide (show keepsM m = [] by unfold keepsM; rw [hR]; rfl)
    rw [hR] at HRI
    obtain ⟨k0, k1, k2, k3, hgl⟩ := HCE.out W0 (Below.refl _ _)
    clear h1 h2 hR
    go_enter Tryz.func22, Tryz.ntmps22
    go_wp2_with fail
    go_loopw [3, 4] (fun o i wr => o = .slice none 0 0 ∧ i = .int .i64 0 ∧ wr = W0) (fun _ _ _ => 0)
    case atStart => exact ⟨rfl, rfl, rfl⟩
    case round =>
      obtain ⟨rfl, rfl, rfl⟩ := hrel
      go_wp2_with (go_at_call 15; refine (HRI.out _ (Below.refl _ _)).mono ?_; rintro e _ ⟨rfl, ux, rfl⟩)
      go_ret
      rw [HG.out]
      exact RetO.mk_ (OwnL.nil_ _ _ _ (fun _ => False)) (fun _ h => h.elim) (by rw [HGQ.out]; exact HB0.out.ext (by rw [HZ0.out]; omega) ux)
  | true =>
    have HG := hide (show keepsM m = m.saved.map keepF by unfold keepsM; rw [hR]; rfl)
    have HB := hide (show m.saved.length ≤ 64 ∧ ∀ x ∈ m.saved, 0 ≤ x ∧ x < 64 by
      simp only [rightM, Bool.and_eq_true, decide_eq_true_eq, Bool.not_eq_true'] at hR
      obtain ⟨⟨⟨⟨⟨⟨⟨⟨a1, a2⟩, a3⟩, a4⟩, a5⟩, a6⟩, a7⟩, a8⟩, a9⟩ := hR
      have b2 := ((savedOk_iff _ _ _).1 a9).1
      exact ⟨by omega, fun x hx => by have := b2 x hx; omega⟩)
    rw [hR] at HRI
    clear h1 h2 hR
    go_enter Tryz.func22, Tryz.ntmps22
    go_wp2_with fail
    clear hW0
    have hZw : g + 1 ≤ W0.heap.size := by rw [HZ0.out]; omega
    go_loopw [3, 4] (fun o i wr => ∃ (k ca : Nat) (Ao : Option Addr), o = .slice Ao k ca ∧ i = .int .i64 k ∧ k ≤ n2 ∧ OwnL wr (g + 1) 74 (fun _ => False) o ((m.saved.take k).map keepF) ∧ Below W0.heap.size W0 wr) (fun _ i _ => n2 - (intOf i).toNat)
    case atStart => exact ⟨0, 0, none, rfl, rfl, Nat.zero_le _, OwnL.nil_ _ _ _ _, Below.refl _ _⟩
    case round =>
      obtain ⟨k, ca, Ao, rfl, rfl, hk, hown, hb⟩ := hrel
      have HO := hide hown; have HBB := hide hb
      have hrs : g + 1 ≤ wr.heap.size := by have := hb.size; omega
      have HRW := hide (HRI.out wr hb)
      obtain ⟨k0, k1, k2, k3, hgl⟩ := HCE.out wr hb
      clear hown hb
      by_cases hlt : k < n2
      · obtain ⟨b, off, x, hA2, hbb, hx, _, hc⟩ := at_int (H2.out.below HBB.out fun _ h => h) hlt
        have HX := hide (show (m.saved.take (k + 1)).map keepF = (m.saved.take k).map keepF ++ [keepF x] by rw [take_at hx]; simp)
        obtain ⟨x0, x1⟩ := HB.out.2 x (List.mem_of_getElem? hx)
        have hwr : IntKind.i64.wrap (-1 - x) = -1 - x := IntWalk.i64_in _ (by omega)
        have HK := hide (show ((m.saved.take k).map keepF).length = k by have := HL2.out; simp; omega)
        have HK64 := hide (show k ≤ 64 by have := HB.out.1; have := HL2.out; omega)
        have HF := hide (show ∀ W, Rep.is W (fun _ => False) (keepF x) [.int .i64 (-1 - x), .bool false, .int .i64 x] from fun W => Fact.mk_ (x := keepF x) (by unfold InI keepF; simp only; omega) (by unfold InI keepF; simp only; omega))
        subst hA2
        clear hx
        go_wp2_with (go_at_call 15; refine HRW.out.mono ?_; rintro e _ ⟨rfl, ux, rfl⟩; refine Hd.out ?_)
        obtain ⟨w2, hw2⟩ : ∃ w2, wr.ext ux = w2 := ⟨_, rfl⟩
        have HO2 := hide (show OwnL w2 (g + 1) 74 (fun _ => False) (.slice Ao k ca) ((m.saved.take k).map keepF) by rw [← hw2]; exact HO.out.ext ux)
        have HB2 := hide (show Below W0.heap.size W0 w2 by rw [← hw2]; exact HBB.out.ext (by have := HBB.out.size; omega) ux)
        have hs2 : g + 1 ≤ w2.heap.size := by rw [← hw2, size_ext]; omega
        have hc2 : w2.cell? ⟨b, off + k, none⟩ = some (.int .i64 x) := by rw [← hw2]; exact (cell?_ext wr ux _ hbb).trans hc
        have hb2 : b < w2.heap.size := by rw [← hw2, size_ext]; omega
        obtain ⟨j0, j1, j2, j3, hgl2⟩ := HCE.out w2 HB2.out
        rw [hw2]
        clear hw2 k0 k1 k2 k3 hgl hrs HRW hc hbb
        refine hide ?_
        go_wp2_with fail
        refine wp_region_flowI [14] 15 (by kernel_rfl) rfl (by kernel_rfl) (by kernel_rfl) ?_
        simp only [List.take_succ_cons, List.take_zero, List.drop_succ_cons, List.drop_zero]
        repeat (refine flowI_known (by kernel_rfl) (fun K hK => ?_); go_simp; (first | (refine hK _ ?_; clear hK K) | (apply Exists.intro; refine ⟨fun _ => ?_, hK _ ?_⟩; (fail); clear hK K)))
        refine flowI_keep0 (SlIk 1 [keepF x]) (by kernel_rfl) (SlIk.stable_ rfl) ?_ ?_
        · intro u
          go_simp
          exact ⟨⟨_, _, rfl, Sl.lit (S := fun _ => False) (us := [.int .i64 (-1 - x), .bool false, .int .i64 x]) (size_ext ..).symm (RepL.single (HF.out _)) rfl (by decide) (fun _ h => h.elim) ⟨Nat.le_refl _, by simp [size_ext]⟩⟩, onW_alloc rfl ⟨u, rfl⟩⟩
        refine flowI_done [true] rfl ?_
        intro γ u hap
        simp only [List.nil_append, List.cons_append, List.map_cons, List.map_nil, atG, endH_f, endH_t, endH_nil]
        rintro _ ⟨Bs, cs, rfl, hos⟩
        have a14 := hap.1 ⟨14, some 30, SlIk 1 [keepF x]⟩ (by simp)
        simp only [Nat.zero_add, Nat.reduceAdd] at hos a14
        generalize (γ 14).1 = lo2 at hos a14
        generalize (γ 14).2 = hi2 at hos a14
        have HSS := hide hos
        have h2a := a14.1; have h2b := a14.2.2
        clear hap hos a14
        go_simp
        refine wpList_push_sl (α := Fact) (w2.ext u) rfl (.tmp 16) (.tmp 30) 39 rfl (g + 1) 74 i0 _ 24 Tryz.underlying39 HI0.out HZ.out HZ1.out HZ2.out rfl (by decide) (fun _ => False) (fun b => lo2 ≤ b ∧ b < hi2) (fun b => lo2 ≤ b ∧ b < hi2) (.slice Ao k ca) ((m.saved.take k).map keepF) [keepF x] rfl (HO2.out.ext u) Bs 1 cs rfl HSS.out (fun _ h => h.elim) (fun _ _ h => h) (fun g hg e => by have := (HO2.out.below_ g hg).2; omega) (fun b h => by omega) (by rw [HK.out]; have := HK64.out; omega) (by rw [HK.out]; have := HK64.out; omega) (by rw [size_ext]; omega) ?_
        intro v' w1 hown' hg3 hrow
        have HB3 := hide ((HB2.out.ext (by have := HB2.out.size; omega) u).grown hg3 (by have := HB2.out.size; rw [size_ext]; omega) (fun g e => by have := (HO2.out.below_ g e).1; rw [HZ0.out]; omega))
        rw [← HX.out] at hown'
        obtain ⟨Av, cv, hv⟩ := hown'.form
        subst hv
        have HKL := hide (show ((m.saved.take (k + 1)).map keepF).length = k + 1 by rw [HX.out, List.length_append, HK.out]; rfl)
        rw [HKL.out] at hown' ⊢
        have HOW := hide hown'.facts
        clear hown' hg3 hrow
        go_wp2_with fail
        go_roundw
        case rel => exact ⟨k + 1, cv, Av, rfl, by go_num, by omega, HOW.out, HB3.out⟩
        case measure => simp [intOf]; omega
      · go_wp2_with (go_at_call 15; refine HRW.out.mono ?_; rintro e _ ⟨rfl, ux, rfl⟩)
        go_ret
        obtain rfl : k = n2 := by omega
        have h := HO.out.ext ux
        rw [take_end HL2.out hlt, ← HG.out] at h
        refine RetO.mk_ (h.base' (by rw [HGQ.out]; omega)) (fun _ h => h.elim) ?_
        rw [HGQ.out]
        exact (HB0.out.trans (HBB.out.mono (by rw [HZ0.out]; omega))).ext (by omega) ux
set_option maxRecDepth 100000 in
set_option maxHeartbeats 4000000 in
theorem sameFacts_any (w : World) (S S' : Nat → Prop) (A A' : Option Addr) (n c c' : Nat) (xs : List Fact) (h : Sl w S A n c xs) (h' : Sl w S' A' n c' xs) :
    Calls Tryz.prog 20 #[.slice A n c, .slice A' n c'] w (RetX (.bool true) w) := by
  have hn := h.nle
  have HS := hide h; clear h
  have HS' := hide h'; clear h'
  go_enter Tryz.func20, Tryz.ntmps20
  go_wp2
  go_loopw [5] (fun i wr => ∃ k : Nat, k ≤ n ∧ i = .int .i64 k ∧ ∃ u, wr = w.ext u) (fun i _ => n - (intOf i).toNat)
  case atStart => exact ⟨0, Nat.zero_le _, rfl, ext_refl _⟩
  case round =>
    obtain ⟨k, hk, rfl, u, rfl⟩ := hrel
    by_cases hlt : k < n
    · obtain ⟨b, off, x, rfl, hb, hx, i0, i1, d0, d1, d2⟩ := at_Fact HS.out hlt
      obtain ⟨b', off', x', rfl, hb', hx', _, _, e0, e1, e2⟩ := at_Fact HS'.out hlt
      obtain rfl := some_eq hx hx'
      clear hx hx'
      obtain ⟨xv, xs, xn⟩ := x
      simp only at i0 i1 d0 d1 d2 e0 e1 e2
      have g0 : (xv == xv) = true := by simp
      have g1 : (xs == xs) = true := by simp
      have g2 : (xn == xn) = true := by simp
      go_wp2
      refine wp_region_ext (by kernel_rfl) (by kernel_rfl) ?_
      repeat (any_goals (first | go_big_quiet_step ((fail)) | quiet_step ((fail))))
      refine wpQuiet_nil ?_
      rintro _ ⟨uq, rfl⟩
      go_wp2
      go_roundw
      case rel => exact ⟨k + 1, by omega, by go_num, Below.to_ext (by repeat (first | exact Below.refl _ _ | assumption | refine Below.alloc ?_ (by simp [size_ext]; try omega) _ | refine Below.ext ?_ (by simp [size_ext]; try omega) _ | refine Below.drew ?_ | refine Below.setCell ?_ (by simp [size_ext]; try omega) _))⟩
      case measure => simp [intOf]; omega
    · go_wp2
      go_ret
      exact RetX.b rfl (by repeat (first | exact Below.refl _ _ | assumption | refine Below.alloc ?_ (by simp [size_ext]; try omega) _ | refine Below.ext ?_ (by simp [size_ext]; try omega) _ | refine Below.drew ?_ | refine Below.setCell ?_ (by simp [size_ext]; try omega) _))
end Go.Proofs.YtcfimcghckjmeaaGreatDoor
