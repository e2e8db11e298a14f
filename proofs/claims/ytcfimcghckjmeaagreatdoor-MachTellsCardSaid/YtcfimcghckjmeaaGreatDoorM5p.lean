/- law05: walks: the document's IsSaved, Enough, Lost, Keeps; facts that are the same. -/
import Derived.Test.YtcfimcghckjmeaaGreatDoorM5e
import Derived.Test.YtcfimcghckjmeaaGreatDoorG22
import Derived.Test.YtcfimcghckjmeaaGreatDoorFlow6
set_option linter.unusedSimpArgs false
set_option linter.unusedVariables false
namespace Go.Proofs.YtcfimcghckjmeaaGreatDoor
open Go.RowKit

theorem OwnL.base' {α : Type} [Rep α] {w : World} {b b' : Nat} {T : TypeId} {S : Nat → Prop} {v : Value} {xs : List α} (h : OwnL w b T S v xs) (hb : b' ≤ b) : OwnL w b' T S v xs := by
  obtain ⟨vals, ⟨l1, l2⟩, hr, ha⟩ := h
  refine ⟨vals, ⟨l1, ?_⟩, hr, ha⟩
  rcases l2 with l2 | ⟨g, cap, cur, e, hg, rest⟩
  · exact .inl l2
  · exact .inr ⟨g, cap, cur, e, Nat.le_trans hb hg, rest⟩
theorem disSaved5_any (w : World) (S2 : Nat → Prop) (m : Machine) (v1 : Value) (A2 : Option Addr) (n2 c2 : Nat) (h2 : Sl w S2 A2 n2 c2 m.saved) (r : Int) :
    Calls Tryz.prog 17 #[.agg #[.int .i64 m.regs, v1, .int .i64 m.ret, .slice A2 n2 c2], .int .i64 r] w (RetX (.bool (hasI r m.saved)) w) := by
  have HS := hide h2
  clear h2
  go_enter Tryz.func17, Tryz.ntmps17
  go_wp2_with (go_at_call 43; refine (has05_any _ S2 A2 n2 c2 m.saved r (by repeat (first | assumption | exact Hd.out (by assumption) | apply Sl.alloc | apply Sl.ext | apply Sl.drew | apply Sl.drewN))).mono ?_; rintro e w' ⟨rfl, rfl⟩)
  go_ret
  exact RetX.b rfl (by repeat (first | exact Below.refl _ _ | assumption | refine Below.alloc ?_ (by simp [size_ext]; try omega) _ | refine Below.ext ?_ (by simp [size_ext]; try omega) _ | refine Below.drew ?_ | refine Below.setCell ?_ (by simp [size_ext]; try omega) _))
theorem enoughM_nat (m : Machine) (o a : Int) : enoughM m o a = (rightM m && (decide (o ≤ m.regs - 1) && decide (a ≤ (m.args.length : Int)))) := by
  unfold enoughM
  have : decide (o < m.regs) = decide (o ≤ m.regs - 1) := by
    apply Bool.eq_iff_iff.2
    simp only [decide_eq_true_eq]
    omega
  rw [this]
set_option maxHeartbeats 4000000 in
theorem denough5_any (w : World) (S1 S2 : Nat → Prop) (m : Machine) (A1 A2 : Option Addr) (n1 c1 n2 c2 : Nat) (h1 : Sl w S1 A1 n1 c1 m.args) (h2 : Sl w S2 A2 n2 c2 m.saved) (o a : Int) :
    Calls Tryz.prog 24 #[.agg #[.int .i64 m.regs, .slice A1 n1 c1, .int .i64 m.ret, .slice A2 n2 c2], .int .i64 o, .int .i64 a] w (RetX (.bool (enoughM m o a)) w) := by
  have H1 := hide h1; have H2 := hide h2
  have HRI := hide (fun (W : World) (h1 : Sl W S1 A1 n1 c1 m.args) (h2 : Sl W S2 A2 n2 c2 m.saved) => right5_any W S1 S2 m A1 A2 n1 c1 n2 c2 h1 h2)
  have hn := h1.nle
  have HL := hide h1.len
  have hg : enoughM m o a = (rightM m && (decide (o ≤ m.regs - 1) && decide (a ≤ (n1 : Int)))) := by rw [enoughM_nat, h1.len]
  rw [hg]
  cases hR : rightM m with
  | false =>
    rw [hR] at HRI
    clear h1 h2 hg hR
    go_enter Tryz.func24, Tryz.ntmps24
    go_wp2_with (go_at_call 15; refine (HRI.out _ (by repeat (first | assumption | exact Hd.out (by assumption) | apply Sl.alloc | apply Sl.ext | apply Sl.drew | apply Sl.drewN)) (by repeat (first | assumption | exact Hd.out (by assumption) | apply Sl.alloc | apply Sl.ext | apply Sl.drew | apply Sl.drewN))).mono ?_; rintro e _ ⟨rfl, ux, rfl⟩)
    go_ret
    exact RetX.b rfl (by repeat (first | exact Below.refl _ _ | assumption | refine Below.alloc ?_ (by simp [size_ext]; try omega) _ | refine Below.ext ?_ (by simp [size_ext]; try omega) _ | refine Below.drew ?_ | refine Below.setCell ?_ (by simp [size_ext]; try omega) _))
  | true =>
    obtain ⟨q1, q2, _⟩ := rightM_parts hR
    have hwr : IntKind.i64.wrap (m.regs - 1) = m.regs - 1 := IntWalk.i64_in _ (by omega)
    rw [hR] at HRI
    clear h1 h2 hg hR
    go_enter Tryz.func24, Tryz.ntmps24
    by_cases ho : o ≤ m.regs - 1
    · have e : decide (o ≤ m.regs - 1) = true := by simpa using ho
      rw [e]
      go_wp2_with (go_at_call 15; refine (HRI.out _ (by repeat (first | assumption | exact Hd.out (by assumption) | apply Sl.alloc | apply Sl.ext | apply Sl.drew | apply Sl.drewN)) (by repeat (first | assumption | exact Hd.out (by assumption) | apply Sl.alloc | apply Sl.ext | apply Sl.drew | apply Sl.drewN))).mono ?_; rintro e _ ⟨rfl, ux, rfl⟩)
      go_ret
      exact RetX.b (by simp) (by repeat (first | exact Below.refl _ _ | assumption | refine Below.alloc ?_ (by simp [size_ext]; try omega) _ | refine Below.ext ?_ (by simp [size_ext]; try omega) _ | refine Below.drew ?_ | refine Below.setCell ?_ (by simp [size_ext]; try omega) _))
    · have e : decide (o ≤ m.regs - 1) = false := by simpa using ho
      rw [e]
      go_wp2_with (go_at_call 15; refine (HRI.out _ (by repeat (first | assumption | exact Hd.out (by assumption) | apply Sl.alloc | apply Sl.ext | apply Sl.drew | apply Sl.drewN)) (by repeat (first | assumption | exact Hd.out (by assumption) | apply Sl.alloc | apply Sl.ext | apply Sl.drew | apply Sl.drewN))).mono ?_; rintro e _ ⟨rfl, ux, rfl⟩)
      go_ret
      exact RetX.b (by simp) (by repeat (first | exact Below.refl _ _ | assumption | refine Below.alloc ?_ (by simp [size_ext]; try omega) _ | refine Below.ext ?_ (by simp [size_ext]; try omega) _ | refine Below.drew ?_ | refine Below.setCell ?_ (by simp [size_ext]; try omega) _))
set_option maxRecDepth 100000 in
set_option maxHeartbeats 8000000 in
theorem dlost5_any (w : World) (S1 S2 : Nat → Prop) (m : Machine) (A1 A2 : Option Addr) (n1 c1 n2 c2 : Nat) (h1 : Sl w S1 A1 n1 c1 m.args) (h2 : Sl w S2 A2 n2 c2 m.saved) :
    Calls Tryz.prog 19 #[.agg #[.int .i64 m.regs, .slice A1 n1 c1, .int .i64 m.ret, .slice A2 n2 c2]] w (RetO 3 (lostM m) w) := by
  obtain ⟨i0, hi, hz, hz1, hz2⟩ := info_parts info_int
  have HI0 := hide hi; have HZ := hide hz; have HZ1 := hide hz1; have HZ2 := hide hz2
  clear hi hz hz1 hz2
  obtain ⟨g, hg⟩ : ∃ g, w.heap.size = g := ⟨_, rfl⟩
  have HGQ := hide hg
  obtain ⟨W0, hW0⟩ : ∃ W0, w.alloc (.cells #[.int .i64 m.regs, .slice A1 n1 c1, .int .i64 m.ret, .slice A2 n2 c2] 25) = W0 := ⟨_, rfl⟩
  have hrow : W0.heap[g]? = some (.cells #[.int .i64 m.regs, .slice A1 n1 c1, .int .i64 m.ret, .slice A2 n2 c2] 25 (0, 0)) := by rw [← hW0, ← hg]; exact heap_alloc_new w _
  have HROW := hide hrow
  have hz0 : W0.heap.size = g + 1 := by rw [← hW0, ← hg]; simp
  have HZ0 := hide hz0
  have HB0 := hide (show Below g w W0 by rw [← hW0, ← hg]; exact (Below.refl _ _).alloc (Nat.le_refl _) _)
  have H1 := hide (show Sl W0 (fun b => b < W0.heap.size) A1 n1 c1 m.args by rw [← hW0]; exact (h1.alloc _).more fun b hb _ => hb)
  have H2 := hide (show Sl W0 (fun b => b < W0.heap.size) A2 n2 c2 m.saved by rw [← hW0]; exact (h2.alloc _).more fun b hb _ => hb)
  have HRI := hide (fun (W : World) (hb : Below W0.heap.size W0 W) => right5_any W _ _ m A1 A2 n1 c1 n2 c2 (H1.out.below hb fun _ h => h) (H2.out.below hb fun _ h => h))
  have HHA := hide (fun (W : World) (hb : Below W0.heap.size W0 W) (r : Int) => has05_any W _ A2 n2 c2 m.saved r (H2.out.below hb fun _ h => h))
  have HCE := hide (fun (W : World) (hb : Below W0.heap.size W0 W) => show W.cell? ⟨g, 0, none⟩ = some (.int .i64 m.regs) ∧ W.cell? ⟨g, 1, none⟩ = some (.slice A1 n1 c1) ∧ W.cell? ⟨g, 2, none⟩ = some (.int .i64 m.ret) ∧ W.cell? ⟨g, 3, none⟩ = some (.slice A2 n2 c2) ∧ g < W.heap.size from by
    have hr : W.heap[g]? = some (.cells #[.int .i64 m.regs, .slice A1 n1 c1, .int .i64 m.ret, .slice A2 n2 c2] 25 (0, 0)) := (hb.block g (by rw [HZ0.out]; omega)).trans HROW.out
    exact ⟨cell_of_row W g _ _ _ (0, 0) hr, cell_of_row W g _ _ _ (0, 0) hr, cell_of_row W g _ _ _ (0, 0) hr, cell_of_row W g _ _ _ (0, 0) hr, by have := hb.size; rw [HZ0.out] at this; omega⟩)
  cases hR : rightM m with
  | false =>
    have HG := hide (show lostM m = [] from lostM_no hR)
    rw [hR] at HRI
    obtain ⟨k0, k1, k2, k3, hgl⟩ := HCE.out W0 (Below.refl _ _)
    clear hrow h1 h2 hR hz0
    go_enter Tryz.func19, Tryz.ntmps19
    go_wp2_with fail
    go_loopw [3, 4] (fun o i wr => o = .slice none 0 0 ∧ i = .int .i64 0 ∧ wr = W0) (fun _ _ _ => 0)
    case atStart => exact ⟨rfl, rfl, rfl⟩
    case round =>
      obtain ⟨rfl, rfl, rfl⟩ := hrel
      go_wp2_with (go_at_call 15; refine (HRI.out _ (Below.refl _ _)).mono ?_; rintro e _ ⟨rfl, ux, rfl⟩)
      go_ret
      rw [HG.out]
      exact RetO.mk_ (OwnL.nil_ _ _ _ (fun _ => False)) (fun _ h => h.elim) (by rw [HGQ.out]; exact HB0.out.ext (by rw [HZ0.out]; omega) ux)
  | true =>
    obtain ⟨q1, q2, _⟩ := rightM_parts hR
    obtain ⟨R, hRR⟩ : ∃ R : Nat, m.regs = (R : Int) := Int.eq_ofNat_of_zero_le (by omega)
    have HG := hide (show lostM m = lostTo R m.saved by rw [lostM_yes hR, hRR]; rfl)
    have hR64 : R ≤ 64 := by omega
    rw [hR] at HRI
    rw [hRR] at HRI HCE hW0 ⊢
    clear hrow h1 h2 hR q1 q2 hRR hz0
    go_enter Tryz.func19, Tryz.ntmps19
    go_wp2_with fail
    clear hW0
    have hZw : g + 1 ≤ W0.heap.size := by rw [HZ0.out]; omega
    go_loopw [3, 4] (fun o i wr => ∃ (k n ca : Nat) (Ao : Option Addr), o = .slice Ao n ca ∧ i = .int .i64 k ∧ k ≤ R ∧ (lostTo k m.saved).length = n ∧ OwnL wr (g + 1) 3 (fun _ => False) o (lostTo k m.saved) ∧ Below W0.heap.size W0 wr) (fun _ i _ => R - (intOf i).toNat)
    case atStart => exact ⟨0, 0, 0, none, rfl, rfl, Nat.zero_le _, rfl, OwnL.nil_ _ _ _ _, Below.refl _ _⟩
    case round =>
      obtain ⟨k, n, ca, Ao, rfl, rfl, hk, hn, hown, hb⟩ := hrel
      have HO := hide hown; have HBB := hide hb; have HN := hide hn
      obtain ⟨k0, k1, k2, k3, hgl⟩ := HCE.out wr hb
      have hrs : g + 1 ≤ wr.heap.size := by omega
      have HRW := hide (HRI.out wr hb)
      have HHW := hide (fun (u : Ext) => HHA.out (wr.ext u) (hb.ext (by have := hb.size; omega) u) k)
      have HLE := hide (lostTo_len k m.saved)
      have hn9 : n ≤ 64 := by have := HLE.out; omega
      clear hown hb hn
      by_cases hlt : k < R
      · have hkR : (k : Int) < R := by omega
        cases hh : hasI k m.saved with
        | true =>
          have HS := hide (show lostTo (k + 1) m.saved = lostTo k m.saved by rw [lostTo_succ, hh]; simp)
          rw [hh] at HHW
          clear hh
          go_wp2_with (first | (go_at_call 15; refine HRW.out.mono ?_; rintro e _ ⟨rfl, ux, rfl⟩) | (go_at_call 43; refine (HHW.out _).mono ?_; rintro e _ ⟨rfl, rfl⟩))
          go_roundw
          case rel => exact ⟨k + 1, n, ca, Ao, rfl, by go_num, by omega, by rw [HS.out]; exact HN.out, by rw [HS.out]; exact HO.out.ext ux, HBB.out.ext (by have := HBB.out.size; omega) ux⟩
          case measure => simp [intOf]; omega
        | false =>
          have HS := hide (show lostTo (k + 1) m.saved = lostTo k m.saved ++ [(k : Int)] by rw [lostTo_succ, hh]; simp)
          rw [hh] at HHW
          clear hh
          go_wp2_with (first | (go_at_call 15; refine HRW.out.mono ?_; rintro e _ ⟨rfl, ux, rfl⟩) | (go_at_call 43; refine (HHW.out _).mono ?_; rintro e _ ⟨rfl, rfl⟩; refine Hd.out ?_))
          obtain ⟨w2, hw2⟩ : ∃ w2, wr.ext ux = w2 := ⟨_, rfl⟩
          have HO2 := hide (show OwnL w2 (g + 1) 3 (fun _ => False) (.slice Ao n ca) (lostTo k m.saved) by rw [← hw2]; exact HO.out.ext ux)
          have HB2 := hide (show Below W0.heap.size W0 w2 by rw [← hw2]; exact HBB.out.ext (by have := HBB.out.size; omega) ux)
          have hs2 : g + 1 ≤ w2.heap.size := by rw [← hw2, size_ext]; omega
          rw [hw2]
          clear hw2 k0 k1 k2 k3 hgl hrs HRW HHW
          refine hide ?_
          go_wp2_with (at_builtin; refine wpList_push (α := Int) w2 [.int .i64 k] 3 rfl (.tmp 20) (.tmp 22) 23 rfl (g + 1) 3 i0 _ 8 Tryz.underlying23 HI0.out HZ.out HZ1.out HZ2.out rfl (by decide) (fun _ => False) (fun _ => False) (.slice Ao n ca) (lostTo k m.saved) (k : Int) rfl HO2.out _ rfl rfl ⟨rfl, (by unfold InI; omega)⟩ (fun _ h => h) (fun _ _ h => h) (fun _ h => h.elim) (by have := HLE.out; omega) (by have := HLE.out; omega) hs2 ?_; intro v' w3 hown' hg3 hv')
          obtain ⟨A3, c3, rfl⟩ := hown'.form
          have HO3 := hide hown'
          have HB3 := hide (HB2.out.trans (show Below W0.heap.size w2 w3 from below_push (base := W0.heap.size) (Below.refl _ _) (HO2.out.base' (by rw [HZ0.out]; exact Nat.le_refl _)) (by have := HB2.out.size; omega) hg3))
          clear hown' hg3 hv' hs2
          go_wp2_with fail
          go_roundw
          case rel => exact ⟨k + 1, _, c3, A3, rfl, by go_num, by omega, by rw [HS.out], by rw [HS.out]; exact HO3.out, HB3.out⟩
          case measure => simp [intOf]; omega
      · have hkR : ¬ ((k : Int) < R) := by omega
        go_wp2_with (go_at_call 15; refine HRW.out.mono ?_; rintro e _ ⟨rfl, ux, rfl⟩)
        go_ret
        obtain rfl : k = R := by omega
        have h := HO.out.ext ux
        rw [← HG.out] at h
        refine RetO.mk_ (h.base' (by rw [HGQ.out]; omega)) (fun _ h => h.elim) ?_
        rw [HGQ.out]
        exact (HB0.out.trans (HBB.out.mono (by rw [HZ0.out]; omega))).ext (by omega) ux
end Go.Proofs.YtcfimcghckjmeaaGreatDoor
