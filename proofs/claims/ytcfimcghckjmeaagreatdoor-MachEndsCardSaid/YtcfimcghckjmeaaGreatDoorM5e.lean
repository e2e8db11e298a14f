/- law05: walks: what a machine keeps; whether it has enough. -/
import Derived.Test.YtcfimcghckjmeaaGreatDoorG20
import Derived.Test.YtcfimcghckjmeaaGreatDoorW9
set_option linter.unusedSimpArgs false
set_option linter.unusedVariables false
namespace Go.Proofs.YtcfimcghckjmeaaGreatDoor
open Go.RowKit

def keepF (r : Int) : Fact := ⟨-1 - r, false, r⟩
def keepsM (m : Machine) : List Fact := if rightM m = true then m.saved.map keepF else []
def enoughM (m : Machine) (o a : Int) : Bool := rightM m && (decide (o < m.regs) && decide (a ≤ (m.args.length : Int)))
theorem info_Fact : (Tryz.prog.info? 74).map (fun i => (i.zero, i.size, i.bytes)) = some (some (.agg #[.int .i64 0, .bool false, .int .i64 0]), 3, 24) := by kernel_rfl
set_option maxHeartbeats 4000000 in
theorem keeps_any (w : World) (S1 S2 : Nat → Prop) (m : Machine) (A1 A2 : Option Addr) (n1 c1 n2 c2 : Nat) (h1 : Sl w S1 A1 n1 c1 m.args) (h2 : Sl w S2 A2 n2 c2 m.saved) (hi : InI m.ret) :
    Calls Tryz.prog 21 #[.agg #[.int .i64 m.regs, .slice A1 n1 c1, .int .i64 m.ret, .slice A2 n2 c2]] w (RetO 74 (keepsM m) w) := by
  have H1 := hide h1; have H2 := hide h2; have HI := hide hi
  have HRI := hide (fun (W : World) (h1 : Sl W S1 A1 n1 c1 m.args) (h2 : Sl W S2 A2 n2 c2 m.saved) => rightm_any W S1 S2 m A1 A2 n1 c1 n2 c2 h1 h2 HI.out)
  have hn := h2.nle
  have HL := hide h2.len
  cases hR : rightM m with
  | false =>
    have HG := hide (show keepsM m = [] by unfold keepsM; rw [hR]; rfl)
    rw [hR] at HRI
    clear h1 h2 hi hR
    go_enter Tryz.func21, Tryz.ntmps21
    go_wp2_with (go_at_call 14; refine (HRI.out _ (by repeat (first | assumption | exact Hd.out (by assumption) | apply Sl.alloc | apply Sl.ext | apply Sl.drew | apply Sl.drewN)) (by repeat (first | assumption | exact Hd.out (by assumption) | apply Sl.alloc | apply Sl.ext | apply Sl.drew | apply Sl.drewN))).mono ?_; rintro e _ ⟨rfl, ux, rfl⟩)
    go_ret
    rw [HG.out]
    exact RetO.mk_ (OwnL.nil_ _ _ _ (fun _ => False)) (fun _ h => h.elim) (by repeat (first | exact Below.refl _ _ | assumption | refine Below.alloc ?_ (by simp [size_ext]; try omega) _ | refine Below.ext ?_ (by simp [size_ext]; try omega) _ | refine Below.drew ?_ | refine Below.setCell ?_ (by simp [size_ext]; try omega) _))
  | true =>
    have HG := hide (show keepsM m = m.saved.map keepF by unfold keepsM; rw [hR]; rfl)
    have HB := hide (show m.saved.length ≤ 64 ∧ ∀ x ∈ m.saved, 0 ≤ x ∧ x < 64 by
      simp only [rightM, Bool.and_eq_true, decide_eq_true_eq, Bool.not_eq_true'] at hR
      obtain ⟨⟨⟨⟨⟨⟨⟨⟨a1, a2⟩, a3⟩, a4⟩, a5⟩, a6⟩, a7⟩, a8⟩, a9⟩ := hR
      have b2 := ((savedOk_iff _ _ _).1 a9).1
      exact ⟨by omega, fun x hx => by have := b2 x hx; omega⟩)
    rw [hR] at HRI
    clear h1 h2 hi hR
    obtain ⟨i0, hi, hz, hz1, hz2⟩ := info_parts info_Fact
    have HI0 := hide hi; have HZ := hide hz; have HZ1 := hide hz1; have HZ2 := hide hz2
    clear hi hz hz1 hz2
    obtain ⟨B, hB⟩ : ∃ B, w.heap.size = B := ⟨_, rfl⟩
    have HBQ := hide hB
    clear hB
    go_enter Tryz.func21, Tryz.ntmps21
    go_wp2_with (go_at_call 14; refine (HRI.out _ (by repeat (first | assumption | exact Hd.out (by assumption) | apply Sl.alloc | apply Sl.ext | apply Sl.drew | apply Sl.drewN)) (by repeat (first | assumption | exact Hd.out (by assumption) | apply Sl.alloc | apply Sl.ext | apply Sl.drew | apply Sl.drewN))).mono ?_; rintro e _ ⟨rfl, ux, rfl⟩)
    obtain ⟨W, hW⟩ : ∃ W, W = (w.alloc (.cells #[.int .i64 m.regs, .slice A1 n1 c1, .int .i64 m.ret, .slice A2 n2 c2] 25)).ext ux := ⟨_, rfl⟩
    have HBel := hide (show Below B w W by rw [← HBQ.out]; subst hW; exact (by repeat (first | exact Below.refl _ _ | assumption | refine Below.alloc ?_ (by simp [size_ext]; try omega) _ | refine Below.ext ?_ (by simp [size_ext]; try omega) _ | refine Below.drew ?_ | refine Below.setCell ?_ (by simp [size_ext]; try omega) _)))
    have hWs : B ≤ W.heap.size := by have := HBel.out.size; have := HBQ.out; omega
    have HSW := hide (show Sl W (fun b => b < B) A2 n2 c2 m.saved by
      subst hW
      exact (((H2.out.more (S' := fun b => b < B) (fun b hb _ => by rw [← HBQ.out]; exact hb)).alloc _).ext _))
    rw [← hW]
    clear hW H1 H2 HRI
    go_loopw [2, 11] (fun o i wr => ∃ (k ca : Nat) (Ao : Option Addr), o = .slice Ao k ca ∧ i = .int .i64 k ∧ k ≤ n2 ∧ OwnL wr B 74 (fun _ => False) o ((m.saved.take k).map keepF) ∧ Below B W wr ∧ B ≤ wr.heap.size) (fun _ i _ => n2 - (intOf i).toNat)
    case atStart => exact ⟨0, 0, none, rfl, rfl, Nat.zero_le _, OwnL.nil_ _ _ _ _, Below.refl _ _, hWs⟩
    case round =>
      obtain ⟨k, ca, Ao, rfl, rfl, hk, hown, hb, hsz⟩ := hrel
      have HO := hide hown; have HBB := hide hb
      clear hown hb
      by_cases hlt : k < n2
      · obtain ⟨b, off, x, rfl, hbb, hx, _, hc⟩ := at_int (HSW.out.below HBB.out (fun b h => h)) hlt
        have HX := hide (show (m.saved.take (k + 1)).map keepF = (m.saved.take k).map keepF ++ [keepF x] by rw [take_at hx]; simp)
        obtain ⟨x0, x1⟩ := HB.out.2 x (List.mem_of_getElem? hx)
        have hwr : IntKind.i64.wrap (-1 - x) = -1 - x := IntWalk.i64_in _ (by omega)
        have HK := hide (show ((m.saved.take k).map keepF).length ≤ 64 by have := HB.out.1; simp; omega)
        have HF := hide (show ∀ W, Rep.is W (fun _ => False) (keepF x) [.int .i64 (-1 - x), .bool false, .int .i64 x] from fun W => Fact.mk_ (x := keepF x) (by unfold InI keepF; simp only; omega) (by unfold InI keepF; simp only; omega))
        clear hx
        go_wp2_with (at_builtin; refine wpList_push (α := Fact) wr [.int .i64 (-1 - x), .bool false, .int .i64 x] 74 rfl (.tmp 15) (.tmp 21) 39 rfl B 74 i0 _ 24 Tryz.underlying39 HI0.out HZ.out HZ1.out HZ2.out rfl (by decide) (fun _ => False) (fun _ => False) (.slice Ao k ca) ((m.saved.take k).map keepF) (keepF x) rfl HO.out _ rfl rfl (HF.out _) (fun _ h => h) (fun _ _ h => h) (fun _ h => h.elim) (by have := HK.out; omega) (by have := HK.out; omega) hsz ?_; intro v' w1 hown' hg hv')
        obtain ⟨A3, c3, rfl⟩ := hown'.form
        have HO' := hide hown'
        have HB1 := hide (below_push HBB.out HO.out hsz hg)
        have HKL := hide (show ((m.saved.take k).map keepF ++ [keepF x]).length = k + 1 by simp; have := HL.out; omega)
        clear hown' hg hv' hwr
        go_wp2_with fail
        go_roundw
        case rel =>
          refine ⟨k + 1, c3, A3, by rw [HKL.out], by go_num, by omega, ?_, HB1.out, by have := HB1.out.size; omega⟩
          rw [HX.out]
          exact HO'.out
        case measure => simp [intOf]; omega
      · go_wp2_with fail
        go_ret
        obtain rfl : k = n2 := by omega
        have h := HO.out
        rw [take_end HL.out hlt, ← HG.out, ← HBQ.out] at h
        exact RetO.mk_ h (fun _ h => h.elim) (by rw [HBQ.out]; exact HBel.out.trans HBB.out)
set_option maxHeartbeats 4000000 in
theorem enough_any (w : World) (S1 S2 : Nat → Prop) (m : Machine) (A1 A2 : Option Addr) (n1 c1 n2 c2 : Nat) (h1 : Sl w S1 A1 n1 c1 m.args) (h2 : Sl w S2 A2 n2 c2 m.saved) (hi : InI m.ret) (o a : Int) :
    Calls Tryz.prog 23 #[.agg #[.int .i64 m.regs, .slice A1 n1 c1, .int .i64 m.ret, .slice A2 n2 c2], .int .i64 o, .int .i64 a] w (RetX (.bool (enoughM m o a)) w) := by
  have H1 := hide h1; have H2 := hide h2
  have HRI := hide (fun (W : World) (h1 : Sl W S1 A1 n1 c1 m.args) (h2 : Sl W S2 A2 n2 c2 m.saved) => rightm_any W S1 S2 m A1 A2 n1 c1 n2 c2 h1 h2 hi)
  have hn := h1.nle
  have HL := hide h1.len
  have hg : enoughM m o a = (rightM m && (decide (o < m.regs) && decide (a ≤ (n1 : Int)))) := by unfold enoughM; rw [h1.len]
  rw [hg]
  obtain ⟨R, hR⟩ : ∃ R, rightM m = R := ⟨_, rfl⟩
  rw [hR] at HRI ⊢
  clear h1 h2 hi hg hR
  go_enter Tryz.func23, Tryz.ntmps23
  cases R
  · go_wp2_with (go_at_call 14; refine (HRI.out _ (by repeat (first | assumption | exact Hd.out (by assumption) | apply Sl.alloc | apply Sl.ext | apply Sl.drew | apply Sl.drewN)) (by repeat (first | assumption | exact Hd.out (by assumption) | apply Sl.alloc | apply Sl.ext | apply Sl.drew | apply Sl.drewN))).mono ?_; rintro e _ ⟨rfl, ux, rfl⟩)
    go_ret
    exact RetX.b rfl (by repeat (first | exact Below.refl _ _ | assumption | refine Below.alloc ?_ (by simp [size_ext]; try omega) _ | refine Below.ext ?_ (by simp [size_ext]; try omega) _ | refine Below.drew ?_ | refine Below.setCell ?_ (by simp [size_ext]; try omega) _))
  · by_cases ho : o < m.regs
    · have e : decide (o < m.regs) = true := by simpa using ho
      rw [e]
      go_wp2_with (go_at_call 14; refine (HRI.out _ (by repeat (first | assumption | exact Hd.out (by assumption) | apply Sl.alloc | apply Sl.ext | apply Sl.drew | apply Sl.drewN)) (by repeat (first | assumption | exact Hd.out (by assumption) | apply Sl.alloc | apply Sl.ext | apply Sl.drew | apply Sl.drewN))).mono ?_; rintro e _ ⟨rfl, ux, rfl⟩)
      go_ret
      exact RetX.b (by simp) (by repeat (first | exact Below.refl _ _ | assumption | refine Below.alloc ?_ (by simp [size_ext]; try omega) _ | refine Below.ext ?_ (by simp [size_ext]; try omega) _ | refine Below.drew ?_ | refine Below.setCell ?_ (by simp [size_ext]; try omega) _))
    · have e : decide (o < m.regs) = false := by simpa using ho
      rw [e]
      go_wp2_with (go_at_call 14; refine (HRI.out _ (by repeat (first | assumption | exact Hd.out (by assumption) | apply Sl.alloc | apply Sl.ext | apply Sl.drew | apply Sl.drewN)) (by repeat (first | assumption | exact Hd.out (by assumption) | apply Sl.alloc | apply Sl.ext | apply Sl.drew | apply Sl.drewN))).mono ?_; rintro e _ ⟨rfl, ux, rfl⟩)
      go_ret
      exact RetX.b (by simp) (by repeat (first | exact Below.refl _ _ | assumption | refine Below.alloc ?_ (by simp [size_ext]; try omega) _ | refine Below.ext ?_ (by simp [size_ext]; try omega) _ | refine Below.drew ?_ | refine Below.setCell ?_ (by simp [size_ext]; try omega) _))
end Go.Proofs.YtcfimcghckjmeaaGreatDoor
