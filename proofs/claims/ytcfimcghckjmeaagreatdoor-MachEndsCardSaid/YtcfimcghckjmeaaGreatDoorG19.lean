/- Plain: the two ways to say that a machine is right say the same. Walks: machines that are right. -/
import Derived.Test.YtcfimcghckjmeaaGreatDoorG18
import Derived.Deep.RegionHeld3
import Derived.Deep.RegionWith
set_option linter.unusedSimpArgs false
set_option linter.unusedVariables false
namespace Go.Proofs.YtcfimcghckjmeaaGreatDoor

theorem pair_le (xs : List Int) : (∀ i, i < xs.length - 1 → xs.getD i 0 ≤ xs.getD (i + 1) 0) ↔ xs.Pairwise (· ≤ ·) := by
  induction xs with
  | nil => simp
  | cons x l ih =>
    cases l with
    | nil => simp
    | cons y l =>
      rw [List.pairwise_cons, ← ih]
      constructor
      · intro h
        have h0 : x ≤ y := by have := h 0 (by simp); simpa using this
        have h1 : ∀ i, i < (y :: l).length - 1 → (y :: l).getD i 0 ≤ (y :: l).getD (i + 1) 0 := fun i hi => by
          have := h (i + 1) (by simp at hi ⊢; omega)
          simpa using this
        refine ⟨fun z hz => ?_, h1⟩
        rcases List.mem_cons.1 hz with rfl | hz
        · exact h0
        · exact Int.le_trans h0 ((List.pairwise_cons.1 (ih.1 h1)).1 z hz)
      · rintro ⟨h0, h1⟩ i hi
        cases i with
        | zero => simpa using h0 y (by simp)
        | succ i =>
          have := h1 i (by simp at hi ⊢; omega)
          simpa using this
theorem pair_lt (xs : List Int) : xs.Pairwise (· < ·) ↔ xs.Pairwise (· ≤ ·) ∧ xs.Nodup := by
  unfold List.Nodup
  constructor
  · intro h
    exact ⟨h.imp fun h => by omega, h.imp fun h => by omega⟩
  · rintro ⟨h1, h2⟩
    exact (h1.and h2).imp fun ⟨a, b⟩ => by omega
/-- The program's way. -/
def rightP (m : Machine) : Bool :=
  decide (1 ≤ m.regs) && decide (m.regs ≤ 64) && decide (m.args.length ≤ 8) && decide ((m.saved.length : Int) ≤ m.regs) && sortedTo m.saved (m.saved.length - 1) && (argsOk m.regs [] m.args && argsOk m.regs [] (m.ret :: m.saved))
theorem rightP_eq (m : Machine) : rightP m = rightM m := by
  rw [Bool.eq_iff_iff]
  have hm : (hasI m.ret m.saved = false) ↔ m.ret ∉ m.saved := by rw [← hasI_iff]; simp
  simp only [rightP, rightM, Bool.and_eq_true, decide_eq_true_eq, argsOk_iff, sortedTo_iff, savedOk_iff, Bool.not_eq_true', hm, pair_le, pair_lt, List.mem_cons, List.nodup_cons]
  constructor
  · rintro ⟨⟨⟨⟨⟨h1, h2⟩, h3⟩, h4⟩, h5⟩, h6, h7, h8, h9⟩
    exact ⟨⟨⟨⟨⟨⟨⟨⟨h1, h2⟩, h3⟩, h4⟩, (h7 m.ret (.inl rfl)).1⟩, (h7 m.ret (.inl rfl)).2.1⟩, h8⟩, h6⟩, fun x hx => ⟨(h7 x (.inr hx)).1, (h7 x (.inr hx)).2.1⟩, by simp, h5, h9⟩
  · rintro ⟨⟨⟨⟨⟨⟨⟨⟨h1, h2⟩, h3⟩, h4⟩, h5⟩, h6⟩, h7⟩, h8⟩, h9, h10, h11, h12⟩
    refine ⟨⟨⟨⟨⟨h1, h2⟩, h3⟩, h4⟩, h11⟩, h8, fun x hx => ?_, h7, h12⟩
    rcases hx with rfl | hx
    · exact ⟨h5, h6, by simp⟩
    · exact ⟨(h9 x hx).1, (h9 x hx).2, by simp⟩
end Go.Proofs.YtcfimcghckjmeaaGreatDoor
set_option linter.unusedSimpArgs false
set_option linter.unusedVariables false
namespace Go.Proofs.YtcfimcghckjmeaaGreatDoor
open Go.RowKit

set_option maxHeartbeats 4000000 in
theorem right5_any (w : World) (S1 S2 : Nat → Prop) (m : Machine) (A1 A2 : Option Addr) (n1 c1 n2 c2 : Nat) (h1 : Sl w S1 A1 n1 c1 m.args) (h2 : Sl w S2 A2 n2 c2 m.saved) :
    Calls Tryz.prog 15 #[.agg #[.int .i64 m.regs, .slice A1 n1 c1, .int .i64 m.ret, .slice A2 n2 c2]] w (RetX (.bool (rightM m)) w) := by
  have hn1 := h1.nle
  have hn2 := h2.nle
  have e1 := h1.len
  have e2 := h2.len
  have HL1 := hide e1; have HL2 := hide e2
  have H1 := hide h1; have H2 := hide h2
  have neg : (m.regs < 1 ∨ 64 < m.regs ∨ 8 < n1 ∨ m.regs < (n2 : Int) ∨ m.ret < 0 ∨ m.regs ≤ m.ret ∨ hasI m.ret m.saved = true) → rightM m = false := by
    intro h
    rw [Bool.eq_false_iff]
    intro hr
    simp only [rightM, Bool.and_eq_true, decide_eq_true_eq, Bool.not_eq_true'] at hr
    obtain ⟨⟨⟨⟨⟨⟨⟨⟨a1, a2⟩, a3⟩, a4⟩, a5⟩, a6⟩, a7⟩, a8⟩, a9⟩ := hr
    rcases h with h | h | h | h | h | h | h
    · omega
    · omega
    · omega
    · omega
    · omega
    · omega
    · rw [h] at a7; cases a7
  have NEG := hide neg
  clear neg e1 e2 h1 h2
  by_cases g1 : m.regs < 1
  · go_enter Tryz.func15, Tryz.ntmps15
    go_wp2; go_ret; exact RetX.b (NEG.out (by omega)).symm (by repeat (first | exact Below.refl _ _ | assumption | refine Below.alloc ?_ (by simp [size_ext]; try omega) _ | refine Below.ext ?_ (by simp [size_ext]; try omega) _ | refine Below.drew ?_ | refine Below.setCell ?_ (by simp [size_ext]; try omega) _))
  have d1 : decide (m.regs < 1) = false := by simpa using g1
  by_cases g2 : 64 < m.regs
  · go_enter Tryz.func15, Tryz.ntmps15
    go_wp2; go_ret; exact RetX.b (NEG.out (by omega)).symm (by repeat (first | exact Below.refl _ _ | assumption | refine Below.alloc ?_ (by simp [size_ext]; try omega) _ | refine Below.ext ?_ (by simp [size_ext]; try omega) _ | refine Below.drew ?_ | refine Below.setCell ?_ (by simp [size_ext]; try omega) _))
  have d2 : decide (m.regs > 64) = false := by simpa using g2
  by_cases g3 : 8 < n1
  · go_enter Tryz.func15, Tryz.ntmps15
    go_wp2; go_ret; exact RetX.b (NEG.out (by omega)).symm (by repeat (first | exact Below.refl _ _ | assumption | refine Below.alloc ?_ (by simp [size_ext]; try omega) _ | refine Below.ext ?_ (by simp [size_ext]; try omega) _ | refine Below.drew ?_ | refine Below.setCell ?_ (by simp [size_ext]; try omega) _))
  have d3 : decide ((n1 : Int) > 8) = false := by simp; omega
  by_cases g4 : m.regs < (n2 : Int)
  · go_enter Tryz.func15, Tryz.ntmps15
    go_wp2; go_ret; exact RetX.b (NEG.out (by omega)).symm (by repeat (first | exact Below.refl _ _ | assumption | refine Below.alloc ?_ (by simp [size_ext]; try omega) _ | refine Below.ext ?_ (by simp [size_ext]; try omega) _ | refine Below.drew ?_ | refine Below.setCell ?_ (by simp [size_ext]; try omega) _))
  have d4 : decide ((n2 : Int) > m.regs) = false := by simpa using g4
  by_cases g5 : m.ret < 0
  · go_enter Tryz.func15, Tryz.ntmps15
    go_wp2; go_ret; exact RetX.b (NEG.out (by omega)).symm (by repeat (first | exact Below.refl _ _ | assumption | refine Below.alloc ?_ (by simp [size_ext]; try omega) _ | refine Below.ext ?_ (by simp [size_ext]; try omega) _ | refine Below.drew ?_ | refine Below.setCell ?_ (by simp [size_ext]; try omega) _))
  have d5 : decide (m.ret < 0) = false := by simpa using g5
  by_cases g6 : m.regs ≤ m.ret
  · go_enter Tryz.func15, Tryz.ntmps15
    go_wp2; go_ret; exact RetX.b (NEG.out (by omega)).symm (by repeat (first | exact Below.refl _ _ | assumption | refine Below.alloc ?_ (by simp [size_ext]; try omega) _ | refine Below.ext ?_ (by simp [size_ext]; try omega) _ | refine Below.drew ?_ | refine Below.setCell ?_ (by simp [size_ext]; try omega) _))
  have d6 : decide (m.ret ≥ m.regs) = false := by simpa using g6
  by_cases g7 : hasI m.ret m.saved = true
  · have G7 := hide g7
    go_enter Tryz.func15, Tryz.ntmps15
    go_wp2_with (go_at_call 43; refine (has05_any _ S2 A2 n2 c2 m.saved m.ret (by repeat (first | assumption | exact Hd.out (by assumption) | apply Sl.alloc | apply Sl.ext | apply Sl.drew | apply Sl.drewN))).mono ?_; rintro e w' ⟨rfl, rfl⟩)
    all_goals (go_ret; exact RetX.b (NEG.out (.inr (.inr (.inr (.inr (.inr (.inr G7.out))))))).symm (by repeat (first | exact Below.refl _ _ | assumption | refine Below.alloc ?_ (by simp [size_ext]; try omega) _ | refine Below.ext ?_ (by simp [size_ext]; try omega) _ | refine Below.drew ?_ | refine Below.setCell ?_ (by simp [size_ext]; try omega) _)))
  have g7' : hasI m.ret m.saved = false := by simpa using g7
  have G7 := hide g7'
  clear g7 g7'
  have pos : rightM m = (argsOk m.regs [] m.args && savedOk m.regs none m.saved) := by
    have a1 : decide (1 ≤ m.regs) = true := by simp; omega
    have a2 : decide (m.regs ≤ 64) = true := by simp; omega
    have a3 : decide (m.args.length ≤ 8) = true := by rw [HL1.out]; simp; omega
    have a4 : decide ((m.saved.length : Int) ≤ m.regs) = true := by rw [HL2.out]; simp; omega
    have a5 : decide (0 ≤ m.ret) = true := by simp; omega
    have a6 : decide (m.ret < m.regs) = true := by simp; omega
    unfold rightM
    rw [a1, a2, a3, a4, a5, a6, G7.out]; simp
  have POS := hide pos; clear pos
  have q1 : 1 ≤ m.regs := by omega
  have q2 : m.regs ≤ 64 := by omega
  clear g1 g2 g3 g4 g5 g6
  go_enter Tryz.func15, Tryz.ntmps15
  go_wp2_with (go_at_call 43; refine (has05_eq _ S2 A2 n2 c2 m.saved m.ret (by repeat (first | assumption | exact Hd.out (by assumption) | apply Sl.alloc | apply Sl.ext | apply Sl.drew | apply Sl.drewN)) G7.out).mono ?_; rintro e w' ⟨rfl, rfl⟩)
  clear d1 d2 d3 d4 d5 d6
  go_loopw [3] (fun i wr => ∃ k : Nat, k ≤ n1 ∧ i = .int .i64 k ∧ argsOk m.regs [] m.args = argsOk m.regs (m.args.take k) (m.args.drop k) ∧ ∃ u, wr = (w.alloc (.cells #[.int .i64 m.regs, .slice A1 n1 c1, .int .i64 m.ret, .slice A2 n2 c2] 25)).ext u) (fun i _ => n1 - (intOf i).toNat)
  case atStart => exact ⟨0, Nat.zero_le _, rfl, rfl, ext_refl _⟩
  case round =>
    obtain ⟨k, hk, rfl, hr, u, rfl⟩ := hrel
    have HR := hide hr; clear hr
    by_cases hlt : k < n1
    · obtain ⟨b, off, x, rfl, hb, hx, hi, hc⟩ := at_int H1.out hlt
      have HT := hide (H1.out.take_ hk)
      have HX := hide (drop_at hx); have HX' := hide (take_at hx); have HI := hide hi
      clear hx hi
      have hcap : k ≤ c1 := by have := H1.out.2.1; omega
      have hcm : c1 ≤ 9223372036854775807 := by have := H1.out.2.2.1; unfold maxLen at this; omega
      by_cases x0 : x < 0
      · have F := hide (show rightM m = false by rw [POS.out, HR.out, HX.out]; simp [argsOk]; intro h; omega)
        go_wp2
        refine wp_region_ext (by kernel_rfl) (by kernel_rfl) ?_
        repeat (any_goals (first | go_big_quiet_step ((fail)) | quiet_step ((fail))))
        refine wpQuiet_nil ?_
        rintro _ ⟨uq, rfl⟩
        go_wp2; go_ret; exact RetX.b F.out.symm (by repeat (first | exact Below.refl _ _ | assumption | refine Below.alloc ?_ (by simp [size_ext]; try omega) _ | refine Below.ext ?_ (by simp [size_ext]; try omega) _ | refine Below.drew ?_ | refine Below.setCell ?_ (by simp [size_ext]; try omega) _))
      have x0' : decide (x < 0) = false := by simpa using x0
      by_cases x1 : m.regs ≤ x
      · have F := hide (show rightM m = false by rw [POS.out, HR.out, HX.out]; simp [argsOk]; intro _ h; omega)
        go_wp2
        refine wp_region_ext (by kernel_rfl) (by kernel_rfl) ?_
        repeat (any_goals (first | go_big_quiet_step ((fail)) | quiet_step ((fail))))
        refine wpQuiet_nil ?_
        rintro _ ⟨uq, rfl⟩
        go_wp2; go_ret; exact RetX.b F.out.symm (by repeat (first | exact Below.refl _ _ | assumption | refine Below.alloc ?_ (by simp [size_ext]; try omega) _ | refine Below.ext ?_ (by simp [size_ext]; try omega) _ | refine Below.drew ?_ | refine Below.setCell ?_ (by simp [size_ext]; try omega) _))
      have x1' : decide (x ≥ m.regs) = false := by simpa using x1
      by_cases x2 : hasI x (m.args.take k) = true
      · have X2 := hide x2
        have F := hide (show rightM m = false by rw [POS.out, HR.out, HX.out]; simp [argsOk, X2.out])
        clear x2
        go_wp2
        refine wp_region_ext (by kernel_rfl) (by kernel_rfl) ?_
        repeat (any_goals (first | go_big_quiet_step (((go_at_call 43; exact quiet_ret (has05_eq _ S1 _ k c1 (m.args.take k) x (by repeat (first | assumption | exact Hd.out (by assumption) | apply Sl.alloc | apply Sl.ext | apply Sl.drew | apply Sl.drewN)) X2.out)))) | quiet_step (((go_at_call 43; exact quiet_ret (has05_eq _ S1 _ k c1 (m.args.take k) x (by repeat (first | assumption | exact Hd.out (by assumption) | apply Sl.alloc | apply Sl.ext | apply Sl.drew | apply Sl.drewN)) X2.out))))))
        refine wpQuiet_nil ?_
        rintro _ ⟨uq, rfl⟩
        go_wp2; go_ret; exact RetX.b F.out.symm (by repeat (first | exact Below.refl _ _ | assumption | refine Below.alloc ?_ (by simp [size_ext]; try omega) _ | refine Below.ext ?_ (by simp [size_ext]; try omega) _ | refine Below.drew ?_ | refine Below.setCell ?_ (by simp [size_ext]; try omega) _))
      · have X2 := hide (show hasI x (m.args.take k) = false by simpa using x2)
        clear x2
        have N := hide (show argsOk m.regs [] m.args = argsOk m.regs (m.args.take (k + 1)) (m.args.drop (k + 1)) by
          rw [HR.out, HX.out]
          have a1 : decide (0 ≤ x) = true := by simp; omega
          have a2 : decide (x < m.regs) = true := by simp; omega
          simp only [argsOk, a1, a2, X2.out]
          rw [HX'.out]
          simp only [Bool.not_false, Bool.true_and]
          exact argsOk_mem _ _ (fun y => by simp [or_comm]))
        go_wp2
        refine wp_region_ext (by kernel_rfl) (by kernel_rfl) ?_
        repeat (any_goals (first | go_big_quiet_step (((go_at_call 43; exact quiet_ret (has05_eq _ S1 _ k c1 (m.args.take k) x (by repeat (first | assumption | exact Hd.out (by assumption) | apply Sl.alloc | apply Sl.ext | apply Sl.drew | apply Sl.drewN)) X2.out)))) | quiet_step (((go_at_call 43; exact quiet_ret (has05_eq _ S1 _ k c1 (m.args.take k) x (by repeat (first | assumption | exact Hd.out (by assumption) | apply Sl.alloc | apply Sl.ext | apply Sl.drew | apply Sl.drewN)) X2.out))))))
        refine wpQuiet_nil ?_
        rintro _ ⟨uq, rfl⟩
        go_wp2
        go_roundw
        case rel => exact ⟨k + 1, by omega, by go_num, N.out, Below.to_ext (by repeat (first | exact Below.refl _ _ | assumption | refine Below.alloc ?_ (by simp [size_ext]; try omega) _ | refine Below.ext ?_ (by simp [size_ext]; try omega) _ | refine Below.drew ?_ | refine Below.setCell ?_ (by simp [size_ext]; try omega) _))⟩
        case measure => simp [intOf]; omega
    · have P2 := hide (show rightM m = savedOk m.regs none m.saved by rw [POS.out, HR.out, drop_end HL1.out hlt]; simp [argsOk])
      go_wp2
      clear hlt hk HR
      go_loopw [4] (fun i w9 => ∃ k : Nat, k ≤ n2 ∧ i = .int .i64 k ∧ rightM m = savedOk m.regs (if k = 0 then none else some (m.saved.getD (k - 1) 0)) (m.saved.drop k) ∧ ∃ u, w9 = (w.alloc (.cells #[.int .i64 m.regs, .slice A1 n1 c1, .int .i64 m.ret, .slice A2 n2 c2] 25)).ext u) (fun i _ => n2 - (intOf i).toNat)
      case atStart => exact ⟨0, Nat.zero_le _, rfl, P2.out, _, rfl⟩
      case round =>
        clear P2
        obtain ⟨k, hk, rfl, hr, u, rfl⟩ := hrel
        have HR := hide hr; clear hr
        by_cases hlt : k < n2
        · obtain ⟨b, off, x, rfl, hb, hx, hi, hc⟩ := at_int H2.out hlt
          have HX := hide (drop_at hx); have HXD := hide (show m.saved.getD k 0 = x by simp [hx]); have HI := hide hi
          clear hx hi
          by_cases x0 : x < 0
          · have F := hide (show rightM m = false by rw [HR.out, HX.out]; simp [savedOk]; intro h; omega)
            go_wp2
            refine wp_region_ext (by kernel_rfl) (by kernel_rfl) ?_
            repeat (any_goals (first | go_big_quiet_step ((fail)) | quiet_step ((fail))))
            refine wpQuiet_nil ?_
            rintro _ ⟨uq, rfl⟩
            go_wp2; go_ret; exact RetX.b F.out.symm (by repeat (first | exact Below.refl _ _ | assumption | refine Below.alloc ?_ (by simp [size_ext]; try omega) _ | refine Below.ext ?_ (by simp [size_ext]; try omega) _ | refine Below.drew ?_ | refine Below.setCell ?_ (by simp [size_ext]; try omega) _))
          have x0' : decide (x < 0) = false := by simpa using x0
          by_cases x1 : m.regs ≤ x
          · have F := hide (show rightM m = false by rw [HR.out, HX.out]; simp [savedOk]; intro _ h; omega)
            go_wp2
            refine wp_region_ext (by kernel_rfl) (by kernel_rfl) ?_
            repeat (any_goals (first | go_big_quiet_step ((fail)) | quiet_step ((fail))))
            refine wpQuiet_nil ?_
            rintro _ ⟨uq, rfl⟩
            go_wp2; go_ret; exact RetX.b F.out.symm (by repeat (first | exact Below.refl _ _ | assumption | refine Below.alloc ?_ (by simp [size_ext]; try omega) _ | refine Below.ext ?_ (by simp [size_ext]; try omega) _ | refine Below.drew ?_ | refine Below.setCell ?_ (by simp [size_ext]; try omega) _))
          have x1' : decide (x ≥ m.regs) = false := by simpa using x1
          by_cases hk0 : k = 0
          · subst hk0
            rw [Nat.add_zero] at hc
            have i2 : (0 : Int) < (n2 : Int) := by omega
            have N := hide (show rightM m = savedOk m.regs (some (m.saved.getD 0 0)) (m.saved.drop 1) by
              rw [HR.out, HX.out, HXD.out]
              have a1 : decide (0 ≤ x) = true := by simp; omega
              have a2 : decide (x < m.regs) = true := by simp; omega
              simp [savedOk, a1, a2])
            go_wp2
            refine wp_region_ext (by kernel_rfl) (by kernel_rfl) ?_
            repeat (any_goals (first | go_big_quiet_step ((fail)) | quiet_step ((fail))))
            refine wpQuiet_nil ?_
            rintro _ ⟨uq, rfl⟩
            go_wp2
            go_roundw
            case rel => exact ⟨1, by omega, rfl, by simpa using N.out, Below.to_ext (by repeat (first | exact Below.refl _ _ | assumption | refine Below.alloc ?_ (by simp [size_ext]; try omega) _ | refine Below.ext ?_ (by simp [size_ext]; try omega) _ | refine Below.drew ?_ | refine Below.setCell ?_ (by simp [size_ext]; try omega) _))⟩
            case measure => simp [intOf]; omega
          · obtain ⟨j, hj⟩ : ∃ j, k = j + 1 := ⟨k - 1, by omega⟩
            have hj1 : j < k := by omega
            have hj2 : k ≤ j + 1 := by omega
            obtain ⟨b', off', y, hA', -, hy, -, hc'⟩ := at_int H2.out (show j < n2 by omega)
            simp only [Option.some.injEq, Addr.mk.injEq] at hA'
            obtain ⟨rfl, rfl, -⟩ := hA'
            have HYD := hide (show m.saved.getD (k - 1) 0 = y by rw [hj]; simp [hy])
            have hs : IntKind.i64.wrap ((k : Int) - 1) = (j : Int) := by rw [IntWalk.i64_in _ (by omega)]; omega
            have hkp : decide ((k : Int) > 0) = true := by simp; omega
            have hkp' : decide (0 < k) = true := by simp; omega
            have i1 : (0 : Int) ≤ (k : Int) := by omega
            have i2 : (k : Int) < (n2 : Int) := by omega
            have i3 : (0 : Int) ≤ (j : Int) := by omega
            have i4 : (j : Int) < (n2 : Int) := by omega
            clear hy hj
            have e0 : rightM m = (decide (y < x) && savedOk m.regs (some x) (m.saved.drop (k + 1))) := by
              rw [HR.out, HX.out, if_neg hk0, HYD.out]
              have a1 : decide (0 ≤ x) = true := by simp; omega
              have a2 : decide (x < m.regs) = true := by simp; omega
              simp [savedOk, a1, a2]
            have E0 := hide e0; clear e0
            by_cases x2 : x ≤ y
            · have F := hide (show rightM m = false by rw [E0.out]; simp; intro h; omega)
              have x2' : decide (y ≥ x) = true := by simpa using x2
              go_wp2
              refine wp_region_ext (by kernel_rfl) (by kernel_rfl) ?_
              repeat (any_goals (first | go_big_quiet_step ((fail)) | quiet_step ((fail))))
              refine wpQuiet_nil ?_
              rintro _ ⟨uq, rfl⟩
              go_wp2; go_ret; exact RetX.b F.out.symm (by repeat (first | exact Below.refl _ _ | assumption | refine Below.alloc ?_ (by simp [size_ext]; try omega) _ | refine Below.ext ?_ (by simp [size_ext]; try omega) _ | refine Below.drew ?_ | refine Below.setCell ?_ (by simp [size_ext]; try omega) _))
            · have N := hide (show rightM m = savedOk m.regs (some (m.saved.getD k 0)) (m.saved.drop (k + 1)) by
                rw [E0.out, HXD.out]; have : decide (y < x) = true := by simp; omega
                rw [this]; rfl)
              have x2' : decide (y ≥ x) = false := by simpa using x2
              go_wp2
              refine wp_region_ext (by kernel_rfl) (by kernel_rfl) ?_
              repeat (any_goals (first | go_big_quiet_step ((fail)) | quiet_step ((fail))))
              refine wpQuiet_nil ?_
              rintro _ ⟨uq, rfl⟩
              go_wp2
              go_roundw
              case rel => exact ⟨k + 1, by omega, by go_num, by simpa using N.out, Below.to_ext (by repeat (first | exact Below.refl _ _ | assumption | refine Below.alloc ?_ (by simp [size_ext]; try omega) _ | refine Below.ext ?_ (by simp [size_ext]; try omega) _ | refine Below.drew ?_ | refine Below.setCell ?_ (by simp [size_ext]; try omega) _))⟩
              case measure => simp [intOf]; omega
        · have F := hide (show rightM m = true by rw [HR.out, drop_end HL2.out hlt]; rfl)
          go_wp2; go_ret; exact RetX.b F.out.symm (by repeat (first | exact Below.refl _ _ | assumption | refine Below.alloc ?_ (by simp [size_ext]; try omega) _ | refine Below.ext ?_ (by simp [size_ext]; try omega) _ | refine Below.drew ?_ | refine Below.setCell ?_ (by simp [size_ext]; try omega) _))
end Go.Proofs.YtcfimcghckjmeaaGreatDoor
