/- Walks: machines that are right, the program's way. -/
import Derived.Test.YtcfimcghckjmeaaGreatDoorG19
import Derived.Test.YtcfimcghckjmeaaGreatDoorG3
set_option linter.unusedSimpArgs false
set_option linter.unusedVariables false
namespace Go.Proofs.YtcfimcghckjmeaaGreatDoor
open Go.RowKit

theorem isSorted_eq {b : Bool} (w : World) (S : Nat → Prop) (A : Option Addr) (n c : Nat) (xs : List Int) (h : Sl w S A n c xs) (hb : sortedTo xs (n - 1) = b) :
    Calls Tryz.prog 42 #[.slice A n c] w (RetX (.bool b) w) := hb ▸ isSorted_any w S A n c xs h
def IsSet (T : Array Value) : Prop := T.size = 64 ∧ T.all (·.oneCell') = true
set_option maxHeartbeats 4000000 in
set_option maxRecDepth 8000 in
theorem rightm_any (w : World) (S1 S2 : Nat → Prop) (m : Machine) (A1 A2 : Option Addr) (n1 c1 n2 c2 : Nat) (h1 : Sl w S1 A1 n1 c1 m.args) (h2 : Sl w S2 A2 n2 c2 m.saved) (hi : InI m.ret) :
    Calls Tryz.prog 14 #[.agg #[.int .i64 m.regs, .slice A1 n1 c1, .int .i64 m.ret, .slice A2 n2 c2]] w (RetX (.bool (rightM m)) w) := by
  rw [← rightP_eq]
  have hn1 := h1.nle
  have hn2 := h2.nle
  have HL1 := hide h1.len; have HL2 := hide h2.len
  have H1 := hide h1; have H2 := hide h2; have HI := hide hi
  have neg : (m.regs < 1 ∨ 64 < m.regs ∨ 8 < n1 ∨ m.regs < (n2 : Int) ∨ sortedTo m.saved (n2 - 1) = false) → rightP m = false := by
    intro h
    rw [Bool.eq_false_iff]
    intro hr
    simp only [rightP, Bool.and_eq_true, decide_eq_true_eq] at hr
    obtain ⟨⟨⟨⟨⟨a1, a2⟩, a3⟩, a4⟩, a5⟩, a6⟩ := hr
    rw [HL2.out] at a5 a4; rw [HL1.out] at a3
    rcases h with h | h | h | h | h
    · omega
    · omega
    · omega
    · omega
    · rw [h] at a5; cases a5
  have NEG := hide neg
  clear neg h1 h2 hi
  by_cases g1 : m.regs < 1
  · go_enter Tryz.func14, Tryz.ntmps14
    go_wp2; go_ret; exact RetX.b (NEG.out (by omega)).symm (by repeat (first | exact Below.refl _ _ | assumption | refine Below.alloc ?_ (by simp [size_ext]; try omega) _ | refine Below.ext ?_ (by simp [size_ext]; try omega) _ | refine Below.drew ?_ | refine Below.setCell ?_ (by simp [size_ext]; try omega) _))
  have d1 : decide (m.regs < 1) = false := by simpa using g1
  by_cases g2 : 64 < m.regs
  · go_enter Tryz.func14, Tryz.ntmps14
    go_wp2; go_ret; exact RetX.b (NEG.out (by omega)).symm (by repeat (first | exact Below.refl _ _ | assumption | refine Below.alloc ?_ (by simp [size_ext]; try omega) _ | refine Below.ext ?_ (by simp [size_ext]; try omega) _ | refine Below.drew ?_ | refine Below.setCell ?_ (by simp [size_ext]; try omega) _))
  have d2 : decide (m.regs > 64) = false := by simpa using g2
  by_cases g3 : 8 < n1
  · go_enter Tryz.func14, Tryz.ntmps14
    go_wp2; go_ret; exact RetX.b (NEG.out (by omega)).symm (by repeat (first | exact Below.refl _ _ | assumption | refine Below.alloc ?_ (by simp [size_ext]; try omega) _ | refine Below.ext ?_ (by simp [size_ext]; try omega) _ | refine Below.drew ?_ | refine Below.setCell ?_ (by simp [size_ext]; try omega) _))
  have d3 : decide ((n1 : Int) > 8) = false := by simp; omega
  by_cases g4 : m.regs < (n2 : Int)
  · go_enter Tryz.func14, Tryz.ntmps14
    go_wp2; go_ret; exact RetX.b (NEG.out (by omega)).symm (by repeat (first | exact Below.refl _ _ | assumption | refine Below.alloc ?_ (by simp [size_ext]; try omega) _ | refine Below.ext ?_ (by simp [size_ext]; try omega) _ | refine Below.drew ?_ | refine Below.setCell ?_ (by simp [size_ext]; try omega) _))
  have d4 : decide ((n2 : Int) > m.regs) = false := by simpa using g4
  by_cases g5 : sortedTo m.saved (n2 - 1) = false
  · have G5 := hide g5
    go_enter Tryz.func14, Tryz.ntmps14
    go_wp2_with (go_at_call 42; refine (isSorted_eq _ S2 A2 n2 c2 m.saved (by repeat (first | assumption | exact Hd.out (by assumption) | apply Sl.alloc | apply Sl.ext | apply Sl.drew | apply Sl.drewN)) G5.out).mono ?_; rintro e _ ⟨rfl, ux, rfl⟩)
    go_ret; exact RetX.b (NEG.out (.inr (.inr (.inr (.inr G5.out))))).symm (by repeat (first | exact Below.refl _ _ | assumption | refine Below.alloc ?_ (by simp [size_ext]; try omega) _ | refine Below.ext ?_ (by simp [size_ext]; try omega) _ | refine Below.drew ?_ | refine Below.setCell ?_ (by simp [size_ext]; try omega) _))
  have G5 := hide (show sortedTo m.saved (n2 - 1) = true by simpa using g5)
  have POS := hide (show rightP m = (argsOk m.regs [] m.args && argsOk m.regs [] (m.ret :: m.saved)) by
    have a1 : decide (1 ≤ m.regs) = true := by simp; omega
    have a2 : decide (m.regs ≤ 64) = true := by simp; omega
    have a3 : decide (m.args.length ≤ 8) = true := by rw [HL1.out]; simp; omega
    have a4 : decide ((m.saved.length : Int) ≤ m.regs) = true := by rw [HL2.out]; simp; omega
    unfold rightP
    rw [a1, a2, a3, a4, HL2.out, G5.out]; simp)
  have q1 : 1 ≤ m.regs := by omega
  have q2 : m.regs ≤ 64 := by omega
  have q3 : n2 ≤ 64 := by omega
  clear g1 g2 g3 g4 g5 NEG
  obtain ⟨i0, hi, hz, hz1, hz2⟩ := info_parts info_int
  have HI0 := hide hi; have HZ := hide hz; have HZ1 := hide hz1; have HZ2 := hide hz2
  clear hi hz hz1 hz2
  go_enter Tryz.func14, Tryz.ntmps14
  go_wp2_with (first
    | (go_at_call 42; refine (isSorted_eq _ S2 A2 n2 c2 m.saved (by repeat (first | assumption | exact Hd.out (by assumption) | apply Sl.alloc | apply Sl.ext | apply Sl.drew | apply Sl.drewN)) G5.out).mono ?_; rintro e _ ⟨rfl, ux, rfl⟩)
    | (go_at_call 41; refine (of_any _ S1 A1 n1 c1 m.regs m.args (by repeat (first | assumption | exact Hd.out (by assumption) | apply Sl.alloc | apply Sl.ext | apply Sl.drew | apply Sl.drewN)) q2).mono ?_; rintro e _ ⟨T1, rfl, hT1, u1, rfl⟩; have HT1 := hide hT1; clear hT1)
    | (refine wpList_store_new rfl 65 (.tmp 3) (.tmp 41) rfl (((w.alloc (.cells #[.int .i64 m.regs, .slice A1 n1 c1, .int .i64 m.ret, .slice A2 n2 c2] 25)).ext ux).ext u1) _ _ T1 rfl rfl ?e1 rfl ?e2 ?e3 HT1.out.2 ?_; rotate_left 3))
  case e1 => simp only [size_ext, World.size_alloc]
  case e2 => rw [HT1.out.1]; exact size_set
  case e3 => rw [HT1.out.1]; rfl
  obtain ⟨W, hW⟩ : ∃ W, W = ((((w.alloc (.cells #[.int .i64 m.regs, .slice A1 n1 c1, .int .i64 m.ret, .slice A2 n2 c2] 25)).ext ux).ext u1).alloc (.cells T1 65)) := ⟨_, rfl⟩
  have f0 : W.cell? ⟨w.heap.size, 0, none⟩ = some (.int .i64 m.regs) := by subst hW; go_simp
  have f2 : W.cell? ⟨w.heap.size, 2, none⟩ = some (.int .i64 m.ret) := by subst hW; go_simp
  have f3 : W.cell? ⟨w.heap.size, 3, none⟩ = some (.slice A2 n2 c2) := by subst hW; go_simp
  have FB := hide (show Below w.heap.size w W by subst hW; exact (by repeat (first | exact Below.refl _ _ | assumption | refine Below.alloc ?_ (by simp [size_ext]; try omega) _ | refine Below.ext ?_ (by simp [size_ext]; try omega) _ | refine Below.drew ?_ | refine Below.setCell ?_ (by simp [size_ext]; try omega) _)))
  have FS := hide (show w.heap.size + 1 ≤ W.heap.size by subst hW; simp [size_ext]; omega)
  have HS2 : Hd (Sl W S2 A2 n2 c2 m.saved) := hide (by subst hW; exact (by repeat (first | assumption | exact Hd.out (by assumption) | apply Sl.alloc | apply Sl.ext | apply Sl.drew | apply Sl.drewN)))
  rw [← hW]
  clear hW d1 d2 d3 d4 H1 H2
  have fsz : w.heap.size < W.heap.size := by have := FS.out; omega
  refine wp_region_flow_ext [13] [4, 7, 12] (by kernel_rfl) rfl (by kernel_rfl) ?_
  repeat (refine flow_known (by kernel_rfl) (fun K hK => ?_); go_simp; (first | (refine hK _ ?_; clear hK K) | (apply Exists.intro; refine ⟨fun _ => ?_, hK _ ?_⟩; (fail); clear hK K)))
  refine flow_keep0 (FullP 1 [m.ret]) (by kernel_rfl) (FullP.stable_ rfl) ?_ ?_
  · intro u
    go_simp
    exact ⟨FullP.lit (S := fun _ => True) rfl (by rw [size_ext]) (RepL.single ⟨rfl, HI.out⟩) rfl (by omega), onW_alloc rfl ⟨_, rfl⟩⟩
  repeat (refine flow_known (by kernel_rfl) (fun K hK => ?_); go_simp; (first | (refine hK _ ?_; clear hK K) | (apply Exists.intro; refine ⟨fun _ => ?_, hK _ ?_⟩; (fail); clear hK K)))
  refine flow_keep [true] (SlP (1 + n2) ([m.ret] ++ m.saved)) (by kernel_rfl) (SlP.stable_ rfl) ?_ ?_
  · intro u
    try simp only [List.nil_append, List.cons_append, useH_f, useH_t, useH_nil]
    rintro _ ⟨S, b, rfl, hs⟩
    refine HeldAt.push_full (α := Int) rfl (.tmp 48) (.tmp 50) 23 rfl 3 i0 _ 8 Tryz.underlying23 HI0.out HZ.out HZ1.out HZ2.out rfl (by decide) S S2 b 1 [m.ret] m.saved rfl hs A2 n2 c2 rfl (by repeat (first | assumption | exact Hd.out (by assumption) | apply Sl.alloc | apply Sl.ext | apply Sl.drew | apply Sl.drewN)) (by omega) (by omega) (fun x => onW_ext ⟨_, rfl⟩ ⟨x, rfl⟩)
  refine flow_keep [false, true] (PureP fun v => ∃ T : Array Value, v = .tuple #[.agg T, .bool (argsOk m.regs [] (m.ret :: m.saved))] ∧ IsSet T) (by kernel_rfl) (PureP.stable_ rfl) ?_ ?_
  · intro u
    try simp only [List.nil_append, List.cons_append, useH_f, useH_t, useH_nil]
    rintro _ ⟨S, A, c, rfl, hs⟩
    go_simp
    refine (of_any _ S A (1 + n2) c m.regs ([m.ret] ++ m.saved) hs q2).mono ?_
    rintro e _ ⟨T, rfl, hT, x, rfl⟩
    exact ⟨_, rfl, ⟨T, rfl, hT⟩, onW_ext ⟨_, rfl⟩ ⟨x, rfl⟩⟩
  refine flow_keep [false, false, true] (PureP fun v => ∃ T : Array Value, v = .tuple #[.agg T, .bool (argsOk m.regs [] (m.ret :: m.saved))] ∧ IsSet T) (by kernel_rfl) (PureP.stable_ rfl) ?_ ?_
  · intro u
    try simp only [List.nil_append, List.cons_append, useH_f, useH_t, useH_nil]
    rintro _ ⟨T, rfl, hT⟩
    go_simp
    exact ⟨⟨T, rfl, hT⟩, onW_same ⟨_, rfl⟩⟩
  refine flow_keep [false, false, false, true] (PureP fun v => ∃ T : Array Value, v = .agg T ∧ IsSet T) (by kernel_rfl) (PureP.stable_ rfl) ?_ ?_
  · intro u
    try simp only [List.nil_append, List.cons_append, useH_f, useH_t, useH_nil]
    rintro _ ⟨T, rfl, hT⟩
    go_simp
    exact ⟨⟨T, rfl, hT⟩, onW_same ⟨_, rfl⟩⟩
  refine flow_out [false, false, false, true, false] (.bool (argsOk m.regs [] (m.ret :: m.saved))) (by kernel_rfl) ?_ ?_
  · intro u
    try simp only [List.nil_append, List.cons_append, useH_f, useH_t, useH_nil]
    rintro _ ⟨T, rfl, hT⟩
    try simp only [List.nil_append, List.cons_append, useH_f, useH_t, useH_nil]
    go_simp
  refine flow_keep0 (NewP W.heap.size 64 65) (by kernel_rfl) (NewP.stable_ rfl) ?_ ?_
  · intro u
    go_simp
    exact ⟨NewP.mk_ rfl (by rw [size_ext]) (by omega) (by simp), onW_alloc rfl ⟨_, rfl⟩⟩
  refine flow_keep [false, false, false, false, true, true] (PureP fun _ => True) (by kernel_rfl) (PureP.stable_ rfl) ?_ ?_
  · intro u
    try simp only [List.nil_append, List.cons_append, useH_f, useH_t, useH_nil]
    rintro _ ⟨T, rfl, hT⟩
    try simp only [List.nil_append, List.cons_append, useH_f, useH_t, useH_nil]
    rintro _ ⟨g, rfl, hg, c, hc, hcs⟩
    exact HeldAt.store_new rfl 65 (.tmp 5) (.tmp 53) rfl g c T rfl rfl hg hc (by rw [hT.1]; rfl) (by rw [hcs, hT.1]) hT.2 ⟨u, rfl⟩
  repeat (refine flow_known (by kernel_rfl) (fun K hK => ?_); go_simp; (first | (refine hK _ ?_; clear hK K) | (apply Exists.intro; refine ⟨fun _ => ?_, hK _ ?_⟩; (fail); clear hK K)))
  refine flow_done [false, false, true, true, true, false, true] (by kernel_rfl) ?_
  intro uq
  simp only [List.nil_append, List.cons_append, endH_f, endH_t, endH_nil]
  rintro v1 v2 v3 _ v4 _ v5 _ v6 v7 _
  clear f0 f2 f3
  by_cases b1 : argsOk m.regs [] m.args = true
  · rw [b1]
    go_wp2; go_ret
    exact RetX.b (by rw [POS.out, b1]; simp) (Below.ext FB.out (by omega) uq)
  · have b1' : argsOk m.regs [] m.args = false := by simpa using b1
    rw [b1']
    go_wp2; go_ret
    exact RetX.b (by rw [POS.out, b1']; simp) (Below.ext FB.out (by omega) uq)
end Go.Proofs.YtcfimcghckjmeaaGreatDoor
