/- Walk: intarsiaref06.Right. -/
import Derived.Test.YtahblhiolkdnnaaW8
import Derived.Test.YtahblhiolkdnnaaW14
import Derived.Test.YtahblhiolkdnnaaW15
set_option linter.unusedSimpArgs false
set_option linter.unusedVariables false
namespace Go.Proofs.Ytahblhiolkdnnaa
open Go.RowKit
def inssR (m : Machine) (frame : Int) : List Ins → Int
  | [] => 0
  | i :: l => if insR m frame i = 0 then inssR m frame l else insR m frame i
def blocksR (m : Machine) (frame n : Int) : List Block → Int
  | [] => 0
  | b :: l => if inssR m frame b.ins = 0 then (if termP m n b.term = 0 then blocksR m frame n l else termP m n b.term) else inssR m frame b.ins
def longB (b : Block) : Bool := decide ((b.ins.length : Int) > 4000)
def longR (n : Nat) (frame : Int) : Bool := decide (n < 1) || decide ((n : Int) > 200) || !inB frame 0 400
def rightR (m : Machine) (t : Target) : Int :=
  if rightM m = false then 2 else if (longR t.blocks.length t.frame || anyF longB t.blocks) = true then 3 else blocksR m t.frame t.blocks.length t.blocks
theorem right5_eq {b : Bool} (w : World) (S1 S2 : Nat → Prop) (m : Machine) (A1 A2 : Option Addr) (n1 c1 n2 c2 : Nat) (h1 : Sl w S1 A1 n1 c1 m.args) (h2 : Sl w S2 A2 n2 c2 m.saved) (hb : rightM m = b) :
    Calls Try.prog 41 #[.agg #[.int .i64 m.regs, .slice A1 n1 c1, .int .i64 m.ret, .slice A2 n2 c2]] w (RetX (.bool b) w) := hb ▸ right5_any w S1 S2 m A1 A2 n1 c1 n2 c2 h1 h2
set_option maxHeartbeats 2000000 in
set_option maxRecDepth 8000 in
theorem right6_any (w : World) (S S1 S2 : Nat → Prop) (m : Machine) (A1 A2 : Option Addr) (n1 c1 n2 c2 : Nat) (h1 : Sl w S1 A1 n1 c1 m.args) (h2 : Sl w S2 A2 n2 c2 m.saved)
    (t : Target) (A : Option Addr) (n c : Nat) (h : Sl w S A n c t.blocks) :
    Calls Try.prog 16 #[.agg #[.int .i64 m.regs, .slice A1 n1 c1, .int .i64 m.ret, .slice A2 n2 c2], .agg #[.int .i64 t.frame, .slice A n c]] w (RetX (.int .i64 (rightR m t)) w) := by
  have hn := h.nle
  have HL := hide h.len
  have HM := hide h1.len
  go_enter Try.func16, Try.ntmps16
  go_wp2_with fail
  obtain ⟨W, hW⟩ : ∃ W, W = ((w.alloc (.cells #[.int .i64 m.regs, .slice A1 n1 c1, .int .i64 m.ret, .slice A2 n2 c2] 24)).alloc (.cells #[.int .i64 t.frame, .slice A n c] 27)) := ⟨_, rfl⟩
  have FB := hide (show Below w.heap.size w W by subst hW; exact (by repeat (first | exact Below.refl _ _ | assumption | refine Below.alloc ?_ (by simp [size_ext]; try omega) _ | refine Below.ext ?_ (by simp [size_ext]; try omega) _ | refine Below.drew ?_ | refine Below.setCell ?_ (by simp [size_ext]; try omega) _)))
  have FS := hide (show W.heap.size = w.heap.size + 1 + 1 by subst hW; simp)
  have p0 : W.cell? ⟨w.heap.size, 0, none⟩ = some (.int .i64 m.regs) := by subst hW; go_simp
  have p1 : W.cell? ⟨w.heap.size, 1, none⟩ = some (.slice A1 n1 c1) := by subst hW; go_simp
  have p2 : W.cell? ⟨w.heap.size, 2, none⟩ = some (.int .i64 m.ret) := by subst hW; go_simp
  have p3 : W.cell? ⟨w.heap.size, 3, none⟩ = some (.slice A2 n2 c2) := by subst hW; go_simp
  have q0 : W.cell? ⟨w.heap.size + 1, 0, none⟩ = some (.int .i64 t.frame) := by subst hW; go_simp
  have q1 : W.cell? ⟨w.heap.size + 1, 1, none⟩ = some (.slice A n c) := by subst hW; go_simp
  have fsz : w.heap.size < W.heap.size := by have := FS.out; omega
  have fsz1 : w.heap.size + 1 < W.heap.size := by have := FS.out; omega
  have fle : w.heap.size ≤ W.heap.size := by omega
  have H1 : Hd (Sl W S1 A1 n1 c1 m.args) := hide (by subst hW; exact (by repeat (first | assumption | exact Hd.out (by assumption) | apply Sl.alloc | apply Sl.ext | apply Sl.drew | apply Sl.drewN)))
  have H2 : Hd (Sl W S2 A2 n2 c2 m.saved) := hide (by subst hW; exact (by repeat (first | assumption | exact Hd.out (by assumption) | apply Sl.alloc | apply Sl.ext | apply Sl.drew | apply Sl.drewN)))
  have HB : Hd (Sl W S A n c t.blocks) := hide (by subst hW; exact (by repeat (first | assumption | exact Hd.out (by assumption) | apply Sl.alloc | apply Sl.ext | apply Sl.drew | apply Sl.drewN)))
  rw [← hW]
  clear hW h h1 h2
  by_cases hr : rightM m = false
  · have HR := hide hr
    clear hr
    go_wp2_with (go_at_call 41; refine (right5_eq _ S1 S2 m A1 A2 n1 c1 n2 c2 H1.out H2.out HR.out).mono ?_; rintro e _ ⟨rfl, ux, rfl⟩)
    go_ret; exact RetX.i (by unfold rightR; rw [if_pos HR.out]) (by repeat (first | exact Below.refl _ _ | assumption | exact Hd.out (by assumption) | refine Below.alloc ?_ (by first | omega | (simp [size_ext]; try omega)) _ | refine Below.ext ?_ (by first | omega | (simp [size_ext]; try omega)) _ | refine Below.drew ?_ | refine Below.setCell ?_ (by first | omega | (simp [size_ext]; try omega)) _))
  have HR := hide (show rightM m = true by simpa using hr)
  clear hr
  have hregs : 1 ≤ m.regs ∧ m.regs ≤ 64 := by
    have := HR.out
    simp only [rightM, Bool.and_eq_true, decide_eq_true_eq] at this
    exact ⟨this.1.1.1.1.1.1.1.1, this.1.1.1.1.1.1.1.2⟩
  have HREG := hide hregs
  clear hregs
  go_upto_region 3 with (go_at_call 41; refine (right5_eq _ S1 S2 m A1 A2 n1 c1 n2 c2 H1.out H2.out HR.out).mono ?_; rintro e _ ⟨rfl, ux, rfl⟩)
  go_cut [5] from 11 to 29 (fun s5 wc => s5 = .bool (longR n t.frame) ∧ wc = W.ext ux)
  case first =>
    obtain ⟨zn, hzn⟩ : ∃ z : Bool, decide (n < 1) = z := ⟨_, rfl⟩
    have hzn1 : n < 1 ↔ zn = true := by subst hzn; simp
    have hzn2 : decide ((n : Int) < 1) = zn := by subst hzn; simp; omega
    have hzn3 : ((n : Int) < 1) ↔ zn = true := by subst hzn; simp; omega
    go_wp2_with (go_at_call 42; refine (inb_any _ _ _ _).mono ?_; rintro e w' ⟨rfl, rfl⟩)
    all_goals (go_meet; exact ⟨congrArg Value.bool (by unfold longR; simp [*]), rfl⟩)
  case rest =>
  obtain ⟨rfl, rfl⟩ := hcut
  go_wp2_with fail
  go_loop [5, 6] (fun a i => ∃ k : Nat, ∃ l : Bool, k ≤ n ∧ i = .int .i64 k ∧ a = .bool l ∧ (longR n t.frame || anyF longB t.blocks) = (l || anyF longB (t.blocks.drop k))) (fun _ i => n - (intOf i).toNat)
  case atStart => exact ⟨0, _, Nat.zero_le _, rfl, rfl, rfl⟩
  case round =>
    obtain ⟨k, l, hk, rfl, rfl, hr⟩ := hrel
    have HRk := hide hr; clear hr
    cases l with
    | true =>
      have R3 := hide (show rightR m t = 3 by unfold rightR; rw [if_neg (by rw [HR.out]; simp), HL.out, if_pos (by rw [HRk.out]; rfl)])
      by_cases hlt : k < n
      · go_wp2_with fail
        go_ret; exact RetX.i R3.out.symm (by repeat (first | exact Below.refl _ _ | assumption | exact Hd.out (by assumption) | refine Below.alloc ?_ (by first | omega | (simp [size_ext]; try omega)) _ | refine Below.ext ?_ (by first | omega | (simp [size_ext]; try omega)) _ | refine Below.drew ?_ | refine Below.setCell ?_ (by first | omega | (simp [size_ext]; try omega)) _))
      · go_wp2_with fail
        go_ret; exact RetX.i R3.out.symm (by repeat (first | exact Below.refl _ _ | assumption | exact Hd.out (by assumption) | refine Below.alloc ?_ (by first | omega | (simp [size_ext]; try omega)) _ | refine Below.ext ?_ (by first | omega | (simp [size_ext]; try omega)) _ | refine Below.drew ?_ | refine Below.setCell ?_ (by first | omega | (simp [size_ext]; try omega)) _))
    | false =>
      by_cases hlt : k < n
      · obtain ⟨b, off, x, AI, nI, cI, rfl, hb, hx, hins, -, -, -, -, z0, -, -, -, -⟩ := at_Block HB.out hlt
        have HN := hide hins.len; clear hins
        have HX := hide (drop_at hx); clear hx
        go_wp2_with fail
        go_round
        case rel => exact ⟨k + 1, _, by omega, by go_num, rfl, by rw [HRk.out, HX.out]; simp [anyF, longB, HN.out]⟩
        case measure => simp [intOf]; omega
      · have R4 := hide (show rightR m t = blocksR m t.frame n t.blocks by unfold rightR; rw [if_neg (by rw [HR.out]; simp), HL.out, if_neg (by rw [HRk.out, drop_end HL.out hlt]; simp [anyF])])
        have hL0 : longR n t.frame = false := by have := HRk.out; rw [drop_end HL.out hlt] at this; simp [anyF] at this; exact this.1
        have hfr : 0 ≤ t.frame ∧ t.frame ≤ 400 := by simp only [longR, Bool.or_eq_false_iff] at hL0; simpa [inB] using hL0.2
        have hnn : 1 ≤ n ∧ n ≤ 200 := by simp only [longR, Bool.or_eq_false_iff, decide_eq_false_iff_not] at hL0; omega
        have HFR := hide hfr
        clear hL0 hfr
        go_wp2_with fail
        go_loopw [7] (fun i wr => ∃ k : Nat, k ≤ n ∧ i = .int .i64 k ∧ blocksR m t.frame n t.blocks = blocksR m t.frame n (t.blocks.drop k) ∧ ∃ u, wr = W.ext u) (fun i _ => n - (intOf i).toNat)
        case atStart => exact ⟨0, Nat.zero_le _, rfl, rfl, _, rfl⟩
        case round =>
          obtain ⟨k, hk, rfl, hr, u, rfl⟩ := hrel
          have HRk := hide hr; clear hr
          by_cases hlt : k < n
          · obtain ⟨b, off, x, AI, nI, cI, rfl, hb, hx, hins, -, -, -, -, z0, z1, z2, z3, z4⟩ := at_Block HB.out hlt
            have HN := hide hins.len
            have hnI := hins.nle
            have HX := hide (drop_at hx); clear hx
            have HII := hide hins; clear hins
            go_wp2_with fail
            go_loopw [8] (fun i wr => ∃ j : Nat, j ≤ nI ∧ i = .int .i64 j ∧ inssR m t.frame x.ins = inssR m t.frame (x.ins.drop j) ∧ ∃ v, wr = W.ext v) (fun i _ => nI - (intOf i).toNat)
            case atStart => exact ⟨0, Nat.zero_le _, rfl, rfl, _, rfl⟩
            case round =>
              obtain ⟨j, hj, rfl, hr, v, rfl⟩ := hrel
              have HRj := hide hr; clear hr
              by_cases hjt : j < nI
              · obtain ⟨b', off', y, Ay, ny, cy, rfl, hb', hy, -, -, -, -, -, -, hargs, -, d0, d1, d2, d3, d4, d5, d6, d7⟩ := at_Ins HII.out hjt
                have HY := hide (drop_at hy); clear hy
                have HYA := hide hargs.len; clear hargs
                go_wp2_with fail
                refine wp_region_ext (by kernel_rfl) (by kernel_rfl) ?_
                repeat (any_goals (first | go_big_quiet_step (((go_at_call 43; exact quiet_retx (ins6_any _ S m t.frame A1 n1 c1 (.slice A2 n2 c2) y Ay ny cy HYA.out HM.out HREG.out HFR.out)))) | quiet_step (((go_at_call 43; exact quiet_retx (ins6_any _ S m t.frame A1 n1 c1 (.slice A2 n2 c2) y Ay ny cy HYA.out HM.out HREG.out HFR.out))))))
                refine wpQuiet_nil ?_
                rintro _ ⟨uq, rfl⟩
                go_wp2_with fail
                · rename_i e
                  go_ret
                  have e' : insR m t.frame y ≠ 0 := by simpa using e
                  have ei : inssR m t.frame x.ins = insR m t.frame y := by rw [HRj.out, HY.out]; simp only [inssR]; rw [if_neg e']
                  exact RetX.i (by rw [R4.out, HRk.out, HX.out]; simp only [blocksR]; rw [ei, if_neg e']) (by repeat (first | exact Below.refl _ _ | assumption | exact Hd.out (by assumption) | refine Below.alloc ?_ (by first | omega | (simp [size_ext]; try omega)) _ | refine Below.ext ?_ (by first | omega | (simp [size_ext]; try omega)) _ | refine Below.drew ?_ | refine Below.setCell ?_ (by first | omega | (simp [size_ext]; try omega)) _))
                · rename_i e
                  have e' : insR m t.frame y = 0 := by simpa using e
                  go_roundw
                  case rel => exact ⟨j + 1, by omega, by go_num, by rw [HRj.out, HY.out]; simp only [inssR]; rw [if_pos e'], Below.to_ext (by repeat (first | exact Below.refl _ _ | assumption | exact Hd.out (by assumption) | refine Below.alloc ?_ (by first | omega | (simp [size_ext]; try omega)) _ | refine Below.ext ?_ (by first | omega | (simp [size_ext]; try omega)) _ | refine Below.drew ?_ | refine Below.setCell ?_ (by first | omega | (simp [size_ext]; try omega)) _))⟩
                  case measure => simp [intOf]; omega
              · have hz : inssR m t.frame x.ins = 0 := by rw [HRj.out, drop_end HN.out hjt]; rfl
                have HZ := hide hz
                clear hz
                have hbl : 1 ≤ (n : Int) ∧ (n : Int) ≤ 200 := by omega
                have HBL := hide hbl
                clear hbl
                go_wp2_with fail
                refine wp_region_ext (by kernel_rfl) (by kernel_rfl) ?_
                repeat (any_goals (first | go_big_quiet_step (((go_at_call 44; exact quiet_retx (term6_any _ m n (.slice A1 n1 c1) (.slice A2 n2 c2) x.term HREG.out HBL.out)))) | quiet_step (((go_at_call 44; exact quiet_retx (term6_any _ m n (.slice A1 n1 c1) (.slice A2 n2 c2) x.term HREG.out HBL.out))))))
                refine wpQuiet_nil ?_
                rintro _ ⟨uq, rfl⟩
                go_wp2_with fail
                · rename_i e
                  go_ret
                  have e' : termP m n x.term ≠ 0 := by simpa using e
                  exact RetX.i (by rw [R4.out, HRk.out, HX.out]; simp only [blocksR]; rw [HZ.out, if_pos rfl, if_neg e']) (by repeat (first | exact Below.refl _ _ | assumption | exact Hd.out (by assumption) | refine Below.alloc ?_ (by first | omega | (simp [size_ext]; try omega)) _ | refine Below.ext ?_ (by first | omega | (simp [size_ext]; try omega)) _ | refine Below.drew ?_ | refine Below.setCell ?_ (by first | omega | (simp [size_ext]; try omega)) _))
                · rename_i e
                  have e' : termP m n x.term = 0 := by simpa using e
                  go_roundw
                  case rel => exact ⟨k + 1, by omega, by go_num, by rw [HRk.out, HX.out]; simp only [blocksR]; rw [HZ.out, if_pos rfl, if_pos e'], Below.to_ext (by repeat (first | exact Below.refl _ _ | assumption | exact Hd.out (by assumption) | refine Below.alloc ?_ (by first | omega | (simp [size_ext]; try omega)) _ | refine Below.ext ?_ (by first | omega | (simp [size_ext]; try omega)) _ | refine Below.drew ?_ | refine Below.setCell ?_ (by first | omega | (simp [size_ext]; try omega)) _))⟩
                  case measure => simp [intOf]; omega
          · go_wp2
            go_ret
            exact RetX.i (by rw [R4.out, HRk.out, drop_end HL.out hlt]; rfl) (by repeat (first | exact Below.refl _ _ | assumption | exact Hd.out (by assumption) | refine Below.alloc ?_ (by first | omega | (simp [size_ext]; try omega)) _ | refine Below.ext ?_ (by first | omega | (simp [size_ext]; try omega)) _ | refine Below.drew ?_ | refine Below.setCell ?_ (by first | omega | (simp [size_ext]; try omega)) _))
end Go.Proofs.Ytahblhiolkdnnaa
