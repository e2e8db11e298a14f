/- Walk: mir.Right. Walk: mach.Lost. Equality of arrays of bools. -/
import Derived.Test.YtkjipgelbjaggaaM19
import Derived.Test.YtkjipgelbjaggaaM10
import Derived.Test.YtkjipgelbjaggaaM21
import Derived.Test.YtkjipgelbjaggaaM20
import Derived.Test.YtkjipgelbjaggaaM00
import Derived.ChangeKeysEq
set_option linter.unusedSimpArgs false
set_option linter.unusedVariables false
namespace Go.Proofs.Ytkjipgelbjaggaa
open Go.RowKit
theorem rightm_eq {b : Bool} (w : World) (S1 S2 : Nat → Prop) (m : Machine) (A1 A2 : Option Addr) (n1 c1 n2 c2 : Nat) (h1 : Sl w S1 A1 n1 c1 m.args) (h2 : Sl w S2 A2 n2 c2 m.saved) (hi : InI m.ret) (hb : rightM m = b) :
    Calls Try.prog 61 #[.agg #[.int .i64 m.regs, .slice A1 n1 c1, .int .i64 m.ret, .slice A2 n2 c2]] w (RetX (.bool b) w) := hb ▸ rightm_any w S1 S2 m A1 A2 n1 c1 n2 c2 h1 h2 hi
set_option maxHeartbeats 2000000 in
set_option maxRecDepth 8000 in
theorem right_any (w : World) (S S1 S2 : Nat → Prop) (m : Machine) (A1 A2 : Option Addr) (n1 c1 n2 c2 : Nat) (h1 : Sl w S1 A1 n1 c1 m.args) (h2 : Sl w S2 A2 n2 c2 m.saved) (hi : InI m.ret)
    (t : Target) (A : Option Addr) (n c : Nat) (h : Sl w S A n c t.blocks) :
    Calls Try.prog 39 #[.agg #[.int .i64 m.regs, .slice A1 n1 c1, .int .i64 m.ret, .slice A2 n2 c2], .agg #[.int .i64 t.frame, .slice A n c]] w (RetX (.int .i64 (rightT m t)) w) := by
  have hn := h.nle
  have HL := hide h.len
  have HM := hide h1.len
  have HI := hide hi
  go_enter Try.func39, Try.ntmps39
  go_wp2_with fail
  obtain ⟨W, hW⟩ : ∃ W, W = ((w.alloc (.cells #[.int .i64 m.regs, .slice A1 n1 c1, .int .i64 m.ret, .slice A2 n2 c2] 24)).alloc (.cells #[.int .i64 t.frame, .slice A n c] 27)) := ⟨_, rfl⟩
  have FB := hide (show Below w.heap.size w W by subst hW; exact (by repeat (first | exact Below.refl _ _ | assumption | refine Below.alloc ?_ (by simp [size_ext]; try omega) _ | refine Below.ext ?_ (by simp [size_ext]; try omega) _ | refine Below.drew ?_ | refine Below.setCell ?_ (by simp [size_ext]; try omega) _)))
  have FS := hide (show W.heap.size = w.heap.size + 1 + 1 by subst hW; simp)
  have p0 : W.cell? ⟨w.heap.size, 0, none⟩ = some (.int .i64 m.regs) := by subst hW; go_simp
  have p1 : W.cell? ⟨w.heap.size, 1, none⟩ = some (.slice A1 n1 c1) := by subst hW; go_simp
  have p2 : W.cell? ⟨w.heap.size, 2, none⟩ = some (.int .i64 m.ret) := by subst hW; go_simp
  have p3 : W.cell? ⟨w.heap.size, 3, none⟩ = some (.slice A2 n2 c2) := by subst hW; go_simp
  have q0 : W.cell? ⟨w.heap.size + 1, 0, none⟩ = some (.int .i64 t.frame) := by subst hW; go_simp
  have q1 : W.cell? ⟨w.heap.size + 1, 1, none⟩ = some (.slice A n c) := by subst hW; go_simp
  have fsz : w.heap.size < W.heap.size := by have := FS.out; omega
  have fsz1 : w.heap.size + 1 < W.heap.size := by have := FS.out; omega
  have H1 : Hd (Sl W S1 A1 n1 c1 m.args) := hide (by subst hW; exact (by repeat (first | assumption | exact Hd.out (by assumption) | apply Sl.alloc | apply Sl.ext | apply Sl.drew | apply Sl.drewN)))
  have H2 : Hd (Sl W S2 A2 n2 c2 m.saved) := hide (by subst hW; exact (by repeat (first | assumption | exact Hd.out (by assumption) | apply Sl.alloc | apply Sl.ext | apply Sl.drew | apply Sl.drewN)))
  have HB : Hd (Sl W S A n c t.blocks) := hide (by subst hW; exact (by repeat (first | assumption | exact Hd.out (by assumption) | apply Sl.alloc | apply Sl.ext | apply Sl.drew | apply Sl.drewN)))
  rw [← hW]
  clear hW h h1 h2 hi
  by_cases hr : rightM m = false
  · have HR := hide hr
    clear hr
    go_wp2_with (go_at_call 61; refine (rightm_eq _ S1 S2 m A1 A2 n1 c1 n2 c2 H1.out H2.out HI.out HR.out).mono ?_; rintro e _ ⟨rfl, ux, rfl⟩)
    go_ret; exact RetX.i (by unfold rightT; rw [if_pos HR.out]) (by repeat (first | exact Below.refl _ _ | assumption | exact Hd.out (by assumption) | refine Below.alloc ?_ (by first | omega | (simp [size_ext]; try omega)) _ | refine Below.ext ?_ (by first | omega | (simp [size_ext]; try omega)) _ | refine Below.drew ?_ | refine Below.setCell ?_ (by first | omega | (simp [size_ext]; try omega)) _))
  have HR := hide (show rightM m = true by simpa using hr)
  clear hr
  go_wp2_with (first | (go_at_call 61; refine (rightm_eq _ S1 S2 m A1 A2 n1 c1 n2 c2 H1.out H2.out HI.out HR.out).mono ?_; rintro e _ ⟨rfl, ux, rfl⟩) | (go_at_call 62; refine (containsBlocks_any _ S A n c t.blocks (by repeat (first | assumption | exact Hd.out (by assumption) | apply Sl.alloc | apply Sl.ext | apply Sl.drew | apply Sl.drewN))).mono ?_; rintro e _ ⟨rfl, ux, rfl⟩))
  · rename_i e; go_ret; exact RetX.i (by unfold rightT; rw [HR.out]; simp at e; simp [HL.out, e]) (by repeat (first | exact Below.refl _ _ | assumption | exact Hd.out (by assumption) | refine Below.alloc ?_ (by first | omega | (simp [size_ext]; try omega)) _ | refine Below.ext ?_ (by first | omega | (simp [size_ext]; try omega)) _ | refine Below.drew ?_ | refine Below.setCell ?_ (by first | omega | (simp [size_ext]; try omega)) _))
  · rename_i e' _ e; go_ret; exact RetX.i (by unfold rightT; rw [HR.out]; simp at e'; rw [if_neg (by simp), HL.out, if_neg e', if_pos (by omega)]) (by repeat (first | exact Below.refl _ _ | assumption | exact Hd.out (by assumption) | refine Below.alloc ?_ (by first | omega | (simp [size_ext]; try omega)) _ | refine Below.ext ?_ (by first | omega | (simp [size_ext]; try omega)) _ | refine Below.drew ?_ | refine Below.setCell ?_ (by first | omega | (simp [size_ext]; try omega)) _))
  · rename_i e'' e' _ e; go_ret; exact RetX.i (by unfold rightT; rw [HR.out]; simp at e''; rw [if_neg (by simp), HL.out, if_neg e'', if_neg (by omega), if_pos (by omega)]) (by repeat (first | exact Below.refl _ _ | assumption | exact Hd.out (by assumption) | refine Below.alloc ?_ (by first | omega | (simp [size_ext]; try omega)) _ | refine Below.ext ?_ (by first | omega | (simp [size_ext]; try omega)) _ | refine Below.drew ?_ | refine Below.setCell ?_ (by first | omega | (simp [size_ext]; try omega)) _))
  · rename_i e3 e'' e' e; go_ret; exact RetX.i (by unfold rightT; rw [HR.out]; simp at e3; rw [if_neg (by simp), HL.out, if_neg e3, if_neg (by omega), if_neg (by omega), if_pos e]) (by repeat (first | exact Below.refl _ _ | assumption | exact Hd.out (by assumption) | refine Below.alloc ?_ (by first | omega | (simp [size_ext]; try omega)) _ | refine Below.ext ?_ (by first | omega | (simp [size_ext]; try omega)) _ | refine Below.drew ?_ | refine Below.setCell ?_ (by first | omega | (simp [size_ext]; try omega)) _))
  rename_i u1 e3 e2 e1 e0 _ _
  have R := hide (show rightT m t = blocksP m t.frame n t.blocks by unfold rightT; rw [HR.out]; simp at e3; rw [if_neg (by simp), HL.out, if_neg e3, if_neg (by omega), if_neg (by omega), if_neg (by rw [e0]; simp)])
  clear e3 e2 e1 e0
  obtain ⟨G, hG⟩ : ∃ G, G = W.heap.size + u1.blocks.size + ux.blocks.size := ⟨_, rfl⟩
  obtain ⟨W3, hW3⟩ : ∃ W3, W3 = ((W.ext u1).ext ux).alloc (.cells #[.int .i64 m.regs, .slice A1 n1 c1, .int .i64 m.ret, .slice A2 n2 c2, .int .i64 t.frame, .int .i64 n] 137) := ⟨_, rfl⟩
  have FB3 := hide (show Below w.heap.size w W3 by subst hW3; exact (by repeat (first | exact Below.refl _ _ | assumption | exact Hd.out (by assumption) | refine Below.alloc ?_ (by first | omega | (simp [size_ext]; try omega)) _ | refine Below.ext ?_ (by first | omega | (simp [size_ext]; try omega)) _ | refine Below.drew ?_ | refine Below.setCell ?_ (by first | omega | (simp [size_ext]; try omega)) _)))
  have fs3 : w.heap.size ≤ W3.heap.size := by subst hW3; simp [size_ext]; omega
  have fG : G < W3.heap.size := by subst hW3 hG; simp [size_ext]
  have g0 : W3.cell? ⟨G, 0, none⟩ = some (.int .i64 m.regs) := by subst hW3 hG; go_simp
  have g1 : W3.cell? ⟨G, 1, none⟩ = some (.slice A1 n1 c1) := by subst hW3 hG; go_simp
  have g2 : W3.cell? ⟨G, 2, none⟩ = some (.int .i64 m.ret) := by subst hW3 hG; go_simp
  have g3 : W3.cell? ⟨G, 3, none⟩ = some (.slice A2 n2 c2) := by subst hW3 hG; go_simp
  have g4 : W3.cell? ⟨G, 4, none⟩ = some (.int .i64 t.frame) := by subst hW3 hG; go_simp
  have g5 : W3.cell? ⟨G, 5, none⟩ = some (.int .i64 n) := by subst hW3 hG; go_simp
  have HB3 : Hd (Sl W3 S A n c t.blocks) := hide (by subst hW3; exact (by repeat (first | assumption | exact Hd.out (by assumption) | apply Sl.alloc | apply Sl.ext | apply Sl.drew | apply Sl.drewN)))
  rw [← hW3]
  simp only [← hG]
  clear hW3 hG p0 p1 p2 p3 q0 q1 fsz fsz1 H1 H2 HB FB FS
  go_loopw [44] (fun i wr => ∃ k : Nat, k ≤ n ∧ i = .int .i64 k ∧ blocksP m t.frame n t.blocks = blocksP m t.frame n (t.blocks.drop k) ∧ ∃ u, wr = W3.ext u) (fun i _ => n - (intOf i).toNat)
  case atStart => exact ⟨0, Nat.zero_le _, rfl, rfl, ext_refl _⟩
  case round =>
    obtain ⟨k, hk, rfl, hr, u, rfl⟩ := hrel
    have HRk := hide hr; clear hr
    by_cases hlt : k < n
    · obtain ⟨b, off, x, AI, nI, cI, rfl, hb, hx, hins, it1, it2, it3, it4, z0, z1, z2, z3, z4⟩ := at_Block HB3.out hlt
      have HN := hide hins.len
      have hnI := hins.nle
      have HX := hide (drop_at hx); clear hx
      have IT := hide (And.intro it2 (And.intro it3 it4)); clear it1 it2 it3 it4
      have HII := hide hins; clear hins
      go_wp2
      obtain ⟨g', hg'⟩ : ∃ g', g' = W3.heap.size + u.blocks.size := ⟨_, rfl⟩
      obtain ⟨W4, hW4⟩ : ∃ W4, W4 = (W3.ext u).alloc (.cells #[.slice AI nI cI, .int .i64 x.term.kind, .int .i64 x.term.a, .int .i64 x.term.to0, .int .i64 x.term.to1] 60) := ⟨_, rfl⟩
      have FB4 := hide (show Below w.heap.size w W4 by subst hW4; exact (by repeat (first | exact Below.refl _ _ | assumption | exact Hd.out (by assumption) | refine Below.alloc ?_ (by first | omega | (simp [size_ext]; try omega)) _ | refine Below.ext ?_ (by first | omega | (simp [size_ext]; try omega)) _ | refine Below.drew ?_ | refine Below.setCell ?_ (by first | omega | (simp [size_ext]; try omega)) _)))
      have FB43 := hide (show Below W3.heap.size W3 W4 by subst hW4; exact (by repeat (first | exact Below.refl _ _ | assumption | exact Hd.out (by assumption) | refine Below.alloc ?_ (by first | omega | (simp [size_ext]; try omega)) _ | refine Below.ext ?_ (by first | omega | (simp [size_ext]; try omega)) _ | refine Below.drew ?_ | refine Below.setCell ?_ (by first | omega | (simp [size_ext]; try omega)) _)))
      have fs4 : w.heap.size ≤ W4.heap.size := by subst hW4; simp [size_ext]; omega
      have fs43 : W3.heap.size ≤ W4.heap.size := by subst hW4; simp [size_ext]; omega
      have fg' : g' < W4.heap.size := by subst hW4 hg'; simp [size_ext]
      have fG4 : G < W4.heap.size := by omega
      have f0 : W4.cell? ⟨G, 0, none⟩ = some (.int .i64 m.regs) := by subst hW4; go_simp
      have f1 : W4.cell? ⟨G, 1, none⟩ = some (.slice A1 n1 c1) := by subst hW4; go_simp
      have f2 : W4.cell? ⟨G, 2, none⟩ = some (.int .i64 m.ret) := by subst hW4; go_simp
      have f3 : W4.cell? ⟨G, 3, none⟩ = some (.slice A2 n2 c2) := by subst hW4; go_simp
      have f4 : W4.cell? ⟨G, 4, none⟩ = some (.int .i64 t.frame) := by subst hW4; go_simp
      have f5 : W4.cell? ⟨G, 5, none⟩ = some (.int .i64 n) := by subst hW4; go_simp
      have b1 : W4.cell? ⟨g', 1, none⟩ = some (.int .i64 x.term.kind) := by subst hW4 hg'; go_simp
      have b2 : W4.cell? ⟨g', 2, none⟩ = some (.int .i64 x.term.a) := by subst hW4 hg'; go_simp
      have b3 : W4.cell? ⟨g', 3, none⟩ = some (.int .i64 x.term.to0) := by subst hW4 hg'; go_simp
      have b4 : W4.cell? ⟨g', 4, none⟩ = some (.int .i64 x.term.to1) := by subst hW4 hg'; go_simp
      have HI4 : Hd (Sl W4 S AI nI cI x.ins) := hide (by subst hW4; exact (by repeat (first | assumption | exact Hd.out (by assumption) | apply Sl.alloc | apply Sl.ext | apply Sl.drew | apply Sl.drewN)))
      have XB : ∀ e, inssP m t.frame x.ins = e → e ≠ 0 → rightT m t = e := fun e h1 h2 => by rw [R.out, HRk.out, HX.out]; simp only [blocksP]; rw [h1, if_neg h2]
      have XT : ∀ e, inssP m t.frame x.ins = 0 → termP m n x.term = e → e ≠ 0 → rightT m t = e := fun e h0 h1 h2 => by rw [R.out, HRk.out, HX.out]; simp only [blocksP]; rw [if_pos h0, h1, if_neg h2]
      have XN : inssP m t.frame x.ins = 0 → termP m n x.term = 0 → blocksP m t.frame n t.blocks = blocksP m t.frame n (t.blocks.drop (k + 1)) := fun h0 h1 => by rw [HRk.out, HX.out]; simp only [blocksP]; rw [if_pos h0, if_pos h1]
      have XBh := hide XB; have XTh := hide XT; have XNh := hide XN
      clear XB XT XN
      rw [← hW4]
      simp only [← hg']
      clear hW4 hg' z0 z1 z2 z3 z4
      go_loopw [51] (fun i wr => ∃ j : Nat, j ≤ nI ∧ i = .int .i64 j ∧ inssP m t.frame x.ins = inssP m t.frame (x.ins.drop j) ∧ ∃ v, wr = W4.ext v) (fun i _ => nI - (intOf i).toNat)
      case atStart => exact ⟨0, Nat.zero_le _, rfl, rfl, ext_refl _⟩
      case round =>
        obtain ⟨j, hj, rfl, hr, v, rfl⟩ := hrel
        have HRj := hide hr; clear hr
        by_cases hjt : j < nI
        · obtain ⟨b', off', y, Ay, ny, cy, rfl, hb', hy, -, iy1, iy2, iy3, -, -, hargs, -, d0, d1, d2, d3, d4, d5, d6, d7⟩ := at_Ins HI4.out hjt
          have HY := hide (drop_at hy); clear hy
          have HYA := hide hargs; clear hargs
          have IY := hide (And.intro iy1 (And.intro iy2 iy3)); clear iy1 iy2 iy3
          go_wp2_with (go_at_call 63; refine (fins_any _ S m t.frame n A1 n1 c1 (.slice A2 n2 c2) y Ay ny cy (by repeat (first | assumption | exact Hd.out (by assumption) | apply Sl.alloc | apply Sl.ext | apply Sl.drew | apply Sl.drewN)) HM.out IY.out).mono ?_; rintro e _ ⟨rfl, ux, rfl⟩)
          · rename_i e
            go_ret
            have e' : insP m t.frame y ≠ 0 := by simpa using e
            exact RetX.i (XBh.out _ (by rw [HRj.out, HY.out]; simp only [inssP]; rw [if_neg e']) e').symm (by repeat (first | exact Below.refl _ _ | assumption | exact Hd.out (by assumption) | refine Below.alloc ?_ (by first | omega | (simp [size_ext]; try omega)) _ | refine Below.ext ?_ (by first | omega | (simp [size_ext]; try omega)) _ | refine Below.drew ?_ | refine Below.setCell ?_ (by first | omega | (simp [size_ext]; try omega)) _))
          · rename_i e
            have e' : insP m t.frame y = 0 := by simpa using e
            go_roundw
            case rel => exact ⟨j + 1, by omega, by go_num, by rw [HRj.out, HY.out]; simp only [inssP]; rw [if_pos e'], Below.to_ext (by repeat (first | exact Below.refl _ _ | assumption | exact Hd.out (by assumption) | refine Below.alloc ?_ (by first | omega | (simp [size_ext]; try omega)) _ | refine Below.ext ?_ (by first | omega | (simp [size_ext]; try omega)) _ | refine Below.drew ?_ | refine Below.setCell ?_ (by first | omega | (simp [size_ext]; try omega)) _))⟩
            case measure => simp [intOf]; omega
        · have hz : inssP m t.frame x.ins = 0 := by rw [HRj.out, drop_end HN.out hjt]; rfl
          go_wp2_with (go_at_call 64; refine (fterm_any _ m t.frame n (.slice A1 n1 c1) (.slice A2 n2 c2) x.term IT.out).mono ?_; rintro e _ ⟨rfl, ux, rfl⟩)
          · rename_i e
            go_ret
            have e' : termP m n x.term ≠ 0 := by simpa using e
            exact RetX.i (XTh.out _ hz rfl e').symm (by repeat (first | exact Below.refl _ _ | assumption | exact Hd.out (by assumption) | refine Below.alloc ?_ (by first | omega | (simp [size_ext]; try omega)) _ | refine Below.ext ?_ (by first | omega | (simp [size_ext]; try omega)) _ | refine Below.drew ?_ | refine Below.setCell ?_ (by first | omega | (simp [size_ext]; try omega)) _))
          · rename_i e
            have e' : termP m n x.term = 0 := by simpa using e
            go_roundw
            case rel => exact ⟨k + 1, by omega, by go_num, XNh.out hz e', Below.to_ext (by repeat (first | exact Below.refl _ _ | assumption | exact Hd.out (by assumption) | refine Below.alloc ?_ (by first | omega | (simp [size_ext]; try omega)) _ | refine Below.ext ?_ (by first | omega | (simp [size_ext]; try omega)) _ | refine Below.drew ?_ | refine Below.setCell ?_ (by first | omega | (simp [size_ext]; try omega)) _))⟩
            case measure => simp [intOf]; omega
    · go_wp2
      go_ret
      exact RetX.i (by rw [R.out, HRk.out, drop_end HL.out hlt]; rfl) (by repeat (first | exact Below.refl _ _ | assumption | exact Hd.out (by assumption) | refine Below.alloc ?_ (by first | omega | (simp [size_ext]; try omega)) _ | refine Below.ext ?_ (by first | omega | (simp [size_ext]; try omega)) _ | refine Below.drew ?_ | refine Below.setCell ?_ (by first | omega | (simp [size_ext]; try omega)) _))
end Go.Proofs.Ytkjipgelbjaggaa
set_option linter.unusedSimpArgs false
set_option linter.unusedVariables false
namespace Go.Proofs.Ytkjipgelbjaggaa
open Go.RowKit
theorem lostM_no {m : Machine} (h : rightM m = false) : lostM m = [] := by unfold lostM; rw [h]; rfl
theorem rightM_parts {m : Machine} (h : rightM m = true) : 1 ≤ m.regs ∧ m.regs ≤ 64 ∧ argsOk m.regs [] m.saved = true := by
  rw [← rightP_eq] at h
  simp only [rightP, Bool.and_eq_true, decide_eq_true_eq] at h
  obtain ⟨⟨⟨⟨⟨a1, a2⟩, a3⟩, a4⟩, a5⟩, a6, a7⟩ := h
  refine ⟨a1, a2, ?_⟩
  rw [argsOk_iff] at a7 ⊢
  obtain ⟨b1, b2⟩ := a7
  exact ⟨by first | exact fun x hx => ⟨(b1 x (.inr hx)).1, (b1 x (.inr hx)).2.1, by simp⟩ | exact fun x hx => ⟨(b1 x (List.mem_cons_of_mem _ hx)).1, (b1 x (List.mem_cons_of_mem _ hx)).2.1, by simp⟩, (List.nodup_cons.1 b2).2⟩
set_option maxHeartbeats 4000000 in
set_option maxRecDepth 8000 in
theorem lost_any (w : World) (S1 S2 : Nat → Prop) (m : Machine) (A1 A2 : Option Addr) (n1 c1 n2 c2 : Nat) (h1 : Sl w S1 A1 n1 c1 m.args) (h2 : Sl w S2 A2 n2 c2 m.saved) (hi : InI m.ret) (hR : rightM m = false) :
    Calls Try.prog 100 #[.agg #[.int .i64 m.regs, .slice A1 n1 c1, .int .i64 m.ret, .slice A2 n2 c2]] w (RetO 3 (lostM m) w) := by
  have H1 := hide h1; have H2 := hide h2; have HI := hide hi; have HR := hide hR
  clear h1 h2 hi hR
  go_enter Try.func100, Try.ntmps100
  go_wp2_with (go_at_call 61; refine (rightm_eq _ S1 S2 m A1 A2 n1 c1 n2 c2 (by repeat (first | assumption | exact Hd.out (by assumption) | apply Sl.alloc | apply Sl.ext | apply Sl.drew | apply Sl.drewN)) (by repeat (first | assumption | exact Hd.out (by assumption) | apply Sl.alloc | apply Sl.ext | apply Sl.drew | apply Sl.drewN)) HI.out HR.out).mono ?_; rintro e _ ⟨rfl, ux, rfl⟩)
  go_ret
  rw [lostM_no HR.out]
  exact RetO.mk_ (OwnL.nil_ _ _ _ (fun _ => False)) (fun _ h => h.elim) (by repeat (first | exact Below.refl _ _ | assumption | refine Below.alloc ?_ (by simp [size_ext]; try omega) _ | refine Below.ext ?_ (by simp [size_ext]; try omega) _ | refine Below.drew ?_ | refine Below.setCell ?_ (by simp [size_ext]; try omega) _))
end Go.Proofs.Ytkjipgelbjaggaa
set_option linter.unusedSimpArgs false
set_option linter.unusedVariables false
namespace Go.Proofs.Ytkjipgelbjaggaa
open Go.RowKit
theorem run_equalIn_bools {P : Program} (w : World) (d : Nat) (t e : TypeId) (len : Nat) (i : TypeInfo) (ht : P.underlying t = some (.array len e)) (he : P.underlying e = some .bool) (hp : P.plainKey e = true) (hi : P.info? e = some i) (hc : P.cellsOf e = 1)
    (f g : Nat → Bool) (xs ys : Array Value) (hx : ∀ j, j < len → xs[j]? = some (.bool (f j))) (hy : ∀ j, j < len → ys[j]? = some (.bool (g j))) :
    (Op.equalIn (d + 2) t (.agg xs) (.agg ys)).run P w = .ok ((List.range' 0 len 1).all fun j => f j == g j) w := by
  rw [Op.equalIn]
  simp only [Sem.run_bind, run_underlying ht, Result.andThen_ok, run_sizeOf w hi, hc, Std.Legacy.Range.forIn_eq_forIn_range', Std.Legacy.Range.size, Nat.sub_zero, Nat.add_sub_cancel, Nat.div_one, Nat.mul_one]
  have hl : ∀ j ∈ List.range' 0 len 1, j < len := fun j hj => by have := List.mem_range'.1 hj; omega
  generalize List.range' 0 len 1 = l at hl ⊢
  induction l with
  | nil => simp
  | cons a l ih =>
    have ha := hl a (by simp)
    have hb := run_equalIn_bool' (P := P) w d e (f a) (g a) he
    simp only [List.forIn_cons, Sem.run_bind, run_part_plain w hp (hx a ha), run_part_plain w hp (hy a ha), Result.andThen_ok, hb]
    cases hfg : (f a == g a)
    · simp [hfg]
    · simp only [Bool.not_true, Bool.false_eq_true, if_false, Sem.run_pure, Result.andThen_ok, List.all_cons, hfg, Bool.true_and]
      exact ih fun j hj => hl j (List.mem_cons_of_mem _ hj)
end Go.Proofs.Ytkjipgelbjaggaa
