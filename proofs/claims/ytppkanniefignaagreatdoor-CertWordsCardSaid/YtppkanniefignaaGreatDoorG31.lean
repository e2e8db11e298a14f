/- law28: walks: the document's order. law28: walks: the document: can a fact, a certificate be written? Printed by gen_p28f.py. law28: walks: the document's fits. Printed by gen_p28g.py. law28: walks: the document's Right, Print. -/
import Derived.Test.YtppkanniefignaaGreatDoorG16
import Derived.Test.YtppkanniefignaaGreatDoorG33
import Derived.Deep.DeepCutAuto
import Derived.Test.YtppkanniefignaaGreatDoorG29
import Derived.Test.YtppkanniefignaaGreatDoorG30
set_option linter.unusedSimpArgs false
set_option linter.unusedVariables false
namespace Go.Proofs.YtppkanniefignaaGreatDoor
open Go.RowKit Go.Maps
set_option maxRecDepth 100000 in
set_option maxHeartbeats 4000000 in
theorem dahead28_any (w : World) (f g : Fact) : Calls Tryz.prog 20 #[facV f, facV g] w (RetX (.bool (aheadF f g)) w) := by
 rw [ahead_eq]
 obtain ⟨va, ⟨sa, na⟩⟩ := f
 obtain ⟨vb, ⟨sb, nb⟩⟩ := g
 have hb := ((Below.refl w.heap.size w).alloc (Nat.le_refl _) (.cells #[.int .i64 va, .bool sa, .int .i64 na] 42)).alloc (by simp) (.cells #[.int .i64 vb, .bool sb, .int .i64 nb] 42)
 have HB := hide hb
 clear hb
 by_cases h : va = vb
 ·subst h
  cases sa <;> cases sb
  all_goals
   go_enter Tryz.func20, Tryz.ntmps20
   go_wp2_with fail
   go_ret
   exact RetX.b (by unfold aheadD; simp) HB.out
 ·have hn : (va != vb) = true := by simpa using h
  have HE := hide (show aheadD ⟨va, ⟨sa, na⟩⟩ ⟨vb, ⟨sb, nb⟩⟩ = decide (va < vb) from by unfold aheadD; simp [h])
  clear h
  go_enter Tryz.func20, Tryz.ntmps20
  go_wp2_with fail
  go_ret
  exact RetX.b HE.out.symm HB.out
end Go.Proofs.YtppkanniefignaaGreatDoor
namespace Go.Proofs.YtppkanniefignaaGreatDoor
open Go.RowKit Go.Maps
set_option maxRecDepth 100000 in
set_option maxHeartbeats 8000000 in
theorem dfactOk28_any (w : World) (f : Fact) : Calls Tryz.prog 110 #[facV f] w (RetX (.bool (factOk f)) w) := by
 obtain ⟨v, ⟨s, n⟩⟩ := f
 cases s with
 | true =>
  by_cases v1 : 1 ≤ v
  ·have c1 : decide (1 ≤ v) = true := by simp; omega
   by_cases v2 : v ≤ 200
   ·have c2 : decide (v ≤ 200) = true := by simp; omega
    by_cases n1 : 0 ≤ n
    ·by_cases n2 : n < 400
     ·have e1 : decide (0 ≤ n) = true := by simp; omega
      have e2 : decide (n < 400) = true := by simp; omega
      go_enter Tryz.func110, Tryz.ntmps110
      go_wp2_with fail
      go_ret
      exact RetX.b (by unfold factOk inR; simp; omega) ((Below.refl _ _).alloc (Nat.le_refl _) _)
     ·have e1 : decide (0 ≤ n) = true := by simp; omega
      have e2 : decide (n < 400) = false := by simp; omega
      go_enter Tryz.func110, Tryz.ntmps110
      go_wp2_with fail
      go_ret
      exact RetX.b (by unfold factOk inR; simp; omega) ((Below.refl _ _).alloc (Nat.le_refl _) _)
    ·have e1 : decide (0 ≤ n) = false := by simp; omega
     go_enter Tryz.func110, Tryz.ntmps110
     go_wp2_with fail
     go_ret
     exact RetX.b (by unfold factOk inR; simp; omega) ((Below.refl _ _).alloc (Nat.le_refl _) _)
   ·have c2 : decide (v ≤ 200) = false := by simp; omega
    have c3 : decide (v < 0) = false := by simp; omega
    go_enter Tryz.func110, Tryz.ntmps110
    go_wp2_with fail
    go_ret
    exact RetX.b (by unfold factOk inR; simp; omega) ((Below.refl _ _).alloc (Nat.le_refl _) _)
  ·have c1 : decide (1 ≤ v) = false := by simp; omega
   by_cases v2 : v < 0
   ·have c2 : decide (v < 0) = true := by simp; omega
    by_cases v3 : -64 ≤ v
    ·have c3 : decide (-64 ≤ v) = true := by simp; omega
     by_cases n1 : 0 ≤ n
     ·by_cases n2 : n < 400
      ·have e1 : decide (0 ≤ n) = true := by simp; omega
       have e2 : decide (n < 400) = true := by simp; omega
       go_enter Tryz.func110, Tryz.ntmps110
       go_wp2_with fail
       go_ret
       exact RetX.b (by unfold factOk inR; simp; omega) ((Below.refl _ _).alloc (Nat.le_refl _) _)
      ·have e1 : decide (0 ≤ n) = true := by simp; omega
       have e2 : decide (n < 400) = false := by simp; omega
       go_enter Tryz.func110, Tryz.ntmps110
       go_wp2_with fail
       go_ret
       exact RetX.b (by unfold factOk inR; simp; omega) ((Below.refl _ _).alloc (Nat.le_refl _) _)
     ·have e1 : decide (0 ≤ n) = false := by simp; omega
      go_enter Tryz.func110, Tryz.ntmps110
      go_wp2_with fail
      go_ret
      exact RetX.b (by unfold factOk inR; simp; omega) ((Below.refl _ _).alloc (Nat.le_refl _) _)
    ·have c3 : decide (-64 ≤ v) = false := by simp; omega
     go_enter Tryz.func110, Tryz.ntmps110
     go_wp2_with fail
     go_ret
     exact RetX.b (by unfold factOk inR; simp; omega) ((Below.refl _ _).alloc (Nat.le_refl _) _)
   ·have c2 : decide (v < 0) = false := by simp; omega
    go_enter Tryz.func110, Tryz.ntmps110
    go_wp2_with fail
    go_ret
    exact RetX.b (by unfold factOk inR; simp; omega) ((Below.refl _ _).alloc (Nat.le_refl _) _)
 | false =>
  by_cases v1 : 1 ≤ v
  ·have c1 : decide (1 ≤ v) = true := by simp; omega
   by_cases v2 : v ≤ 200
   ·have c2 : decide (v ≤ 200) = true := by simp; omega
    by_cases n1 : 0 ≤ n
    ·by_cases n2 : n < 64
     ·have e1 : decide (0 ≤ n) = true := by simp; omega
      have e2 : decide (n < 64) = true := by simp; omega
      go_enter Tryz.func110, Tryz.ntmps110
      go_wp2_with fail
      go_ret
      exact RetX.b (by unfold factOk inR; simp; omega) ((Below.refl _ _).alloc (Nat.le_refl _) _)
     ·have e1 : decide (0 ≤ n) = true := by simp; omega
      have e2 : decide (n < 64) = false := by simp; omega
      go_enter Tryz.func110, Tryz.ntmps110
      go_wp2_with fail
      go_ret
      exact RetX.b (by unfold factOk inR; simp; omega) ((Below.refl _ _).alloc (Nat.le_refl _) _)
    ·have e1 : decide (0 ≤ n) = false := by simp; omega
     go_enter Tryz.func110, Tryz.ntmps110
     go_wp2_with fail
     go_ret
     exact RetX.b (by unfold factOk inR; simp; omega) ((Below.refl _ _).alloc (Nat.le_refl _) _)
   ·have c2 : decide (v ≤ 200) = false := by simp; omega
    have c3 : decide (v < 0) = false := by simp; omega
    go_enter Tryz.func110, Tryz.ntmps110
    go_wp2_with fail
    go_ret
    exact RetX.b (by unfold factOk inR; simp; omega) ((Below.refl _ _).alloc (Nat.le_refl _) _)
  ·have c1 : decide (1 ≤ v) = false := by simp; omega
   by_cases v2 : v < 0
   ·have c2 : decide (v < 0) = true := by simp; omega
    by_cases v3 : -64 ≤ v
    ·have c3 : decide (-64 ≤ v) = true := by simp; omega
     by_cases n1 : 0 ≤ n
     ·by_cases n2 : n < 64
      ·have e1 : decide (0 ≤ n) = true := by simp; omega
       have e2 : decide (n < 64) = true := by simp; omega
       go_enter Tryz.func110, Tryz.ntmps110
       go_wp2_with fail
       go_ret
       exact RetX.b (by unfold factOk inR; simp; omega) ((Below.refl _ _).alloc (Nat.le_refl _) _)
      ·have e1 : decide (0 ≤ n) = true := by simp; omega
       have e2 : decide (n < 64) = false := by simp; omega
       go_enter Tryz.func110, Tryz.ntmps110
       go_wp2_with fail
       go_ret
       exact RetX.b (by unfold factOk inR; simp; omega) ((Below.refl _ _).alloc (Nat.le_refl _) _)
     ·have e1 : decide (0 ≤ n) = false := by simp; omega
      go_enter Tryz.func110, Tryz.ntmps110
      go_wp2_with fail
      go_ret
      exact RetX.b (by unfold factOk inR; simp; omega) ((Below.refl _ _).alloc (Nat.le_refl _) _)
    ·have c3 : decide (-64 ≤ v) = false := by simp; omega
     go_enter Tryz.func110, Tryz.ntmps110
     go_wp2_with fail
     go_ret
     exact RetX.b (by unfold factOk inR; simp; omega) ((Below.refl _ _).alloc (Nat.le_refl _) _)
   ·have c2 : decide (v < 0) = false := by simp; omega
    go_enter Tryz.func110, Tryz.ntmps110
    go_wp2_with fail
    go_ret
    exact RetX.b (by unfold factOk inR; simp; omega) ((Below.refl _ _).alloc (Nat.le_refl _) _)
end Go.Proofs.YtppkanniefignaaGreatDoor
namespace Go.Proofs.YtppkanniefignaaGreatDoor
open Go.RowKit Go.Maps
set_option maxRecDepth 100000 in
set_option maxHeartbeats 32000000 in
theorem dfits28_any (w : World) (S S2 : Nat → Prop) (A B : Option Addr) (n k m j : Nat) (x : Cert) (h : Sl w S A n k x.tiles) (g : Sl w S2 B m j x.facts) : Calls Tryz.prog 50 #[.agg #[.slice A n k, .slice B m j]] w (RetX (.bool (fitsB x)) w) := by
 obtain ⟨tl, fl⟩ := x
 simp only at h g
 have hn := h.nle
 have hm := g.nle
 obtain ⟨W0, hW0⟩ : ∃ W0, w.alloc (.cells #[.slice A n k, .slice B m j] 26) = W0 := ⟨_, rfl⟩
 have HS := hide (show Sl W0 S A n k tl from by rw [← hW0]; exact h.alloc _)
 have HS2 := hide (show Sl W0 S2 B m j fl from by rw [← hW0]; exact g.alloc _)
 have HB0 := hide (show Below w.heap.size w W0 from by rw [← hW0]; exact (Below.refl _ _).alloc (Nat.le_refl _) _)
 obtain ⟨F, hF⟩ : ∃ g, w.heap.size = g := ⟨_, rfl⟩
 have hrow : W0.heap[F]? = some (.cells #[.slice A n k, .slice B m j] 26 (0, 0)) := by rw [← hW0, ← hF]; exact heap_alloc_new w _
 have gl : F < W0.heap.size := (Array.getElem?_eq_some_iff.1 hrow).1
 have HROW := hide hrow
 have HW := hide hW0; have HFQ := hide hF; have HGL := hide gl
 have HLT := hide h.len; have HLF := hide g.len
 have HCE := hide (fun (W : World) (hb : Below W0.heap.size W0 W) => show W.cell? ⟨F, 0, none⟩ = some (.slice A n k) ∧ W.cell? ⟨F, 1, none⟩ = some (.slice B m j) ∧ F < W.heap.size from ⟨(World.cell?_of_block (hb.block F gl)).trans (cell_of_row W0 F _ _ _ (0, 0) hrow), (World.cell?_of_block (hb.block F gl)).trans (cell_of_row W0 F _ _ _ (0, 0) hrow), by have := hb.size; omega⟩)
 obtain ⟨QT, hQT⟩ : ∃ q, tl.all tileOk = q := ⟨_, rfl⟩
 obtain ⟨QF, hQF⟩ : ∃ q, fl.all rowOk = q := ⟨_, rfl⟩
 have HFB := hide (show fitsB ⟨tl, fl⟩ = (decide (n ≤ 200) && decide (m ≤ 400) && QT && QF) from by unfold fitsB; simp only; rw [h.len, g.len, hQT, hQF])
 have HQT := hide hQT; have HQF := hide hQF
 clear h g hQT hQF hrow gl hW0 hF
 obtain ⟨a0, a1, al⟩ := HCE.out W0 (Below.refl _ _)
 by_cases h200 : n ≤ 200
 case neg =>
  have HE := hide (show fitsB ⟨tl, fl⟩ = false from by rw [HFB.out, decide_eq_false h200]; rfl)
  have e1 : decide ((n : Int) > 200) = true := by simp; omega
  have e2 : decide ((200 : Int) < n) = true := by simp; omega
  go_enter Tryz.func50, Tryz.ntmps50
  go_upto_region 1 with (fail)
  rw [HW.out, HFQ.out]
  go_wp2_with fail
  go_ret
  exact RetX.b HE.out.symm HB0.out
 by_cases h400 : m ≤ 400
 case neg =>
  have HE := hide (show fitsB ⟨tl, fl⟩ = false from by rw [HFB.out, decide_eq_false h400]; simp)
  have e1 : decide ((200 : Int) < n) = false := by simp; omega
  have e2 : decide ((400 : Int) < m) = true := by simp; omega
  go_enter Tryz.func50, Tryz.ntmps50
  go_upto_region 1 with (fail)
  rw [HW.out, HFQ.out]
  go_wp2_with fail
  go_ret
  exact RetX.b HE.out.symm HB0.out
 have HFB2 := hide (show fitsB ⟨tl, fl⟩ = (QT && QF) from by rw [HFB.out, decide_eq_true h200, decide_eq_true h400]; rfl)
 have e1 : decide ((200 : Int) < n) = false := by simp; omega
 have e2 : decide ((400 : Int) < m) = false := by simp; omega
 go_enter Tryz.func50, Tryz.ntmps50
 go_upto_region 1 with (fail)
 rw [HW.out, HFQ.out]
 go_wp2_with fail
 clear e1 e2 a0 a1 al
 go_loopw [3] (fun i wr => ∃ k1 : Nat, k1 ≤ n ∧ i = .int .i64 k1 ∧ (tl.drop k1).all tileOk = QT ∧ Below W0.heap.size W0 wr) (fun i _ => n - (intOf i).toNat)
 case atStart => exact ⟨0, Nat.zero_le _, rfl, HQT.out, Below.refl _ _⟩
 case round =>
  obtain ⟨k1, hk, rfl, hq, hb⟩ := hrel
  obtain ⟨wq, hwq⟩ : ∃ V, V = wr := ⟨_, rfl⟩
  subst hwq
  have HQ := hide hq; have HB1 := hide hb
  clear hq hb
  obtain ⟨a0, a1, al⟩ := HCE.out wq HB1.out
  by_cases hlt : k1 < n
  ·obtain ⟨bb, off, t, At, nt, ct, hA, hbb, hx, hx1, hx2, hs1, c0, c1, c2⟩ := at_Tile (HS.out.belowAll HB1.out) hlt
   subst hA
   obtain ⟨kd, pr, bl⟩ := t
   dsimp only at c0 c1 c2 hx1 hx2 hs1
   have hnt := hs1.nle
   have HSB := hide hs1
   have HX := hide (drop_at hx)
   have HTO := hide (show tileOk ⟨kd, pr, bl⟩ = (inR kd 1 5 && inR pr (-1) 200 && decide (nt ≤ 200) && bl.all fun b => inR b 0 200) from by unfold tileOk; simp only; rw [hs1.len])
   have HQ2 := hide (show QT = (tileOk ⟨kd, pr, bl⟩ && (tl.drop (k1 + 1)).all tileOk) from by rw [← HQ.out, HX.out]; rfl)
   have HEND := hide (show tileOk ⟨kd, pr, bl⟩ = false → fitsB ⟨tl, fl⟩ = false from fun e => by rw [HFB2.out, HQ2.out, e]; rfl)
   have hki : (k1 : Int) < n := by omega
   clear hx hs1
   obtain ⟨H, hH⟩ : ∃ F, wq.heap.size = F := ⟨_, rfl⟩
   obtain ⟨W2, hW2⟩ : ∃ W, wq.alloc (.cells #[.int .i64 kd, .int .i64 pr, .slice At nt ct] 35) = W := ⟨_, rfl⟩
   have hrow2 : W2.heap[H]? = some (.cells #[.int .i64 kd, .int .i64 pr, .slice At nt ct] 35 (0, 0)) := by rw [← hW2, ← hH]; exact heap_alloc_new wq _
   obtain ⟨m0, m1, m2⟩ := cells3 hrow2
   have ml : H < W2.heap.size := (Array.getElem?_eq_some_iff.1 hrow2).1
   have HB2 := hide (show Below W0.heap.size W0 W2 from by rw [← hW2]; exact HB1.out.alloc HB1.out.size _)
   have HSB2 := hide (show Sl W2 S At nt ct bl from by rw [← hW2]; exact HSB.out.alloc _)
   have HW2 := hide hW2; have HHQ := hide hH
   clear hrow2 hW2 hH
   go_upto_region 7 with (fail)
   rw [HW2.out]
   try rw [HHQ.out]
   clear c0 c1 c2 a0 a1 al
   by_cases t1 : kd < 1
   ·have f1 : decide (kd < 1) = true := by simp; omega
    have HE := hide (HEND.out (by rw [HTO.out]; unfold inR; simp; omega))
    go_wp2_with fail
    go_ret
    exact RetX.b HE.out.symm (HB0.out.trans (HB2.out.mono HB0.out.size))
   have f1 : decide (kd < 1) = false := by simp; omega
   by_cases t2 : 4 < kd
   ·have f2 : decide (4 < kd) = true := by simp; omega
    have HE := hide (HEND.out (by rw [HTO.out]; unfold inR; simp; omega))
    go_wp2_with fail
    go_ret
    exact RetX.b HE.out.symm (HB0.out.trans (HB2.out.mono HB0.out.size))
   have f2 : decide (4 < kd) = false := by simp; omega
   by_cases t3 : pr < -1
   ·have f3 : decide (pr < -1) = true := by simp; omega
    have HE := hide (HEND.out (by rw [HTO.out]; unfold inR; simp; omega))
    go_wp2_with fail
    go_ret
    exact RetX.b HE.out.symm (HB0.out.trans (HB2.out.mono HB0.out.size))
   have f3 : decide (pr < -1) = false := by simp; omega
   by_cases t4 : 200 ≤ pr
   ·have f4 : decide (200 ≤ pr) = true := by simp; omega
    have HE := hide (HEND.out (by rw [HTO.out]; unfold inR; simp; omega))
    go_wp2_with fail
    go_ret
    exact RetX.b HE.out.symm (HB0.out.trans (HB2.out.mono HB0.out.size))
   have f4 : decide (200 ≤ pr) = false := by simp; omega
   by_cases t5 : 200 < nt
   ·have f5 : decide ((200 : Int) < nt) = true := by simp; omega
    have HE := hide (HEND.out (by rw [HTO.out]; unfold inR; simp; omega))
    go_wp2_with fail
    go_ret
    exact RetX.b HE.out.symm (HB0.out.trans (HB2.out.mono HB0.out.size))
   have f5 : decide ((200 : Int) < nt) = false := by simp; omega
   have HTO2 := hide (show tileOk ⟨kd, pr, bl⟩ = bl.all fun b => inR b 0 200 from by rw [HTO.out, show inR kd 1 5 = true from by unfold inR; simp; omega, show inR pr (-1) 200 = true from by unfold inR; simp; omega, decide_eq_true (by omega : nt ≤ 200)]; rfl)
   obtain ⟨QB, hQB⟩ : ∃ q, (bl.all fun b => inR b 0 200) = q := ⟨_, rfl⟩
   have HQB := hide hQB
   rw [hQB] at HTO2
   clear hQB t1 t2 t3 t4 t5 HTO
   go_wp2_with fail
   clear f1 f2 f3 f4 f5
   go_loopw [5] (fun i wr => ∃ k2 : Nat, k2 ≤ nt ∧ i = .int .i64 k2 ∧ ((bl.drop k2).all fun b => inR b 0 200) = QB ∧ wr = W2) (fun i _ => nt - (intOf i).toNat)
   case atStart => exact ⟨0, Nat.zero_le _, rfl, HQB.out, rfl⟩
   case round =>
    obtain ⟨k2, hk2, rfl, hq2, rfl⟩ := hrel
    have HQB2 := hide hq2
    clear hq2
    by_cases hlt2 : k2 < nt
    ·obtain ⟨b2, off2, y, hA2, hb2, hy, hyi, d0⟩ := at_int HSB2.out hlt2
     subst hA2
     have HY := hide (drop_at hy)
     clear hy
     have hki2 : (k2 : Int) < nt := by omega
     by_cases y1 : y < 0
     ·have g1 : decide (y < 0) = true := by simp; omega
      have HE := hide (HEND.out (by rw [HTO2.out, ← HQB2.out, HY.out, List.all_cons, show inR y 0 200 = false from by unfold inR; simp; omega]; rfl))
      go_wp2_with fail
      go_ret
      exact RetX.b HE.out.symm (HB0.out.trans (HB2.out.mono HB0.out.size))
     ·have g1 : decide (y < 0) = false := by simp; omega
      by_cases y2 : 200 ≤ y
      ·have g2 : decide (200 ≤ y) = true := by simp; omega
       have HE := hide (HEND.out (by rw [HTO2.out, ← HQB2.out, HY.out, List.all_cons, show inR y 0 200 = false from by unfold inR; simp; omega]; rfl))
       go_wp2_with fail
       go_ret
       exact RetX.b HE.out.symm (HB0.out.trans (HB2.out.mono HB0.out.size))
      ·have g2 : decide (200 ≤ y) = false := by simp; omega
       have HQB3 := hide (show ((bl.drop (k2 + 1)).all fun b => inR b 0 200) = QB from by rw [← HQB2.out, HY.out, List.all_cons, show inR y 0 200 = true from by unfold inR; simp; omega]; rfl)
       go_wp2_with fail
       go_roundw
       case rel => exact ⟨k2 + 1, by omega, by go_num, HQB3.out, trivial⟩
       case measure => simp [intOf]; omega
    ·have HQ3 := hide (show (tl.drop (k1 + 1)).all tileOk = QT from by rw [HQ2.out, HTO2.out, ← HQB2.out, drop_end HSB2.out.len hlt2]; rfl)
     go_wp2_with fail
     go_roundw
     case rel => exact ⟨k1 + 1, by omega, by go_num, HQ3.out, HB2.out⟩
     case measure => simp [intOf]; omega
  ·have HQT1 := hide (show QT = true from by rw [← HQ.out, drop_end HS.out.len hlt]; rfl)
   have HFB3 := hide (show fitsB ⟨tl, fl⟩ = QF from by rw [HFB2.out, HQT1.out]; rfl)
   go_wp2_with fail
   clear a0 a1 al hlt hk HQ
   go_loopw [6] (fun i wr => ∃ k1 : Nat, k1 ≤ m ∧ i = .int .i64 k1 ∧ (fl.drop k1).all rowOk = QF ∧ Below W0.heap.size W0 wr) (fun i _ => m - (intOf i).toNat)
   case atStart => exact ⟨0, Nat.zero_le _, rfl, HQF.out, HB1.out⟩
   case round =>
    clear HB1
    obtain ⟨k3, hk, rfl, hq, hb⟩ := hrel
    obtain ⟨wp, hwp⟩ : ∃ V, V = wr := ⟨_, rfl⟩
    subst hwp
    have HQ := hide hq; have HB1 := hide hb
    clear hq hb
    obtain ⟨a0, a1, al⟩ := HCE.out wp HB1.out
    by_cases hlt : k3 < m
    ·obtain ⟨bb, off, l, Al, nl, cl, hA, hbb, hx, hs1, c0⟩ := at_factRow (HS2.out.belowAll HB1.out) hlt
     subst hA
     have hnl := hs1.nle
     have HSB := hide hs1
     have HX := hide (drop_at hx)
     obtain ⟨RL, hRL⟩ : ∃ R, rowL none l = R := ⟨_, rfl⟩
     have HRO := hide (show rowOk l = (RL && decide (nl ≤ 600)) from by unfold rowOk; rw [hRL, hs1.len])
     have HQ2 := hide (show QF = (rowOk l && (fl.drop (k3 + 1)).all rowOk) from by rw [← HQ.out, HX.out]; rfl)
     have HENDR := hide (show rowOk l = false → fitsB ⟨tl, fl⟩ = false from fun e => by rw [HFB3.out, HQ2.out, e]; rfl)
     have HRL := hide hRL
     have hki : (k3 : Int) < m := by omega
     clear hx hs1 hRL
     by_cases t5 : 600 < nl
     ·have f5 : decide ((600 : Int) < nl) = true := by simp; omega
      have HE := hide (HENDR.out (by rw [HRO.out]; simp; omega))
      go_wp2_with fail
      go_ret
      exact RetX.b HE.out.symm (HB0.out.trans (HB1.out.mono HB0.out.size))
     have f5 : decide ((600 : Int) < nl) = false := by simp; omega
     have HRO2 := hide (show rowOk l = RL from by rw [HRO.out, decide_eq_true (by omega : nl ≤ 600)]; simp)
     have HEND := hide (show RL = false → fitsB ⟨tl, fl⟩ = false from fun e => HENDR.out (by rw [HRO2.out, e]))
     clear t5 HRO
     go_wp2_with fail
     clear f5 c0
     go_loopw [8] (fun i wr => ∃ k2 : Nat, k2 ≤ nl ∧ i = .int .i64 k2 ∧ rowL (prevF l k2) (l.drop k2) = RL ∧ Below wp.heap.size wp wr) (fun i _ => nl - (intOf i).toNat)
     case atStart => exact ⟨0, Nat.zero_le _, rfl, HRL.out, Below.refl _ _⟩
     case round =>
      obtain ⟨k2, hk2, rfl, hr, hb2⟩ := hrel
      obtain ⟨wr2, hwr2⟩ : ∃ V, V = wr := ⟨_, rfl⟩
      subst hwr2
      have HR := hide hr; have HB2' := hide hb2
      have HB2 := HB2'
      clear hr hb2 a0 a1 al
      by_cases hlt2 : k2 < nl
      ·skip
       obtain ⟨bx, off, x, hA, hbx, hx, hx1, hx2, c0, c1, c2⟩ := at_Fact (HSB.out.belowAll HB2.out) hlt2
       subst hA
       obtain ⟨vx, ⟨sx, nx⟩⟩ := x
       dsimp only at c0 c1 c2 hx1 hx2
       have HX2 := hide (drop_at hx)
       have HPS := hide (prevF_succ hx)
       have HFO := hide (fun W : World => dfactOk28_any W ⟨vx, ⟨sx, nx⟩⟩)
       obtain ⟨q1, h1⟩ : ∃ q, factOk ⟨vx, ⟨sx, nx⟩⟩ = q := ⟨_, rfl⟩
       rw [h1] at HFO
       replace HFO := hide (show ∀ W : World, Calls Tryz.prog 110 #[.agg #[.int .i64 vx, .bool sx, .int .i64 nx]] W (RetX (.bool q1) W) from HFO.out)
       have HQ1 := hide h1
       have HSW := hide (HSB.out.belowAll HB2.out)
       clear hx h1
       have hki : (k2 : Int) < nl := by omega
       cases q1 with
       | false =>
        have HE := hide (show fitsB ⟨tl, fl⟩ = false from HEND.out (by rw [← HR.out, HX2.out]; cases prevF l k2 <;> simp [rowL, HQ1.out]))
        go_upto_region 23 with (fail)
        refine wp_region_flow_ext [] [] (by kernel_rfl) rfl (by kernel_rfl) ?_
        repeat (refine flow_known (by kernel_rfl) (fun K hK => ?_); go_simp; (first | (refine hK _ ?_; clear hK K) | (refine ⟨undef, (by intros; rw [if_neg (by decide)]), hK _ ?_⟩; clear hK K) | (apply Exists.intro; refine ⟨fun _ => ?_, hK _ ?_⟩; ((go_at_call 110; with_reducible exact HFO.out _)); clear hK K)))
        refine flow_done [] (by kernel_rfl) ?_
        intro uf
        simp only [List.nil_append, List.cons_append, endH_f, endH_t, endH_nil]
        go_simp
        go_wp2_with fail
        go_ret
        exact RetX.b HE.out.symm (HB0.out.trans (((HB1.out.trans (HB2.out.mono HB1.out.size)).ext (by have h1 := HB1.out.size; have h2 := HB2.out.size; omega) _).mono HB0.out.size))
       | true =>
        by_cases hk0 : k2 = 0
        ·have HE := hide (show rowL (prevF l (k2 + 1)) (l.drop (k2 + 1)) = RL from by rw [← HR.out, HX2.out, HPS.out, show prevF l k2 = none from if_pos hk0, rowL_none, HQ1.out]; rfl)
         have hz2 : decide (0 < k2) = false := by simp; omega
         clear hk0
         go_upto_region 23 with (fail)
         refine wp_region_flow_ext [] [] (by kernel_rfl) rfl (by kernel_rfl) ?_
         repeat (refine flow_known (by kernel_rfl) (fun K hK => ?_); go_simp; (first | (refine hK _ ?_; clear hK K) | (refine ⟨undef, (by intros; rw [if_neg (by decide)]), hK _ ?_⟩; clear hK K) | (apply Exists.intro; refine ⟨fun _ => ?_, hK _ ?_⟩; ((go_at_call 110; with_reducible exact HFO.out _)); clear hK K)))
         refine flow_done [] (by kernel_rfl) ?_
         intro uf
         simp only [List.nil_append, List.cons_append, endH_f, endH_t, endH_nil]
         go_simp
         go_wp2_with fail
         go_roundw
         case rel => exact ⟨k2 + 1, by omega, by go_num, HE.out, HB2.out.ext HB2.out.size _⟩
         case measure => simp [intOf]; omega
        ·obtain ⟨m9, hm9⟩ : ∃ m, k2 - 1 = m := ⟨_, rfl⟩
         have hmn : m9 < nl := by omega
         obtain ⟨bq, oq, y, hAq, hbq, hyq, hy1, hy2, d0, d1, d2⟩ := at_Fact HSW.out hmn
         injection hAq with hAq
         injection hAq with e1 e2 e3
         subst e1 e2
         obtain ⟨vy, ⟨sy, ny⟩⟩ := y
         dsimp only at d0 d1 d2 hy1 hy2
         have hz2 : decide (0 < k2) = true := by simp; omega
         have hm1 : (k2 : Int) - 1 = (m9 : Int) := by omega
         have hmi : (m9 : Int) < nl := by omega
         have hmw : IntKind.i64.wrap (m9 : Int) = (m9 : Int) := IntWalk.i64_in _ (by omega)
         obtain ⟨bh, hbh⟩ : ∃ b, aheadF ⟨vy, ⟨sy, ny⟩⟩ ⟨vx, ⟨sx, nx⟩⟩ = b := ⟨_, rfl⟩
         have HAH := hide (fun (W : World) => show Calls Tryz.prog 20 #[.agg #[.int .i64 vy, .bool sy, .int .i64 ny], .agg #[.int .i64 vx, .bool sx, .int .i64 nx]] W (RetX (.bool bh) W) from hbh ▸ dahead28_any W ⟨vy, ⟨sy, ny⟩⟩ ⟨vx, ⟨sx, nx⟩⟩)
         have HEE := hide (show RL = (bh && rowL (prevF l (k2 + 1)) (l.drop (k2 + 1))) from by rw [← HR.out, HX2.out, HPS.out, show prevF l k2 = some ⟨vy, ⟨sy, ny⟩⟩ from by unfold prevF; rw [if_neg hk0, hm9]; exact hyq, rowL_some, HQ1.out, hbh]; rfl)
         clear hyq hm9 hbh hy1 hy2 hk0
         cases bh with
         | false =>
          have HE := hide (show fitsB ⟨tl, fl⟩ = false from HEND.out (by rw [HEE.out]; rfl))
          go_upto_region 23 with (fail)
          refine wp_region_flow_ext [] [] (by kernel_rfl) rfl (by kernel_rfl) ?_
          repeat (refine flow_known (by kernel_rfl) (fun K hK => ?_); go_simp; (first | (refine hK _ ?_; clear hK K) | (refine ⟨undef, (by intros; rw [if_neg (by decide)]), hK _ ?_⟩; clear hK K) | (apply Exists.intro; refine ⟨fun _ => ?_, hK _ ?_⟩; (first | (go_at_call 110; with_reducible exact HFO.out _) | (go_at_call 20; with_reducible exact HAH.out _)); clear hK K)))
          refine flow_done [] (by kernel_rfl) ?_
          intro uf
          simp only [List.nil_append, List.cons_append, endH_f, endH_t, endH_nil]
          go_simp
          go_wp2_with fail
          go_ret
          exact RetX.b HE.out.symm (HB0.out.trans (((HB1.out.trans (HB2.out.mono HB1.out.size)).ext (by have h1 := HB1.out.size; have h2 := HB2.out.size; omega) _).mono HB0.out.size))
         | true =>
          go_upto_region 23 with (fail)
          refine wp_region_flow_ext [] [] (by kernel_rfl) rfl (by kernel_rfl) ?_
          repeat (refine flow_known (by kernel_rfl) (fun K hK => ?_); go_simp; (first | (refine hK _ ?_; clear hK K) | (refine ⟨undef, (by intros; rw [if_neg (by decide)]), hK _ ?_⟩; clear hK K) | (apply Exists.intro; refine ⟨fun _ => ?_, hK _ ?_⟩; (first | (go_at_call 110; with_reducible exact HFO.out _) | (go_at_call 20; with_reducible exact HAH.out _)); clear hK K)))
          refine flow_done [] (by kernel_rfl) ?_
          intro uf
          simp only [List.nil_append, List.cons_append, endH_f, endH_t, endH_nil]
          go_simp
          go_wp2_with fail
          go_roundw
          case rel => exact ⟨k2 + 1, by omega, by go_num, by rw [HEE.out]; rfl, HB2.out.ext HB2.out.size _⟩
          case measure => simp [intOf]; omega
      ·have HE2 := hide (show RL = true from by rw [← HR.out, drop_end HSB.out.len hlt2]; cases prevF l k2 <;> rfl)
       have HQ3 := hide (show (fl.drop (k3 + 1)).all rowOk = QF from by rw [HQ2.out, HRO2.out, HE2.out]; rfl)
       go_wp2_with fail
       go_roundw
       case rel => exact ⟨k3 + 1, by omega, by go_num, HQ3.out, HB1.out.trans (HB2.out.mono HB1.out.size)⟩
       case measure => simp [intOf]; omega
    ·have HE := hide (show fitsB ⟨tl, fl⟩ = true from by rw [HFB3.out, ← HQ.out, drop_end HS2.out.len hlt]; rfl)
     go_wp2_with fail
     go_ret
     exact RetX.b HE.out.symm (HB0.out.trans (HB1.out.mono HB0.out.size))
end Go.Proofs.YtppkanniefignaaGreatDoor
namespace Go.Proofs.YtppkanniefignaaGreatDoor
open Go.RowKit Go.Maps
set_option maxRecDepth 100000 in
set_option maxHeartbeats 8000000 in
theorem dright28_any (w : World) (S S2 : Nat → Prop) (A B : Option Addr) (n k m j : Nat) (x : Cert) (h : Sl w S A n k x.tiles) (g : Sl w S2 B m j x.facts) (hv : VarsP w) : Calls Tryz.prog 18 #[.agg #[.slice A n k, .slice B m j]] w (RetX (.bool (rightB x)) w) := by
 obtain ⟨W0, hW0⟩ : ∃ W0, w.alloc (.cells #[.slice A n k, .slice B m j] 26) = W0 := ⟨_, rfl⟩
 have h0 : Sl W0 S A n k x.tiles := by rw [← hW0]; exact h.alloc _
 have g0 : Sl W0 S2 B m j x.facts := by rw [← hW0]; exact g.alloc _
 have HB := hide (show Below w.heap.size w W0 from by rw [← hW0]; exact (Below.refl _ _).alloc (Nat.le_refl _) _)
 have HV := hide (hv.below HB.out hv.v.sz)
 have HF := hide (dfits28_any W0 S S2 A B n k m j x h0 g0)
 obtain ⟨F, hF⟩ : ∃ g, w.heap.size = g := ⟨_, rfl⟩
 have hrow : W0.heap[F]? = some (.cells #[.slice A n k, .slice B m j] 26 (0, 0)) := by rw [← hW0, ← hF]; exact heap_alloc_new w _
 have k0 : W0.cell? ⟨F, 0, none⟩ = some (.slice A n k) := cell_of_row W0 F _ _ _ (0, 0) hrow
 have k1 : W0.cell? ⟨F, 1, none⟩ = some (.slice B m j) := cell_of_row W0 F _ _ _ (0, 0) hrow
 have gl : F < W0.heap.size := (Array.getElem?_eq_some_iff.1 hrow).1
 cases hfb : fitsB x with
 | false =>
  rw [hfb] at HF
  have HE := hide (show rightB x = false from by unfold rightB; rw [hfb]; rfl)
  clear hfb h g h0 g0 hv hrow
  go_enter Tryz.func18, Tryz.ntmps18
  go_wp2_with (first | (go_at_call 50; (with_reducible refine HF.out.mono ?_); rintro e _ ⟨rfl, u1, rfl⟩))
  go_ret
  exact RetX.b HE.out.symm (HB.out.ext HB.out.size _)
 | true =>
  rw [hfb] at HF
  have HSH := hide (fun u : Ext => dshow28_any (W0.ext u) S S2 A B n k m j x (h0.ext u) (g0.ext u) (HV.out.ext u) hfb)
  obtain ⟨tx, htx⟩ : ∃ t, showB x = t := ⟨_, rfl⟩
  rw [htx] at HSH
  have HE := hide (show rightB x = decide ((tx.size : Int) ≤ 262144) from by unfold rightB; rw [hfb, htx, Bool.eq_iff_iff]; simp; omega)
  clear hfb h g h0 g0 hv hrow htx
  go_enter Tryz.func18, Tryz.ntmps18
  go_wp2_with (first | (go_at_call 50; (with_reducible refine HF.out.mono ?_); rintro e _ ⟨rfl, u1, rfl⟩) | (go_at_call 48; (with_reducible refine (HSH.out _).mono ?_); rintro e _ ⟨rfl, u2, rfl⟩))
  go_ret
  exact RetX.b (by rw [HE.out]) ((HB.out.ext HB.out.size _).ext (by rw [size_ext]; have := HB.out.size; omega) _)
set_option maxRecDepth 100000 in
set_option maxHeartbeats 8000000 in
theorem dprint28_any (w : World) (S S2 : Nat → Prop) (A B : Option Addr) (n k m j : Nat) (x : Cert) (h : Sl w S A n k x.tiles) (g : Sl w S2 B m j x.facts) (hv : VarsP w) : Calls Tryz.prog 16 #[.agg #[.slice A n k, .slice B m j]] w (RetX (.tuple #[.string (printB28 x).1, .int .i64 (printB28 x).2]) w) := by
 obtain ⟨W0, hW0⟩ : ∃ W0, w.alloc (.cells #[.slice A n k, .slice B m j] 26) = W0 := ⟨_, rfl⟩
 have h0 : Sl W0 S A n k x.tiles := by rw [← hW0]; exact h.alloc _
 have g0 : Sl W0 S2 B m j x.facts := by rw [← hW0]; exact g.alloc _
 have HB := hide (show Below w.heap.size w W0 from by rw [← hW0]; exact (Below.refl _ _).alloc (Nat.le_refl _) _)
 have HV := hide (hv.below HB.out hv.v.sz)
 have HF := hide (dright28_any W0 S S2 A B n k m j x h0 g0 HV.out)
 obtain ⟨F, hF⟩ : ∃ g, w.heap.size = g := ⟨_, rfl⟩
 have hrow : W0.heap[F]? = some (.cells #[.slice A n k, .slice B m j] 26 (0, 0)) := by rw [← hW0, ← hF]; exact heap_alloc_new w _
 have k0 : W0.cell? ⟨F, 0, none⟩ = some (.slice A n k) := cell_of_row W0 F _ _ _ (0, 0) hrow
 have k1 : W0.cell? ⟨F, 1, none⟩ = some (.slice B m j) := cell_of_row W0 F _ _ _ (0, 0) hrow
 have gl : F < W0.heap.size := (Array.getElem?_eq_some_iff.1 hrow).1
 cases hfb : rightB x with
 | false =>
  rw [hfb] at HF
  have HE := hide (show printB28 x = (ByteArray.empty, 2) from by unfold printB28; rw [hfb]; rfl)
  rw [HE.out]
  clear hfb h g h0 g0 hv hrow
  go_enter Tryz.func16, Tryz.ntmps16
  go_wp2_with (first | (go_at_call 18; (with_reducible refine HF.out.mono ?_); rintro e _ ⟨rfl, u1, rfl⟩))
  go_ret2
  exact ⟨rfl, (HB.out.ext HB.out.size _).to_ext⟩
 | true =>
  rw [hfb] at HF
  have HSH := hide (fun u : Ext => dshow28_any (W0.ext u) S S2 A B n k m j x (h0.ext u) (g0.ext u) (HV.out.ext u) (right_fits hfb))
  have HE := hide (show printB28 x = (showB x, 0) from by unfold printB28; rw [hfb]; rfl)
  rw [HE.out]
  generalize showB x = tx at HSH
  clear hfb h g h0 g0 hv hrow HE
  go_enter Tryz.func16, Tryz.ntmps16
  go_wp2_with (first | (go_at_call 18; (with_reducible refine HF.out.mono ?_); rintro e _ ⟨rfl, u1, rfl⟩) | (go_at_call 48; (with_reducible refine (HSH.out _).mono ?_); rintro e _ ⟨rfl, u2, rfl⟩))
  go_ret2
  exact ⟨rfl, ((HB.out.ext HB.out.size _).ext (by rw [size_ext]; have := HB.out.size; omega) _).to_ext⟩
end Go.Proofs.YtppkanniefignaaGreatDoor
