/- Walk: MirEnds. -/
import Derived.Test.YtahblhiolkdnnaaW25c
import Derived.Deep.RegionHeld3
import Derived.Deep.DeepCutAuto
import Derived.Deep.CutBlock

import Derived.Test.YtahblhiolkdnnaaName
set_option linter.unusedSimpArgs false
set_option linter.unusedVariables false
namespace Go.Proofs.Ytahblhiolkdnnaa
open Go.RowKit
/-- An instruction that lies in a world. -/
structure InsAt (w : World) (g : Nat) (x : Ins) (A : Option Addr) (n c : Nat) : Prop where
  lt : g < w.heap.size
  c0 : w.cell? ⟨g, 0, none⟩ = some (.int .i64 x.op)
  c1 : w.cell? ⟨g, 1, none⟩ = some (.int .i64 x.dst)
  c2 : w.cell? ⟨g, 2, none⟩ = some (.int .i64 x.a)
  c3 : w.cell? ⟨g, 3, none⟩ = some (.int .i64 x.b)
  c4 : w.cell? ⟨g, 4, none⟩ = some (.int .i64 x.imm)
  c5 : w.cell? ⟨g, 5, none⟩ = some (.int .i64 x.callee)
  c6 : w.cell? ⟨g, 6, none⟩ = some (.slice A n c)
  c7 : w.cell? ⟨g, 7, none⟩ = some (.int .i64 x.many)
  args : Sl w (fun _ => True) A n c x.args
  few : n ≤ 3
  i0 : InI x.op
  i1 : InI x.dst
  i2 : InI x.a
  i3 : InI x.b
  i4 : InI x.imm
  i5 : InI x.callee
  i7 : InI x.many
theorem insAt_mk {W : World} {u : Ext} {g : Nat} {T : TypeId} (hg : g = W.heap.size + u.blocks.size) (op dst a b imm callee many : Int) (i0 : InI op) (i1 : InI dst) (i2 : InI a) (i3 : InI b) (i4 : InI imm) (i5 : InI callee) (i7 : InI many) :
    ∃ (x : Ins) (Aa : Option Addr) (na ca : Nat) (u2 : Ext), (W.ext u).alloc (.cells #[.int .i64 op, .int .i64 dst, .int .i64 a, .int .i64 b, .int .i64 imm, .int .i64 callee, .slice none 0 0, .int .i64 many] T) = W.ext u2 ∧ InsAt (W.ext u2) g x Aa na ca := by
  obtain ⟨u2, h2⟩ : ∃ u2 : Ext, (W.ext u).alloc (.cells #[.int .i64 op, .int .i64 dst, .int .i64 a, .int .i64 b, .int .i64 imm, .int .i64 callee, .slice none 0 0, .int .i64 many] T) = W.ext u2 := Below.to_ext ((Below.of_ext W u (Nat.le_refl _)).alloc (by rw [size_ext]; omega) _)
  have hg' : g = (W.ext u).heap.size := by rw [size_ext]; exact hg
  refine ⟨⟨op, dst, a, b, imm, callee, [], many⟩, none, 0, 0, u2, h2, ?_⟩
  rw [← h2]
  subst hg'
  exact ⟨by simp, by rw [World.cell?_alloc_new]; rfl, by rw [World.cell?_alloc_new]; rfl, by rw [World.cell?_alloc_new]; rfl, by rw [World.cell?_alloc_new]; rfl, by rw [World.cell?_alloc_new]; rfl, by rw [World.cell?_alloc_new]; rfl, by rw [World.cell?_alloc_new]; rfl, by rw [World.cell?_alloc_new]; rfl, Sl.nil, by decide, i0, i1, i2, i3, i4, i5, i7⟩
theorem insAt_mk2 {W : World} {u : Ext} {g : Nat} {T T' : TypeId} (hg : g = W.heap.size + u.blocks.size) (op dst a b imm callee many : Int) (zs : List Int) (m : Nat) (hm : zs.length = m) (hm3 : m ≤ 3) (hz : ∀ z ∈ zs, InI z) (i0 : InI op) (i1 : InI dst) (i2 : InI a) (i3 : InI b) (i4 : InI imm) (i5 : InI callee) (i7 : InI many) :
    ∃ (x : Ins) (Aa : Option Addr) (na ca : Nat) (u2 : Ext), ((W.ext u).alloc (.cells #[.int .i64 op, .int .i64 dst, .int .i64 a, .int .i64 b, .int .i64 imm, .int .i64 callee, .slice (some ⟨W.heap.size + u.blocks.size + 1, 0, none⟩) m m, .int .i64 many] T)).alloc (.cells (zs.map (Value.int .i64)).toArray T') = W.ext u2 ∧ InsAt (W.ext u2) g x Aa na ca := by
  obtain ⟨X, hX⟩ : ∃ X, X = (W.ext u).alloc (.cells #[.int .i64 op, .int .i64 dst, .int .i64 a, .int .i64 b, .int .i64 imm, .int .i64 callee, .slice (some ⟨W.heap.size + u.blocks.size + 1, 0, none⟩) m m, .int .i64 many] T) := ⟨_, rfl⟩
  have hXs : X.heap.size = W.heap.size + u.blocks.size + 1 := by rw [hX]; simp [size_ext]
  obtain ⟨u2, h2⟩ : ∃ u2 : Ext, X.alloc (.cells (zs.map (Value.int .i64)).toArray T') = W.ext u2 := Below.to_ext (((hX ▸ (Below.of_ext W u (Nat.le_refl _)).alloc (by rw [size_ext]; omega) _ : Below W.heap.size W X)).alloc (by rw [hXs]; omega) _)
  have hg' : g = (W.ext u).heap.size := by rw [size_ext]; exact hg
  have hlt : g < X.heap.size := by rw [hXs, hg]; omega
  have hc : ∀ j v, X.cell? ⟨g, j, none⟩ = v → (X.alloc (.cells (zs.map (Value.int .i64)).toArray T')).cell? ⟨g, j, none⟩ = v := fun j v h => by
    rw [← h]; exact World.cell?_of_block (Below.heap_alloc X _ g hlt)
  have hn : ∀ j : Nat, X.cell? ⟨g, j, none⟩ = (#[Value.int .i64 op, .int .i64 dst, .int .i64 a, .int .i64 b, .int .i64 imm, .int .i64 callee, .slice (some ⟨W.heap.size + u.blocks.size + 1, 0, none⟩) m m, .int .i64 many])[j]? := fun j => by rw [hX, hg', World.cell?_alloc_new]
  rw [← hX, h2]
  refine ⟨⟨op, dst, a, b, imm, callee, zs, many⟩, some ⟨W.heap.size + u.blocks.size + 1, 0, none⟩, m, m, u2, rfl, ?_⟩
  rw [← h2]
  exact ⟨by simp; omega, hc _ _ (hn 0), hc _ _ (hn 1), hc _ _ (hn 2), hc _ _ (hn 3), hc _ _ (hn 4), hc _ _ (hn 5), hc _ _ (hn 6), hc _ _ (hn 7), sl_ints zs hz hXs.symm hm (by omega) trivial, hm3, i0, i1, i2, i3, i4, i5, i7⟩
theorem in0 : InI 0 := by unfold InI; omega
theorem inS {x : Int} (h : -1 ≤ x ∧ x ≤ 100000) : InI x := by unfold InI; omega
set_option maxHeartbeats 8000000 in
set_option maxRecDepth 100000 in
theorem endsF_any (w : World) : Calls Try.prog 6 #[] w (RetX (.bool true) w) := by
  go_enter Try.func6, Try.ntmps6
  go_wp2_with fail
  obtain ⟨W, hW⟩ : ∃ W, W = ((((w.alloc (.cells #[.int .i64 (-1), .int .i64 0, .int .i64 1, .int .i64 2, .int .i64 3, .int .i64 99, .int .i64 100, .int .i64 399, .int .i64 400, .int .i64 1099511627776, .int .i64 1099511627777, .int .i64 (-1099511627776), .int .i64 (-1099511627777), .int .i64 9223372036854775807, .int .i64 (-9223372036854775808)] 3)).alloc
    (.cells #[.int .i64 2, .int .i64 0] 3)).alloc (.cells #[.int .i64 2] 3)).alloc (.cells #[.int .i64 3, .slice (some ⟨w.heap.size + 1, 0, none⟩) 2 2, .int .i64 1, .slice (some ⟨w.heap.size + 1 + 1, 0, none⟩) 1 1] 24)).alloc (.cells #[.int .i64 4, .int .i64 0, .int .i64 0, .int .i64 0] 40) := ⟨_, rfl⟩
  obtain ⟨e, he⟩ : ∃ e, e = w.heap.size := ⟨_, rfl⟩
  obtain ⟨ea, hea⟩ : ∃ e, e = w.heap.size + 1 := ⟨_, rfl⟩
  obtain ⟨ev, hev⟩ : ∃ e, e = w.heap.size + 1 + 1 := ⟨_, rfl⟩
  obtain ⟨mB, hmB⟩ : ∃ e, e = w.heap.size + 1 + 1 + 1 := ⟨_, rfl⟩
  obtain ⟨tB, htB⟩ : ∃ e, e = w.heap.size + 1 + 1 + 1 + 1 := ⟨_, rfl⟩
  have FB := hide (show Below w.heap.size w W by subst hW; exact (by repeat (first | exact Below.refl _ _ | assumption | refine Below.alloc ?_ (by simp [size_ext]; try omega) _ | refine Below.ext ?_ (by simp [size_ext]; try omega) _ | refine Below.drew ?_ | refine Below.setCell ?_ (by simp [size_ext]; try omega) _)))
  have fle : w.heap.size ≤ W.heap.size := FB.out.size
  have fe : e < W.heap.size := by subst hW he; simp; omega
  have fm : mB < W.heap.size := by subst hW hmB; simp
  have ft : tB < W.heap.size := by subst hW htB; simp
  have m0 : W.cell? ⟨mB, 0, none⟩ = some (.int .i64 3) := by subst hW hmB; go_simp
  have m1 : W.cell? ⟨mB, 1, none⟩ = some (.slice (some ⟨ea, 0, none⟩) 2 2) := by subst hW hmB hea; go_simp
  have m2 : W.cell? ⟨mB, 2, none⟩ = some (.int .i64 1) := by subst hW hmB; go_simp
  have m3 : W.cell? ⟨mB, 3, none⟩ = some (.slice (some ⟨ev, 0, none⟩) 1 1) := by subst hW hmB hev; go_simp
  have t0 : W.cell? ⟨tB, 0, none⟩ = some (.int .i64 4) := by subst hW htB; go_simp
  have t1 : W.cell? ⟨tB, 1, none⟩ = some (.int .i64 0) := by subst hW htB; go_simp
  have t2 : W.cell? ⟨tB, 2, none⟩ = some (.int .i64 0) := by subst hW htB; go_simp
  have t3 : W.cell? ⟨tB, 3, none⟩ = some (.int .i64 0) := by subst hW htB; go_simp
  have SE : Hd (Sl W (fun _ => True) (some ⟨e, 0, none⟩) 15 15 endsL) := hide (by subst hW he; exact ((((sl_ints endsL endsL_in rfl rfl (by decide) trivial).alloc _).alloc _).alloc _).alloc _)
  have SA : Hd (Sl W (fun _ => True) (some ⟨ea, 0, none⟩) 2 2 [(2 : Int), 0]) := hide (by subst hW hea; exact (((sl_ints [2, 0] (by unfold InI; decide) (by simp) rfl (by decide) trivial).alloc _).alloc _).alloc _)
  have SV : Hd (Sl W (fun _ => True) (some ⟨ev, 0, none⟩) 1 1 [(2 : Int)]) := hide (by subst hW hev; exact ((sl_ints [2] (by unfold InI; decide) (by simp) rfl (by decide) trivial).alloc _).alloc _)
  rw [← hW]
  simp only [← htB]
  simp only [← hmB]
  simp only [← hev]
  simp only [← hea]
  simp only [← he]
  clear hW he hea hev hmB htB
  go_loopw [4] (fun i wr => ∃ o : Int, -1 ≤ o ∧ o ≤ 19 ∧ i = .int .i64 o ∧ ∃ u : Ext, wr = W.ext u) (fun i _ => (19 - intOf i).toNat)
  case atStart => exact ⟨-1, by omega, by omega, rfl, ext_refl W⟩
  case round =>
    obtain ⟨o, ho0, ho1, rfl, u, rfl⟩ := hrel
    by_cases hlo : o < 19
    case pos =>
      go_wp2_with fail
      go_loopw [5] (fun i wr => ∃ n : Nat, n ≤ 120 ∧ i = .int .i64 n ∧ ∃ u : Ext, wr = W.ext u) (fun i _ => 120 - (intOf i).toNat)
      case atStart => exact ⟨0, by omega, rfl, u, rfl⟩
      case round =>
        obtain ⟨n, hn, rfl, u, rfl⟩ := hrel
        by_cases hln : n < 120
        case pos =>
          have hd0 : decide ((n : Int) < 120) = true := by simp; omega
          obtain ⟨v, hv, hvc⟩ := ends_at SE.out (k := n / 8) (by omega)
          have HV := hide hv
          clear hv
          obtain ⟨g, hg⟩ : ∃ g, g = W.heap.size + u.blocks.size := ⟨_, rfl⟩
          obtain ⟨r, hr, hr8⟩ : ∃ r : Nat, r < 8 ∧ n % 8 = r := ⟨n % 8, by omega, rfl⟩
          go_upto_region 12 with (fail)
          simp only [← hg]
          go_upto_block 4 with (fail)
          go_cut [44] (fun s44 wc => ∃ (x : Ins) (Aa : Option Addr) (na ca : Nat) (u2 : Ext), wc = W.ext u2 ∧ InsAt (W.ext u2) g x Aa na ca)
          case first =>
            have hr9 : r = 0 ∨ r = 1 ∨ r = 2 ∨ r = 3 ∨ r = 4 ∨ r = 5 ∨ r = 6 ∨ r = 7 := by omega
            rcases hr9 with rfl | rfl | rfl | rfl | rfl | rfl | rfl | rfl
            · have k0 : ((n : Int) % 8 == 0) = true := by rw [beq_iff_eq]; omega
              clear hr8 hr
              go_wp2
              go_meet
              exact insAt_mk hg o v 0 0 0 0 0 (inS (by omega)) HV.out (inS (by omega)) (inS (by omega)) (inS (by omega)) (inS (by omega)) (inS (by omega))
            · have k0 : ((n : Int) % 8 == 0) = false := by rw [beq_eq_false_iff_ne]; omega
              have k1 : ((n : Int) % 8 == 1) = true := by rw [beq_iff_eq]; omega
              clear hr8 hr
              go_wp2
              go_meet
              exact insAt_mk hg o 0 v 0 0 0 0 (inS (by omega)) (inS (by omega)) HV.out (inS (by omega)) (inS (by omega)) (inS (by omega)) (inS (by omega))
            · have k0 : ((n : Int) % 8 == 0) = false := by rw [beq_eq_false_iff_ne]; omega
              have k1 : ((n : Int) % 8 == 1) = false := by rw [beq_eq_false_iff_ne]; omega
              have k2 : ((n : Int) % 8 == 2) = true := by rw [beq_iff_eq]; omega
              clear hr8 hr
              go_wp2
              go_meet
              exact insAt_mk hg o 0 0 v 0 0 0 (inS (by omega)) (inS (by omega)) (inS (by omega)) HV.out (inS (by omega)) (inS (by omega)) (inS (by omega))
            · have k0 : ((n : Int) % 8 == 0) = false := by rw [beq_eq_false_iff_ne]; omega
              have k1 : ((n : Int) % 8 == 1) = false := by rw [beq_eq_false_iff_ne]; omega
              have k2 : ((n : Int) % 8 == 2) = false := by rw [beq_eq_false_iff_ne]; omega
              have k3 : ((n : Int) % 8 == 3) = true := by rw [beq_iff_eq]; omega
              clear hr8 hr
              go_wp2
              go_meet
              exact insAt_mk hg o 0 0 0 v 0 0 (inS (by omega)) (inS (by omega)) (inS (by omega)) (inS (by omega)) HV.out (inS (by omega)) (inS (by omega))
            · have k0 : ((n : Int) % 8 == 0) = false := by rw [beq_eq_false_iff_ne]; omega
              have k1 : ((n : Int) % 8 == 1) = false := by rw [beq_eq_false_iff_ne]; omega
              have k2 : ((n : Int) % 8 == 2) = false := by rw [beq_eq_false_iff_ne]; omega
              have k3 : ((n : Int) % 8 == 3) = false := by rw [beq_eq_false_iff_ne]; omega
              have k4 : ((n : Int) % 8 == 4) = true := by rw [beq_iff_eq]; omega
              clear hr8 hr
              go_wp2
              go_meet
              exact insAt_mk hg o 0 0 0 0 v 0 (inS (by omega)) (inS (by omega)) (inS (by omega)) (inS (by omega)) (inS (by omega)) HV.out (inS (by omega))
            · have k0 : ((n : Int) % 8 == 0) = false := by rw [beq_eq_false_iff_ne]; omega
              have k1 : ((n : Int) % 8 == 1) = false := by rw [beq_eq_false_iff_ne]; omega
              have k2 : ((n : Int) % 8 == 2) = false := by rw [beq_eq_false_iff_ne]; omega
              have k3 : ((n : Int) % 8 == 3) = false := by rw [beq_eq_false_iff_ne]; omega
              have k4 : ((n : Int) % 8 == 4) = false := by rw [beq_eq_false_iff_ne]; omega
              have k5 : ((n : Int) % 8 == 5) = true := by rw [beq_iff_eq]; omega
              clear hr8 hr
              go_wp2
              go_meet
              exact insAt_mk hg o 0 0 0 0 0 v (inS (by omega)) (inS (by omega)) (inS (by omega)) (inS (by omega)) (inS (by omega)) (inS (by omega)) HV.out
            · have k0 : ((n : Int) % 8 == 0) = false := by rw [beq_eq_false_iff_ne]; omega
              have k1 : ((n : Int) % 8 == 1) = false := by rw [beq_eq_false_iff_ne]; omega
              have k2 : ((n : Int) % 8 == 2) = false := by rw [beq_eq_false_iff_ne]; omega
              have k3 : ((n : Int) % 8 == 3) = false := by rw [beq_eq_false_iff_ne]; omega
              have k4 : ((n : Int) % 8 == 4) = false := by rw [beq_eq_false_iff_ne]; omega
              have k5 : ((n : Int) % 8 == 5) = false := by rw [beq_eq_false_iff_ne]; omega
              have k6 : ((n : Int) % 8 == 6) = true := by rw [beq_iff_eq]; omega
              clear hr8 hr
              have hn3 : (n : Int) % 3 = 0 ∨ (n : Int) % 3 = 1 ∨ (n : Int) % 3 = 2 := by omega
              rcases hn3 with h3 | h3 | h3
              · have hmk : ∀ u : World, (Instr.makeSlice 22 (.int .i64 0) (.int .i64 0)).run Try.prog u = .ok (.slice (some ⟨u.heap.size, 0, none⟩) 0 0) (u.alloc (.cells #[] 3)) := fun _ => by kernel_rfl
                go_wp2
                go_meet
                exact insAt_mk2 hg o 0 0 0 v 0 0 [] 0 rfl (by decide) (by unfold InI; decide) (inS (by omega)) in0 in0 in0 HV.out in0 in0
              · have hmk : ∀ u : World, (Instr.makeSlice 22 (.int .i64 1) (.int .i64 1)).run Try.prog u = .ok (.slice (some ⟨u.heap.size, 0, none⟩) 1 1) (u.alloc (.cells #[.int .i64 0] 3)) := fun _ => by kernel_rfl
                go_wp2
                go_meet
                exact insAt_mk2 hg o 0 0 0 v 0 0 [0] 1 rfl (by decide) (by unfold InI; decide) (inS (by omega)) in0 in0 in0 HV.out in0 in0
              · have hmk : ∀ u : World, (Instr.makeSlice 22 (.int .i64 2) (.int .i64 2)).run Try.prog u = .ok (.slice (some ⟨u.heap.size, 0, none⟩) 2 2) (u.alloc (.cells #[.int .i64 0, .int .i64 0] 3)) := fun _ => by kernel_rfl
                go_wp2
                go_meet
                exact insAt_mk2 hg o 0 0 0 v 0 0 [0, 0] 2 rfl (by decide) (by unfold InI; decide) (inS (by omega)) in0 in0 in0 HV.out in0 in0
            · have k0 : ((n : Int) % 8 == 0) = false := by rw [beq_eq_false_iff_ne]; omega
              have k1 : ((n : Int) % 8 == 1) = false := by rw [beq_eq_false_iff_ne]; omega
              have k2 : ((n : Int) % 8 == 2) = false := by rw [beq_eq_false_iff_ne]; omega
              have k3 : ((n : Int) % 8 == 3) = false := by rw [beq_eq_false_iff_ne]; omega
              have k4 : ((n : Int) % 8 == 4) = false := by rw [beq_eq_false_iff_ne]; omega
              have k5 : ((n : Int) % 8 == 5) = false := by rw [beq_eq_false_iff_ne]; omega
              have k6 : ((n : Int) % 8 == 6) = false := by rw [beq_eq_false_iff_ne]; omega
              have k7 : ((n : Int) % 8 == 7) = true := by rw [beq_iff_eq]; omega
              clear hr8 hr
              go_wp2
              go_meet
              exact insAt_mk hg o 1 2 1 v 0 0 (inS (by omega)) (inS (by omega)) (inS (by omega)) (inS (by omega)) HV.out (inS (by omega)) (inS (by omega))
          case rest =>
            obtain ⟨x, Aa, na, ca, u2, rfl, IX⟩ := hcut
            obtain ⟨xlt, c0, c1, c2, c3, c4, c5, c6, c7, xargs, xfew, i0, i1, i2, i3, i4, i5, i7⟩ := IX
            have XA := hide xargs
            have I0 := hide i0; have I1 := hide i1; have I2 := hide i2; have I3 := hide i3; have I4 := hide i4; have I5 := hide i5; have I7 := hide i7
            rw [size_ext] at xlt
            clear xargs i0 i1 i2 i3 i4 i5 i7 hvc hr8 hr hg
            obtain ⟨q1, hq1⟩ : ∃ q : Nat, q = n % 5 := ⟨_, rfl⟩
            obtain ⟨d2, hd2⟩ : ∃ q : Nat, q = n / 5 := ⟨_, rfl⟩
            obtain ⟨q2, hq2⟩ : ∃ q : Nat, q = d2 % 5 := ⟨_, rfl⟩
            obtain ⟨d3, hd3⟩ : ∃ q : Nat, q = n / 25 := ⟨_, rfl⟩
            obtain ⟨q3, hq3⟩ : ∃ q : Nat, q = d3 % 4 := ⟨_, rfl⟩
            obtain ⟨v1, hv1, r1⟩ := ends_at SE.out (k := q1) (by omega)
            obtain ⟨v2, hv2, r2⟩ := ends_at SE.out (k := q2) (by omega)
            obtain ⟨v3, hv3, r3⟩ := ends_at SE.out (k := q3) (by omega)
            have J1 := hide hv1; have J2 := hide hv2; have J3 := hide hv3
            have f1 : (n : Int).tmod 5 = q1 := by rw [Int.tmod_eq_emod_of_nonneg (by omega)]; omega
            have f2 : (n : Int).tdiv 5 = d2 := by rw [Int.tdiv_eq_ediv_of_nonneg (by omega)]; omega
            have f3 : (d2 : Int).tmod 5 = q2 := by rw [Int.tmod_eq_emod_of_nonneg (by omega)]; omega
            have f4 : (n : Int).tdiv 25 = d3 := by rw [Int.tdiv_eq_ediv_of_nonneg (by omega)]; omega
            have f5 : (d3 : Int).tmod 4 = q3 := by rw [Int.tmod_eq_emod_of_nonneg (by omega)]; omega
            have w2 : IntKind.i64.wrap (d2 : Int) = d2 := IntWalk.i64_in _ (by omega)
            have w3 : IntKind.i64.wrap (d3 : Int) = d3 := IntWalk.i64_in _ (by omega)
            have b1 : (q1 : Int) < 15 := by omega
            have b2 : (q2 : Int) < 15 := by omega
            have b3 : (q3 : Int) < 15 := by omega
            have e1 : (n : Int) % 5 = q1 := by omega
            have e2 : (n : Int) / 5 = d2 := by omega
            have e3 : (d2 : Int) % 5 = q2 := by omega
            have e4 : (n : Int) / 25 = d3 := by omega
            have e5 : (d3 : Int) % 4 = q3 := by omega
            obtain ⟨kk, hkk⟩ : ∃ k : Int, o.tmod 6 = k := ⟨_, rfl⟩
            have KK : Hd (InI kk) := hide (by rw [← hkk]; unfold InI; have := Int.tmod_lt_of_pos o (show (0 : Int) < 6 by omega); have := Int.lt_tmod_of_pos o (show (0 : Int) < 6 by omega); omega)
            clear hv1 hv2 hv3 hq1 hd2 hq2 hd3 hq3
            go_upto_region 33 with (fail)
            obtain ⟨Wc, hWc⟩ : ∃ Wc, Wc = W.ext u2 := ⟨_, rfl⟩
            have FC := hide (show Below W.heap.size W Wc by subst hWc; exact Below.of_ext W u2 (Nat.le_refl _))
            have gle : W.heap.size ≤ Wc.heap.size := FC.out.size
            have ge : e < Wc.heap.size := by omega
            have gm : mB < Wc.heap.size := by omega
            have gt : tB < Wc.heap.size := by omega
            have gx : g < Wc.heap.size := by subst hWc; rw [size_ext]; exact xlt
            have XC := hide (show Sl Wc (fun _ => True) Aa na ca x.args by subst hWc; exact XA.out)
            have SAc := hide (show Sl Wc (fun _ => True) (some ⟨ea, 0, none⟩) 2 2 [(2 : Int), 0] by subst hWc; exact SA.out.ext _)
            have SVc := hide (show Sl Wc (fun _ => True) (some ⟨ev, 0, none⟩) 1 1 [(2 : Int)] by subst hWc; exact SV.out.ext _)
            have s1 : Wc.cell? ⟨e, q1, none⟩ = some (.int .i64 v1) := by subst hWc; exact (cell?_ext W u2 _ fe).trans r1
            have s2 : Wc.cell? ⟨e, q2, none⟩ = some (.int .i64 v2) := by subst hWc; exact (cell?_ext W u2 _ fe).trans r2
            have s3 : Wc.cell? ⟨e, q3, none⟩ = some (.int .i64 v3) := by subst hWc; exact (cell?_ext W u2 _ fe).trans r3
            have ym0 : Wc.cell? ⟨mB, 0, none⟩ = some (.int .i64 3) := by subst hWc; exact (cell?_ext W u2 _ fm).trans m0
            have ym1 : Wc.cell? ⟨mB, 1, none⟩ = some (.slice (some ⟨ea, 0, none⟩) 2 2) := by subst hWc; exact (cell?_ext W u2 _ fm).trans m1
            have ym2 : Wc.cell? ⟨mB, 2, none⟩ = some (.int .i64 1) := by subst hWc; exact (cell?_ext W u2 _ fm).trans m2
            have ym3 : Wc.cell? ⟨mB, 3, none⟩ = some (.slice (some ⟨ev, 0, none⟩) 1 1) := by subst hWc; exact (cell?_ext W u2 _ fm).trans m3
            have yt0 : Wc.cell? ⟨tB, 0, none⟩ = some (.int .i64 4) := by subst hWc; exact (cell?_ext W u2 _ ft).trans t0
            have yt1 : Wc.cell? ⟨tB, 1, none⟩ = some (.int .i64 0) := by subst hWc; exact (cell?_ext W u2 _ ft).trans t1
            have yt2 : Wc.cell? ⟨tB, 2, none⟩ = some (.int .i64 0) := by subst hWc; exact (cell?_ext W u2 _ ft).trans t2
            have yt3 : Wc.cell? ⟨tB, 3, none⟩ = some (.int .i64 0) := by subst hWc; exact (cell?_ext W u2 _ ft).trans t3
            rw [← hWc] at c0 c1 c2 c3 c4 c5 c6 c7 ⊢
            clear hWc XA xlt r1 r2 r3
            have n1 := World.new_ne Wc ⟨e, q1, none⟩ s1
            have n2 := World.new_ne Wc ⟨e, q2, none⟩ s2
            have n3 := World.new_ne Wc ⟨e, q3, none⟩ s3
            go_region_held3 (fun w' => w'.cell? ⟨e, q1, none⟩ = some (.int .i64 v1) ∧ w'.cell? ⟨e, q2, none⟩ = some (.int .i64 v2) ∧ w'.cell? ⟨e, q3, none⟩ = some (.int .i64 v3)) (go_keep) (fail)
            clear n1 n2 n3 f1 f2 f3 f4 f5 w2 w3 b1 b2 b3 e1 e2 e3 e4 e5
            go_upto_region 37 with (fail)
            refine name_world fun We hWe => ?_
            have FE := hide (show Below Wc.heap.size Wc We by subst hWe; exact (by repeat (first | exact Below.refl _ _ | assumption | refine Below.alloc ?_ (by simp [size_ext]; try omega) _ | refine Below.ext ?_ (by simp [size_ext]; try omega) _ | refine Below.drew ?_ | refine Below.setCell ?_ (by simp [size_ext]; try omega) _)))
            have EW := endsW_mk XC.out I0.out I1.out I2.out I3.out I4.out I5.out I7.out KK.out J1.out J2.out J3.out (show InI ((n : Int) % 4 - 1) by unfold InI; omega) hWe
            obtain ⟨sA, sB, a0, a1, a2, a3, b0, b1, b2, b3, d0, d1, f0, f1⟩ := EW
            have hgs : Wc.heap.size + 8 = We.heap.size := by subst hWe; simp
            have zc0 := (FE.out.cell (p := ⟨g, 0, none⟩) gx).trans c0
            have zc1 := (FE.out.cell (p := ⟨g, 1, none⟩) gx).trans c1
            have zc2 := (FE.out.cell (p := ⟨g, 2, none⟩) gx).trans c2
            have zc3 := (FE.out.cell (p := ⟨g, 3, none⟩) gx).trans c3
            have zc4 := (FE.out.cell (p := ⟨g, 4, none⟩) gx).trans c4
            have zc5 := (FE.out.cell (p := ⟨g, 5, none⟩) gx).trans c5
            have zc6 := (FE.out.cell (p := ⟨g, 6, none⟩) gx).trans c6
            have zc7 := (FE.out.cell (p := ⟨g, 7, none⟩) gx).trans c7
            have zm0 := (FE.out.cell (p := ⟨mB, 0, none⟩) gm).trans ym0
            have zm1 := (FE.out.cell (p := ⟨mB, 1, none⟩) gm).trans ym1
            have zm2 := (FE.out.cell (p := ⟨mB, 2, none⟩) gm).trans ym2
            have zm3 := (FE.out.cell (p := ⟨mB, 3, none⟩) gm).trans ym3
            have zt0 := (FE.out.cell (p := ⟨tB, 0, none⟩) gt).trans yt0
            have zt1 := (FE.out.cell (p := ⟨tB, 1, none⟩) gt).trans yt1
            have zt2 := (FE.out.cell (p := ⟨tB, 2, none⟩) gt).trans yt2
            have zt3 := (FE.out.cell (p := ⟨tB, 3, none⟩) gt).trans yt3
            have XE := hide (XC.out.belowAll FE.out)
            have SAe := hide (SAc.out.belowAll FE.out)
            have SVe := hide (SVc.out.belowAll FE.out)
            have LX := hide XE.out.len
            have P1 := hide (fun u => parts_ends We x Aa na ca kk v1 v2 v3 ea ev SAe.out SVe.out XE.out xfew I2.out I3.out I4.out I1.out J1.out u)
            have P2 := hide (fun u => parts_ends We x Aa na ca kk ((n : Int) % 4 - 1) 0 0 ea ev SAe.out SVe.out XE.out xfew I2.out I3.out I4.out I1.out (show InI ((n : Int) % 4 - 1) by unfold InI; omega) u)
            have P3 := hide (fun u => tells_ends We ea ev SAe.out SVe.out _ _ _ _ 400 sA (by unfold InI; omega) (small_A (by rw [LX.out]; exact xfew)) u)
            have P4 := hide (fun u => tells_ends We ea ev SAe.out SVe.out _ _ _ _ ((n : Int) % 5) sB (by unfold InI; omega) (small_B (by rw [LX.out]; exact xfew)) u)
            have gg : g < We.heap.size := by omega
            have ggm : mB < We.heap.size := by omega
            have ggt : tB < We.heap.size := by omega
            have g0 : Wc.heap.size < We.heap.size := by omega
            have g1 : Wc.heap.size + 1 < We.heap.size := by omega
            have g4 : Wc.heap.size + 1 + 1 + 1 + 1 < We.heap.size := by omega
            have g7 : Wc.heap.size + 1 + 1 + 1 + 1 + 1 + 1 + 1 < We.heap.size := by omega
            have FW := hide (show Below w.heap.size w We from FB.out.trans ((FC.out.trans (FE.out.mono gle)).mono fle))
            clear hWe sA sB c0 c1 c2 c3 c4 c5 c6 c7 ym0 ym1 ym2 ym3 yt0 yt1 yt2 yt3 s1 s2 s3 hgs
            refine wp_region_flow_ext [] [25, 27, 29, 30, 31] (by kernel_rfl) rfl (by kernel_rfl) ?_
            repeat (refine flow_known (by kernel_rfl) (fun K hK => ?_); go_simp; (first | (refine hK _ ?_; clear hK K) | (apply Exists.intro; refine ⟨fun _ => ?_, hK _ ?_⟩; (first | (go_at_call 5; with_reducible exact P1.out _) | (go_at_call 5; with_reducible exact P2.out _) | (go_at_call 4; with_reducible exact P3.out _) | (go_at_call 4; with_reducible exact P4.out _)); clear hK K)))
            refine flow_keep0 (RepP twoM) (by kernel_rfl) (RepP.stable_ rfl) ?_ ?_
            · intro u
              go_simp
              refine (two_any _).mono ?_
              rintro e _ ⟨vs, rfl, hv, x, rfl⟩
              exact ⟨_, rfl, ⟨_, vs, rfl, hv⟩, onW_ext ⟨_, rfl⟩ ⟨x, rfl⟩⟩
            repeat (refine flow_known (by kernel_rfl) (fun K hK => ?_); go_simp; (first | (refine hK _ ?_; clear hK K) | (apply Exists.intro; refine ⟨fun _ => ?_, hK _ ?_⟩; (fail); clear hK K)))
            refine flow_keep0 (FullP 1 [x]) (by kernel_rfl) (FullP.stable_ rfl) ?_ ?_
            · intro u
              go_simp
              exact ⟨FullP.lit (S := fun _ => True) rfl (by rw [size_ext]) (RepL.single (Ins.mk_ I0.out I1.out I2.out I3.out I4.out I5.out (XE.out.ext u) I7.out)) rfl (by decide), onW_alloc rfl ⟨_, rfl⟩⟩
            repeat (refine flow_known (by kernel_rfl) (fun K hK => ?_); go_simp; (first | (refine hK _ ?_; clear hK K) | (apply Exists.intro; refine ⟨fun _ => ?_, hK _ ?_⟩; (fail); clear hK K)))
            refine flow_keep [false, true] (RepP (⟨[x], trapT⟩ : Block)) (by kernel_rfl) (RepP.stable_ rfl) ?_ ?_
            · intro u
              try simp only [List.nil_append, List.cons_append, useH_f, useH_t, useH_nil]
              rintro _ ⟨S, b, rfl, hs⟩
              go_simp
              exact ⟨⟨fun _ => True, _, rfl, blk_trap (hs.more fun _ _ _ => trivial)⟩, onW_same ⟨_, rfl⟩⟩
            refine flow_keep [false, false, true] (FullP 1 [(⟨[x], trapT⟩ : Block)]) (by kernel_rfl) (FullP.stable_ rfl) ?_ ?_
            · intro u
              try simp only [List.nil_append, List.cons_append, useH_f, useH_t, useH_nil]
              rintro _ ⟨S, us, rfl, hs⟩
              obtain ⟨A1, n1, c1, rfl, hs1, i1, i2, i3, i4⟩ := Block.open_ hs
              go_simp
              exact ⟨FullP.lit (S := fun _ => True) rfl (by rw [size_ext]) (RepL.single (blk_trap (hs1.more fun _ _ _ => trivial))) rfl (by decide), onW_alloc rfl ⟨_, rfl⟩⟩
            refine flow_keep [false, false, false, true] (RepP (⟨0, [⟨[x], trapT⟩]⟩ : Target)) (by kernel_rfl) (RepP.stable_ rfl) ?_ ?_
            · intro u
              try simp only [List.nil_append, List.cons_append, useH_f, useH_t, useH_nil]
              rintro _ ⟨S, b, rfl, hs⟩
              go_simp
              exact ⟨⟨S, _, rfl, Target.mk_ (x := ⟨0, [⟨[x], trapT⟩]⟩) z0_ hs⟩, onW_same ⟨_, rfl⟩⟩
            refine flow_out [true, false, false, false, true] (.bool true) (by kernel_rfl) ?_ ?_
            · intro u
              try simp only [List.nil_append, List.cons_append, useH_f, useH_t, useH_nil]
              rintro _ ⟨S1, us1, rfl, h1⟩
              try simp only [List.nil_append, List.cons_append, useH_f, useH_t, useH_nil]
              rintro _ ⟨S2, us2, rfl, h2⟩
              obtain ⟨A1, n1, c1, A2, n2, c2, rfl, i1, s1, i2, s2⟩ := Machine.open_ h1
              obtain ⟨A, n, c, rfl, i3, s3⟩ := Target.open_ h2
              have l1 := s1.len; have l2 := s2.len
              go_simp
              exact tells_any _ S2 S1 S1 twoM A1 A2 n1 c1 n2 c2 s1 s2 i2 ⟨0, [⟨[x], trapT⟩]⟩ A n c s3 i3 (small_blk (by simp) (by simp [LX.out]; exact xfew)) (by simp [twoM] at l1 l2; omega)
            repeat (refine flow_known (by kernel_rfl) (fun K hK => ?_); go_simp; (first | (refine hK _ ?_; clear hK K) | (apply Exists.intro; refine ⟨fun _ => ?_, hK _ ?_⟩; (fail); clear hK K)))
            refine flow_done [true, true, true, true, true] (by kernel_rfl) ?_
            intro uq
            simp only [List.nil_append, List.cons_append, endH_f, endH_t, endH_nil]
            rintro v1 _ v2 _ v3 _ v4 _ v5 _
            go_wp2_with fail
            go_roundw
            case rel =>
              have hto := Below.to_ext (FC.out.trans ((FE.out.mono gle).ext (Nat.le_trans gle FE.out.size) uq))
              exact ⟨n + 1, by omega, by go_num, hto⟩
            case measure => simp [intOf]; omega
        case neg =>
          go_wp2_with fail
          go_roundw
          case rel => exact ⟨o + 1, by omega, by omega, by go_num, u, rfl⟩
          case measure => simp [intOf]; omega
    case neg =>
      have EB := hide (EndsB.mk fe fm ft m0 m1 m2 m3 t0 t1 t2 t3 SE.out SA.out SV.out)
      clear fe fm ft m0 m1 m2 m3 t0 t1 t2 t3 SE SA SV
      rename_i KK hKK
      have HKK := hide hKK
      clear hKK
      go_wp2_with fail
      refine HKK.out _ _ ?_
      exact ends2 w W e ea ev mB tB u _ (by kernel_rfl) FB EB _ _ _ _ _ _ _ _ _ _ _ _ _ _ _ _ _ _ _ _ _ _ _ _ _ _ _ _ _ _ _ _ _ _ _ _ _ _ _ _ _ _ _ _ _ _ _ _ _ _ _ _ _ _ _ _ _ _ _ _ _ _ _ _ _ _ _ _ _ _ _ _ _ _ _ _ _ _ _ _ _ _ _ _ _ _ _ _ _ _ _ _ _ _ _ _ _ _ _ _ _ _ _ _ _ _ _ _ _ _ _ _ _ _ _ _ _ _ _ _ _ _ _ _ _ _ _ _ _ _ _ _ _ _ _ _ _ _ _ _ _ _ _ _ _ _ _ _ _ _ _ _ _ _ _ _ _ _ _ _ _ _ _ _ _ _ _ _ _ _ _ _ _ _ _ _ _ _ _ _ _ _ _ _ _ _ _ _ _ _ _ _ _ _ _ _ _ _ _ _ _ _ _ _ _ _ _ _ _ _ _ _ _ _ _ _ _ _ _ _ _ _ _ _ _ _ _ _ _ _ _ _ _ _ _ _ _ _ _ _ _ _ _ _ _ _
end Go.Proofs.Ytahblhiolkdnnaa
