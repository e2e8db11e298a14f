/- LineGets: its walk. -/
import Derived.Test.YtmlopggainkoiaaDoorN5
set_option linter.unusedSimpArgs false
set_option linter.unusedVariables false
namespace Go.Proofs.YtmlopggainkoiaaDoor
open Go.RowKit

set_option maxRecDepth 100000 in
set_option maxHeartbeats 40000000 in
theorem lineGets_any (w : World) (S : Nat → Prop) (A : Option Addr) (n c0 : Nat) (xs : List Get) (s : ByteArray) (h : Sl w S A n c0 xs) (hv : Vars w) (hs : s.size ≤ 140737488355328) (hn : n ≤ 140737488355328) (hx : ∀ x ∈ xs, x.s.size ≤ 140737488355328 ∧ x.t.size ≤ 140737488355328) : Calls Tryd.prog 10 #[.string s, .slice A n c0] w (RetX (.bool true) w) := by
  have HZ := hide (size_any h hn hx)
  have HS := hide h; have HV := hide hv; have HX := hide hx
  clear h hv hx
  have HAW := hide (fun W (h : Vars W) => awake02_any W h)
  go_enter Tryd.func10, Tryd.ntmps10
  go_wp2_with (go_at_call 36; refine HZ.out.mono ?_; rintro e _ ⟨z, rfl, hnz, hz, u0, rfl⟩; refine Hd.out ?_)
  refine hide ?_
  obtain ⟨W, hW⟩ : ∃ W', w.ext u0 = W' := ⟨_, rfl⟩
  have HVW := hide (show Vars W by rw [← hW]; exact HV.out.ext u0)
  have HBW := hide (show Below w.heap.size w W by rw [← hW]; exact (Below.refl _ _).ext (Nat.le_refl _) u0)
  have HSW := hide (show Sl W (fun b => b < W.heap.size) A n c0 xs by rw [← hW] at *; exact (HS.out.ext u0).more fun b hb _ => hb)
  have hww : w.heap.size ≤ W.heap.size := HBW.out.size
  rw [hW]
  clear hW HZ HV HS
  by_cases hbig : 3000 < s.size + z
  · have HA := hide (HAW.out W HVW.out)
    go_wp2_with (go_at_call 28; refine HA.out.mono ?_; rintro e _ ⟨rfl, u1, rfl⟩)
    go_ret
    exact RetX.b rfl (HBW.out.ext hww u1)
  have HO := hide (cOver1 s W (by omega) HVW.out)
  have HD := hide (fun W' => dOver1 s W' (by omega))
  have hn3 : n ≤ 3000 := by omega
  clear hn hnz
  go_wp2_with (first | (go_at_call 29; refine HO.out.mono ?_; rintro e w1 ⟨rfl, hat1, hb1⟩) | (go_at_call 39; refine (HD.out w1).mono ?_; rintro e w2 ⟨r, rfl, hat2, hr2, hb2⟩; refine Hd.out ?_))
  refine hide ?_
  obtain ⟨c, hc⟩ : ∃ c, W.heap.size = c := ⟨_, rfl⟩
  rw [hc] at hat1 hb1
  have hcl := hat1.lt
  have HT0 := hide (show Two w2 (fun b => c < b ∧ b < w1.heap.size) (fun b => w1.heap.size ≤ b ∧ b < r) c r (overT s) from ⟨hat1.below hb2, hat2, by omega, by show ¬ (c < r ∧ r < w1.heap.size); omega, by show ¬ (w1.heap.size ≤ c ∧ c < r); omega⟩)
  have HB0 := hide (show Below c W w2 from hb1.trans ⟨hb2.os, hb2.tape, hb2.output, hb2.size, fun b hb => hb2.block b (by omega)⟩)
  have hcr : c ≤ r := by omega
  have hc2 : c ≤ w2.heap.size := by have := hb2.size; omega
  have HSW2 := hide (show Sl W (fun b => b < c) A n c0 xs by rw [← hc]; exact HSW.out)
  have HCW := hide hc
  generalize (fun b => c < b ∧ b < w1.heap.size) = S1 at HT0
  generalize (fun b => w1.heap.size ≤ b ∧ b < r) = S2 at HT0
  generalize overT s = s0 at HT0
  have HBO := hide (both_any HT0.out)
  rw [hc]
  clear hat1 hat2 hb1 hb2 HSW HO HD hr2 hcl hc
  go_wp2_with (go_at_call 40; refine HBO.out.mono ?_; rintro e _ ⟨rfl, u3, rfl⟩; refine Hd.out ?_)
  refine hide ?_
  go_wp2_with fail
  go_loopw [7] (fun i wr => ∃ (k : Nat) (s' : Cur), i = .int .i64 k ∧ k ≤ n ∧ Two wr S1 S2 c r s' ∧ Below c W wr) (fun i _ => n - (intOf i).toNat)
  case atStart => exact ⟨0, s0, rfl, Nat.zero_le _, HT0.out.ext u3, HB0.out.ext hc2 u3⟩
  case round =>
    obtain ⟨k, s', rfl, hk, ht, hb⟩ := hrel
    have HT := hide ht; have HB := hide hb
    clear ht hb
    by_cases hlt : k < n
    · obtain ⟨b, off, x, rfl, hbb, hx, i0, i1, i2, i3, i4, c0', c1, c2, c3, c4⟩ := at_Get (HSW2.out.below HB.out (fun b h => h)) hlt
      have HSM := hide (same_any HT.out (Nat.le_refl c) hcr x i0 i3 i4)
      generalize stepC x s' = s9 at HSM
      obtain ⟨wh, le, mo, sx, tx⟩ := x
      simp only at i0 i1 i2 i3 i4 c0' c1 c2 c3 c4 HSM
      clear hx i0 i1 i2 i3 i4
      go_wp2_with (first | (go_at_call 41; refine HSM.out.mono ?_; rintro e w4 ⟨rfl, ht4, hb4⟩) | (go_at_call 40; refine (both_any ht4).mono ?_; rintro e _ ⟨rfl, u5, rfl⟩))
      go_roundw
      case rel => exact ⟨k + 1, s9, by go_num, by omega, ht4.ext u5, (HB.out.trans hb4).ext (by have := ht4.a.lt; omega) u5⟩
      case measure => simp [intOf]; omega
    · have hbw : Below w.heap.size w wr := HBW.out.trans ⟨HB.out.os, HB.out.tape, HB.out.output, HB.out.size, fun b hb => HB.out.block b (by have := HCW.out; omega)⟩
      have HBR := hide hbw
      have hwr : w.heap.size ≤ wr.heap.size := hbw.size
      have HA := hide (HAW.out wr (HVW.out.below (B := c) HB.out (by have := HVW.out.sz; have := HCW.out; omega)))
      clear hbw
      go_wp2_with (go_at_call 28; refine HA.out.mono ?_; rintro e _ ⟨rfl, u1, rfl⟩)
      go_ret
      exact RetX.b rfl (HBR.out.ext hwr u1)
end Go.Proofs.YtmlopggainkoiaaDoor
