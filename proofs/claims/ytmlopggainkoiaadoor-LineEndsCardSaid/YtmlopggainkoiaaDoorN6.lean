/- LineGets: its walk. law02: of no cursor. Printed by gen_l2o.py. LineEnds: its walk. -/
import Derived.Test.YtmlopggainkoiaaDoorN5
set_option linter.unusedSimpArgs false
set_option linter.unusedVariables false
namespace Go.Proofs.YtmlopggainkoiaaDoor
open Go.RowKit

set_option maxRecDepth 100000 in
set_option maxHeartbeats 40000000 in
theorem lineGets_any (w : World) (S : Nat → Prop) (A : Option Addr) (n c0 : Nat) (xs : List Get) (s : ByteArray) (h : Sl w S A n c0 xs) (hv : Vars w) (hs : s.size ≤ 140737488355328) (hn : n ≤ 140737488355328) (hx : ∀ x ∈ xs, x.s.size ≤ 140737488355328 ∧ x.t.size ≤ 140737488355328) : Calls Tryd.prog 10 #[.string s, .slice A n c0] w (RetX (.bool true) w) := by
  have HZ := hide (size_any h hn hx)
  have HS := hide h; have HV := hide hv; have HX := hide hx
  clear h hv hx
  have HAW := hide (fun W (h : Vars W) => awake02_any W h)
  go_enter Tryd.func10, Tryd.ntmps10
  go_wp2_with (go_at_call 36; refine HZ.out.mono ?_; rintro e _ ⟨z, rfl, hnz, hz, u0, rfl⟩; refine Hd.out ?_)
  refine hide ?_
  obtain ⟨W, hW⟩ : ∃ W', w.ext u0 = W' := ⟨_, rfl⟩
  have HVW := hide (show Vars W by rw [← hW]; exact HV.out.ext u0)
  have HBW := hide (show Below w.heap.size w W by rw [← hW]; exact (Below.refl _ _).ext (Nat.le_refl _) u0)
  have HSW := hide (show Sl W (fun b => b < W.heap.size) A n c0 xs by rw [← hW] at *; exact (HS.out.ext u0).more fun b hb _ => hb)
  have hww : w.heap.size ≤ W.heap.size := HBW.out.size
  rw [hW]
  clear hW HZ HV HS
  by_cases hbig : 3000 < s.size + z
  · have HA := hide (HAW.out W HVW.out)
    go_wp2_with (go_at_call 28; refine HA.out.mono ?_; rintro e _ ⟨rfl, u1, rfl⟩)
    go_ret
    exact RetX.b rfl (HBW.out.ext hww u1)
  have HO := hide (cOver1 s W (by omega) HVW.out)
  have HD := hide (fun W' => dOver1 s W' (by omega))
  have hn3 : n ≤ 3000 := by omega
  clear hn hnz
  go_wp2_with (first | (go_at_call 29; refine HO.out.mono ?_; rintro e w1 ⟨rfl, hat1, hb1⟩) | (go_at_call 39; refine (HD.out w1).mono ?_; rintro e w2 ⟨r, rfl, hat2, hr2, hb2⟩; refine Hd.out ?_))
  refine hide ?_
  obtain ⟨c, hc⟩ : ∃ c, W.heap.size = c := ⟨_, rfl⟩
  rw [hc] at hat1 hb1
  have hcl := hat1.lt
  have HT0 := hide (show Two w2 (fun b => c < b ∧ b < w1.heap.size) (fun b => w1.heap.size ≤ b ∧ b < r) c r (overT s) from ⟨hat1.below hb2, hat2, by omega, by show ¬ (c < r ∧ r < w1.heap.size); omega, by show ¬ (w1.heap.size ≤ c ∧ c < r); omega⟩)
  have HB0 := hide (show Below c W w2 from hb1.trans ⟨hb2.os, hb2.tape, hb2.output, hb2.size, fun b hb => hb2.block b (by omega)⟩)
  have hcr : c ≤ r := by omega
  have hc2 : c ≤ w2.heap.size := by have := hb2.size; omega
  have HSW2 := hide (show Sl W (fun b => b < c) A n c0 xs by rw [← hc]; exact HSW.out)
  have HCW := hide hc
  generalize (fun b => c < b ∧ b < w1.heap.size) = S1 at HT0
  generalize (fun b => w1.heap.size ≤ b ∧ b < r) = S2 at HT0
  generalize overT s = s0 at HT0
  have HBO := hide (both_any HT0.out)
  rw [hc]
  clear hat1 hat2 hb1 hb2 HSW HO HD hr2 hcl hc
  go_wp2_with (go_at_call 40; refine HBO.out.mono ?_; rintro e _ ⟨rfl, u3, rfl⟩; refine Hd.out ?_)
  refine hide ?_
  go_wp2_with fail
  go_loopw [7] (fun i wr => ∃ (k : Nat) (s' : Cur), i = .int .i64 k ∧ k ≤ n ∧ Two wr S1 S2 c r s' ∧ Below c W wr) (fun i _ => n - (intOf i).toNat)
  case atStart => exact ⟨0, s0, rfl, Nat.zero_le _, HT0.out.ext u3, HB0.out.ext hc2 u3⟩
  case round =>
    obtain ⟨k, s', rfl, hk, ht, hb⟩ := hrel
    have HT := hide ht; have HB := hide hb
    clear ht hb
    by_cases hlt : k < n
    · obtain ⟨b, off, x, rfl, hbb, hx, i0, i1, i2, i3, i4, c0', c1, c2, c3, c4⟩ := at_Get (HSW2.out.below HB.out (fun b h => h)) hlt
      have HSM := hide (same_any HT.out (Nat.le_refl c) hcr x i0 i3 i4)
      generalize stepC x s' = s9 at HSM
      obtain ⟨wh, le, mo, sx, tx⟩ := x
      simp only at i0 i1 i2 i3 i4 c0' c1 c2 c3 c4 HSM
      clear hx i0 i1 i2 i3 i4
      go_wp2_with (first | (go_at_call 41; refine HSM.out.mono ?_; rintro e w4 ⟨rfl, ht4, hb4⟩) | (go_at_call 40; refine (both_any ht4).mono ?_; rintro e _ ⟨rfl, u5, rfl⟩))
      go_roundw
      case rel => exact ⟨k + 1, s9, by go_num, by omega, ht4.ext u5, (HB.out.trans hb4).ext (by have := ht4.a.lt; omega) u5⟩
      case measure => simp [intOf]; omega
    · have hbw : Below w.heap.size w wr := HBW.out.trans ⟨HB.out.os, HB.out.tape, HB.out.output, HB.out.size, fun b hb => HB.out.block b (by have := HCW.out; omega)⟩
      have HBR := hide hbw
      have hwr : w.heap.size ≤ wr.heap.size := hbw.size
      have HA := hide (HAW.out wr (HVW.out.below (B := c) HB.out (by have := HVW.out.sz; have := HCW.out; omega)))
      clear hbw
      go_wp2_with (go_at_call 28; refine HA.out.mono ?_; rintro e _ ⟨rfl, u1, rfl⟩)
      go_ret
      exact RetX.b rfl (HBR.out.ext hwr u1)
end Go.Proofs.YtmlopggainkoiaaDoor
set_option linter.unusedSimpArgs false
set_option linter.unusedVariables false
namespace Go.Proofs.YtmlopggainkoiaaDoor
open Go.RowKit

/-- No cursor: nil, or one that was not made. -/
def NoCur (w : World) (P : Value) : Prop := P = .pointer none ∨ ∃ c, P = .pointer (some ⟨c, 0, none⟩) ∧ c < w.heap.size ∧ w.cell? ⟨c, 4, none⟩ = some (.bool false)
theorem NoCur.ext {w : World} {P : Value} (h : NoCur w P) (u : Ext) : NoCur (w.ext u) P := by
  rcases h with h | ⟨c, h, hc, h4⟩
  · exact .inl h
  · exact .inr ⟨c, h, by rw [size_ext]; omega, by rw [cell?_ext _ _ _ hc]; exact h4⟩
theorem NoCur.alloc {w : World} {P : Value} (h : NoCur w P) (o : Obj) : NoCur (w.alloc o) P := by
  obtain ⟨u, hu⟩ := ext_alloc w o
  rw [hu]; exact h.ext u
section
variable {w : World} {P : Value}
set_option maxHeartbeats 4000000 in
theorem nAble (h : NoCur w P) : Calls Tryd.prog 68 #[P] w (Ret (.bool false) w) := by
  rcases h with rfl | ⟨c, rfl, hc, h4⟩
  · go_enter Tryd.func68, Tryd.ntmps68
    go_wp2_with fail
    go_ret
    exact ⟨rfl, rfl⟩
  · go_enter Tryd.func68, Tryd.ntmps68
    go_wp2_with fail
    go_ret
    exact ⟨rfl, rfl⟩
set_option maxHeartbeats 4000000 in
theorem nErr (h : NoCur w P) : Calls Tryd.prog 30 #[P] w (Ret (.tuple #[.int .i64 0, .int .i64 0, .int .i64 1]) w) := by
  rcases h with rfl | ⟨c, rfl, hc, h4⟩
  · go_enter Tryd.func30, Tryd.ntmps30
    go_wp2_with fail
    go_ret3
    exact ⟨rfl, rfl⟩
  · go_enter Tryd.func30, Tryd.ntmps30
    go_wp2_with fail
    go_ret3
    exact ⟨rfl, rfl⟩

set_option maxRecDepth 100000 in
set_option maxHeartbeats 4000000 in
theorem nMore (h : NoCur w P) : Calls Tryd.prog 31 #[P] w (Ret (.bool false) w) := by
  have HA := hide (nAble h)
  clear h
  go_enter Tryd.func31, Tryd.ntmps31
  go_wp2_with (go_at_call 68; refine HA.out.mono ?_; rintro e w' ⟨rfl, rfl⟩)
  go_ret
  exact ⟨rfl, rfl⟩
set_option maxRecDepth 100000 in
set_option maxHeartbeats 4000000 in
theorem nEnds (h : NoCur w P) : Calls Tryd.prog 75 #[P] w (Ret (.bool true) w) := by
  have HM := hide (nMore h)
  clear h
  go_enter Tryd.func75, Tryd.ntmps75
  go_wp2_with (go_at_call 31; refine HM.out.mono ?_; rintro e w' ⟨rfl, rfl⟩)
  go_ret
  exact ⟨rfl, rfl⟩
set_option maxRecDepth 100000 in
set_option maxHeartbeats 4000000 in
theorem nPeek (h : NoCur w P) : Calls Tryd.prog 77 #[P] w (Ret (.string ⟨#[]⟩) w) := by
  have HA := hide (nAble h)
  clear h
  go_enter Tryd.func77, Tryd.ntmps77
  go_wp2_with (go_at_call 68; refine HA.out.mono ?_; rintro e w' ⟨rfl, rfl⟩)
  go_ret
  exact ⟨rfl, rfl⟩
set_option maxRecDepth 100000 in
set_option maxHeartbeats 4000000 in
theorem nIs (h : NoCur w P) (v : Value) : Calls Tryd.prog 70 #[P, v] w (Ret (.bool false) w) := by
  have HA := hide (nAble h)
  clear h
  go_enter Tryd.func70, Tryd.ntmps70
  go_wp2_with (go_at_call 68; refine HA.out.mono ?_; rintro e w' ⟨rfl, rfl⟩)
  go_ret
  exact ⟨rfl, rfl⟩
set_option maxRecDepth 100000 in
set_option maxHeartbeats 4000000 in
theorem nKey (h : NoCur w P) (t : ByteArray) : Calls Tryd.prog 72 #[P, .string t] w (Ret (.bool false) w) := by
  have HI := hide (fun v => nIs h v)
  clear h
  go_enter Tryd.func72, Tryd.ntmps72
  go_wp2_with (go_at_call 70; refine (HI.out _).mono ?_; rintro e w' ⟨rfl, rfl⟩)
  go_ret
  exact ⟨rfl, rfl⟩
set_option maxRecDepth 100000 in
set_option maxHeartbeats 4000000 in
theorem nIsM (h : NoCur w P) (t : ByteArray) : Calls Tryd.prog 35 #[P, .string t] w (Ret (.bool false) w) := by
  have HI := hide (fun v => nIs h v)
  clear h
  go_enter Tryd.func35, Tryd.ntmps35
  go_wp2_with (go_at_call 70; refine (HI.out _).mono ?_; rintro e w' ⟨rfl, rfl⟩)
  go_ret
  exact ⟨rfl, rfl⟩
set_option maxRecDepth 100000 in
set_option maxHeartbeats 4000000 in
theorem nFail (h : NoCur w P) (x : Int) : Calls Tryd.prog 38 #[P, .int .i64 x] w (Ret (.tuple #[]) w) := by
  have HA := hide (nAble h)
  clear h
  go_enter Tryd.func38, Tryd.ntmps38
  go_wp2_with (go_at_call 68; refine HA.out.mono ?_; rintro e w' ⟨rfl, rfl⟩)
  go_end0
  exact ⟨rfl, rfl⟩
set_option maxRecDepth 100000 in
set_option maxHeartbeats 4000000 in
theorem nName (h : NoCur w P) : Calls Tryd.prog 33 #[P] w (Ret (.string ⟨#[]⟩) w) := by
  have HA := hide (nAble h)
  clear h
  go_enter Tryd.func33, Tryd.ntmps33
  go_wp2_with (go_at_call 68; refine HA.out.mono ?_; rintro e w' ⟨rfl, rfl⟩)
  go_ret
  exact ⟨rfl, rfl⟩
set_option maxRecDepth 100000 in
set_option maxHeartbeats 4000000 in
theorem nNum (h : NoCur w P) (lo hi : Int) : Calls Tryd.prog 34 #[P, .int .i64 lo, .int .i64 hi] w (Ret (.int .i64 0) w) := by
  have HA := hide (nAble h)
  clear h
  go_enter Tryd.func34, Tryd.ntmps34
  go_wp2_with (go_at_call 68; refine HA.out.mono ?_; rintro e w' ⟨rfl, rfl⟩)
  go_ret
  exact ⟨rfl, rfl⟩
set_option maxRecDepth 100000 in
set_option maxHeartbeats 4000000 in
theorem nEnd (h : NoCur w P) : Calls Tryd.prog 32 #[P] w (Ret (.tuple #[]) w) := by
  have HM := hide (nMore h)
  clear h
  go_enter Tryd.func32, Tryd.ntmps32
  go_wp2_with (go_at_call 31; refine HM.out.mono ?_; rintro e w' ⟨rfl, rfl⟩)
  go_end0
  exact ⟨rfl, rfl⟩
set_option maxRecDepth 100000 in
set_option maxHeartbeats 4000000 in
theorem nMark (h : NoCur w P) {g : Nat} {t : ByteArray} (hg : g < w.heap.size) (hc : w.cell? ⟨g, 0, none⟩ = some (.string t)) : Calls Tryd.prog 61 #[P, .slice (some ⟨g, 0, none⟩) 1 1] w (Ret (.tuple #[]) w) := by
  have HI := hide (fun t => nIsM h t); have HF := hide (nFail h 7)
  clear h
  go_enter Tryd.func61, Tryd.ntmps61
  go_wp2_with fail
  go_loopw [8] (fun i wr => ∃ j : Nat, i = .int .i64 j ∧ j ≤ 1 ∧ wr = w) (fun i _ => 1 - (intOf i).toNat)
  case atStart => exact ⟨0, rfl, Nat.zero_le _, rfl⟩
  case round =>
    obtain ⟨j, rfl, hj, rfl⟩ := hrel
    by_cases hlt : j < 1
    · obtain rfl : j = 0 := by omega
      go_wp2_with (first | (go_at_call 35; refine (HI.out _).mono ?_; rintro e w' ⟨rfl, rfl⟩) | (go_at_call 38; refine HF.out.mono ?_; rintro e w' ⟨rfl, rfl⟩))
      go_roundw
      case rel => exact ⟨1, by go_num, Nat.le_refl _, trivial⟩
      case measure => simp [intOf]
    · go_wp2_with fail
      go_end0
      exact ⟨rfl, rfl⟩
end
set_option maxRecDepth 100000 in
set_option maxHeartbeats 8000000 in
theorem none_any (w : World) : Calls Tryd.prog 42 #[] w (RetX (.bool true) w) := by
  go_enter Tryd.func42, Tryd.ntmps42
  go_wp2_with fail
  obtain ⟨V, hV⟩ : ∃ V, (w.alloc (.cells #[.slice none 0 0, .int .i64 0, .int .i64 0, .int .i64 0, .bool false] 101)).alloc (.cells #[.pointer none, .pointer (some ⟨w.heap.size, 0, none⟩)] 46) = V := ⟨_, rfl⟩
  have HB := hide (show Below w.heap.size w V by rw [← hV]; exact ((Below.refl _ _).alloc (Nat.le_refl _) _).alloc (by simp) _)
  have hV1 := heap_alloc2_new w (.cells #[.slice none 0 0, .int .i64 0, .int .i64 0, .int .i64 0, .bool false] 101) (.cells #[.pointer none, .pointer (some ⟨w.heap.size, 0, none⟩)] 46)
  have hV0 := heap_alloc2_old w (.cells #[.slice none 0 0, .int .i64 0, .int .i64 0, .int .i64 0, .bool false] 101) (.cells #[.pointer none, .pointer (some ⟨w.heap.size, 0, none⟩)] 46)
  rw [hV] at hV0 hV1
  have q0 : V.cell? ⟨w.heap.size + 1, 0, none⟩ = some (.pointer none) := cell_of_row V _ _ _ _ (0, 0) hV1
  have q1 : V.cell? ⟨w.heap.size + 1, 1, none⟩ = some (.pointer (some ⟨w.heap.size, 0, none⟩)) := cell_of_row V _ _ _ _ (0, 0) hV1
  have q4 : V.cell? ⟨w.heap.size, 4, none⟩ = some (.bool false) := cell_of_row V _ _ _ _ (0, 0) hV0
  have hl1 : w.heap.size + 1 < V.heap.size := (Array.getElem?_eq_some_iff.1 hV1).1
  have HNN := hide (show NoCur V (.pointer none) from .inl rfl)
  have HNC := hide (show NoCur V (.pointer (some ⟨w.heap.size, 0, none⟩)) from .inr ⟨_, rfl, by omega, q4⟩)
  rw [hV]
  clear hV hV0 hV1 q4
  obtain ⟨g, hg⟩ : ∃ g, w.heap.size + 1 = g := ⟨_, rfl⟩
  rw [hg] at q0 q1 hl1 ⊢
  clear hg
  go_loopw [2] (fun i wr => ∃ (k : Nat) (u : Ext), i = .int .i64 k ∧ k ≤ 2 ∧ wr = V.ext u) (fun i _ => 2 - (intOf i).toNat)
  case atStart => exact ⟨0, _, rfl, Nat.zero_le _, (ext_refl V).choose_spec⟩
  case round =>
    obtain ⟨k, u, rfl, hk, rfl⟩ := hrel
    by_cases hlt : k < 2
    · have hq : ∃ P, NoCur V P ∧ V.cell? ⟨g, k, none⟩ = some P := by
        match k, hlt with
        | 0, _ => exact ⟨_, HNN.out, q0⟩
        | 1, _ => exact ⟨_, HNC.out, q1⟩
      obtain ⟨P, hP, hc⟩ := hq
      obtain ⟨W, hW⟩ : ∃ W, (V.ext u).alloc (.cells #[.string ⟨#[97]⟩] 9) = W := ⟨_, rfl⟩
      have hrow := heap_alloc_new (V.ext u) (.cells #[.string ⟨#[97]⟩] 9)
      rw [hW] at hrow
      have hNW : NoCur W P := by rw [← hW]; exact (hP.ext u).alloc _
      have hMK := nMark hNW (Array.getElem?_eq_some_iff.1 hrow).1 (cell_of_row W _ _ _ _ (0, 0) hrow)
      rw [size_ext] at hMK
      have HMK := hide hMK
      clear hMK
      have HEN := hide (nEnd hNW); have HFA := hide (nFail hNW 2); have HER := hide (nErr hNW); have HKE := hide (nKey hNW ⟨#[97]⟩); have HIS := hide (nIsM hNW ⟨#[61]⟩); have HNA := hide (nName hNW); have HNU := hide (nNum hNW 0 9); have HMO := hide (nMore hNW); have HES := hide (nEnds hNW); have HPE := hide (nPeek hNW)
      have HWX := hide (show ∃ v, W = V.ext v by rw [← hW]; obtain ⟨x, hx⟩ := ext_alloc (V.ext u) (.cells #[.string ⟨#[97]⟩] 9); rw [hx]; exact ext_ext V u x)
      clear hP hNW hrow q0 q1
      go_wp2_with (first | (go_at_call 61; (with_reducible refine HMK.out.mono ?_); rintro e w' ⟨rfl, rfl⟩) | (go_at_call 32; (with_reducible refine HEN.out.mono ?_); rintro e w' ⟨rfl, rfl⟩) | (go_at_call 38; (with_reducible refine HFA.out.mono ?_); rintro e w' ⟨rfl, rfl⟩) | (go_at_call 30; (with_reducible refine HER.out.mono ?_); rintro e w' ⟨rfl, rfl⟩) | (go_at_call 72; (with_reducible refine HKE.out.mono ?_); rintro e w' ⟨rfl, rfl⟩) | (go_at_call 35; (with_reducible refine HIS.out.mono ?_); rintro e w' ⟨rfl, rfl⟩) | (go_at_call 33; (with_reducible refine HNA.out.mono ?_); rintro e w' ⟨rfl, rfl⟩) | (go_at_call 34; (with_reducible refine HNU.out.mono ?_); rintro e w' ⟨rfl, rfl⟩) | (go_at_call 31; (with_reducible refine HMO.out.mono ?_); rintro e w' ⟨rfl, rfl⟩) | (go_at_call 75; (with_reducible refine HES.out.mono ?_); rintro e w' ⟨rfl, rfl⟩) | (go_at_call 77; (with_reducible refine HPE.out.mono ?_); rintro e w' ⟨rfl, rfl⟩))
      go_roundw
      case rel => obtain ⟨v, hv⟩ := HWX.out; exact ⟨k + 1, v, by go_num, by omega, hv⟩
      case measure => simp [intOf]; omega
    · go_wp2_with fail
      go_ret
      exact RetX.b rfl (HB.out.ext HB.out.size u)
end Go.Proofs.YtmlopggainkoiaaDoor
set_option linter.unusedSimpArgs false
set_option linter.unusedVariables false
namespace Go.Proofs.YtmlopggainkoiaaDoor
open Go.RowKit

def Str20 (v : Value) : Prop := ∃ s : ByteArray, v = .string s ∧ s.size ≤ 140737488355328
theorem str_at {W : World} {g k : Nat} {cs : Array Value} {T : TypeId} {fz : Nat × Nat} (h : W.heap[g]? = some (.cells cs T fz)) (hc : ∀ v ∈ cs.toList, Str20 v) (hk : k < cs.size) : ∃ s : ByteArray, W.cell? ⟨g, k, none⟩ = some (.string s) ∧ s.size ≤ 140737488355328 := by
  obtain ⟨r, hr, hs⟩ := hc cs[k] (by simp)
  refine ⟨r, ?_, hs⟩
  rw [cell_of_row W g _ cs T fz h, Array.getElem?_eq_getElem hk, hr]
theorem tmod_in (z : Nat) (m : Nat) : Int.tmod (z : Int) (m : Int) = ((z % m : Nat) : Int) := by rw [Int.tmod_eq_emod_of_nonneg (by omega)]; rfl

def gets5 (m8 m7 m5 m3 d8 : Nat) : List Get := [⟨m8, m7, 5, ⟨#[97]⟩, ⟨#[61]⟩⟩, ⟨d8, -5, 4 + m3, ⟨#[61]⟩, ⟨#[226, 134, 146]⟩⟩, ⟨5, 0, 0, ⟨#[]⟩, ⟨#[]⟩⟩, ⟨2, 0, 0, ⟨#[]⟩, ⟨#[]⟩⟩, ⟨m5, 0, 0, ⟨#[97]⟩, ⟨#[]⟩⟩]
theorem gets5_sl (W : World) {m8 m7 m5 m3 d8 : Nat} (b8 : m8 < 8) (b7 : m7 < 7) (b5 : m5 < 5) (b3 : m3 < 3) (bd : d8 < 8) : Sl (W.alloc (.cells #[.int .i64 (m8 : Int), .int .i64 (m7 : Int), .int .i64 5, .string ⟨#[97]⟩, .string ⟨#[61]⟩, .int .i64 (d8 : Int), .int .i64 (-5), .int .i64 (4 + (m3 : Int)), .string ⟨#[61]⟩, .string ⟨#[226, 134, 146]⟩, .int .i64 5, .int .i64 0, .int .i64 0, .string ⟨#[]⟩, .string ⟨#[]⟩, .int .i64 2, .int .i64 0, .int .i64 0, .string ⟨#[]⟩, .string ⟨#[]⟩, .int .i64 (m5 : Int), .int .i64 0, .int .i64 0, .string ⟨#[97]⟩, .string ⟨#[]⟩] 56)) (fun g => g = W.heap.size) (some ⟨W.heap.size, 0, none⟩) 5 5 (gets5 m8 m7 m5 m3 d8) :=
  Sl.lit (xs := gets5 m8 m7 m5 m3 d8) (n := 5) (S := fun _ => False) (us := #[.int .i64 (m8 : Int), .int .i64 (m7 : Int), .int .i64 5, .string ⟨#[97]⟩, .string ⟨#[61]⟩, .int .i64 (d8 : Int), .int .i64 (-5), .int .i64 (4 + (m3 : Int)), .string ⟨#[61]⟩, .string ⟨#[226, 134, 146]⟩, .int .i64 5, .int .i64 0, .int .i64 0, .string ⟨#[]⟩, .string ⟨#[]⟩, .int .i64 2, .int .i64 0, .int .i64 0, .string ⟨#[]⟩, .string ⟨#[]⟩, .int .i64 (m5 : Int), .int .i64 0, .int .i64 0, .string ⟨#[97]⟩, .string ⟨#[]⟩].toList) rfl
    ⟨_, _, rfl, Get.mk_ (x := ⟨m8, m7, 5, ⟨#[97]⟩, ⟨#[61]⟩⟩) (by unfold InI; dsimp only; omega) (by unfold InI; dsimp only; omega) (by unfold InI; dsimp only; omega) (by simp [ByteArray.size, maxLen]) (by simp [ByteArray.size, maxLen]),
     _, _, rfl, Get.mk_ (x := ⟨d8, -5, 4 + m3, ⟨#[61]⟩, ⟨#[226, 134, 146]⟩⟩) (by unfold InI; dsimp only; omega) (by unfold InI; dsimp only; omega) (by unfold InI; dsimp only; omega) (by simp [ByteArray.size, maxLen]) (by simp [ByteArray.size, maxLen]),
     _, _, rfl, Get.mk_ (x := ⟨5, 0, 0, ⟨#[]⟩, ⟨#[]⟩⟩) (by unfold InI; dsimp only; omega) (by unfold InI; dsimp only; omega) (by unfold InI; dsimp only; omega) (by simp [ByteArray.size, maxLen]) (by simp [ByteArray.size, maxLen]),
     _, _, rfl, Get.mk_ (x := ⟨2, 0, 0, ⟨#[]⟩, ⟨#[]⟩⟩) (by unfold InI; dsimp only; omega) (by unfold InI; dsimp only; omega) (by unfold InI; dsimp only; omega) (by simp [ByteArray.size, maxLen]) (by simp [ByteArray.size, maxLen]),
     _, _, rfl, Get.mk_ (x := ⟨m5, 0, 0, ⟨#[97]⟩, ⟨#[]⟩⟩) (by unfold InI; dsimp only; omega) (by unfold InI; dsimp only; omega) (by unfold InI; dsimp only; omega) (by simp [ByteArray.size, maxLen]) (by simp [ByteArray.size, maxLen]), rfl⟩ rfl (by decide) (fun _ h => h.elim) rfl
theorem gets5_all (m8 m7 m5 m3 d8 : Nat) : ∀ x ∈ gets5 m8 m7 m5 m3 d8, x.s.size ≤ 140737488355328 ∧ x.t.size ≤ 140737488355328 := by
  intro x hx
  simp only [gets5, List.mem_cons, List.not_mem_nil, or_false] at hx
  rcases hx with rfl | rfl | rfl | rfl | rfl <;> constructor <;> simp [ByteArray.size]

set_option maxRecDepth 100000 in
set_option maxHeartbeats 40000000 in
theorem lineEnds_any (w : World) (hv : Vars w) : Calls Tryd.prog 11 #[] w (RetX (.bool true) w) := by
  go_enter Tryd.func11, Tryd.ntmps11
  have HV := hide hv
  clear hv
  go_wp2_with fail
  obtain ⟨V, hV⟩ : ∃ V, w.alloc (.cells #[.string ⟨#[]⟩, .string ⟨#[10]⟩, .string ⟨#[10, 10]⟩, .string ⟨#[97]⟩, .string ⟨#[97, 10]⟩, .string ⟨#[10, 10, 97, 10, 10, 59, 120, 10, 98, 10]⟩, .string ⟨#[53]⟩, .string ⟨#[45, 53]⟩, .string ⟨#[226, 134, 146]⟩, .string ⟨#[61, 32, 61]⟩, .string ⟨#[97, 61, 53]⟩, .string ⟨#[65]⟩, .string ⟨#[49, 32, 50, 10, 51]⟩, .string ⟨#[59, 32, 120]⟩, .string ⟨#[97, 32, 49, 48, 57, 57, 53, 49, 49, 54, 50, 55, 55, 55, 55]⟩] 9) = V := ⟨_, rfl⟩
  have hE := heap_alloc_new w (.cells #[.string ⟨#[]⟩, .string ⟨#[10]⟩, .string ⟨#[10, 10]⟩, .string ⟨#[97]⟩, .string ⟨#[97, 10]⟩, .string ⟨#[10, 10, 97, 10, 10, 59, 120, 10, 98, 10]⟩, .string ⟨#[53]⟩, .string ⟨#[45, 53]⟩, .string ⟨#[226, 134, 146]⟩, .string ⟨#[61, 32, 61]⟩, .string ⟨#[97, 61, 53]⟩, .string ⟨#[65]⟩, .string ⟨#[49, 32, 50, 10, 51]⟩, .string ⟨#[59, 32, 120]⟩, .string ⟨#[97, 32, 49, 48, 57, 57, 53, 49, 49, 54, 50, 55, 55, 55, 55]⟩] 9)
  rw [hV] at hE
  have HB := hide (show Below w.heap.size w V by rw [← hV]; exact (Below.refl _ _).alloc (Nat.le_refl _) _)
  have HVV := hide (HV.out.below HB.out HV.out.sz)
  have HC := hide (fun (k : Nat) (hk : k < 15) => str_at hE (by simp [Str20]; decide) hk)
  have HL := hide (Array.getElem?_eq_some_iff.1 hE).1
  rw [hV]
  clear hE hV HV
  obtain ⟨g, hg⟩ : ∃ g, w.heap.size = g := ⟨_, rfl⟩
  rw [hg] at HC HL ⊢
  go_loopw [2] (fun i wr => ∃ (k : Nat) (u : Ext), i = .int .i64 k ∧ k ≤ 15 ∧ wr = V.ext u) (fun i _ => 15 - (intOf i).toNat)
  case atStart => exact ⟨0, _, rfl, Nat.zero_le _, (ext_refl V).choose_spec⟩
  case round =>
    obtain ⟨k, u, rfl, hk, rfl⟩ := hrel
    by_cases hlt : k < 15
    · obtain ⟨s, hc, hs⟩ := HC.out k hlt
      go_wp2_with fail
      go_loopw [3] (fun i wr => ∃ (z : Nat) (u : Ext), i = .int .i64 z ∧ z ≤ 64 ∧ wr = V.ext u) (fun i _ => 64 - (intOf i).toNat)
      case atStart => exact ⟨0, u, rfl, Nat.zero_le _, rfl⟩
      case round =>
        obtain ⟨z, u, rfl, hz, rfl⟩ := hrel
        by_cases hltz : z < 64
        · have h8 := tmod_in z 8
          have h7 := tmod_in z 7
          have h5 := tmod_in z 5
          have h3 := tmod_in z 3
          have hd : Int.tdiv (z : Int) 8 = ((z / 8 : Nat) : Int) := by rw [Int.tdiv_eq_ediv_of_nonneg (by omega)]; rfl
          obtain ⟨m8, e8⟩ : ∃ m, z % 8 = m := ⟨_, rfl⟩
          obtain ⟨m7, e7⟩ : ∃ m, z % 7 = m := ⟨_, rfl⟩
          obtain ⟨m5, e5⟩ : ∃ m, z % 5 = m := ⟨_, rfl⟩
          obtain ⟨m3, e3⟩ : ∃ m, z % 3 = m := ⟨_, rfl⟩
          obtain ⟨d8, ed⟩ : ∃ m, z / 8 = m := ⟨_, rfl⟩
          rw [e8] at h8; rw [e7] at h7; rw [e5] at h5; rw [e3] at h3; rw [ed] at hd
          have b8 : m8 < 8 := by omega
          have b7 : m7 < 7 := by omega
          have b5 : m5 < 5 := by omega
          have b3 : m3 < 3 := by omega
          have bd : d8 < 8 := by omega
          clear e8 e7 e5 e3 ed
          simp only [Int.cast_ofNat_Int] at h8 h7 h5 h3
          go_wp2_with fail
          have hsl := gets5_sl (V.ext u) b8 b7 b5 b3 bd
          obtain ⟨W, hW⟩ : ∃ W, (V.ext u).alloc (.cells #[.int .i64 (m8 : Int), .int .i64 (m7 : Int), .int .i64 5, .string ⟨#[97]⟩, .string ⟨#[61]⟩, .int .i64 (d8 : Int), .int .i64 (-5), .int .i64 (4 + (m3 : Int)), .string ⟨#[61]⟩, .string ⟨#[226, 134, 146]⟩, .int .i64 5, .int .i64 0, .int .i64 0, .string ⟨#[]⟩, .string ⟨#[]⟩, .int .i64 2, .int .i64 0, .int .i64 0, .string ⟨#[]⟩, .string ⟨#[]⟩, .int .i64 (m5 : Int), .int .i64 0, .int .i64 0, .string ⟨#[97]⟩, .string ⟨#[]⟩] 56) = W := ⟨_, rfl⟩
          have HVW := hide (show Vars W by rw [← hW]; obtain ⟨x, hx⟩ := ext_alloc (V.ext u) (.cells #[.int .i64 (m8 : Int), .int .i64 (m7 : Int), .int .i64 5, .string ⟨#[97]⟩, .string ⟨#[61]⟩, .int .i64 (d8 : Int), .int .i64 (-5), .int .i64 (4 + (m3 : Int)), .string ⟨#[61]⟩, .string ⟨#[226, 134, 146]⟩, .int .i64 5, .int .i64 0, .int .i64 0, .string ⟨#[]⟩, .string ⟨#[]⟩, .int .i64 2, .int .i64 0, .int .i64 0, .string ⟨#[]⟩, .string ⟨#[]⟩, .int .i64 (m5 : Int), .int .i64 0, .int .i64 0, .string ⟨#[97]⟩, .string ⟨#[]⟩] 56); rw [hx]; exact (HVV.out.ext u).ext x)
          have HWX := hide (show ∃ v, W = V.ext v by rw [← hW]; obtain ⟨x, hx⟩ := ext_alloc (V.ext u) (.cells #[.int .i64 (m8 : Int), .int .i64 (m7 : Int), .int .i64 5, .string ⟨#[97]⟩, .string ⟨#[61]⟩, .int .i64 (d8 : Int), .int .i64 (-5), .int .i64 (4 + (m3 : Int)), .string ⟨#[61]⟩, .string ⟨#[226, 134, 146]⟩, .int .i64 5, .int .i64 0, .int .i64 0, .string ⟨#[]⟩, .string ⟨#[]⟩, .int .i64 2, .int .i64 0, .int .i64 0, .string ⟨#[]⟩, .string ⟨#[]⟩, .int .i64 (m5 : Int), .int .i64 0, .int .i64 0, .string ⟨#[97]⟩, .string ⟨#[]⟩] 56); rw [hx]; exact ext_ext V u x)
          have hcW : W.cell? ⟨g, k, none⟩ = some (.string s) := by obtain ⟨v, hv⟩ := HWX.out; rw [hv, cell?_ext _ _ _ HL.out]; exact hc
          rw [hW] at hsl
          rw [hW]
          rw [size_ext] at hsl
          generalize gg : V.heap.size + u.blocks.size = G at hsl
          have hgW : g < W.heap.size := by obtain ⟨v, hv⟩ := HWX.out; rw [hv, size_ext]; have := HL.out; omega
          have HA := hide (fun v => lineGets_any (W.ext v) _ _ 5 5 _ s (hsl.ext v) (HVW.out.ext v) hs (by decide) (gets5_all _ _ _ _ _))
          have HT := hide (fun v => lineGets_any (W.ext v) _ _ 3 3 _ s ((((hsl.ext v).tail_ (by decide)).tail_ (by decide)) : Sl _ _ (some ⟨G, 10, none⟩) 3 3 _) (HVW.out.ext v) hs (by decide) (fun x hx => gets5_all _ _ _ _ _ x (List.mem_of_mem_tail (List.mem_of_mem_tail hx))))
          clear hc hW hsl
          refine wp_region_ext (by kernel_rfl) (by kernel_rfl) ?_
          repeat (any_goals (first | go_big_quiet_step ((first | (go_at_call 10; with_reducible exact quiet_retx (HA.out _)) | (go_at_call 10; with_reducible exact quiet_retx (HT.out _)))) | quiet_step ((first | (go_at_call 10; with_reducible exact quiet_retx (HA.out _)) | (go_at_call 10; with_reducible exact quiet_retx (HT.out _))))))
          refine wpQuiet_nil ?_
          rintro _ ⟨uq, rfl⟩
          go_wp2_with fail
          go_roundw
          case rel => obtain ⟨v, hv⟩ := HWX.out; obtain ⟨v2, hv2⟩ := ext_ext V v uq; exact ⟨z + 1, v2, by go_num, by omega, by rw [hv, hv2]⟩
          case measure => simp [intOf]; omega
        · go_wp2_with fail
          go_roundw
          case rel => exact ⟨k + 1, u, by go_num, by omega, rfl⟩
          case measure => simp [intOf]; omega
    · have HN := hide (none_any (V.ext u))
      have HA := hide (fun v => awake02_any (V.ext v) (HVV.out.ext v))
      go_wp2_with (first | (go_at_call 42; (with_reducible refine HN.out.mono ?_); rintro e _ ⟨rfl, u1, rfl⟩) | (go_at_call 28; obtain ⟨v, hv⟩ := ext_ext V u u1; rw [hv]; (with_reducible refine (HA.out v).mono ?_); rintro e _ ⟨rfl, u2, rfl⟩))
      go_ret
      refine RetX.b rfl ((HB.out.ext HB.out.size _).ext ?_ _)
      rw [size_ext]; have := HB.out.size; omega
end Go.Proofs.YtmlopggainkoiaaDoor
