/- LineAll: its walk. Printed by gen_l2q.py. -/
import Derived.Test.YtmlopggainkoiaaDoorL2q0
import Derived.Test.YtmlopggainkoiaaDoorN4
import Derived.Test.YtmlopggainkoiaaDoorN5
import Derived.Deep.RegionHeld3
set_option linter.unusedSimpArgs false
set_option linter.unusedVariables false
namespace Go.Proofs.YtmlopggainkoiaaDoor
open Go.RowKit

theorem head_ne {s : Cur} {x : Word} {r : List Word} (h : s.ws = x :: r) : s.ws ≠ [] := by rw [h]; simp
/-- What a step leaves of the cursor. -/
structure CurE (w : World) (S : Nat → Prop) (c : Nat) (l : List Word) : Prop where
  at_ : CurAt w S c ⟨l, 0, 0, 0⟩
theorem CurE.name {w : World} {S : Nat → Prop} {c : Nat} {x : Word} {r : List Word} (h : CurE w S c (x :: r)) (hk : x.kind = 1) : Calls Tryd.prog 33 #[.pointer (some ⟨c, 0, none⟩)] w (fun e w' => e = .returned (.string x.text) ∧ CurE w' S c r ∧ Only c w w') := by
  have := cName h.at_
  have e : nameC ⟨x :: r, 0, 0, 0⟩ = (x.text, ⟨r, 0, 0, 0⟩) := by unfold nameC; rw [headC_cons rfl rfl]; exact if_pos hk
  rw [e] at this
  exact this.mono fun _ _ ⟨a, b, c⟩ => ⟨a, ⟨b⟩, c⟩
theorem CurE.num {w : World} {S : Nat → Prop} {c : Nat} {x : Word} {r : List Word} (h : CurE w S c (x :: r)) (hk : x.kind = 2) {lo hi : Int} (h1 : lo ≤ x.n) (h2 : x.n ≤ hi) : Calls Tryd.prog 34 #[.pointer (some ⟨c, 0, none⟩), .int .i64 lo, .int .i64 hi] w (fun e w' => e = .returned (.int .i64 x.n) ∧ CurE w' S c r ∧ Only c w w') := by
  have := cNum h.at_ lo hi
  have e : numC lo hi ⟨x :: r, 0, 0, 0⟩ = (x.n, ⟨r, 0, 0, 0⟩) := by unfold numC; rw [headC_cons rfl rfl]; simp only [if_pos hk, if_neg (show ¬ (x.n < lo ∨ hi < x.n) by omega)]; rfl
  rw [e] at this
  exact this.mono fun _ _ ⟨a, b, c⟩ => ⟨a, ⟨b⟩, c⟩
theorem CurE.mark {w : World} {S : Nat → Prop} {c : Nat} {x : Word} {r : List Word} (h : CurE w S c (x :: r)) (hk : x.kind = 3) : Calls Tryd.prog 35 #[.pointer (some ⟨c, 0, none⟩), .string x.text] w (fun e w' => e = .returned (.bool true) ∧ CurE w' S c r ∧ Only c w w') := by
  have := cIsM h.at_ x.text
  have e : isC (.mk x.text) ⟨x :: r, 0, 0, 0⟩ = true := by unfold isC hasW; rw [headC_cons rfl rfl]; simp only [hk]; show (x.text.toList == x.text.toList) = true; simp
  rw [e] at this
  exact this.mono fun _ _ ⟨a, b, c⟩ => ⟨a, ⟨b⟩, c⟩
theorem CurE.end_ {w : World} {S : Nat → Prop} {c : Nat} {x : Word} {r : List Word} (h : CurE w S c (x :: r)) (hk : x.kind = 4) : Calls Tryd.prog 32 #[.pointer (some ⟨c, 0, none⟩)] w (fun e w' => e = .returned (.tuple #[]) ∧ CurE w' S c r ∧ Only c w w') := by
  have := cEnd h.at_
  have e : endC ⟨x :: r, 0, 0, 0⟩ = ⟨r, 0, 0, 0⟩ := by unfold endC; rw [headC_cons rfl rfl]; exact if_pos hk
  rw [e] at this
  exact this.mono fun _ _ ⟨a, b, c⟩ => ⟨a, ⟨b⟩, c⟩
theorem CurE.drew {w : World} {S : Nat → Prop} {c : Nat} {l : List Word} (h : CurE w S c l) : CurE w.drew S c l := ⟨h.at_.drew⟩
theorem drew_only {c : Nat} {w w' : World} (h : Only c w.drew w') : Only c w w' := ⟨h.os, h.tape, h.output, h.size, h.block⟩
theorem endW_four {x : Word} (h : x.kind = 1 ∨ x.kind = 2 ∨ x.kind = 3 ∨ x.kind = 4) (he : endW x = true) : x.kind = 4 := by rw [endW_kind h] at he; simpa using he

set_option maxRecDepth 100000 in
set_option maxHeartbeats 40000000 in
theorem lineAll_any (w : World) (s : ByteArray) (hs : s.size ≤ 140737488355328) (hv : Vars w) : Calls Tryd.prog 8 #[.string s] w (RetX (.bool true) w) := by
  have HV := hide hv
  have HAW := hide (awake02_any w hv)
  clear hv
  go_enter Tryd.func8, Tryd.ntmps8
  go_wp2_with (first | (go_at_call 28; refine HAW.out.mono ?_; rintro e _ ⟨rfl, u1, rfl⟩; refine Hd.out ?_))
  refine hide ?_
  obtain ⟨W, hW⟩ : ∃ W, w.ext u1 = W := ⟨_, rfl⟩
  have HVW := hide (show Vars W by rw [← hW]; exact HV.out.ext u1)
  have HBW := hide (show Below w.heap.size w W by rw [← hW]; exact (Below.refl _ _).ext (Nat.le_refl _) u1)
  have hww : w.heap.size ≤ W.heap.size := HBW.out.size
  rw [hW]
  clear hW HAW HV
  by_cases hbig : 3000 < s.size
  · go_wp2_with fail
    go_ret
    exact RetX.b rfl HBW.out
  have hk := read_kinds s
  have hbd := read_bounds s
  obtain ⟨R, hR⟩ : ∃ R, readR s = R := ⟨_, rfl⟩
  rw [hR] at hk hbd
  have HR := hide (show Calls Tryd.prog 13 #[.string s] W (RetRd W R) by rw [← hR]; exact read_any s W (by omega) HVW.out)
  have HRR := hide hR
  have HK := hide hk; have HBD := hide hbd
  clear hR hk hbd
  obtain ⟨ws, rl, rc, re⟩ := R
  simp only at HK HBD
  go_wp2_with (first | (go_at_call 13; refine HR.out.mono ?_; rintro e _ ⟨A1, n, c1, rfl, hS1, u2, rfl⟩; dsimp only; refine Hd.out ?_))
  refine hide ?_
  obtain ⟨W1, hW1⟩ : ∃ W', W.ext u2 = W' := ⟨_, rfl⟩
  have HB1 := hide (show Below w.heap.size w W1 by rw [← hW1]; exact HBW.out.ext hww u2)
  have HV1 := hide (show Vars W1 by rw [← hW1]; exact HVW.out.ext u2)
  have HS1 := hide (show Sl W1 (fun b => b < W1.heap.size) A1 n c1 ws by rw [← hW1] at *; exact hS1.more fun b hb h => hb)
  have hsz1 : w.heap.size ≤ W1.heap.size := HB1.out.size
  rw [hW1]
  have hn := HS1.out.nle
  clear hW1 hS1 HR HBW HVW
  have HO := hide (cOver1 s W1 (by omega) HV1.out)
  by_cases he : re = 0
  · subst he
    have HOV := hide (show overT s = ⟨dropEnd (compK true ws), 0, 0, 0⟩ by unfold overT; rw [HRR.out]; exact if_neg (by simp))
    go_wp2_with (first | (go_at_call 29; refine HO.out.mono ?_; rintro e w1 ⟨rfl, hat1, hb1⟩; refine Hd.out ?_))
    refine hide ?_
    obtain ⟨c, hc⟩ : ∃ c, W1.heap.size = c := ⟨_, rfl⟩
    rw [hc] at hat1 hb1
    rw [hc]
    have HE1 := hide (show CurE w1 (fun b => c < b ∧ b < w1.heap.size) c (dropEnd (compK true (ws.drop 0))) from ⟨by rw [HOV.out] at hat1; exact hat1⟩)
    have HBB := hide hb1
    have HCW := hide hc
    generalize (fun b => c < b ∧ b < w1.heap.size) = S1 at HE1
    have HSC := hide (show Sl W1 (fun b => b < c) A1 n c1 ws by rw [← hc]; exact HS1.out)
    clear hat1 hb1 HO HOV HS1 hc
    go_wp2_with fail
    go_loopw [11, 12] (fun op i wr => ∃ (k : Nat) (b : Bool) (l : List Word), op = .bool b ∧ i = .int .i64 k ∧ k ≤ n ∧ LeftAt ws k b l ∧ CurE wr S1 c l ∧ Below c W1 wr) (fun _ i _ => n - (intOf i).toNat)
    case atStart => exact ⟨0, false, _, rfl, rfl, Nat.zero_le _, .shut, HE1.out, HBB.out⟩
    case round =>
      obtain ⟨k, b, l, rfl, rfl, hk, hl, hce, hbb⟩ := hrel
      have HL := hide hl; have HCE := hide hce; have HB := hide hbb
      have hcl := hce.at_.lt
      clear hl hce hbb
      by_cases hlt : k < n
      · obtain ⟨g, off, x, rfl, hbg, hx, j0, j1, j2, j3, j4, c0, c1', c2, c3, c4⟩ := at_Word (HSC.out.below HB.out (fun b h => h)) hlt
        have hxk := HK.out x (List.mem_of_getElem? hx)
        have hxb := HBD.out x (List.mem_of_getElem? hx)
        have hgc : ¬ g = c := by
          obtain ⟨g', off', _, _, e', _, hS', _⟩ := HSC.out.at_ hlt
          injection e' with e'; injection e' with e1 e2
          omega
        have HKP := hide (show ∀ (X : World), Only c wr X → ∀ j, X.cell? ⟨g, j, none⟩ = wr.cell? ⟨g, j, none⟩ from fun X h j => World.cell?_of_block (h.block g hbg hgc))
        by_cases h4 : x.kind = 4
        · have HN := hide (HL.out.skip hx (by rw [endW_kind hxk, h4]; rfl))
          rw [h4] at c0
          clear hxk hxb hx h4 j0 j1 j2 j3 j4 c1' c2 c3 c4
          cases b
          all_goals
            go_wp2_with fail
            go_roundw
            case rel => exact ⟨k + 1, _, l, rfl, by go_num, by omega, HN.out, HCE.out, HB.out⟩
            case measure => simp [intOf]; omega
        have hxe : endW x = false := by rw [endW_kind hxk]; simp [h4]
        have h4b : (x.kind == 4) = false := by simp [h4]
        cases b
        · obtain ⟨r, rfl, hnx⟩ := HL.out.shut_next hx hxe
          have HNX := hide hnx
          clear hnx HL
          have hx3 : x.kind = 1 ∨ x.kind = 2 ∨ x.kind = 3 := by omega
          rcases hx3 with h1 | h1 | h1
          · have HC := hide (fun (X : World) (h : CurE X S1 c (x :: r)) => h.name h1)
            rw [h1] at c0
            clear hxk hxb hx h4 h4b hxe j0 j1 j2 j3 j4 h1
            go_wp2_with fail
            go_region_held3 (fun X => X.cell? ⟨g, off + k * 5 + 1, none⟩ = some (.string x.text)) (go_keep) (first | (go_at_call 33; refine (HC.out _ (CurE.drew HCE.out)).mono ?_; rintro e w2 ⟨rfl, hce2, hon2⟩; have x1 : w2.cell? ⟨g, off + k * 5 + 1, none⟩ = some (.string x.text) := (HKP.out _ (drew_only hon2) _).trans c1'; have x2 : w2.cell? ⟨g, off + k * 5 + 2, none⟩ = some (.int .i64 x.n) := (HKP.out _ (drew_only hon2) _).trans c2))
            all_goals go_wp2_with fail
            all_goals go_roundw
            case rel => exact ⟨k + 1, true, r, rfl, by go_num, by omega, HNX.out, hce2, HB.out.trans ((drew_only hon2).below (Nat.le_refl c) (by omega))⟩
            case measure => simp [intOf]; omega
          · have hxb2 := hxb h1
            have HC := hide (fun (X : World) (h : CurE X S1 c (x :: r)) => h.num h1 hxb2.1 hxb2.2)
            rw [h1] at c0
            clear hxk hxb hx h4 h4b hxe j0 j1 j2 j3 j4 h1 hxb2
            go_wp2_with fail
            go_region_held3 (fun X => X.cell? ⟨g, off + k * 5 + 2, none⟩ = some (.int .i64 x.n)) (go_keep) (first | (go_at_call 34; refine (HC.out _ (CurE.drew HCE.out)).mono ?_; rintro e w2 ⟨rfl, hce2, hon2⟩; have x1 : w2.cell? ⟨g, off + k * 5 + 1, none⟩ = some (.string x.text) := (HKP.out _ (drew_only hon2) _).trans c1'; have x2 : w2.cell? ⟨g, off + k * 5 + 2, none⟩ = some (.int .i64 x.n) := (HKP.out _ (drew_only hon2) _).trans c2))
            all_goals go_wp2_with fail
            all_goals go_roundw
            case rel => exact ⟨k + 1, true, r, rfl, by go_num, by omega, HNX.out, hce2, HB.out.trans ((drew_only hon2).below (Nat.le_refl c) (by omega))⟩
            case measure => simp [intOf]; omega
          · have HC := hide (fun (X : World) (h : CurE X S1 c (x :: r)) => h.mark h1)
            rw [h1] at c0
            clear hxk hxb hx h4 h4b hxe j0 j1 j2 j3 j4 h1
            go_wp2_with (go_at_call 35; refine (HC.out _ HCE.out).mono ?_; rintro e w2 ⟨rfl, hce2, hon2⟩)
            go_roundw
            case rel => exact ⟨k + 1, true, r, rfl, by go_num, by omega, HNX.out, hce2, HB.out.trans ((hon2).below (Nat.le_refl c) (by omega))⟩
            case measure => simp [intOf]; omega
        · obtain ⟨hk0, y, hy, r, hnx, hor⟩ := HL.out.open_next hx hxe
          have hyk := HK.out y (List.mem_of_getElem? hy)
          obtain ⟨g', off', y', e', _, hy', _, _, _, _, _, d0, _⟩ := at_Word (HSC.out.below HB.out (fun b h => h)) (k := k - 1) (by omega)
          injection e' with e'; injection e' with e1 e2
          subst e1 e2
          have hyy : y' = y := by rw [hy] at hy'; exact (Option.some.inj hy').symm
          subst hyy
          have HNX := hide hnx
          clear hnx HL hy'
          rcases hor with ⟨hye, rfl⟩ | ⟨hye, e, hee, rfl⟩
          · have hy4 : ¬ y'.kind = 4 := by rw [endW_kind hyk] at hye; simpa using hye
            have hy4b : (y'.kind == 4) = false := by simp [hy4]
            clear hye hyk hy hy4
            have hx3 : x.kind = 1 ∨ x.kind = 2 ∨ x.kind = 3 := by omega
            rcases hx3 with h1 | h1 | h1
            · have HC := hide (fun (X : World) (h : CurE X S1 c (x :: r)) => h.name h1)
              rw [h1] at c0
              clear hxk hxb hx h4 h4b hxe j0 j1 j2 j3 j4 h1
              go_wp2_with fail
              go_region_held3 (fun X => X.cell? ⟨g, off + k * 5 + 1, none⟩ = some (.string x.text)) (go_keep) (first | (go_at_call 33; refine (HC.out _ (CurE.drew HCE.out)).mono ?_; rintro e w2 ⟨rfl, hce2, hon2⟩; have x1 : w2.cell? ⟨g, off + k * 5 + 1, none⟩ = some (.string x.text) := (HKP.out _ (drew_only hon2) _).trans c1'; have x2 : w2.cell? ⟨g, off + k * 5 + 2, none⟩ = some (.int .i64 x.n) := (HKP.out _ (drew_only hon2) _).trans c2))
              all_goals go_wp2_with fail
              all_goals go_roundw
              case rel => exact ⟨k + 1, true, r, rfl, by go_num, by omega, HNX.out, hce2, HB.out.trans ((drew_only hon2).below (Nat.le_refl c) (by omega))⟩
              case measure => simp [intOf]; omega
            · have hxb2 := hxb h1
              have HC := hide (fun (X : World) (h : CurE X S1 c (x :: r)) => h.num h1 hxb2.1 hxb2.2)
              rw [h1] at c0
              clear hxk hxb hx h4 h4b hxe j0 j1 j2 j3 j4 h1 hxb2
              go_wp2_with fail
              go_region_held3 (fun X => X.cell? ⟨g, off + k * 5 + 2, none⟩ = some (.int .i64 x.n)) (go_keep) (first | (go_at_call 34; refine (HC.out _ (CurE.drew HCE.out)).mono ?_; rintro e w2 ⟨rfl, hce2, hon2⟩; have x1 : w2.cell? ⟨g, off + k * 5 + 1, none⟩ = some (.string x.text) := (HKP.out _ (drew_only hon2) _).trans c1'; have x2 : w2.cell? ⟨g, off + k * 5 + 2, none⟩ = some (.int .i64 x.n) := (HKP.out _ (drew_only hon2) _).trans c2))
              all_goals go_wp2_with fail
              all_goals go_roundw
              case rel => exact ⟨k + 1, true, r, rfl, by go_num, by omega, HNX.out, hce2, HB.out.trans ((drew_only hon2).below (Nat.le_refl c) (by omega))⟩
              case measure => simp [intOf]; omega
            · have HC := hide (fun (X : World) (h : CurE X S1 c (x :: r)) => h.mark h1)
              rw [h1] at c0
              clear hxk hxb hx h4 h4b hxe j0 j1 j2 j3 j4 h1
              go_wp2_with (go_at_call 35; refine (HC.out _ HCE.out).mono ?_; rintro e w2 ⟨rfl, hce2, hon2⟩)
              go_roundw
              case rel => exact ⟨k + 1, true, r, rfl, by go_num, by omega, HNX.out, hce2, HB.out.trans ((hon2).below (Nat.le_refl c) (by omega))⟩
              case measure => simp [intOf]; omega
          · have hy4 : y'.kind = 4 := endW_four hyk hye
            rw [hy4] at d0
            have hek := HCE.out.at_.ok.k e (by simp)
            have HEN := hide (HCE.out.end_ (endW_four hek hee))
            clear hye hyk hy hy4 hek hee
            have hx3 : x.kind = 1 ∨ x.kind = 2 ∨ x.kind = 3 := by omega
            rcases hx3 with h1 | h1 | h1
            · have HC := hide (fun (X : World) (h : CurE X S1 c (x :: r)) => h.name h1)
              rw [h1] at c0
              clear hxk hxb hx h4 h4b hxe j0 j1 j2 j3 j4 h1
              go_wp2_with (go_at_call 32; refine HEN.out.mono ?_; rintro e w9 ⟨rfl, hce9, hon9⟩; have hb9 : g < w9.heap.size := Nat.lt_of_lt_of_le hbg hon9.size; have y0 : w9.cell? ⟨g, off + k * 5, none⟩ = some (.int .i64 1) := (HKP.out _ hon9 _).trans c0; have y1 : w9.cell? ⟨g, off + k * 5 + 1, none⟩ = some (.string x.text) := (HKP.out _ hon9 _).trans c1'; have y2 : w9.cell? ⟨g, off + k * 5 + 2, none⟩ = some (.int .i64 x.n) := (HKP.out _ hon9 _).trans c2)
              go_region_held3 (fun X => X.cell? ⟨g, off + k * 5 + 1, none⟩ = some (.string x.text)) (go_keep) (first | (go_at_call 33; refine (HC.out _ (CurE.drew hce9)).mono ?_; rintro e w2 ⟨rfl, hce2, hon2⟩; have x1 : w2.cell? ⟨g, off + k * 5 + 1, none⟩ = some (.string x.text) := (HKP.out _ (hon9.trans ((Only.refl c w9).trans (drew_only hon2))) _).trans c1'; have x2 : w2.cell? ⟨g, off + k * 5 + 2, none⟩ = some (.int .i64 x.n) := (HKP.out _ (hon9.trans ((Only.refl c w9).trans (drew_only hon2))) _).trans c2))
              all_goals go_wp2_with fail
              all_goals go_roundw
              case rel => exact ⟨k + 1, true, r, rfl, by go_num, by omega, HNX.out, hce2, HB.out.trans ((hon9.trans ((Only.refl c w9).trans (drew_only hon2))).below (Nat.le_refl c) (by omega))⟩
              case measure => simp [intOf]; omega
            · have hxb2 := hxb h1
              have HC := hide (fun (X : World) (h : CurE X S1 c (x :: r)) => h.num h1 hxb2.1 hxb2.2)
              rw [h1] at c0
              clear hxk hxb hx h4 h4b hxe j0 j1 j2 j3 j4 h1 hxb2
              go_wp2_with (go_at_call 32; refine HEN.out.mono ?_; rintro e w9 ⟨rfl, hce9, hon9⟩; have hb9 : g < w9.heap.size := Nat.lt_of_lt_of_le hbg hon9.size; have y0 : w9.cell? ⟨g, off + k * 5, none⟩ = some (.int .i64 2) := (HKP.out _ hon9 _).trans c0; have y1 : w9.cell? ⟨g, off + k * 5 + 1, none⟩ = some (.string x.text) := (HKP.out _ hon9 _).trans c1'; have y2 : w9.cell? ⟨g, off + k * 5 + 2, none⟩ = some (.int .i64 x.n) := (HKP.out _ hon9 _).trans c2)
              go_region_held3 (fun X => X.cell? ⟨g, off + k * 5 + 2, none⟩ = some (.int .i64 x.n)) (go_keep) (first | (go_at_call 34; refine (HC.out _ (CurE.drew hce9)).mono ?_; rintro e w2 ⟨rfl, hce2, hon2⟩; have x1 : w2.cell? ⟨g, off + k * 5 + 1, none⟩ = some (.string x.text) := (HKP.out _ (hon9.trans ((Only.refl c w9).trans (drew_only hon2))) _).trans c1'; have x2 : w2.cell? ⟨g, off + k * 5 + 2, none⟩ = some (.int .i64 x.n) := (HKP.out _ (hon9.trans ((Only.refl c w9).trans (drew_only hon2))) _).trans c2))
              all_goals go_wp2_with fail
              all_goals go_roundw
              case rel => exact ⟨k + 1, true, r, rfl, by go_num, by omega, HNX.out, hce2, HB.out.trans ((hon9.trans ((Only.refl c w9).trans (drew_only hon2))).below (Nat.le_refl c) (by omega))⟩
              case measure => simp [intOf]; omega
            · have HC := hide (fun (X : World) (h : CurE X S1 c (x :: r)) => h.mark h1)
              rw [h1] at c0
              clear hxk hxb hx h4 h4b hxe j0 j1 j2 j3 j4 h1
              go_wp2_with (first | (go_at_call 32; refine HEN.out.mono ?_; rintro e w9 ⟨rfl, hce9, hon9⟩; have hb9 : g < w9.heap.size := Nat.lt_of_lt_of_le hbg hon9.size; have y0 : w9.cell? ⟨g, off + k * 5, none⟩ = some (.int .i64 3) := (HKP.out _ hon9 _).trans c0; have y1 : w9.cell? ⟨g, off + k * 5 + 1, none⟩ = some (.string x.text) := (HKP.out _ hon9 _).trans c1'; have y2 : w9.cell? ⟨g, off + k * 5 + 2, none⟩ = some (.int .i64 x.n) := (HKP.out _ hon9 _).trans c2) | (go_at_call 35; refine (HC.out _ hce9).mono ?_; rintro e w2 ⟨rfl, hce2, hon2⟩))
              go_roundw
              case rel => exact ⟨k + 1, true, r, rfl, by go_num, by omega, HNX.out, hce2, HB.out.trans ((hon9.trans hon2).below (Nat.le_refl c) (by omega))⟩
              case measure => simp [intOf]; omega
      · have hnil := HL.out.end_ (drop_end HSC.out.len hlt)
        subst hnil
        have HER := hide (cErr HCE.out.at_)
        have HMO := hide (fun u => cMore (HCE.out.at_.ext u))
        have e1 : errV ⟨[], 0, 0, 0⟩ = .tuple #[.int .i64 0, .int .i64 0, .int .i64 0] := rfl
        have e2 : moreC ⟨[], 0, 0, 0⟩ = false := rfl
        rw [e1] at HER
        rw [e2] at HMO
        clear e1 e2 HL
        go_wp2_with (first | (go_at_call 30; refine HER.out.mono ?_; rintro e _ ⟨rfl, u5, rfl⟩) | (go_at_call 31; refine (HMO.out _).mono ?_; rintro e w' ⟨rfl, rfl⟩))
        go_ret
        exact RetX.b rfl ((HB1.out.trans ⟨HB.out.os, HB.out.tape, HB.out.output, HB.out.size, fun b hb => HB.out.block b (by have := HCW.out; omega)⟩).ext (by have := HB.out.size; omega) u5)
  · have HOV := hide (show overT s = ⟨[], re, rl, rc⟩ by unfold overT; rw [HRR.out]; exact if_pos he)
    have heb : (re == 0) = false := by simp [he]
    have e1 : errV ⟨[], re, rl, rc⟩ = .tuple #[.int .i64 rl, .int .i64 rc, .int .i64 re] := by unfold errV errC; rw [if_pos he]
    have e2 : moreC ⟨[], re, rl, rc⟩ = false := by unfold moreC; simp
    have HE1 := hide e1; have HE2 := hide e2
    clear he e1 e2
    go_wp2_with (first | (go_at_call 29; refine HO.out.mono ?_; rintro e w1 ⟨rfl, hat1, hb1⟩; refine Hd.out ?_))
    refine hide ?_
    rw [HOV.out] at hat1
    have hcl := hat1.lt
    have her := cErr hat1
    have hmo := fun u => cMore (hat1.ext u)
    rw [HE1.out] at her
    rw [HE2.out] at hmo
    have HER := hide her; have HMO := hide hmo; have HBB := hide hb1
    clear hat1 her hmo hb1
    go_wp2_with (first | (go_at_call 30; refine HER.out.mono ?_; rintro e _ ⟨rfl, u5, rfl⟩) | (go_at_call 31; refine (HMO.out _).mono ?_; rintro e w' ⟨rfl, rfl⟩))
    go_ret
    exact RetX.b (by simp) ((HB1.out.trans ⟨HBB.out.os, HBB.out.tape, HBB.out.output, HBB.out.size, fun b hb => HBB.out.block b (by omega)⟩).ext (by have := HBB.out.size; omega) u5)
end Go.Proofs.YtmlopggainkoiaaDoor
