/- WordPlaces: its walk. -/
import Derived.Test.YtmlopggainkoiaaDoorPP2
import Derived.Test.YtmlopggainkoiaaDoorPB4
import Derived.Test.YtmlopggainkoiaaDoorSH3
set_option linter.unusedSimpArgs false
set_option linter.unusedVariables false
namespace Go.Proofs.YtmlopggainkoiaaDoor
open Go.RowKit

theorem lit_size (l : List UInt8) : (ByteArray.mk l.toArray).size = l.length := by show l.toArray.size = _; simp
theorem read_okV {s : ByteArray} {W : World} (hs : s.size ≤ 34359738368) (hv : Vars W) {R : ReadR} (h : readR s = R) : Calls Tryd.prog 13 #[.string s] W (RetRd W R) := by rw [← h]; exact read_any s W hs hv
structure FarV (w W : World) : Prop where
  b : Below w.heap.size w W
  v : Vars W
theorem FarV.ext {w W : World} (h : FarV w W) (u : Ext) : FarV w (W.ext u) := ⟨h.b.ext h.b.size u, h.v.ext u⟩
theorem FarV.to {w W : World} (h : FarV w W) : ∃ u : Ext, W = w.ext u := h.b.to_ext
theorem posL_bounds {L : List Int} : ∀ {k : Nat}, k ≤ L.length → 1 ≤ (posL L k).1 ∧ (posL L k).1 ≤ k + 1 ∧ 1 ≤ (posL L k).2 ∧ (posL L k).2 ≤ k + 1
  | 0, _ => by show (1 : Int) ≤ 1 ∧ (1 : Int) ≤ 0 + 1 ∧ (1 : Int) ≤ 1 ∧ (1 : Int) ≤ 0 + 1; omega
  | k + 1, h => by
    have hl : k < L.length := by omega
    have e := posL_succ (List.getElem?_eq_getElem hl)
    have ih := posL_bounds (L := L) (k := k) (by omega)
    rw [e]; unfold stepP
    split
    · show (1 : Int) ≤ (posL L k).1 + 1 ∧ (posL L k).1 + 1 ≤ ((k + 1 : Nat) : Int) + 1 ∧ (1 : Int) ≤ 1 ∧ (1 : Int) ≤ ((k + 1 : Nat) : Int) + 1; omega
    · show (1 : Int) ≤ (posL L k).1 ∧ (posL L k).1 ≤ ((k + 1 : Nat) : Int) + 1 ∧ (1 : Int) ≤ (posL L k).2 + 1 ∧ (posL L k).2 + 1 ≤ ((k + 1 : Nat) : Int) + 1; omega
theorem placed_at {L : List Int} {a : Nat} {ws : List Word} {k : Nat} {w : Word} (h : Placed L a (ws.drop k)) (hx : ws[k]? = some w) : ∃ p t r, a ≤ p ∧ p + t.length ≤ L.length ∧ p < L.length ∧ posL L p = (w.line, w.col) ∧ L.drop p = t ++ r ∧ (w.kind = 4 ∧ t = [10] ∨ w.kind ≠ 4 ∧ w.text = runesBytes t ∧ ∀ x ∈ t, VR x) ∧ Placed L p (ws.drop (k + 1)) := by
  rw [drop_at hx] at h
  obtain ⟨p, t, r, h1, h2, h3, h4, h5, h6⟩ := h
  have hl := congrArg List.length h3
  rw [List.length_drop, List.length_append] at hl
  have : 0 < t.length := by cases t <;> simp_all
  exact ⟨p, t, r, h1, by omega, by omega, h2, h3, h5, h6⟩

set_option maxRecDepth 100000 in
set_option maxHeartbeats 40000000 in
theorem wordPlaces_any (w : World) (s : ByteArray) (hs1 : s.size ≤ 140737488355328) (hv : Vars w) : Calls Tryd.prog 3 #[.string s] w (RetX (.bool true) w) := by
  have HV := hide hv
  have HAW := hide (awake01_any w hv)
  clear hv
  go_enter Tryd.func3, Tryd.ntmps3
  go_wp2_with (first | (go_at_call 12; refine HAW.out.mono ?_; rintro e _ ⟨rfl, u1, rfl⟩; refine Hd.out ?_))
  refine hide ?_
  obtain ⟨W, hW⟩ : ∃ W, w.ext u1 = W := ⟨_, rfl⟩
  have HF := hide (show FarV w W by rw [← hW]; exact (FarV.mk (Below.refl _ _) HV.out).ext u1)
  rw [hW]
  clear hW HAW HV
  by_cases hbig : 4000 < s.size
  · go_wp2_with fail
    go_ret
    exact ⟨rfl, HF.out.to⟩
  have HDN := hide (read_down s)
  obtain ⟨R, hR⟩ : ∃ R, readR s = R := ⟨_, rfl⟩
  have HR := hide (read_okV (s := s) (W := W) (by omega) HF.out.v hR)
  by_cases hok : R.err = 0
  · obtain ⟨ws, hlx, hR', hse, hvr, htw⟩ := read_lexes (s := s) (by rw [hR]; exact hok)
    have HPL := hide (read_placed hlx)
    have HMO := hide (read_more hlx)
    have HGD := hide hlx.pos
    have HTW := hide (show totL ws ≤ 8000 by omega)
    clear htw
    rw [hR'] at hR HDN
    subst hR
    clear hR' hok hse hvr hlx
    go_wp2_with (first | (go_at_call 13; refine HR.out.mono ?_; rintro e _ ⟨A1, n, c1, rfl, hS1, u2, rfl⟩; dsimp only; refine Hd.out ?_))
    refine hide ?_
    obtain ⟨W1, hW1⟩ : ∃ W', W.ext u2 = W' := ⟨_, rfl⟩
    have HF1 := hide (show FarV w W1 by rw [← hW1]; exact HF.out.ext u2)
    have HS1 := hide (show Sl W1 (fun _ => True) A1 n c1 ws by rw [← hW1]; exact hS1.more fun _ _ _ => trivial)
    rw [hW1]
    clear hW1 hS1 HR HF
    have hn := HS1.out.nle
    have HR2 := hide (read_okV (s := ⟨#[97, 10]⟩ ++ s) (W := W1) (by (first | omega | (simp only [ByteArray.size_append, lit_size, List.length_cons, List.length_nil]; omega))) HF1.out.v HDN.out)
    have HR3 := hide (fun W (hv : Vars W) => read_okV (s := s ++ ⟨#[59, 32, 226, 134, 146, 120]⟩) (W := W) (by (first | omega | (simp only [ByteArray.size_append, lit_size, List.length_cons, List.length_nil]; omega))) hv HMO.out)
    clear HDN HMO
    go_wp2_with (first | (go_at_call 13; refine HR2.out.mono ?_; rintro e _ ⟨A2, n2, c2, rfl, hS2, u3, rfl⟩; dsimp only; refine Hd.out ?_) | (simp (disch := (first | omega | (simp only [ByteArray.size_append, lit_size, List.length_cons, List.length_nil]; omega))) only [run_string_add_sum]))
    refine hide ?_
    obtain ⟨W2, hW2⟩ : ∃ W', W1.ext u3 = W' := ⟨_, rfl⟩
    have HF2 := hide (show FarV w W2 by rw [← hW2]; exact HF1.out.ext u3)
    have HM0 := hide (show Sl W2 (fun _ => True) A2 n2 c2 (wA :: wNL :: ws.map downW) by rw [← hW2]; exact (hS2.more (fun _ _ _ => trivial) : Sl _ (fun _ => True) _ _ _ _))
    have HS2 := hide (show Sl W2 (fun _ => True) A1 n c1 ws by rw [← hW2]; exact HS1.out.ext u3)
    rw [hW2]
    clear hW2 hS2 HR2 HF1 HS1
    have hn2 : n2 = n + 2 := by have h1 := HM0.out.len; have h2 := HS2.out.len; simp at h1; omega
    subst hn2
    have HR4 := hide (HR3.out W2 HF2.out.v)
    clear HR3
    go_wp2_with (first | (go_at_call 13; refine HR4.out.mono ?_; rintro e _ ⟨A3, n3, c3, rfl, hS3, u4, rfl⟩; dsimp only; refine Hd.out ?_) | (simp (disch := (first | omega | (simp only [ByteArray.size_append, lit_size, List.length_cons, List.length_nil]; omega))) only [run_string_add_sum]))
    refine hide ?_
    obtain ⟨W3, hW3⟩ : ∃ W', W2.ext u4 = W' := ⟨_, rfl⟩
    have HF3 := hide (show FarV w W3 by rw [← hW3]; exact HF2.out.ext u4)
    have HM := hide (show Sl W3 (fun _ => True) A2 (n + 2) c2 (wA :: wNL :: ws.map downW) by rw [← hW3]; exact HM0.out.ext u4)
    have HS3 := hide (show Sl W3 (fun _ => True) A1 n c1 ws by rw [← hW3]; exact HS2.out.ext u4)
    have HO := hide (show Sl W3 (fun _ => True) A3 n3 c3 ws by rw [← hW3]; exact (hS3.more (fun _ _ _ => trivial) : Sl _ (fun _ => True) _ _ _ _))
    rw [hW3]
    clear hW3 hS3 HR4 HF2 HS2 HM0
    have HAL := hide (alike_eq W3 _ _ A3 A1 n3 c3 n c1 ws ws HO.out HS3.out rfl)
    have hnA : n + 2 ≤ 9223372036854775807 := HM.out.nle
    go_wp2_with (first | (go_at_call 14; refine HAL.out.mono ?_; rintro e _ ⟨rfl, u5, rfl⟩; dsimp only; refine Hd.out ?_))
    refine hide ?_
    obtain ⟨W4, hW4⟩ : ∃ W', W3.ext u5 = W' := ⟨_, rfl⟩
    have HF4 := hide (show FarV w W4 by rw [← hW4]; exact HF3.out.ext u5)
    have HMM := hide (show Sl W4 (fun _ => True) A2 (n + 2) c2 (wA :: wNL :: ws.map downW) by rw [← hW4]; exact HM.out.ext u5)
    have HSS := hide (show Sl W4 (fun _ => True) A1 n c1 ws by rw [← hW4]; exact HS3.out.ext u5)
    rw [hW4]
    clear hW4 HAL HO HM HS3 HF3
    obtain ⟨N, cR, u6, hcv, hNc, hcR, hNs, hrow⟩ := runes_conv W4 s (by omega) 9 28 21 Tryd.underlying9 Tryd.underlying28 Tryd.underlying21
    obtain ⟨L, hL⟩ : ∃ L, items s 0 = L := ⟨_, rfl⟩
    rw [hL] at HPL HGD hrow
    obtain ⟨hN, hrow⟩ := hrow HGD.out
    have HRW := hide hrow
    have HN := hide hN
    clear hrow hN hL HGD
    go_wp2_with (simp only [hcv])
    obtain ⟨W5, hW5⟩ : ∃ W', W4.ext u6 = W' := ⟨_, rfl⟩
    have HF5 := hide (show FarV w W5 by rw [← hW5]; exact HF4.out.ext u6)
    have HMM5 := hide (show Sl W5 (fun _ => True) A2 (n + 2) c2 (wA :: wNL :: ws.map downW) by rw [← hW5]; exact HMM.out.ext u6)
    have HSS5 := hide (show Sl W5 (fun _ => True) A1 n c1 ws by rw [← hW5]; exact HSS.out.ext u6)
    obtain ⟨g, hg⟩ : ∃ g, W4.heap.size = g := ⟨_, rfl⟩
    rw [hW5, hg] at HRW
    rw [hW5, hg]
    clear hcv hW5 hg HMM HSS HF4
    have hgW := HRW.out.1
    clear hrow hs1 hbig
    have HNB := hide (show N ≤ 4000 by omega)
    have hN4 : N ≤ 4000 := by omega
    clear hNs
    go_loopw [16, 17, 18, 19] (fun at_ row col i wz => ∃ (k a : Nat), at_ = .int .i64 a ∧ row = .int .i64 (posL L a).1 ∧ col = .int .i64 (posL L a).2 ∧ i = .int .i64 k ∧ k ≤ n ∧ a ≤ N ∧ Placed L a (ws.drop k) ∧ ∃ u : Ext, wz = W5.ext u) (fun _ _ _ i _ => n - (intOf i).toNat)
    case atStart => exact ⟨0, 0, rfl, rfl, rfl, rfl, Nat.zero_le _, Nat.zero_le _, HPL.out, ext_refl _⟩
    case round =>
      obtain ⟨k, a, rfl, rfl, rfl, rfl, hk, ha, hpl, u, rfl⟩ := hrel
      have HP := hide hpl
      clear hpl
      by_cases hlt : k < n
      · obtain ⟨b, off, x, rfl, hb, hx, _, htz, _, hil, hic, c0, c1, c2, c3, c4⟩ := at_Word HSS5.out hlt
        obtain ⟨b', off', x', rfl, hb', hx', _, _, _, _, _, d0, d1, d2, d3, d4⟩ := at_Word HMM5.out (show k + 2 < n + 2 by omega)
        have hxx : x' = downW x := by
          have : (wA :: wNL :: ws.map downW)[k + 2]? = some (downW x) := by simp [hx]
          rw [hx'] at this; exact Option.some.inj this
        subst hxx
        obtain ⟨q, t, r, haq, hqt, hqN, hq, hdr, hkt, hpl⟩ := placed_at HP.out hx
        obtain ⟨kd, tx, nn, ln, cl⟩ := x
        simp only [downW] at htz hil hic c0 c1 c2 c3 c4 d0 d1 d2 d3 d4 hq hkt
        have HTX := hide (show tx.size ≤ 8000 by have h1 := totL_at hx; have h2 := totL_drop ws k; have h3 := HTW.out; simp only at h1; omega)
        have HDR := hide hdr; have HKT := hide hkt; have HPL2 := hide hpl; have HQ := hide hq
        rw [← HN.out] at hqt hqN
        have hq1 := (posL_bounds (L := L) (k := q) (by have := HN.out; omega))
        rw [hq] at hq1
        simp only at hq1
        obtain ⟨hq1, hq2, hq3, hq4⟩ := hq1
        clear hx hx' hdr hkt hpl hq HP hil hic c2 d0 d2
        go_wp2_with fail
        go_loopw [16, 17, 18] (fun at_ row col wz => wz = W5.ext u ∧ ∃ (z : Nat), at_ = .int .i64 z ∧ row = .int .i64 (posL L z).1 ∧ col = .int .i64 (posL L z).2 ∧ z ≤ q) (fun at_ _ _ _ => q - (intOf at_).toNat)
        case atStart => exact ⟨rfl, a, rfl, rfl, rfl, haq⟩
        case round =>
          obtain ⟨rfl, z, rfl, rfl, rfl, hz⟩ := hrel
          have hzN : z < N := by omega
          by_cases hzq : z = q
          · subst hzq
            have hq := HQ.out
            rw [hq]
            simp only
            have hrow2 := HRW.out.ext u
            have htx : tx.size ≤ 8000 := HTX.out
            obtain ⟨nt, ct, v, hcv2, hnt, hct, hns, hrt⟩ := runes_conv (W5.ext u) tx (by omega) 9 28 21 Tryd.underlying9 Tryd.underlying28 Tryd.underlying21
            have HRT := hide hrt
            clear hrt hrow2 hns
            obtain ⟨y, hy⟩ := ext_ext W5 u v
            rw [hy] at hcv2
            rw [hy] at HRT
            clear hy
            obtain ⟨g2, hg2⟩ : ∃ g2, (W5.ext u).heap.size = g2 := ⟨_, rfl⟩
            rw [hg2] at hcv2 HRT
            have HSZ := hide (show W5.heap.size ≤ g2 by rw [← hg2, size_ext]; omega)
            clear hg2
            rcases HKT.out with ⟨rfl, rfl⟩ | ⟨hk4, htt, hVR⟩
            · clear HRT HKT
              go_wp2_with (simp only [hcv2])
              have hb2 : b < W5.heap.size := hb
              have HAL2 := hide (ext_alloc (W5.ext y) (.cells #[.int .i32 10] 21))
              have HRA := hide (heap_alloc_new (W5.ext y) (.cells #[.int .i32 10] 21))
              obtain ⟨Y, hY⟩ : ∃ Y, (W5.ext y).alloc (.cells #[.int .i32 10] 21) = Y := ⟨_, rfl⟩
              rw [hY] at HAL2 HRA
              rw [hY]
              obtain ⟨y2, hy2⟩ := HAL2.out
              obtain ⟨y3, hy3⟩ := ext_ext W5 y y2
              rw [hy3] at hy2
              obtain ⟨g3, hg3⟩ : ∃ g3, W5.heap.size + y.blocks.size = g3 := ⟨_, rfl⟩
              rw [size_ext, hg3] at HRA
              rw [hg3]
              have HRT := hide (show RuneRow (W5.ext y3) g3 [10] by
                rw [← hy2]
                refine ⟨(Array.getElem?_eq_some_iff.1 HRA.out).1, fun k x hx => ?_⟩
                rw [cell_of_row _ _ _ _ _ (0, 0) HRA.out]
                cases k with
                | zero => simp at hx; subst hx; rfl
                | succ k => simp at hx)
              rw [hy2]
              clear hY hy2 hy3 HAL2 HRA hcv2 hg3 HSZ
              have hcA : ∀ v : Ext, (convert 28 9 (.slice (some ⟨g, z, none⟩) 1 (cR - z))).run Tryd.prog ((W5.ext y3).ext v) = .ok (.string (runesBytes [10])) ((W5.ext y3).ext v) := runes_back (W5.ext y3) g z 1 (cR - z) L [10] r (HRW.out.ext y3) HDR.out rfl _ _ _ Tryd.underlying28 Tryd.underlying21 Tryd.underlying9
              have hcB : ∀ v : Ext, (convert 28 9 (.slice (some ⟨g3, 0, none⟩) 1 1)).run Tryd.prog ((W5.ext y3).ext v) = .ok (.string (runesBytes [10])) ((W5.ext y3).ext v) := runes_back (W5.ext y3) g3 0 1 1 [10] [10] [] HRT.out (by simp) rfl _ _ _ Tryd.underlying28 Tryd.underlying21 Tryd.underlying9
              obtain ⟨S0, hS0⟩ : ∃ S0, runesBytes [10] = S0 := ⟨_, rfl⟩
              rw [hS0] at hcA hcB
              clear hS0
              have hbig1 : k + 2 ≤ 9223372036854775807 := by omega
              have hqt1 : z + 1 ≤ N := by simpa using hqt
              clear hqt
              have hgd : decide ((N : Int) < (z : Int) + 1) = false := by simp; omega
              refine wp_region_ext (by kernel_rfl) (by kernel_rfl) ?_
              repeat (any_goals (first | go_big_quiet_step ((fail)) | quiet_step ((fail))))
              refine wpQuiet_nil ?_
              rintro _ ⟨uq, rfl⟩
              go_wp2_with fail
              refine ⟨?_, ?measure⟩
              apply Exists.intro
              repeat apply Exists.intro
              refine ⟨?rel, rfl⟩
              case rel => exact ⟨k + 1, z, rfl, by rw [HQ.out], by rw [HQ.out], by go_num, by omega, by omega, HPL2.out, ext_ext W5 y3 uq⟩
              case measure => simp [intOf]; omega
            · have HRR := hide (show nt = t.length ∧ RuneRow (W5.ext y) g2 t by have hi := items_of_runes t hVR; rw [← htt] at hi; rw [hi] at HRT; exact HRT.out (fun x hx => by have := hVR x hx; unfold VR at this; omega))
              obtain rfl : nt = t.length := HRR.out.1
              clear HRT HKT htt hVR
              go_wp2_with (simp only [hcv2])
              have hcA : ∀ v : Ext, (convert 28 9 (.slice (some ⟨g, z, none⟩) t.length (cR - z))).run Tryd.prog ((W5.ext y).ext v) = .ok (.string (runesBytes t)) ((W5.ext y).ext v) := runes_back (W5.ext y) g z t.length (cR - z) L t r (HRW.out.ext y) HDR.out rfl _ _ _ Tryd.underlying28 Tryd.underlying21 Tryd.underlying9
              have hcB : ∀ v : Ext, (convert 28 9 (.slice (some ⟨g2, 0, none⟩) t.length ct)).run Tryd.prog ((W5.ext y).ext v) = .ok (.string (runesBytes t)) ((W5.ext y).ext v) := runes_back (W5.ext y) g2 0 t.length ct t t [] HRR.out.2 (by simp) rfl _ _ _ Tryd.underlying28 Tryd.underlying21 Tryd.underlying9
              obtain ⟨S0, hS0⟩ : ∃ S0, runesBytes t = S0 := ⟨_, rfl⟩
              rw [hS0] at hcA hcB
              clear hS0
              have hbig1 : k + 2 ≤ 9223372036854775807 := by omega
              obtain ⟨T, hT⟩ : ∃ T, t.length = T := ⟨_, rfl⟩
              rw [hT] at hcA hcB hqt
              rw [hT]
              have hgd : decide ((N : Int) < (z : Int) + (T : Int)) = false := by simp; omega
              refine wp_region_ext (by kernel_rfl) (by kernel_rfl) ?_
              repeat (any_goals (first | go_big_quiet_step ((fail)) | quiet_step ((fail))))
              refine wpQuiet_nil ?_
              rintro _ ⟨uq, rfl⟩
              go_wp2_with fail
              refine ⟨?_, ?measure⟩
              apply Exists.intro
              repeat apply Exists.intro
              refine ⟨?rel, rfl⟩
              case rel => exact ⟨k + 1, z, rfl, by rw [HQ.out], by rw [HQ.out], by go_num, by omega, by omega, HPL2.out, ext_ext W5 y uq⟩
              case measure => simp [intOf]; omega
          · have HNE := hide ((posL_lt (L := L) (show z < q by omega) (by have := HN.out; omega)).ne)
            rw [HQ.out] at HNE
            have hzb := posL_bounds (L := L) (k := z) (by have := HN.out; omega)
            obtain ⟨c, hc⟩ : ∃ c, L[z]? = some c := ⟨_, List.getElem?_eq_getElem (by have := HN.out; omega)⟩
            have HST := hide (posL_succ hc)
            have hcc := HRW.out.2 z c hc
            obtain ⟨⟨ra, ca⟩, hrc⟩ : ∃ rc, posL L z = rc := ⟨_, rfl⟩
            rw [hrc] at hzb HST HNE
            rw [hrc]
            simp only at hzb
            obtain ⟨z1, z2, z3, z4⟩ := hzb
            clear hc hrc
            simp only
            by_cases hc10 : c = 10
            · subst hc10
              have HS := hide (show posL L (z + 1) = (ra + 1, 1) from HST.out)
              clear HST
              by_cases hrl : ra = ln
              · have hcl : ¬ ca = cl := fun e => HNE.out (by rw [hrl, e])
                subst hrl
                clear HNE
                go_wp2_with fail
                go_roundw
                case rel => exact ⟨trivial, z + 1, by go_num, by rw [HS.out], by rw [HS.out], by omega⟩
                case measure => simp [intOf]; omega
              · clear HNE
                go_wp2_with fail
                go_roundw
                case rel => exact ⟨trivial, z + 1, by go_num, by rw [HS.out], by rw [HS.out], by omega⟩
                case measure => simp [intOf]; omega
            · have HS := hide (show posL L (z + 1) = (ra, ca + 1) by rw [HST.out]; unfold stepP; rw [if_neg hc10])
              clear HST
              by_cases hrl : ra = ln
              · have hcl : ¬ ca = cl := fun e => HNE.out (by rw [hrl, e])
                subst hrl
                clear HNE
                go_wp2_with fail
                go_roundw
                case rel => exact ⟨trivial, z + 1, by go_num, by rw [HS.out], by rw [HS.out], by omega⟩
                case measure => simp [intOf]; omega
              · clear HNE
                go_wp2_with fail
                go_roundw
                case rel => exact ⟨trivial, z + 1, by go_num, by rw [HS.out], by rw [HS.out], by omega⟩
                case measure => simp [intOf]; omega
      · go_wp2_with fail
        go_ret
        exact ⟨rfl, (HF5.out.ext u).to⟩
  · have HDE := hide (show readR (⟨#[97, 10]⟩ ++ s) = ⟨[], R.line + 1, R.col, R.err⟩ by rw [HDN.out, hR]; unfold downR; rw [if_neg hok])
    obtain ⟨_, hl, _, _⟩ := read_err s (by rw [hR]; exact hok)
    rw [hR] at hl
    obtain ⟨rw_, rl, rc, re⟩ := R
    simp only at hl hok HDE
    clear HDN hR
    go_wp2_with (first | (go_at_call 13; refine HR.out.mono ?_; rintro e _ ⟨A1, n, c1, rfl, _, u2, rfl⟩; dsimp only; refine Hd.out ?_))
    refine hide ?_
    obtain ⟨W1, hW1⟩ : ∃ W', W.ext u2 = W' := ⟨_, rfl⟩
    have HF1 := hide (show FarV w W1 by rw [← hW1]; exact HF.out.ext u2)
    rw [hW1]
    clear hW1 HR HF
    have HR2 := hide (read_okV (s := ⟨#[97, 10]⟩ ++ s) (W := W1) (by (first | omega | (simp only [ByteArray.size_append, lit_size, List.length_cons, List.length_nil]; omega))) HF1.out.v HDE.out)
    go_wp2_with (first | (go_at_call 13; refine HR2.out.mono ?_; rintro e _ ⟨A2, n2, c2, rfl, _, u3, rfl⟩; dsimp only; refine Hd.out ?_) | (simp (disch := (first | omega | (simp only [ByteArray.size_append, lit_size, List.length_cons, List.length_nil]; omega))) only [run_string_add_sum]))
    refine hide ?_
    obtain ⟨W2, hW2⟩ : ∃ W', W1.ext u3 = W' := ⟨_, rfl⟩
    have HF2 := hide (show FarV w W2 by rw [← hW2]; exact HF1.out.ext u3)
    rw [hW2]
    clear hW2 HR2 HF1
    obtain ⟨R3, hR3⟩ : ∃ R, readR (s ++ ⟨#[59, 32, 226, 134, 146, 120]⟩) = R := ⟨_, rfl⟩
    obtain ⟨r3w, r3l, r3c, r3e⟩ := R3
    have HR3 := hide (read_okV (s := s ++ ⟨#[59, 32, 226, 134, 146, 120]⟩) (W := W2) (by (first | omega | (simp only [ByteArray.size_append, lit_size, List.length_cons, List.length_nil]; omega))) HF2.out.v hR3)
    clear hR3
    go_wp2_with (first | (go_at_call 13; refine HR3.out.mono ?_; rintro e _ ⟨A3, n3, c3, rfl, _, u4, rfl⟩; dsimp only; refine Hd.out ?_) | (simp (disch := (first | omega | (simp only [ByteArray.size_append, lit_size, List.length_cons, List.length_nil]; omega))) only [run_string_add_sum]))
    refine hide ?_
    go_wp2_with fail
    go_ret
    exact RetX.b (by simp; omega) ((HF2.out.ext u4).b)
end Go.Proofs.YtmlopggainkoiaaDoor
