/- Walks: BriefApart. -/
import Derived.Test.YthmglmmafgdmhaaTB8
import Derived.BigQuiet
import Derived.BigGuardPart
set_option linter.unusedSimpArgs false
set_option linter.unusedVariables false
namespace Go.Proofs.Ythmglmmafgdmhaa
open Go.RowKit Go.Maps

theorem idx_of {xs : List Int} {v : Int} {p : Bool} (h : xs.contains v = p) : decide (0 ≤ idxF (fun x => x == v) 0 xs) = p := by rw [idx_mem, h]
set_option maxRecDepth 100000 in
set_option maxHeartbeats 16000000 in
theorem briefApart_any (w : World) (S : Nat → Prop) (b : Brief) (A1 A2 A3 : Option Addr) (n1 c1 n2 c2 n3 c3 : Nat) (h1 : Sl w S A1 n1 c1 b.vars) (h2 : Sl w S A2 n2 c2 b.colors) (h3 : Sl w S A3 n3 c3 b.edge)
    (hz : b.vars.length ≤ 1048576 ∧ b.colors.length ≤ 1048576 ∧ b.edge.length ≤ 1048576) :
    Calls Try.prog 4 #[.agg #[.slice A1 n1 c1, .slice A2 n2 c2, .slice A3 n3 c3]] w (fun e w' => e = .returned (.bool true) ∧ Below w.heap.size w w') := by
  have L1 := h1.len; have L2 := h2.len; have L3 := h3.len
  obtain ⟨W0, hW0⟩ : ∃ W0, w.alloc (.cells #[.slice A1 n1 c1, .slice A2 n2 c2, .slice A3 n3 c3] 31) = W0 := ⟨_, rfl⟩
  obtain ⟨g, hg⟩ : ∃ g, w.heap.size = g := ⟨_, rfl⟩
  have hrow : W0.heap[g]? = some (.cells #[.slice A1 n1 c1, .slice A2 n2 c2, .slice A3 n3 c3] 31 (0, 0)) := by rw [← hW0, ← hg]; exact heap_alloc_new w _
  have hgl : g < W0.heap.size := by rw [← hW0, ← hg]; simp
  have HB0 := hide (show Below w.heap.size w W0 by rw [← hW0]; exact (Below.refl _ _).alloc (Nat.le_refl _) _)
  have K1 := hide (show Sl W0 (fun _ => True) A1 n1 c1 b.vars by rw [← hW0]; exact (h1.alloc _).more fun _ _ _ => trivial)
  have K2 := hide (show Sl W0 (fun _ => True) A2 n2 c2 b.colors by rw [← hW0]; exact (h2.alloc _).more fun _ _ _ => trivial)
  have K3 := hide (show Sl W0 (fun _ => True) A3 n3 c3 b.edge by rw [← hW0]; exact (h3.alloc _).more fun _ _ _ => trivial)
  have HROW := hide hrow
  have HK := hide (fun (W : World) (hb : Below W0.heap.size W0 W) => show W.cell? ⟨g, 0, none⟩ = some (.slice A1 n1 c1) ∧ W.cell? ⟨g, 1, none⟩ = some (.slice A2 n2 c2) ∧ W.cell? ⟨g, 2, none⟩ = some (.slice A3 n3 c3) ∧ g < W.heap.size from by
    have h := (hb.block g hgl).trans hrow
    exact ⟨cell_of_row W g _ _ _ (0, 0) h, cell_of_row W g _ _ _ (0, 0) h, cell_of_row W g _ _ _ (0, 0) h, (Array.getElem?_eq_some_iff.1 h).1⟩)
  have HSZ := hide (fun (W : World) (hb : Below W0.heap.size W0 W) => size23_any (W.alloc (.cells #[.slice A1 n1 c1, .slice A2 n2 c2, .slice A3 n3 c3] 31)) (fun _ => True) (some ⟨W.heap.size, 0, none⟩) 1 1 [b] (lit_brief W _ rfl b (K1.out.belowAll hb) (K2.out.belowAll hb) (K3.out.belowAll hb)) (by decide) (by intro x hx; simp at hx; subst hx; exact hz))
  have HAP := hide (fun (W : World) (hb : Below W0.heap.size W0 W) => apart_any W (fun _ => True) b A1 A2 A3 n1 c1 n2 c2 n3 c3 (K1.out.belowAll hb) (K2.out.belowAll hb) (K3.out.belowAll hb))
  have HKE := hide (fun (W : World) (hb : Below W0.heap.size W0 W) => kept_any (W.alloc (.cells #[.slice A1 n1 c1, .slice A2 n2 c2, .slice A3 n3 c3] 31)) (fun _ => True) (some ⟨W.heap.size, 0, none⟩) 1 1 [b] (lit_brief W _ rfl b (K1.out.belowAll hb) (K2.out.belowAll hb) (K3.out.belowAll hb)) (by decide))
  have HRI := hide (fun (W : World) (hb : Below W0.heap.size W0 W) => rightB_any W (fun _ => True) b A1 A2 A3 n1 c1 n2 c2 n3 c3 (K1.out.belowAll hb) (K2.out.belowAll hb) (K3.out.belowAll hb))
  have HUS := hide (fun (W : World) (hb : Below W0.heap.size W0 W) => used_any W (fun _ => True) b A1 A2 A3 n1 c1 n2 c2 n3 c3 (K1.out.belowAll hb) (K2.out.belowAll hb) (K3.out.belowAll hb))
  clear h1 h2 h3 hrow
  go_enter Try.func4, Try.ntmps4
  go_wp2_with (go_at_call 5; refine (awake23_any _).mono ?_; rintro e _ ⟨rfl, ua, rfl⟩; refine Hd.out ?_)
  obtain ⟨Wa, hWa⟩ : ∃ Wa, W0.ext ua = Wa := ⟨_, rfl⟩
  rw [hWa]
  have HBa := hide (show Below W0.heap.size W0 Wa by rw [← hWa]; exact Below.of_ext W0 ua (Nat.le_refl _))
  obtain ⟨k0, k1, k2, hgw⟩ := HK.out Wa HBa.out
  have hwa := HBa.out.size
  clear hWa
  refine hide ?_
  obtain ⟨sz, hsz⟩ : ∃ sz, sizeL ([b].length : Nat) [b] = sz := ⟨_, rfl⟩
  have HS := hide (show Calls Try.prog 6 #[.slice (some ⟨Wa.heap.size, 0, none⟩) 1 1] (Wa.alloc (.cells #[.slice A1 n1 c1, .slice A2 n2 c2, .slice A3 n3 c3] 31)) (RetX (.int .i64 sz) (Wa.alloc (.cells #[.slice A1 n1 c1, .slice A2 n2 c2, .slice A3 n3 c3] 31))) from hsz ▸ HSZ.out Wa HBa.out)
  by_cases hbig : 400 < sz
  · go_wp2_with (go_at_call 6; (with_reducible refine (HS.out).mono ?_); rintro e _ ⟨rfl, ux, rfl⟩)
    go_ret
    exact ⟨rfl, HB0.out.trans ((((HBa.out.alloc hwa _).ext (by simp; omega) _)).mono HB0.out.size)⟩
  · go_wp2_with (first
      | (go_at_call 6; (with_reducible refine HS.out.mono ?_); rintro e _ ⟨rfl, ux, rfl⟩; refine Hd.out ?_))
    have htot := sizeL_small [b] _ (by rw [hsz]; omega)
    have hv4 : (b.vars.length + b.colors.length + b.edge.length : Int) ≤ 400 := by
      have := totL_mem (l := [b]) (b := b) (by simp)
      simp only [List.length_singleton] at htot
      omega
    clear htot HS HSZ
    obtain ⟨Wb, hWb⟩ : ∃ Wb, (Wa.alloc (.cells #[.slice A1 n1 c1, .slice A2 n2 c2, .slice A3 n3 c3] 31)).ext ux = Wb := ⟨_, rfl⟩
    rw [hWb]
    have HBb := hide (show Below W0.heap.size W0 Wb by rw [← hWb]; exact (HBa.out.alloc hwa _).ext (by simp; omega) _)
    clear hWb k0 k1 k2 hgw
    obtain ⟨k0, k1, k2, hgw⟩ := HK.out Wb HBb.out
    have hwb := HBb.out.size
    have HA := hide (HAP.out Wb HBb.out)
    refine hide ?_
    go_wp2_with (go_at_call 12; (with_reducible refine HA.out.mono ?_); rintro e Wc ⟨v, hs, rfl, hl, ho, hro, hb⟩; obtain ⟨A4, c4, rfl⟩ := ho.form; obtain ⟨n4, hn4⟩ : ∃ n4, hs.length = n4 := ⟨_, rfl⟩; rw [hn4] at hl ho ⊢; have HN4 := hide hn4; have HL := hide hl; clear hn4 hl; refine Hd.out ?_)
    have HBc := hide (show Below W0.heap.size W0 Wc from HBb.out.trans (hb.mono hwb))
    have HO := hide ho; have HRO := hide hro
    clear HA HAP hb ho hro k0 k1 k2 hgw
    obtain ⟨k0, k1, k2, hgw⟩ := HK.out Wc HBc.out
    have hwc := HBc.out.size
    have HA := hide (HKE.out Wc HBc.out)
    refine hide ?_
    go_wp2_with (go_at_call 10; (with_reducible refine HA.out.mono ?_); rintro e Wd ⟨v, rfl, ho, hb⟩; obtain ⟨A5, c5, rfl⟩ := ho.form; obtain ⟨n5, hn5⟩ : ∃ n5, (keptB [b]).length = n5 := ⟨_, rfl⟩; rw [hn5] at ho ⊢; have HN5 := hide hn5; clear hn5; refine Hd.out ?_)
    have hcd : Below Wc.heap.size Wc Wd := (((Below.refl _ Wc).alloc (Nat.le_refl _) _).trans (hb.mono (by simp)))
    have HCD := hide hcd
    have HBd := hide (show Below W0.heap.size W0 Wd from HBc.out.trans (hcd.mono hwc))
    have HKS := hide (show Sl Wd (fun _ => True) A5 n5 c5 (keptB [b]) from ho.sl fun _ _ _ => trivial)
    have HRS := hide (show Sl Wd (fun _ => True) A4 n4 c4 hs from (HO.out.sl fun _ _ _ => trivial).belowAll hcd)
    have HRR := hide (fun (k : Nat) (x : Hdr) (hk : hs[k]? = some x) => show Sl Wd (fun _ => True) x.a x.n x.c (((apartB b)[k]?).getD []) from ((HRO.out.own k x hk).sl fun _ _ _ => trivial).belowAll hcd)
    clear HA HKE hb ho hcd HO HRO k0 k1 k2 hgw
    obtain ⟨k0, k1, k2, hgw⟩ := HK.out Wd HBd.out
    have hwd := HBd.out.size
    have HB1 := hide HB0.out.size
    refine hide ?_
    cases hr : rightB b with
    | false =>
      have HA := hide (show Calls Try.prog 13 #[.agg #[.slice A1 n1 c1, .slice A2 n2 c2, .slice A3 n3 c3]] Wd (RetX (.bool false) Wd) from hr ▸ HRI.out Wd HBd.out)
      have hkl : n5 = 0 := by rw [← HN5.out, keptB_wrong (by simp [anyF, hr])]; rfl
      have hal : n4 = 0 := by rw [HL.out]; unfold apartB; rw [hr]; rfl
      have HU := hide (fun (u : Ext) => show Calls Try.prog 14 #[.agg #[.slice A1 n1 c1, .slice A2 n2 c2, .slice A3 n3 c3]] (Wd.ext u) (fun e w' => e = .returned (.int .i64 0) ∧ Below (Wd.ext u).heap.size (Wd.ext u) w') from by
        have h := HUS.out (Wd.ext u) (HBd.out.ext hwd u)
        have e : (apartB b).length = 0 := by unfold apartB; rw [hr]; rfl
        rw [e] at h
        exact h)
      subst hkl hal
      go_wp2_with (first
        | (go_at_call 13; (with_reducible refine HA.out.mono ?_); rintro e _ ⟨rfl, uz, rfl⟩)
        | (go_at_call 14; (with_reducible refine (HU.out _).mono ?_); rintro e We ⟨rfl, hbe⟩))
      go_ret
      exact ⟨rfl, HB0.out.trans (((HBd.out.ext hwd _).trans (hbe.mono (by rw [size_ext]; omega))).mono HB1.out)⟩
    | true =>
      have HA := hide (show Calls Try.prog 13 #[.agg #[.slice A1 n1 c1, .slice A2 n2 c2, .slice A3 n3 c3]] Wd (RetX (.bool true) Wd) from hr ▸ HRI.out Wd HBd.out)
      have R := rightB_of hr
      go_wp2_with (go_at_call 13; (with_reducible refine HA.out.mono ?_); rintro e _ ⟨rfl, uz, rfl⟩)
      obtain ⟨Wl, hWl⟩ : ∃ Wl, Wd.ext uz = Wl := ⟨_, rfl⟩
      rw [hWl]
      have HBl := hide (show Below W0.heap.size W0 Wl by rw [← hWl]; exact HBd.out.ext hwd uz)
      have hbdl : Below Wd.heap.size Wd Wl := by rw [← hWl]; exact Below.of_ext Wd uz (Nat.le_refl _)
      have HKK := hide (fun (wr : World) (hu : ∃ u : Ext, wr = Wl.ext u) => show Below W0.heap.size W0 wr ∧ Below Wd.heap.size Wd wr from by
        obtain ⟨u, rfl⟩ := hu
        exact ⟨HBl.out.ext HBl.out.size u, hbdl.ext hbdl.size u⟩)
      have HNC := hide (show (colorsB b).length = n4 by rw [← apartB_len hr, HL.out])
      have HRW := hide (fun (k : Nat) (x : Hdr) (d : Int) (hk : hs[k]? = some x) (hd : (colorsB b)[k]? = some d) => show Sl Wd (fun _ => True) x.a x.n x.c (rowC d (vcB b)) from by
        have h := HRR.out k x hk
        rw [apartB_at hr hd] at h
        exact h)
      have hn12 : n2 = n1 := by have := R.lc; omega
      have hn1B : n1 ≤ 400 := by omega
      have hn4B : n4 ≤ 64 := by
        rw [← HNC.out, colorsB_eq]
        have := List.length_filter_le (fun c : Int => !(rowC c (vcB b)).isEmpty) ((List.range 64).map fun i : Nat => (i : Int) + 0)
        simpa using this
      clear HRR hWl hbdl k0 k1 k2 hgw HA
      subst hn12
      go_loopw [5, 6] (fun c0 i wr => ∃ q : Nat, q ≤ n2 ∧ i = .int .i64 q ∧ c0 = .int .i64 ((colsL ((vcB b).take q)).length : Nat) ∧ ∃ u, wr = Wl.ext u) (fun _ i _ => n2 - (intOf i).toNat)
      case atStart => exact ⟨0, Nat.zero_le _, rfl, rfl, ext_refl _⟩
      case round =>
        obtain ⟨q, hq, rfl, rfl, hu⟩ := hrel
        obtain ⟨hbr, hbdr⟩ := HKK.out wr hu
        have HU := hide hu; have HBR := hide hbr; have HBDR := hide hbdr
        obtain ⟨k0, k1, k2, hgw⟩ := HK.out wr hbr
        have s1 := K1.out.belowAll hbr
        have s2 := K2.out.belowAll hbr
        have hcl : (colsL ((vcB b).take q)).length ≤ 400 := by
          unfold colsL
          have h1 := List.length_filter_le (fun p : Int × Int => decide (0 ≤ p.2)) ((vcB b).take q)
          rw [List.length_take] at h1
          omega
        obtain ⟨cc, hcc⟩ : ∃ cc, (colsL ((vcB b).take q)).length = cc := ⟨_, rfl⟩
        rw [hcc] at hcl ⊢
        have HCC := hide hcc
        clear hu hbr hbdr hcc
        by_cases hlt : q < n2
        · obtain ⟨g1, o1, v, rfl, hb1, hv, hvi, d1⟩ := at_int s1 hlt
          obtain ⟨g2, o2, c, rfl, hb2, hc, hci, d2⟩ := at_int s2 hlt
          have HV := hide hv; have HC := hide hc
          have hqi : (q : Int) < n2 := by omega
          clear hv hc hvi hci s1 s2
          go_wp2_with fail
          clear k0 k1 k2 hgw d1 d2 hb1 hb2
          have HCD' := hide (many_at R HV.out HC.out)
          go_loopw [7, 8] (fun m0 i wr => ∃ k : Nat, k ≤ n4 ∧ i = .int .i64 k ∧ m0 = .int .i64 (manyT c ((colorsB b).take k) : Nat) ∧ ∃ u, wr = Wl.ext u) (fun _ i _ => n4 - (intOf i).toNat)
          case atStart => exact ⟨0, Nat.zero_le _, rfl, rfl, HU.out⟩
          clear HU HBR HBDR
          case round =>
            obtain ⟨k, hk, rfl, rfl, hu⟩ := hrel
            obtain ⟨hbr, hbdr⟩ := HKK.out wr hu
            have HU := hide hu; have HBR := hide hbr; have HBDR := hide hbdr
            obtain ⟨k0, k1, k2, hgw⟩ := HK.out wr hbr
            have s1 := K1.out.belowAll hbr
            have s2 := K2.out.belowAll hbr
            have hmc : manyT c ((colorsB b).take k) ≤ 64 := by
              unfold manyT
              have h1 := List.length_filter_le (fun d : Int => d == c) ((colorsB b).take k)
              rw [List.length_take] at h1
              omega
            obtain ⟨mm, hmm⟩ : ∃ mm, manyT c ((colorsB b).take k) = mm := ⟨_, rfl⟩
            rw [hmm] at hmc ⊢
            have HMM := hide hmm
            clear hmm
            obtain ⟨_, _, v', e1, hb1, hv, _, d1⟩ := at_int s1 hlt
            obtain ⟨_, _, c', e2, hb2, hc, _, d2⟩ := at_int s2 hlt
            injection e1 with e1; injection e1 with e1 e1'; injection e2 with e2; injection e2 with e2 e2'
            subst e1 e1' e2 e2'
            rw [HV.out] at hv; rw [HC.out] at hc
            injection hv with hv; injection hc with hc
            subst hv hc
            clear hu hbr hbdr s1 s2
            by_cases hltk : k < n4
            · obtain ⟨b3, o3, x, rfl, hb3, _, hx, d3⟩ := at_hdr (HRS.out.belowAll HBDR.out) hltk
              obtain ⟨d, hd⟩ : ∃ d, (colorsB b)[k]? = some d := ⟨_, List.getElem?_eq_getElem (by have := HNC.out; omega)⟩
              have hrow := (HRW.out k x d hx hd).belowAll HBDR.out
              have HD := hide hd
              have HT := hide (show manyT c ((colorsB b).take (k + 1)) = mm + (if c = d then 1 else 0) by rw [take_at hd, manyT_snoc, HMM.out])
              obtain ⟨y, hy⟩ : ∃ y, idxF (fun x => x == v) 0 (rowC d (vcB b)) = y := ⟨_, rfl⟩
              have HAT := hide (fun (u : Ext) => show Calls Try.prog 11 #[.slice x.a x.n x.c, .int .i64 v] (wr.ext u) (Ret (.int .i64 y) (wr.ext u)) from hy ▸ at23_any (wr.ext u) _ _ _ _ _ (hrow.ext u) v)
              have hyd := idx_of (rowC_mem R HV.out HC.out d)
              rw [hy] at hyd
              have hki : (k : Int) < n4 := by omega
              clear hx hd hrow hy
              by_cases hcd : c = d
              · have hyp : 0 ≤ y := of_decide_eq_true (by rw [hyd]; exact decide_eq_true hcd)
                clear hyd
                rw [if_pos hcd] at HT
                go_wp2_with fail
                refine wp_region_ext (by kernel_rfl) (by kernel_rfl) ?_
                repeat (any_goals (first | go_big_quiet_step (((go_at_call 11; with_reducible exact quiet_ret (HAT.out _)))) | quiet_step (((go_at_call 11; with_reducible exact quiet_ret (HAT.out _))))))
                refine wpQuiet_nil ?_
                rintro _ ⟨uq, rfl⟩
                go_wp2_with fail
                subst hcd
                clear d1 d2 d3 hb1 hb2 hb3 k0 k1 k2 hgw hyp HAT
                go_loopw [9] (fun i wr => ∃ j : Nat, j ≤ n2 ∧ i = .int .i64 j ∧ ∃ u, wr = Wl.ext u) (fun i _ => n2 - (intOf i).toNat)
                case atStart => exact ⟨0, Nat.zero_le _, rfl, by obtain ⟨u, hu⟩ := HU.out; rw [hu]; exact ext_ext _ _ _⟩
                clear HU HBR HBDR
                case round =>
                  obtain ⟨j, hj, rfl, hu⟩ := hrel
                  obtain ⟨hbr, hbdr⟩ := HKK.out wr hu
                  have HU := hide hu; have HBR := hide hbr; have HBDR := hide hbdr
                  obtain ⟨k0, k1, k2, hgw⟩ := HK.out wr hbr
                  have s1 := K1.out.belowAll hbr
                  have s2 := K2.out.belowAll hbr
                  obtain ⟨_, _, c', e2, hb2, hc, _, d2⟩ := at_int s2 hlt
                  injection e2 with e2; injection e2 with e2 e2'
                  subst e2 e2'
                  rw [HC.out] at hc
                  injection hc with hc
                  subst hc
                  obtain ⟨_, _, x', e3, hb3, _, hx, d3⟩ := at_hdr (HRS.out.belowAll HBDR.out) hltk
                  injection e3 with e3; injection e3 with e3 e3'
                  subst e3 e3'
                  have hrow := (HRW.out k x' c hx HD.out).belowAll HBDR.out
                  have hki : (k : Int) < n4 := by omega
                  have hqi : (q : Int) < n2 := by omega
                  clear hu hbr hbdr hx
                  by_cases hltj : j < n2
                  · obtain ⟨_, _, v', e1, hb1, hv, _, d1⟩ := at_int s1 hltj
                    obtain ⟨_, _, c', e2, hb2', hc, _, d4⟩ := at_int s2 hltj
                    injection e1 with e1; injection e1 with e1 e1'; injection e2 with e2; injection e2 with e2 e2'
                    subst e1 e1' e2 e2'
                    obtain ⟨y, hy⟩ : ∃ y, idxF (fun x => x == v') 0 (rowC c (vcB b)) = y := ⟨_, rfl⟩
                    have HAT := hide (fun (u : Ext) => show Calls Try.prog 11 #[.slice x'.a x'.n x'.c, .int .i64 v'] (wr.ext u) (Ret (.int .i64 y) (wr.ext u)) from hy ▸ at23_any (wr.ext u) _ _ _ _ _ (hrow.ext u) v')
                    have hyd := idx_of (rowC_mem R hv hc c)
                    rw [hy] at hyd
                    have hji : (j : Int) < n2 := by omega
                    clear hv hc hrow hy s1 s2
                    by_cases hcc : c' = c
                    · have hyp : 0 ≤ y := of_decide_eq_true (by rw [hyd]; exact decide_eq_true hcc)
                      clear hyd
                      subst hcc
                      go_wp2_with fail
                      refine wp_region_ext (by kernel_rfl) (by kernel_rfl) ?_
                      repeat (any_goals (first | go_big_quiet_step (((go_at_call 11; with_reducible exact quiet_ret (HAT.out _)))) | quiet_step (((go_at_call 11; with_reducible exact quiet_ret (HAT.out _))))))
                      refine wpQuiet_nil ?_
                      rintro _ ⟨uq, rfl⟩
                      go_wp2_with fail
                      go_roundw
                      case rel => exact ⟨j + 1, by omega, by go_num, by obtain ⟨u, hu⟩ := HU.out; rw [hu]; exact ext_ext _ _ _⟩
                      case measure => simp [intOf]; omega
                    · have hyp : y < 0 := by have := of_decide_eq_false (hyd.trans (decide_eq_false hcc)); omega
                      clear hyd
                      have hbe : (c' == c) = false := by simpa using hcc
                      have hdy : decide (0 ≤ y) = false := decide_eq_false (by omega)
                      go_wp2_with fail
                      refine wp_region_ext (by kernel_rfl) (by kernel_rfl) ?_
                      repeat (any_goals (first | go_big_quiet_step (((go_at_call 11; with_reducible exact quiet_ret (HAT.out _)))) | quiet_step (((go_at_call 11; with_reducible exact quiet_ret (HAT.out _))))))
                      refine wpQuiet_nil ?_
                      rintro _ ⟨uq, rfl⟩
                      go_wp2_with fail
                      exact ⟨⟨j + 1, by omega, by go_num, by obtain ⟨u, hu⟩ := HU.out; rw [hu]; exact ext_ext _ _ _⟩, by simp [intOf]; omega⟩
                  · have hjn : j = n2 := by omega
                    subst hjn
                    clear s1 s2 hrow
                    go_wp2_with fail
                    go_roundw
                    case rel => exact ⟨k + 1, by omega, by go_num, by rw [HT.out]; go_num, HU.out⟩
                    case measure => simp [intOf]; omega
              · have hyp : y < 0 := by have := of_decide_eq_false (hyd.trans (decide_eq_false hcd)); omega
                clear hyd
                rw [if_neg hcd] at HT
                go_wp2_with fail
                refine wp_region_ext (by kernel_rfl) (by kernel_rfl) ?_
                repeat (any_goals (first | go_big_quiet_step (((go_at_call 11; with_reducible exact quiet_ret (HAT.out _)))) | quiet_step (((go_at_call 11; with_reducible exact quiet_ret (HAT.out _))))))
                refine wpQuiet_nil ?_
                rintro _ ⟨uq, rfl⟩
                go_wp2_with fail
                go_roundw
                case rel => exact ⟨k + 1, by omega, by go_num, by rw [HT.out]; go_num, by obtain ⟨u, hu⟩ := HU.out; rw [hu]; exact ext_ext _ _ _⟩
                case measure => simp [intOf]; omega
            · have hkn : k = n4 := by omega
              subst hkn
              have hM : mm = if 0 ≤ c then 1 else 0 := by
                rw [← HMM.out, List.take_of_length_le (by rw [HNC.out]; exact Nat.le_refl _)]; exact HCD'.out
              rw [hM]
              have hks := HKS.out.belowAll HBDR.out
              obtain ⟨y, hy⟩ : ∃ y, idxF (fun x => x == v) 0 (keptB [b]) = y := ⟨_, rfl⟩
              have HAT := hide (fun (u : Ext) => show Calls Try.prog 11 #[.slice A5 n5 c5, .int .i64 v] (wr.ext u) (Ret (.int .i64 y) (wr.ext u)) from hy ▸ at23_any (wr.ext u) _ _ _ _ _ (hks.ext u) v)
              have hyd := idx_of (kept1_mem hr HV.out HC.out)
              rw [hy] at hyd
              have HT := hide (show (colsL ((vcB b).take (q + 1))).length = cc + (if 0 ≤ c then 1 else 0) by rw [take_at (vc_at HV.out HC.out), colsL_snoc, HCC.out])
              clear hks hy hM
              by_cases hc0 : 0 ≤ c
              · have hyp : 0 ≤ y := of_decide_eq_true (by rw [hyd]; exact decide_eq_true hc0)
                clear hyd
                rw [if_pos hc0] at HT ⊢
                have hcn : ¬ c < 0 := by omega
                go_wp2_with fail
                refine wp_region_ext (by kernel_rfl) (by kernel_rfl) ?_
                repeat (any_goals (first | go_big_quiet_step (((go_at_call 11; with_reducible exact quiet_ret (HAT.out _)))) | quiet_step (((go_at_call 11; with_reducible exact quiet_ret (HAT.out _))))))
                refine wpQuiet_nil ?_
                rintro _ ⟨uq, rfl⟩
                go_wp2_with fail
                go_roundw
                case rel => exact ⟨q + 1, by omega, by go_num, by rw [HT.out]; go_num, by obtain ⟨u, hu⟩ := HU.out; rw [hu]; exact ext_ext _ _ _⟩
                case measure => simp [intOf]; omega
              · have hyp : y < 0 := by have := of_decide_eq_false (hyd.trans (decide_eq_false hc0)); omega
                clear hyd
                have hdc : decide (0 ≤ c) = false := decide_eq_false hc0
                have hdy : decide (0 ≤ y) = false := decide_eq_false (by omega)
                rw [if_neg hc0] at HT ⊢
                have hcn : c < 0 := by omega
                go_wp2_with fail
                refine wp_region_ext (by kernel_rfl) (by kernel_rfl) ?_
                repeat (any_goals (first | go_big_quiet_step (((go_at_call 11; with_reducible exact quiet_ret (HAT.out _)))) | quiet_step (((go_at_call 11; with_reducible exact quiet_ret (HAT.out _))))))
                refine wpQuiet_nil ?_
                rintro _ ⟨uq, rfl⟩
                go_wp2_with fail
                exact ⟨⟨q + 1, by omega, by go_num, by rw [HT.out]; go_num, by obtain ⟨u, hu⟩ := HU.out; rw [hu]; exact ext_ext _ _ _⟩, by simp [intOf]; omega⟩
        · have hqn : q = n2 := by omega
          subst hqn
          have hC : cc = n5 := by
            rw [← HCC.out, List.take_of_length_le (by rw [vc_len R]; omega), ← kept_one hr, HN5.out]
          have h45 : (n4 : Int) ≤ n5 := by
            have h1 := cols_few R
            have h2 := kept_one hr
            have := HNC.out
            have := HN5.out
            omega
          have HUU := hide (show Calls Try.prog 14 #[.agg #[.slice A1 q c1, .slice A2 q c2, .slice A3 n3 c3]] wr (fun e w' => e = .returned (.int .i64 n4) ∧ Below wr.heap.size wr w') from by
            have h := HUS.out wr HBR.out
            rw [← HL.out] at h
            exact h)
          rw [hC]
          clear s1 s2 hC
          go_wp2_with (go_at_call 14; (with_reducible refine HUU.out.mono ?_); rintro e We ⟨rfl, hbe⟩)
          go_ret
          exact ⟨rfl, HB0.out.trans ((HBR.out.trans (hbe.mono HBR.out.size)).mono HB1.out)⟩
end Go.Proofs.Ythmglmmafgdmhaa
