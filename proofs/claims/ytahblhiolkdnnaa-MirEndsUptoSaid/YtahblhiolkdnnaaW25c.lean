/- Walk: MirEnds: all that follows its first loops. -/
import Derived.Test.YtahblhiolkdnnaaW25b
import Derived.Deep.RegionHeld3
import Derived.Deep.DeepCutAuto
import Derived.Deep.CutBlock
import Derived.Test.YtahblhiolkdnnaaName
set_option linter.unusedSimpArgs false
set_option linter.unusedVariables false
namespace Go.Proofs.Ytahblhiolkdnnaa
open Go.RowKit
/-- The code behind so many statements. -/
def dropR : Nat → Code → Code
  | 0, c => c
  | n + 1, .seq _ b => dropR n b
  | _ + 1, c => c
noncomputable def endsC2 : Code := dropR 5 (Try.f6.body.getD .skip)
set_option maxHeartbeats 8000000 in
set_option maxRecDepth 100000 in
theorem ends2 (w W : World) (e ea ev mB tB : Nat) (u : Ext) (c : Code) (hc : endsC2 = c) (FB : Hd (Below w.heap.size w W)) (EB : Hd (EndsB W e ea ev mB tB)) (s0 s4 s5 s6 s7 s8 s9 s10 s11 s12 s13 s14 s15 s16 s17 s18 s19 s20 s21 s22 s23 s24 s25 s26 s27 s28 s29 s30 s31 s32 s33 s34 s35 s36 s37 s38 s39 s40 s41 s42 s43 s44 s45 s46 s47 s48 s49 s50 s51 s52 s53 s54 s55 s56 s57 s58 s59 s60 s61 s62 s63 s64 s65 s66 s67 s68 s69 s70 s71 s72 s73 s74 s75 s76 s77 s78 s79 s80 s81 s82 s83 s84 s85 s86 s87 s88 s89 s90 s91 s92 s93 s94 s95 s96 s97 s98 s99 s100 s101 s102 s103 s104 s105 s106 s107 s108 s109 s110 s111 s112 s113 s114 s115 s116 s117 s118 s119 s120 s121 s122 s123 s124 s125 s126 s127 s128 s129 s130 s131 s132 s133 s134 s135 s136 s137 s138 s139 s140 s141 s142 s143 s144 s145 s146 s147 s148 s149 s150 s151 s152 s153 s154 s155 s156 s157 s158 s159 s160 s161 s162 s163 s164 s165 s166 s167 s168 s169 s170 s171 s172 s173 s174 s175 s176 s177 s178 s179 s180 s181 s182 s183 s184 s185 s186 s187 s188 s189 s190 s191 s192 s193 s194 s195 s196 s197 s198 s199 s200 s201 s202 s203 s204 s205 s206 s207 s208 s209 s210 s211 s212 s213 s214 s215 s216 s217 s218 s219 s220 s221 s222 s223 s224 s225 s226 s227 s228 s229 s230 s231 s232 s233 s234 s235 s236 s237 s238 s239 s240 s241 s242 s243 s244 s245 s246 s247 s248 : Value) :
    Code.wp Try.prog c (bodyPost Try.prog Try.f6 (RetX (.bool true) w)) ⟨#[s0, .slice (some ⟨e, 0, none⟩) 15 15, .pointer (some ⟨mB, 0, none⟩), .pointer (some ⟨tB, 0, none⟩), s4, s5, s6, s7, s8, s9, s10, s11, s12, s13, s14, s15, s16, s17, s18, s19, s20, s21, s22, s23, s24, s25, s26, s27, s28, s29, s30, s31, s32, s33, s34, s35, s36, s37, s38, s39, s40, s41, s42, s43, s44, s45, s46, s47, s48, s49, s50, s51, s52, s53, s54, s55, s56, s57, s58, s59, s60, s61, s62, s63, s64, s65, s66, s67, s68, s69, s70, s71, s72, s73, s74, s75, s76, s77, s78, s79, s80, s81, s82, s83, s84, s85, s86, s87, s88, s89, s90, s91, s92, s93, s94, s95, s96, s97, s98, s99, s100, s101, s102, s103, s104, s105, s106, s107, s108, s109, s110, s111, s112, s113, s114, s115, s116, s117, s118, s119, s120, s121, s122, s123, s124, s125, s126, s127, s128, s129, s130, s131, s132, s133, s134, s135, s136, s137, s138, s139, s140, s141, s142, s143, s144, s145, s146, s147, s148, s149, s150, s151, s152, s153, s154, s155, s156, s157, s158, s159, s160, s161, s162, s163, s164, s165, s166, s167, s168, s169, s170, s171, s172, s173, s174, s175, s176, s177, s178, s179, s180, s181, s182, s183, s184, s185, s186, s187, s188, s189, s190, s191, s192, s193, s194, s195, s196, s197, s198, s199, s200, s201, s202, s203, s204, s205, s206, s207, s208, s209, s210, s211, s212, s213, s214, s215, s216, s217, s218, s219, s220, s221, s222, s223, s224, s225, s226, s227, s228, s229, s230, s231, s232, s233, s234, s235, s236, s237, s238, s239, s240, s241, s242, s243, s244, s245, s246, s247, s248], []⟩ (W.ext u) := by
  subst hc
  conv => arg 2; whnf
  go_wp2_with fail
  go_loopw [12] (fun i wr => ∃ k : Nat, k ≤ 15 ∧ i = .int .i64 k ∧ ∃ u : Ext, wr = W.ext u) (fun i _ => 15 - (intOf i).toNat)
  case atStart => exact ⟨0, by omega, rfl, u, rfl⟩
  case round =>
    obtain ⟨k, hk, rfl, u, rfl⟩ := hrel
    by_cases hlk : k < 15
    case pos =>
      have hdk : decide ((k : Int) < 15) = true := by simp; omega
      have hik : (k : Int) < 15 := by omega
      go_upto_region 42 with (fail)
      refine name_world fun Wd hWd => ?_
      have FD := hide (show Below W.heap.size W Wd by subst hWd; exact Below.of_ext W u (Nat.le_refl _))
      have ED := (show EndsB Wd e ea ev mB tB by subst hWd; exact EB.out.ext u)
      obtain ⟨fe, fm, ft, m0, m1, m2, m3, t0, t1, t2, t3, se, sa, sv⟩ := ED
      obtain ⟨v, hv, hvc⟩ := ends_at se hlk
      have HV := hide hv
      have SAd := hide sa; have SVd := hide sv
      clear hWd hv se sa sv
      refine wp_region_flow_ext [] [7, 8] (by kernel_rfl) rfl (by kernel_rfl) ?_
      repeat (refine flow_known (by kernel_rfl) (fun K hK => ?_); go_simp; (first | (refine hK _ ?_; clear hK K) | (apply Exists.intro; refine ⟨fun _ => ?_, hK _ ?_⟩; (fail); clear hK K)))
      refine flow_keep0 (FullP 1 [trapB]) (by kernel_rfl) (FullP.stable_ rfl) ?_ ?_
      · intro u
        go_simp
        exact ⟨FullP.lit (S := fun _ => True) rfl (by rw [size_ext]) (RepL.single (blk_trap Sl.nil)) rfl (by decide), onW_alloc rfl ⟨_, rfl⟩⟩
      refine flow_keep [true] (RepP (⟨v, [trapB]⟩ : Target)) (by kernel_rfl) (RepP.stable_ rfl) ?_ ?_
      · intro u
        try simp only [List.nil_append, List.cons_append, useH_f, useH_t, useH_nil]
        rintro _ ⟨S, b, rfl, hs⟩
        go_simp
        exact ⟨⟨S, _, rfl, Target.mk_ (x := ⟨v, [trapB]⟩) HV.out hs⟩, onW_same ⟨_, rfl⟩⟩
      refine flow_out [false, true] (.bool true) (by kernel_rfl) ?_ ?_
      · intro u
        try simp only [List.nil_append, List.cons_append, useH_f, useH_t, useH_nil]
        rintro _ ⟨S2, us2, rfl, h2⟩
        obtain ⟨A, n, c, rfl, i3, s3⟩ := Target.open_ h2
        go_simp
        exact tells_any _ S2 _ _ ⟨3, [2, 0], 1, [2]⟩ _ _ _ _ _ _ (SAd.out.ext _) (SVd.out.ext _) (int_ok (by decide)) ⟨v, [trapB]⟩ A n c s3 i3 (small_wide (n := 1) (by omega)) (by omega)
      repeat (refine flow_known (by kernel_rfl) (fun K hK => ?_); go_simp; (first | (refine hK _ ?_; clear hK K) | (apply Exists.intro; refine ⟨fun _ => ?_, hK _ ?_⟩; (fail); clear hK K)))
      refine flow_done [true, true] (by kernel_rfl) ?_
      intro uq
      simp only [List.nil_append, List.cons_append, endH_f, endH_t, endH_nil]
      rintro v1 _ v2 _
      go_wp2_with fail
      go_roundw
      case rel =>
        have hto := Below.to_ext (FD.out.ext FD.out.size uq)
        first | exact ⟨k + 1, by omega, by go_num, hto⟩ | ((repeat apply Exists.intro); exact ⟨⟨k + 1, by omega, by go_num, hto⟩, rfl⟩)
      case measure => simp [intOf]; omega
    case neg =>
      have hk' : k = 15 := by omega
      subst hk'
      go_wp2_with fail
      go_loopw [13] (fun i wr => ∃ k : Nat, 198 ≤ k ∧ k ≤ 203 ∧ i = .int .i64 k ∧ ∃ u : Ext, wr = W.ext u) (fun i _ => 203 - (intOf i).toNat)
      case atStart => exact ⟨198, by omega, by omega, rfl, u, rfl⟩
      case round =>
        obtain ⟨n, hn, hn', rfl, u, rfl⟩ := hrel
        by_cases hln : n < 203
        case pos =>
          have hdn : decide ((n : Int) < 203) = true := by simp; omega
          obtain ⟨N, hN⟩ : ∃ N : Nat, N = n + 3800 := ⟨_, rfl⟩
          have hN1 : (n : Int) + 3800 = N := by omega
          have hN2 : IntKind.i64.wrap (N : Int) = N := IntWalk.i64_in _ (by omega)
          have hmk := run_mkI N (by omega)
          have FN := hide hN
          clear hN
          go_upto_region 47 with (fail)
          refine name_world fun Wd hWd => ?_
          have FD := hide (show Below W.heap.size W Wd by subst hWd; exact Below.of_ext W u (Nat.le_refl _))
          have ED := hide (show EndsB Wd e ea ev mB tB by subst hWd; exact EB.out.ext u)
          obtain ⟨fe, fm, ft, m0, m1, m2, m3, t0, t1, t2, t3, se, sa, sv⟩ := ED.out
          clear hWd se sa sv m0 m1 m2 m3 fe fm
          go_cut [14] (fun s14 wc => ∃ (b L : Nat) (u2 : Ext), s14 = .pointer (some ⟨b, 0, none⟩) ∧ wc = Wd.ext u2 ∧ LongAt (Wd.ext u2) Wd.heap.size b L N (mixL constI zeroI N 0))
          case first =>
            have HN5 : N ≤ 5000 := by have := FN.out; omega
            go_region
            all_goals go_wp2_with fail
            all_goals go_meet
            · obtain ⟨u2, h1, h2⟩ := long1 (W := Wd) HN5
              exact ⟨_, _, u2, rfl, h1, h2⟩
            · obtain ⟨u2, h1, h2⟩ := long2 (W := Wd) HN5
              exact ⟨_, _, u2, rfl, h1, h2⟩
          case rest =>
            obtain ⟨b, L, u2, rfl, rfl, HL⟩ := hcut
            have HLh := hide HL
            clear HL
            clear t0 t1 t2 t3 ft hmk hN1 hN2
            go_wp2_with fail
            go_loopw [15] (fun i wr => ∃ k : Nat, k ≤ N ∧ i = .int .i64 k ∧ ∃ u : Ext, wr = Wd.ext u ∧ LongAt wr Wd.heap.size b L N (mixL constI zeroI N k)) (fun i _ => N - (intOf i).toNat)
            case atStart => exact ⟨0, by omega, rfl, u2, rfl, HLh.out⟩
            case round =>
              obtain ⟨k, hk, rfl, u, rfl, HLk⟩ := hrel
              refine name_world fun Wf hWf => ?_
              have FF := hide (show Below Wd.heap.size Wd Wf by subst hWf; exact Below.of_ext Wd u (Nat.le_refl _))
              have HF := hide (show LongAt Wf Wd.heap.size b L N (mixL constI zeroI N k) by subst hWf; exact HLk)
              clear HLk
              obtain ⟨l1, l2, l3, c0, c1, c2, c3, c4, own⟩ := HF.out
              have OWN := hide own
              have hgL : Wd.heap.size ≤ L ∧ L < Wf.heap.size := own.below_ L rfl
              clear own
              by_cases hlk : k < N
              case pos =>
                have hdk : decide ((k : Int) < N) = true := by simp; omega
                have hkN : (k : Int) < N := by omega
                have hk5 : (k : Int) < 5100 := by have := FN.out; omega
                obtain ⟨us, hus, hcs, hfz⟩ := OWN.out.cell_at (mix_at constI zeroI hlk)
                obtain ⟨A', n', c', rfl, _, _, _, _, _, _, _, _⟩ := Ins.open_ hus
                have hc0 : Wf.cell? ⟨L, k * 8, none⟩ = some (.int .i64 0) := hcs 0 _ rfl
                have hf0 := hfz (k * 8)
                clear hcs hfz hus hWf c1 c2 c3 c4
                go_wp2_with fail
                go_roundw
                case rel =>
                  obtain ⟨u', hu'⟩ := Below.to_ext (FF.out.setCell (p := ⟨L, k * 8, none⟩) hgL.1 (.int .i64 1))
                  first | exact ⟨k + 1, by omega, by go_num, u', hu', LongAt.set hlk HF.out⟩ | ((repeat apply Exists.intro); exact ⟨⟨k + 1, by omega, by go_num, u', hu', LongAt.set hlk HF.out⟩, rfl⟩)
                case measure => simp [intOf]; omega
              case neg =>
                obtain rfl : N = k := by omega
                have HN5 : N ≤ 5000 ∧ n ≤ 5000 := by have := FN.out; omega
                have hmkB := run_mkB n (by omega)
                have SLN := hide (long_sl rfl HF.out)
                clear OWN hWf
                go_wp2_with fail
                obtain ⟨M, hM⟩ : ∃ M, M = Wf.heap.size := ⟨_, rfl⟩
                refine name_world fun Wg hWg => ?_
                have HG := hide (HF.out.keep (show Below Wf.heap.size Wf Wg by subst hWg; exact (by repeat (first | exact Below.refl _ _ | assumption | refine Below.alloc ?_ (by simp [size_ext]; try omega) _ | refine Below.ext ?_ (by simp [size_ext]; try omega) _ | refine Below.drew ?_ | refine Below.setCell ?_ (by simp [size_ext]; try omega) _))))
                have FG := hide (show Below Wd.heap.size Wd Wg from FF.out.trans ((show Below Wf.heap.size Wf Wg by subst hWg; exact (by repeat (first | exact Below.refl _ _ | assumption | refine Below.alloc ?_ (by simp [size_ext]; try omega) _ | refine Below.ext ?_ (by simp [size_ext]; try omega) _ | refine Below.drew ?_ | refine Below.setCell ?_ (by simp [size_ext]; try omega) _))).mono FF.out.size))
                have OW := hide (show OwnL Wg Wd.heap.size 42 (fun _ => False) (.slice (some ⟨M, 0, none⟩) n n) (mixL trapB zeroB n 0) by rw [mix_zero]; subst hWg; exact made_B HN5.2 FF.out.size hM)
                have hbM : b ≠ M := by omega
                have hLM : L ≠ M := by omega
                have hMd : Wd.heap.size ≤ M := by have := FF.out.size; omega
                obtain ⟨ug, hug⟩ := Below.to_ext FG.out
                simp only [← hM]
                clear hWg hM l1 l3 c0 c1 c2 c3 c4 hmkB
                have FUG := hide hug; clear hug
                go_loopw [17] (fun i wr => ∃ k : Nat, k ≤ n ∧ i = .int .i64 k ∧ ∃ u : Ext, wr = Wd.ext u ∧ LongAt wr Wd.heap.size b L N (mixL constI zeroI N N) ∧ OwnL wr Wd.heap.size 42 (fun _ => False) (.slice (some ⟨M, 0, none⟩) n n) (mixL trapB zeroB n k)) (fun i _ => n - (intOf i).toNat)
                case atStart => exact ⟨0, by omega, rfl, ug, FUG.out, HG.out, OW.out⟩
                case round =>
                  obtain ⟨k, hk, rfl, u, rfl, HLk, HWk⟩ := hrel
                  refine name_world fun Wh hWh => ?_
                  have FH := hide (show Below Wd.heap.size Wd Wh by subst hWh; exact Below.of_ext Wd u (Nat.le_refl _))
                  have HH := hide (show LongAt Wh Wd.heap.size b L N (mixL constI zeroI N N) by subst hWh; exact HLk)
                  have HW := hide (show OwnL Wh Wd.heap.size 42 (fun _ => False) (.slice (some ⟨M, 0, none⟩) n n) (mixL trapB zeroB n k) by subst hWh; exact HWk)
                  have EH := hide (show EndsB Wh e ea ev mB tB by subst hWh; exact ED.out.ext u)
                  clear HLk HWk hWh
                  by_cases hlk : k < n
                  case pos =>
                    have hdk : decide ((k : Int) < n) = true := by simp; omega
                    have hkN : (k : Int) < n := by omega
                    have hk5 : (k : Int) < 5100 := by omega
                    obtain ⟨us, hus, hcs, hfz⟩ := HW.out.cell_at (mix_at trapB zeroB hlk)
                    obtain ⟨A', n', c', rfl, _, _, _, _, _⟩ := Block.open_ hus
                    have q1 : Wh.cell? ⟨M, k * 5 + 1, none⟩ = some (.int .i64 0) := hcs 1 _ rfl
                    have q2 : Wh.cell? ⟨M, k * 5 + 2, none⟩ = some (.int .i64 0) := hcs 2 _ rfl
                    have q3 : Wh.cell? ⟨M, k * 5 + 3, none⟩ = some (.int .i64 0) := hcs 3 _ rfl
                    have q4 : Wh.cell? ⟨M, k * 5 + 4, none⟩ = some (.int .i64 0) := hcs 4 _ rfl
                    have f1 := hfz (k * 5 + 1); have f2 := hfz (k * 5 + 2); have f3 := hfz (k * 5 + 3); have f4 := hfz (k * 5 + 4)
                    obtain ⟨fe, fm, ft, m0, m1, m2, m3, t0, t1, t2, t3, se, sa, sv⟩ := EH.out
                    clear hcs hfz hus m0 m1 m2 m3 fe fm se sa sv
                    go_wp2_with fail
                    go_roundw
                    case rel =>
                      obtain ⟨u', hu'⟩ := Below.to_ext ((((FH.out.setCell (p := ⟨M, k * 5 + 1, none⟩) hMd (.int .i64 4)).setCell (p := ⟨M, k * 5 + 1 + 1, none⟩) hMd (.int .i64 0)).setCell (p := ⟨M, k * 5 + 1 + 2, none⟩) hMd (.int .i64 0)).setCell (p := ⟨M, k * 5 + 1 + 3, none⟩) hMd (.int .i64 0))
                      have hL' := (((HH.out.other (M := M) (k := k * 5 + 1) (v := .int .i64 4) hbM hLM).other (M := M) (k := k * 5 + 1 + 1) (v := .int .i64 0) hbM hLM).other (M := M) (k := k * 5 + 1 + 2) (v := .int .i64 0) hbM hLM).other (M := M) (k := k * 5 + 1 + 3) (v := .int .i64 0) hbM hLM
                      have hW' := wide_set hlk HW.out
                      first | exact ⟨k + 1, by omega, by go_num, u', hu', hL', hW'⟩ | ((repeat apply Exists.intro); exact ⟨⟨k + 1, by omega, by go_num, u', hu', hL', hW'⟩, rfl⟩)
                    case measure => simp [intOf]; omega
                  case neg =>
                    obtain rfl : n = k := by omega
                    have SLN := hide (long_sl rfl HH.out)
                    have SWN := hide (show Sl Wh (fun _ => True) (some ⟨M, 0, none⟩) n n (List.replicate n trapB) by have := HW.out.sl (S' := fun _ => True) (fun _ _ _ => trivial); rwa [mix_all] at this)
                    obtain ⟨l1, l2, l3, c0, c1, c2, c3, c4, own⟩ := HH.out
                    clear own
                    go_upto_region 58 with (fail)
                    refine name_world fun Wi hWi => ?_
                    have FI := hide (show Below Wh.heap.size Wh Wi by subst hWi; exact (by repeat (first | exact Below.refl _ _ | assumption | refine Below.alloc ?_ (by simp [size_ext]; try omega) _ | refine Below.ext ?_ (by simp [size_ext]; try omega) _ | refine Below.drew ?_ | refine Below.setCell ?_ (by simp [size_ext]; try omega) _)))
                    obtain ⟨fe, fm, ft, m0, m1, m2, m3, t0, t1, t2, t3, se, sa, sv⟩ := EH.out.keep FI.out
                    have x0 : Wi.cell? ⟨Wh.heap.size + 1, 0, none⟩ = some (.int .i64 0) := by subst hWi; go_simp
                    have x1 : Wi.cell? ⟨Wh.heap.size + 1, 1, none⟩ = some (.slice (some ⟨Wh.heap.size, 0, none⟩) 1 1) := by subst hWi; go_simp
                    have hx1 : Wh.heap.size + 1 < Wi.heap.size := by subst hWi; simp
                    have SI : Sl Wi (fun _ => True) (some ⟨Wh.heap.size, 0, none⟩) 1 1 (longT N).blocks := by subst hWi; exact (Sl.lit (xs := (longT N).blocks) (n := 1) rfl (RepL.single (blk_trap SLN.out)) rfl (by decide) (fun _ _ => trivial) trivial).alloc _
                    have HN5 : N ≤ 5000 ∧ n ≤ 5000 := by have := FN.out; omega
                    obtain ⟨x, hx⟩ : ∃ x, rightT endsM (longT N) = x := ⟨_, rfl⟩
                    have P1 := hide (fun u => tells_wide Wi ea ev sa sv n (some ⟨M, 0, none⟩) (SWN.out.belowAll FI.out) HN5.2 u)
                    have P2 := hide (fun u => right_long Wi ea ev sa sv N _ SI x hx u)
                    have P3 := hide (fun u => right6_long Wi ea ev sa sv N _ SI x hx u)
                    have P4 := hide (fun u => size_call Wi N _ SI HN5.1 u)
                    have FWi := hide (FD.out.trans ((FH.out.trans (FI.out.mono FH.out.size)).mono FD.out.size))
                    have hs1 : (n : Int) + 3801 = N + 1 := by have := FN.out; omega
                    have hs2 : IntKind.i64.wrap ((N : Int) + 1) = N + 1 := IntWalk.i64_in _ (by omega)
                    clear hWi hx SI se sa sv c0 c1 c2 c3 c4 t0 t1 t2 t3
                    refine wp_region_flow_ext [] [] (by kernel_rfl) rfl (by kernel_rfl) ?_
                    repeat (refine flow_known (by kernel_rfl) (fun K hK => ?_); go_simp; (first | (refine hK _ ?_; clear hK K) | (apply Exists.intro; refine ⟨fun _ => ?_, hK _ ?_⟩; (first | (go_at_call 4; with_reducible exact P1.out _) | (go_at_call 11; with_reducible exact P2.out _) | (go_at_call 16; with_reducible exact P3.out _) | (go_at_call 17; with_reducible exact P4.out _)); clear hK K)))
                    refine flow_done [] (by kernel_rfl) ?_
                    intro uq
                    simp only [List.nil_append, List.cons_append, endH_f, endH_t, endH_nil]
                    go_wp2_with fail
                    go_roundw
                    case rel =>
                      obtain ⟨u', hu'⟩ := Below.to_ext (FWi.out.ext FWi.out.size uq)
                      first | exact ⟨n + 1, by omega, by omega, by go_num, u', hu'⟩ | ((repeat apply Exists.intro); exact ⟨⟨n + 1, by omega, by omega, by go_num, u', hu'⟩, rfl⟩)
                    case measure => simp [intOf]; omega
        case neg =>
          obtain rfl : n = 203 := by omega
          refine name_world fun Wz hWz => ?_
          have FZ := hide (show Below W.heap.size W Wz by subst hWz; exact Below.of_ext W u (Nat.le_refl _))
          have EZ := (show EndsB Wz e ea ev mB tB by subst hWz; exact EB.out.ext u)
          obtain ⟨fe, fm, ft, m0, m1, m2, m3, t0, t1, t2, t3, se, sa, sv⟩ := EZ
          have SAz := hide sa; have SVz := hide sv
          clear hWz se sa sv
          have Q1 := hide (fun w' : World => show Calls Try.prog 4 #[.agg #[.int .i64 0, .slice none 0 0, .int .i64 0, .slice none 0 0], .agg #[.int .i64 0, .slice none 0 0]] w' (RetX (.bool true) w') from tells_none w' ⟨0, [], 0, []⟩ none none 0 0 0 0 Sl.nil Sl.nil z0_ (by omega))
          have Q2 := hide (fun u : Ext => show Calls Try.prog 4 #[.agg #[.int .i64 3, .slice (some ⟨ea, 0, none⟩) 2 2, .int .i64 1, .slice (some ⟨ev, 0, none⟩) 1 1], .agg #[.int .i64 0, .slice none 0 0]] (Wz.ext u) (RetX (.bool true) (Wz.ext u)) from tells_none (Wz.ext u) endsM (some ⟨ea, 0, none⟩) (some ⟨ev, 0, none⟩) 2 2 1 1 (SAz.out.ext u) (SVz.out.ext u) (int_ok (by decide)) (by omega))
          go_wp2_with fail
          refine (Q1.out _).mono ?_
          rintro e' _ ⟨rfl, ux, rfl⟩
          go_wp2_with fail
          refine (Q2.out _).mono ?_
          rintro e' _ ⟨rfl, uy, rfl⟩
          go_wp2_with fail
          refine (awake_any _).mono ?_
          rintro e' _ ⟨rfl, uz, rfl⟩
          go_wp2_with fail
          go_ret
          exact RetX.b rfl ((((FB.out.trans (FZ.out.mono FB.out.size)).ext (Nat.le_trans FB.out.size FZ.out.size) ux).ext (by rw [size_ext]; have := FB.out.size; have := FZ.out.size; omega) uy).ext (by rw [size_ext, size_ext]; have := FB.out.size; have := FZ.out.size; omega) uz)
end Go.Proofs.Ytahblhiolkdnnaa
