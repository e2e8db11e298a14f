/- law24: walks: BindScratch. -/
import Derived.Test.YtbppamjogdjfkaaIT12
set_option linter.unusedSimpArgs false
set_option linter.unusedVariables false
namespace Go.Proofs.Ytbppamjogdjfkaa
open Go.RowKit Go.Shelf Go.Maps

theorem RetInts.slp {xs : List Int} {w0 w w' : World} {e : Ending} {n : Nat} (hn : xs.length = n) (hw : ∃ u : Ext, w = w0.ext u) (h : RetInts xs w e w') : RetH (extF w0) false (SlP n xs) w e w' := by
  obtain ⟨v, rfl, ho, hb⟩ := h
  obtain ⟨A, c, rfl⟩ := ho.form
  obtain ⟨u, rfl⟩ := hw
  obtain ⟨u', hu'⟩ := Below.to_ext hb
  refine ⟨_, rfl, ⟨fun _ => True, A, c, by rw [hn], by rw [← hn]; exact ho.sl fun _ _ _ => trivial⟩, ?_, fun _ => ⟨u', hu'⟩⟩
  rw [hu']
  exact ext_ext _ _ _
set_option maxRecDepth 100000 in
set_option maxHeartbeats 8000000 in
theorem bindScratch_any (w : World) (S1 S2 : Nat → Prop) (m : Machine) (A1 A2 : Option Addr) (n1 c1 n2 c2 : Nat) (h1 : Sl w S1 A1 n1 c1 m.args) (h2 : Sl w S2 A2 n2 c2 m.saved) (hi : InI m.ret) (hrg : InI m.regs) (hz : n1 ≤ 1048576 ∧ n2 ≤ 1048576) (many : Int) (hmi : InI many) :
    Calls Try.prog 4 #[.agg #[.int .i64 m.regs, .slice A1 n1 c1, .int .i64 m.ret, .slice A2 n2 c2], .int .i64 many] w (fun e w' => e = .returned (.bool true) ∧ Below w.heap.size w w') := by
  have L2 := h2.len
  obtain ⟨W0, hW0⟩ : ∃ W0, w.alloc (.cells #[.int .i64 m.regs, .slice A1 n1 c1, .int .i64 m.ret, .slice A2 n2 c2] 24) = W0 := ⟨_, rfl⟩
  obtain ⟨g0, hg0⟩ : ∃ g, w.heap.size = g := ⟨_, rfl⟩
  have HROW := hide (show MRow W0 g0 m A1 n1 c1 A2 n2 c2 by rw [← hW0, ← hg0]; exact heap_alloc_new w _)
  have hz0 : W0.heap.size = g0 + 1 := by rw [← hW0, ← hg0]; simp
  have HB0 := hide (show Below g0 w W0 by rw [← hW0, ← hg0]; exact (Below.refl _ _).alloc (Nat.le_refl _) _)
  have HM := hide (fun (W : World) (hb : Below W0.heap.size W0 W) => (show MRow W g0 m A1 n1 c1 A2 n2 c2 from (hb.block g0 (by omega)).trans HROW.out).cells)
  have H1 := hide (show Sl W0 (fun _ => True) A1 n1 c1 m.args by rw [← hW0]; exact (h1.alloc _).more fun _ _ _ => trivial)
  have H2 := hide (show Sl W0 (fun _ => True) A2 n2 c2 m.saved by rw [← hW0]; exact (h2.alloc _).more fun _ _ _ => trivial)
  have HEND := hide (fun (W : World) (hb : Below W0.heap.size W0 W) => (show Below w.heap.size w W by rw [hg0]; exact HB0.out.trans (hb.mono (by omega))))
  have HEND0 := hide (fun (W : World) (hb : Below W0.heap.size W0 W) => (show Below g0 w W from HB0.out.trans (hb.mono (by omega))))
  obtain ⟨m0, m1, m2, m3, hgl⟩ := HM.out W0 (Below.refl _ _)
  have HL2 := hide L2
  clear h1 h2 L2
  go_enter Try.func4, Try.ntmps4
  go_wp2_with (go_at_call 5; refine (awake24_any _).mono ?_; rintro e W1 ⟨rfl, hu⟩; refine Hd.out ?_)
  have HB1 := hide (show Below W0.heap.size W0 W1 by obtain ⟨u, rfl⟩ := hu; first | (rw [hW0]; exact Below.of_ext W0 u (Nat.le_refl _)) | exact Below.of_ext W0 u (Nat.le_refl _))
  have HMO := hide (machineOf_any W1 (fun _ => True) m A1 A2 n1 c1 n2 c2 (H1.out.belowAll HB1.out) (H2.out.belowAll HB1.out) hz)
  obtain ⟨m0, m1, m2, m3, hgl⟩ := HM.out W1 HB1.out
  clear hu hW0
  refine hide ?_
  go_wp2_with (go_at_call 6; (with_reducible refine HMO.out.mono ?_); rintro e W2 ⟨rfl, hu⟩; refine Hd.out ?_)
  have HB2 := hide (show Below W0.heap.size W0 W2 by obtain ⟨u, rfl⟩ := hu; exact HB1.out.ext HB1.out.size u)
  obtain ⟨m0, m1, m2, m3, hgl⟩ := HM.out W2 HB2.out
  clear hu HMO
  by_cases hbig : (400 : Int) < (n1 : Int) + n2
  · refine hide ?_
    go_wp2_with fail
    go_ret
    exact ⟨rfl, by first | exact HEND.out _ HB2.out | exact HEND0.out _ HB2.out⟩
  have HRI := hide (rightm_any W2 (fun _ => True) (fun _ => True) m A1 A2 n1 c1 n2 c2 (H1.out.belowAll HB2.out) (H2.out.belowAll HB2.out) hi)
  cases hr : rightM m with
  | false =>
    rw [hr] at HRI
    clear hr
    refine hide ?_
    go_wp2_with (go_at_call 15; (with_reducible refine HRI.out.mono ?_); rintro e W3 ⟨rfl, hu⟩)
    go_ret
    have HX : Below W0.heap.size W0 W3 := by obtain ⟨u, rfl⟩ := hu; exact HB2.out.ext HB2.out.size u
    exact ⟨rfl, by first | exact HEND.out _ HX | exact HEND0.out _ HX⟩
  | true =>
    rw [hr] at HRI
    have HR := hide hr
    clear hr
    refine hide ?_
    go_wp2_with (go_at_call 15; (with_reducible refine HRI.out.mono ?_); rintro e W3 ⟨rfl, hu⟩; refine Hd.out ?_)
    have HB3 := hide (show Below W0.heap.size W0 W3 by obtain ⟨u, rfl⟩ := hu; exact HB2.out.ext HB2.out.size u)
    obtain ⟨m0, m1, m2, m3, hgl⟩ := HM.out W3 HB3.out
    clear hu HRI
    by_cases hm0 : many < 0
    · refine hide ?_
      go_wp2_with fail
      go_ret
      exact ⟨rfl, by first | exact HEND.out _ HB3.out | exact HEND0.out _ HB3.out⟩
    by_cases hm1 : m.regs ≤ many
    · refine hide ?_
      go_wp2_with fail
      go_ret
      exact ⟨rfl, by first | exact HEND.out _ HB3.out | exact HEND0.out _ HB3.out⟩
    obtain ⟨k, rfl⟩ := Int.eq_ofNat_of_zero_le (show 0 ≤ many by omega)
    obtain ⟨rr, hrr⟩ : ∃ rr : Nat, m.regs = rr := Int.eq_ofNat_of_zero_le (by have := (right24 HR.out).r1; omega)
    have hf : fits24 m k = true := by unfold fits24; simp only [HR.out, Bool.true_and, Bool.and_eq_true, decide_eq_true_eq]; omega
    have hf' : fits24 m ((k : Int) + 1) = true := by unfold fits24; simp only [HR.out, Bool.true_and, Bool.and_eq_true, decide_eq_true_eq]; omega
    have h64 := (right24 HR.out).r64
    have HF := hide hf; have HF' := hide hf'
    have HLA := hide (scratch_len24 hf); have HLB := hide (scratch_len24 hf'); have HNX := hide (scratch_next24 hf hf')
    have hlt : k < rr := by omega
    have hr64 : rr ≤ 64 := by omega
    have HRR := hide hrr
    have HSA := hide (fun (W : World) (hb : Below W0.heap.size W0 W) => scratch24_any W (fun _ => True) (fun _ => True) m A1 A2 n1 c1 n2 c2 (H1.out.belowAll hb) (H2.out.belowAll hb) hi k)
    have HSB := hide (fun (W : World) (hb : Below W0.heap.size W0 W) => scratch24_any W (fun _ => True) (fun _ => True) m A1 A2 n1 c1 n2 c2 (H1.out.belowAll hb) (H2.out.belowAll hb) hi ((k : Int) + 1))
    have HPO := hide (fun (W : World) (hb : Below W0.heap.size W0 W) => pools24_any W (fun _ => True) (fun _ => True) m A1 A2 n1 c1 n2 c2 (H1.out.belowAll hb) (H2.out.belowAll hb) hi k)
    have HIS := hide (fun (W : World) (hb : Below W0.heap.size W0 W) (r : Int) => isSaved5_any W (fun _ => True) m (.slice A1 n1 c1) A2 n2 c2 (H2.out.belowAll hb) r)
    have hwr1 : IntKind.i64.wrap ((k : Int) + 1) = (k : Int) + 1 := IntWalk.i64_in _ (by omega)
    clear hf hf' hrr h64 hm0
    rw [Int.toNat_natCast] at HLA HNX
    rw [show ((k : Int) + 1).toNat = k + 1 by omega] at HLB
    obtain ⟨xa, hxa⟩ : ∃ xa, scratch24 m k = xa := ⟨_, rfl⟩
    obtain ⟨xb, hxb⟩ : ∃ xb, scratch24 m ((k : Int) + 1) = xb := ⟨_, rfl⟩
    obtain ⟨sf, hsf⟩ : ∃ sf, safe24 m k = sf := ⟨_, rfl⟩
    obtain ⟨pl, hpl⟩ : ∃ pl, plain24 m k = pl := ⟨_, rfl⟩
    have HONE := hide (fun (r : Nat) (h : (r : Int) < m.regs) => one24 HF.out (r := r) (by omega) h)
    have h64 := (right24 HR.out).r64
    have HLATE := hide (fun (r : Int) => late24 HF.out (r := r))
    have HSR := hide (safe_rise24 m k); have HPR := hide (plain_rise24 m k)
    rw [hxa] at HSA HLA HNX HLATE
    rw [hxb] at HSB HLB HNX
    rw [hsf, hpl] at HPO
    rw [hsf] at HSR
    rw [hpl] at HPR
    rw [hxa, hsf, hpl] at HONE
    clear hxa hxb hsf hpl
    refine hide ?_
    go_wp2_with fail
    refine wp_region_flow_ext [] [2, 6, 7, 8] (by kernel_rfl) rfl (by kernel_rfl) ?_
    repeat (refine flow_known (by kernel_rfl) (fun K hK => ?_); go_simp; (first | (refine hK _ ?_; clear hK K) | (apply Exists.intro; refine ⟨fun _ => ?_, hK _ ?_⟩; (fail); clear hK K)))
    refine flow_keep0 (SlP k xa) (by kernel_rfl) (SlP.stable_ rfl) ?_ ?_
    · intro u
      go_simp
      exact (HSA.out _ (HB3.out.ext HB3.out.size u)).mono fun e w' h => h.slp HLA.out ⟨u, rfl⟩
    repeat (refine flow_known (by kernel_rfl) (fun K hK => ?_); go_simp; (first | (refine hK _ ?_; clear hK K) | (apply Exists.intro; refine ⟨fun _ => ?_, hK _ ?_⟩; (fail); clear hK K)))
    refine flow_keep0 (SlP (k + 1) xb) (by kernel_rfl) (SlP.stable_ rfl) ?_ ?_
    · intro u
      go_simp
      exact (HSB.out _ (HB3.out.ext HB3.out.size u)).mono fun e w' h => h.slp HLB.out ⟨u, rfl⟩
    refine flow_keep [true, false] (SlP k xa) (by kernel_rfl) (SlP.stable_ rfl) ?_ ?_
    · intro u
      try simp only [List.nil_append, List.cons_append, useH_f, useH_t, useH_nil]
      rintro _ ⟨S, A, c, rfl, hs⟩
      go_simp
      exact ⟨⟨S, A, c, rfl, hs⟩, ⟨u, rfl⟩, fun _ => ext_refl _⟩
    refine flow_keep [false, true, false] (SlP (k + 1) xb) (by kernel_rfl) (SlP.stable_ rfl) ?_ ?_
    · intro u
      try simp only [List.nil_append, List.cons_append, useH_f, useH_t, useH_nil]
      rintro _ ⟨S, A, c, rfl, hs⟩
      go_simp
      exact ⟨⟨S, A, c, rfl, hs⟩, ⟨u, rfl⟩, fun _ => ext_refl _⟩
    refine flow_done [true, true, true, true] (by kernel_rfl) ?_
    intro u
    simp only [List.nil_append, List.cons_append, endH_f, endH_t, endH_nil]
    rintro _ - _ - _ ⟨Sa, Aa, ca, rfl, hsa⟩ _ ⟨Sb, Ab, cb, rfl, hsb⟩
    go_simp
    obtain ⟨W4, hW4⟩ : ∃ W4, W3.ext u = W4 := ⟨_, rfl⟩
    rw [hW4] at hsa hsb ⊢
    have HB4 := hide (show Below W0.heap.size W0 W4 by rw [← hW4]; exact HB3.out.ext HB3.out.size u)
    obtain ⟨m0, m1, m2, m3, hgl⟩ := HM.out W4 HB4.out
    have HA4 := hide (hsa.more (S' := fun _ => True) fun _ _ _ => trivial); have HBB4 := hide (hsb.more (S' := fun _ => True) fun _ _ _ => trivial)
    have HP4 := hide (HPO.out W4 HB4.out)
    have hkc : k ≤ cb := by have := hsb.2.1; omega
    clear hsa hsb hW4 HSA HSB HPO
    go_wp2_with (go_at_call 10; (with_reducible refine HP4.out.mono ?_); rintro e W5 ⟨v1, v2, rfl, ho1, ho2, hap, hb5⟩; obtain ⟨As, cs, rfl⟩ := ho1.form; obtain ⟨Ap, cp, rfl⟩ := ho2.form; refine Hd.out ?_)
    obtain ⟨Ns, hNs⟩ : ∃ N, sf.length = N := ⟨_, rfl⟩
    obtain ⟨Np, hNp⟩ : ∃ N, pl.length = N := ⟨_, rfl⟩
    rw [hNs] at ho1 ⊢
    rw [hNp] at ho2 ⊢
    have HB5 := hide (HB4.out.trans (hb5.mono HB4.out.size))
    have HS5 := hide (ho1.sl (S' := fun _ => True) fun _ _ _ => trivial); have HP5 := hide (ho2.sl (S' := fun _ => True) fun _ _ _ => trivial)
    have HA5 := hide (HA4.out.belowAll hb5); have HBB5 := hide (HBB4.out.belowAll hb5)
    have HSI := hide (sameInts_any W5 (fun _ => True) (fun _ => True) Ab Aa k cb ca xa (by rw [← HNX.out]; exact HBB5.out.take_ (by omega)) HA5.out)
    obtain ⟨m0, m1, m2, m3, hgl⟩ := HM.out W5 HB5.out
    clear ho1 ho2 hap hb5 HP4 hNs hNp
    refine hide ?_
    go_wp2_with (go_at_call 14; (with_reducible refine HSI.out.mono ?_); rintro e W6 ⟨rfl, hu⟩; refine Hd.out ?_)
    have h56 : Below W5.heap.size W5 W6 := by obtain ⟨u, rfl⟩ := hu; exact Below.of_ext W5 u (Nat.le_refl _)
    have HB6 := hide (HB5.out.trans (h56.mono HB5.out.size))
    have HA6 := hide (HA5.out.belowAll h56); have HS6 := hide (HS5.out.belowAll h56); have HP6 := hide (HP5.out.belowAll h56)
    obtain ⟨m0, m1, m2, m3, hgl⟩ := HM.out W6 HB6.out
    have hn2 : n2 ≤ 400 := by omega
    have hw1 : IntKind.i64.wrap (m.regs - (n2 : Int)) = m.regs - (n2 : Int) := IntWalk.i64_in _ (by omega)
    have hw2 : IntKind.i64.wrap (m.regs - (n2 : Int) + 1) = m.regs - (n2 : Int) + 1 := IntWalk.i64_in _ (by omega)
    clear hu h56 HSI hwr1 hkc HA5 HS5 HP5 HBB5 HBB4 HA4
    refine hide ?_
    go_wp2_with fail
    go_loopw [9] (fun i wr => ∃ r : Nat, (r : Int) ≤ m.regs ∧ i = .int .i64 r ∧ ∃ u : Ext, wr = W6.ext u) (fun i _ => rr - (Go.RowKit.intOf i).toNat)
    case atStart => exact ⟨0, by omega, rfl, ext_refl _⟩
    case round =>
      obtain ⟨r, hrl, rfl, hu⟩ := hrel
      have hbw : Below W6.heap.size W6 wr := by obtain ⟨u, rfl⟩ := hu; exact Below.of_ext W6 u (Nat.le_refl _)
      have HU := hide hu
      have HBW := hide (HB6.out.trans (hbw.mono HB6.out.size))
      obtain ⟨m0, m1, m2, m3, hgl⟩ := HM.out wr HBW.out
      have CA := among24_any wr _ Aa k ca xa (HA6.out.belowAll hbw) r
      have CS := among24_any wr _ As Ns cs sf (HS6.out.belowAll hbw) r
      have CP := among24_any wr _ Ap Np cp pl (HP6.out.belowAll hbw) r
      have CI := HIS.out wr HBW.out r
      clear hbw hu
      by_cases hlr : (r : Int) < m.regs
      · rcases HONE.out r hlr with ⟨q1, q2, q3⟩ | ⟨q1, q2, q3⟩ | ⟨q1, q2, q3⟩
        · rw [q1] at CA; rw [q2] at CS; rw [q3] at CP
          have CA := hide CA; have CS := hide CS; have CP := hide CP
          have HLT := hide (HLATE.out r q1)
          clear q1 q2 q3
          cases hsv : hasI r m.saved with
          | false =>
            rw [hsv] at CI
            have CI := hide CI
            clear hsv
            go_wp2_with (first
              | (go_at_call 12; (with_reducible refine CA.out.mono ?_); rintro e w' ⟨rfl, rfl⟩)
              | (go_at_call 12; (with_reducible refine CS.out.mono ?_); rintro e w' ⟨rfl, rfl⟩)
              | (go_at_call 12; (with_reducible refine CP.out.mono ?_); rintro e w' ⟨rfl, rfl⟩)
              | (go_at_call 13; (with_reducible refine CI.out.mono ?_); rintro e _ ⟨rfl, u9, rfl⟩))
            go_roundw
            case rel => exact ⟨r + 1, by omega, by go_num, by obtain ⟨u, hu⟩ := HU.out; rw [hu]; exact ext_ext _ _ _⟩
            case measure => simp [Go.RowKit.intOf]; have := HRR.out; omega
          | true =>
            have hlate := HLT.out hsv
            rw [HL2.out] at hlate
            rw [hsv] at CI
            have CI := hide CI
            clear hsv
            go_wp2_with (first
              | (go_at_call 12; (with_reducible refine CA.out.mono ?_); rintro e w' ⟨rfl, rfl⟩)
              | (go_at_call 12; (with_reducible refine CS.out.mono ?_); rintro e w' ⟨rfl, rfl⟩)
              | (go_at_call 12; (with_reducible refine CP.out.mono ?_); rintro e w' ⟨rfl, rfl⟩)
              | (go_at_call 13; (with_reducible refine CI.out.mono ?_); rintro e _ ⟨rfl, u9, rfl⟩; obtain ⟨wz, hwz⟩ : ∃ wz, wr.ext u9 = wz := ⟨_, rfl⟩; rw [hwz]; have HWZ := hide hwz; obtain ⟨m0, m1, m2, m3, hgl⟩ := HM.out wz (by rw [← hwz]; exact HBW.out.ext HBW.out.size u9); clear hwz))
            go_roundw
            case rel => exact ⟨r + 1, by omega, by go_num, by obtain ⟨u, hu⟩ := HU.out; rw [← HWZ.out, hu]; exact ext_ext _ _ _⟩
            case measure => simp [Go.RowKit.intOf]; have := HRR.out; omega
        all_goals
          rw [q1] at CA; rw [q2] at CS; rw [q3] at CP
          have CA := hide CA; have CS := hide CS; have CP := hide CP
          clear q1 q2 q3 CI
          go_wp2_with (first
            | (go_at_call 12; (with_reducible refine CA.out.mono ?_); rintro e w' ⟨rfl, rfl⟩)
            | (go_at_call 12; (with_reducible refine CS.out.mono ?_); rintro e w' ⟨rfl, rfl⟩)
            | (go_at_call 12; (with_reducible refine CP.out.mono ?_); rintro e w' ⟨rfl, rfl⟩))
          go_roundw
          case rel => exact ⟨r + 1, by omega, by go_num, HU.out⟩
          case measure => simp [Go.RowKit.intOf]; have := HRR.out; omega
      · have HSW := hide (show Sl wr (fun _ => True) As Ns cs sf by obtain ⟨u, rfl⟩ := HU.out; exact HS6.out.ext u)
        have HPW := hide (show Sl wr (fun _ => True) Ap Np cp pl by obtain ⟨u, rfl⟩ := HU.out; exact HP6.out.ext u)
        have hNs := HSW.out.nle; have hNp := HPW.out.nle
        clear CA CS CP CI HONE HLATE HA6 HS6 HP6 hw1 hw2
        obtain ⟨W7, hW7⟩ : ∃ y, y = wr := ⟨_, rfl⟩
        subst hW7
        go_wp2_with fail
        go_loopw [11] (fun i wr => ∃ j : Nat, 1 ≤ j ∧ i = .int .i64 j ∧ ∃ u : Ext, wr = W7.ext u) (fun i _ => Ns - (Go.RowKit.intOf i).toNat)
        case atStart => exact ⟨1, by omega, rfl, ext_refl _⟩
        case round =>
          obtain ⟨j, hj1, rfl, hu⟩ := hrel
          have HU2 := hide hu
          have hbw : Below W7.heap.size W7 wr := by obtain ⟨u, rfl⟩ := hu; exact Below.of_ext W7 u (Nat.le_refl _)
          have HBX := hide (HBW.out.trans (hbw.mono HBW.out.size))
          obtain ⟨t, ht⟩ : ∃ t, t + 1 = j := ⟨j - 1, by omega⟩
          have hsw := HSW.out.belowAll hbw
          by_cases hjl : j < Ns
          · obtain ⟨b1, o1, x, rfl, hb1, hx, hxi, d1⟩ := at_int hsw (show t < Ns by omega)
            obtain ⟨b2, o2, y, e2, hb2, hy, hyi, d2⟩ := at_int hsw hjl
            injection e2 with e2; injection e2 with e2 e3 e4; subst e2; subst e3
            have hxy : x < y := (List.pairwise_iff_getElem.1 HSR.out) t j (List.getElem?_eq_some_iff.1 hx).1 (List.getElem?_eq_some_iff.1 hy).1 (by omega) |> fun h => by rw [(List.getElem?_eq_some_iff.1 hx).2, (List.getElem?_eq_some_iff.1 hy).2] at h; exact h
            have hwj : IntKind.i64.wrap ((j : Int) - 1) = (t : Int) := by rw [IntWalk.i64_in _ (by omega)]; omega
            have htl : t < Ns := by omega
            have HT := hide ht
            clear hx hy hxi hyi hsw e4 hbw hu ht
            go_wp2_with fail
            refine wp_region_ext (by kernel_rfl) (by kernel_rfl) ?_
            repeat (any_goals (first | go_big_quiet_step ((fail)) | quiet_step ((fail))))
            refine wpQuiet_nil ?_
            rintro _ ⟨uq, rfl⟩
            go_wp2_with fail
            go_roundw
            case rel => exact ⟨j + 1, by omega, by go_num, by obtain ⟨u, hu⟩ := HU2.out; rw [hu]; exact ext_ext _ _ _⟩
            case measure => simp [Go.RowKit.intOf]; omega
          · have HPW2 := hide (HPW.out.belowAll hbw)
            clear hsw hbw hu HSW HSR
            obtain ⟨W8, hW8⟩ : ∃ y, y = wr := ⟨_, rfl⟩
            subst hW8
            go_wp2_with fail
            go_loopw [12] (fun i wr => ∃ j : Nat, 1 ≤ j ∧ i = .int .i64 j ∧ ∃ u : Ext, wr = W8.ext u) (fun i _ => Np - (Go.RowKit.intOf i).toNat)
            case atStart => exact ⟨1, by omega, rfl, ext_refl _⟩
            case round =>
              obtain ⟨j, hj1, rfl, hu⟩ := hrel
              have HU3 := hide hu
              have hbw : Below W8.heap.size W8 wr := by obtain ⟨u, rfl⟩ := hu; exact Below.of_ext W8 u (Nat.le_refl _)
              have HBY := hide (HBX.out.trans (hbw.mono HBX.out.size))
              obtain ⟨t, ht⟩ : ∃ t, t + 1 = j := ⟨j - 1, by omega⟩
              have hsw := HPW2.out.belowAll hbw
              by_cases hjl : j < Np
              · obtain ⟨b1, o1, x, rfl, hb1, hx, hxi, d1⟩ := at_int hsw (show t < Np by omega)
                obtain ⟨b2, o2, y, e2, hb2, hy, hyi, d2⟩ := at_int hsw hjl
                injection e2 with e2; injection e2 with e2 e3 e4; subst e2; subst e3
                have hxy := (List.pairwise_iff_getElem.1 HPR.out) t j (List.getElem?_eq_some_iff.1 hx).1 (List.getElem?_eq_some_iff.1 hy).1 (by omega) |> fun h => by rw [(List.getElem?_eq_some_iff.1 hx).2, (List.getElem?_eq_some_iff.1 hy).2] at h; exact h
                have hwj : IntKind.i64.wrap ((j : Int) - 1) = (t : Int) := by rw [IntWalk.i64_in _ (by omega)]; omega
                have htl : t < Np := by omega
                have HT := hide ht
                obtain ⟨m0, m1, m2, m3, hgl⟩ := HM.out wr HBY.out
                have CX := fun (W : World) (hb : Below W0.heap.size W0 W) => HIS.out W hb x
                have CY := fun (W : World) (hb : Below W0.heap.size W0 W) => HIS.out W hb y
                obtain ⟨px, hpx⟩ : ∃ b, hasI x m.saved = b := ⟨_, rfl⟩
                obtain ⟨py, hpy⟩ : ∃ b, hasI y m.saved = b := ⟨_, rfl⟩
                rw [hpx] at CX hxy
                rw [hpy] at CY hxy
                have CX := hide CX; have CY := hide CY
                clear hx hy hxi hyi hsw e4 hbw hu ht hpx hpy
                go_wp2_with fail
                refine wp_region_ext (by kernel_rfl) (by kernel_rfl) ?_
                repeat (any_goals (first | go_big_quiet_step ((first | (go_at_call 13; with_reducible exact quiet_retx (CX.out _ (by repeat (first | exact Below.refl _ _ | assumption | exact Hd.out (by assumption) | refine Below.alloc ?_ (by first | omega | (simp [size_ext]; try omega)) _ | refine Below.ext ?_ (by first | omega | (simp [size_ext]; try omega)) _ | refine Below.drew ?_ | refine Below.setCell ?_ (by first | omega | (simp [size_ext]; try omega)) _)))) | (go_at_call 13; with_reducible exact quiet_retx (CY.out _ (by repeat (first | exact Below.refl _ _ | assumption | exact Hd.out (by assumption) | refine Below.alloc ?_ (by first | omega | (simp [size_ext]; try omega)) _ | refine Below.ext ?_ (by first | omega | (simp [size_ext]; try omega)) _ | refine Below.drew ?_ | refine Below.setCell ?_ (by first | omega | (simp [size_ext]; try omega)) _)))))) | quiet_step ((first | (go_at_call 13; with_reducible exact quiet_retx (CX.out _ (by repeat (first | exact Below.refl _ _ | assumption | exact Hd.out (by assumption) | refine Below.alloc ?_ (by first | omega | (simp [size_ext]; try omega)) _ | refine Below.ext ?_ (by first | omega | (simp [size_ext]; try omega)) _ | refine Below.drew ?_ | refine Below.setCell ?_ (by first | omega | (simp [size_ext]; try omega)) _)))) | (go_at_call 13; with_reducible exact quiet_retx (CY.out _ (by repeat (first | exact Below.refl _ _ | assumption | exact Hd.out (by assumption) | refine Below.alloc ?_ (by first | omega | (simp [size_ext]; try omega)) _ | refine Below.ext ?_ (by first | omega | (simp [size_ext]; try omega)) _ | refine Below.drew ?_ | refine Below.setCell ?_ (by first | omega | (simp [size_ext]; try omega)) _))))))))
                refine wpQuiet_nil ?_
                rintro _ ⟨uq, rfl⟩
                have HUQ := hide (show ∃ u : Ext, wr.ext uq = W8.ext u by obtain ⟨u, hu⟩ := HU3.out; rw [hu]; exact ext_ext _ _ _)
                obtain ⟨W9, hW9⟩ : ∃ W9, wr.ext uq = W9 := ⟨_, rfl⟩
                have h9 : Below wr.heap.size wr W9 := by rw [← hW9]; exact Below.of_ext wr uq (Nat.le_refl _)
                rw [hW9] at HUQ ⊢
                have d1 : W9.cell? _ = _ := (h9.cell hb1).trans d1
                have d2 : W9.cell? _ = _ := (h9.cell hb1).trans d2
                have hb1 : b1 < W9.heap.size := by have := h9.size; omega
                obtain ⟨m0, m1, m2, m3, hgl⟩ := HM.out W9 (HBY.out.trans (h9.mono HBY.out.size))
                clear h9 hW9
                cases px <;> cases py
                all_goals first
                  | exact absurd ⟨rfl, rfl⟩ hxy.1
                  | (have hxl : x < y := hxy.2 rfl
                     clear hxy
                     go_wp2_with fail
                     refine wp_region_ext (by kernel_rfl) (by kernel_rfl) ?_
                     repeat (any_goals (first | go_big_quiet_step ((fail)) | quiet_step ((fail))))
                     refine wpQuiet_nil ?_
                     rintro _ ⟨uq, rfl⟩
                     go_wp2_with fail
                     go_roundw
                     case rel => exact ⟨j + 1, by omega, by go_num, by obtain ⟨u, hu⟩ := HUQ.out; rw [hu]; exact ext_ext _ _ _⟩
                     case measure => simp [Go.RowKit.intOf]; omega)
                  | (clear hxy
                     go_wp2_with fail
                     refine wp_region_ext (by kernel_rfl) (by kernel_rfl) ?_
                     repeat (any_goals (first | go_big_quiet_step ((fail)) | quiet_step ((fail))))
                     refine wpQuiet_nil ?_
                     rintro _ ⟨uq, rfl⟩
                     go_wp2_with fail
                     go_roundw
                     case rel => exact ⟨j + 1, by omega, by go_num, by obtain ⟨u, hu⟩ := HUQ.out; rw [hu]; exact ext_ext _ _ _⟩
                     case measure => simp [Go.RowKit.intOf]; omega)
              · clear hsw hbw hu
                go_wp2_with fail
                go_ret
                exact ⟨rfl, by first | exact HEND.out _ HBY.out | exact HEND0.out _ HBY.out⟩
end Go.Proofs.Ytbppamjogdjfkaa
