/- Walks: BriefOrder. -/
import Derived.Test.YthmglmmafgdmhaaTB8
import Derived.BigQuiet
import Derived.BigGuardPart
set_option linter.unusedSimpArgs false
set_option linter.unusedVariables false
namespace Go.Proofs.Ythmglmmafgdmhaa
open Go.RowKit Go.Maps

theorem idx_of' {xs : List Int} {v : Int} {p : Bool} (h : xs.contains v = p) : decide (0 ≤ idxF (fun x => x == v) 0 xs) = p := by rw [idx_mem, h]
theorem info_Brief : (Try.prog.info? 31).map (fun i => (i.zero, i.size, i.bytes)) = some (some (.agg #[.slice none 0 0, .slice none 0 0, .slice none 0 0]), 3, 72) := by kernel_rfl
theorem pick23_in (x n : Int) (h : 1 ≤ n) : 0 ≤ pickI x n ∧ pickI x n < n := by
  have h1 := Int.tmod_lt_of_pos x (show 0 < n by omega)
  have h2 := Int.lt_tmod_of_pos x (show 0 < n by omega)
  unfold pickI
  rw [if_neg (by omega)]
  split <;> omega
set_option maxRecDepth 100000 in
set_option maxHeartbeats 16000000 in
theorem briefOrder_any (w : World) (S : Nat → Prop) (A1 A2 A3 : Option Addr) (n1 c1 n2 c2 n3 c3 : Nat) (vars weight : List Int) (l : List Brief) (turn : Int) (h1 : Sl w S A1 n1 c1 vars) (h2 : Sl w S A2 n2 c2 weight) (h3 : Sl w S A3 n3 c3 l)
    (hz1 : n1 ≤ 1048576) (hz2 : n2 ≤ 1048576) (hz3 : n3 ≤ 1048576) (hz : ∀ b ∈ l, b.vars.length ≤ 1048576 ∧ b.colors.length ≤ 1048576 ∧ b.edge.length ≤ 1048576) (ht : InI turn) :
    Calls Try.prog 3 #[.slice A1 n1 c1, .slice A2 n2 c2, .slice A3 n3 c3, .int .i64 turn] w (fun e w' => e = .returned (.bool true) ∧ Below w.heap.size w w') := by
  have L1 := h1.len; have L2 := h2.len; have L3 := h3.len
  have K1 := hide (h1.more (S' := fun g => g < w.heap.size) fun _ hb _ => hb)
  have K2 := hide (h2.more (S' := fun g => g < w.heap.size) fun _ hb _ => hb)
  have K3 := hide (h3.more (S' := fun g => g < w.heap.size) fun _ hb _ => hb)
  obtain ⟨sz, hsz⟩ : ∃ sz, sizeL (l.length : Nat) l = sz := ⟨_, rfl⟩
  have hsz0 : (l.length : Int) ≤ sz := by rw [← hsz]; exact sizeL_ge l _
  have hsz1 : sz ≤ 2 * 3145728 := by rw [← hsz]; exact sizeL_bd (by decide) l _ (by omega) fun b hb => by have := hz b hb; omega
  have HSZ := hide (fun (u : Ext) => show Calls Try.prog 6 #[.slice A3 n3 c3] (w.ext u) (RetX (.int .i64 sz) (w.ext u)) from hsz ▸ size23_any (w.ext u) _ A3 n3 c3 l (K3.out.ext u) hz3 hz)
  clear h1 h2 h3
  go_enter Try.func3, Try.ntmps3
  have hwr1 : IntKind.i64.wrap ((n1 : Int) + n2) = (n1 : Int) + n2 := IntWalk.i64_in _ (by omega)
  have hwr2 : IntKind.i64.wrap ((n1 : Int) + n2 + sz) = (n1 : Int) + n2 + sz := IntWalk.i64_in _ (by omega)
  by_cases hbig : 400 < (n1 : Int) + n2 + sz
  · go_wp2_with (first
      | (go_at_call 5; refine (awake23_any _).mono ?_; rintro e _ ⟨rfl, ua, rfl⟩)
      | (go_at_call 6; (with_reducible refine (HSZ.out _).mono ?_); rintro e _ ⟨rfl, ux, rfl⟩))
    go_ret
    exact ⟨rfl, (Below.of_ext w _ (Nat.le_refl _)).ext (by rw [size_ext]; omega) _⟩
  · have htot := sizeL_small l _ (by rw [hsz]; omega)
    have htp := totL_pos l
    have htot' : (n3 : Int) + totL l ≤ 400 := by omega
    go_wp2_with (first
      | (go_at_call 5; refine (awake23_any _).mono ?_; rintro e _ ⟨rfl, ua, rfl⟩)
      | (go_at_call 6; (with_reducible refine (HSZ.out _).mono ?_); rintro e _ ⟨rfl, ux, rfl⟩; refine Hd.out ?_))
    obtain ⟨Wb, hWb⟩ : ∃ Wb, (w.ext ua).ext ux = Wb := ⟨_, rfl⟩
    rw [hWb]
    have HBb := hide (show Below w.heap.size w Wb by rw [← hWb]; exact (Below.of_ext w ua (Nat.le_refl _)).ext (by rw [size_ext]; omega) _)
    clear hWb HSZ hwr1 hwr2
    have hwb := HBb.out.size
    obtain ⟨rr, hrr⟩ : ∃ r, worthT vars weight l = r := ⟨_, rfl⟩
    obtain ⟨ra, re⟩ := rr
    have HW1 := hide (show Calls Try.prog 7 #[.slice A1 n1 c1, .slice A2 n2 c2, .slice A3 n3 c3] Wb (RetIE (ra, re) Wb) from hrr ▸ worth_any Wb _ A1 A2 A3 n1 c1 n2 c2 n3 c3 vars weight l (K1.out.belowAll HBb.out) (K2.out.belowAll HBb.out) (K3.out.belowAll HBb.out))
    obtain ⟨kk, hkk⟩ : ∃ kk : Nat, pickI turn ((n3 : Int) + 1) = kk ∧ kk ≤ n3 := by
      have h := pick23_in turn ((n3 : Int) + 1) (by omega)
      exact ⟨(pickI turn ((n3 : Int) + 1)).toNat, by omega, by omega⟩
    obtain ⟨hkk, hkn⟩ := hkk
    have HPK := hide (fun (W : World) => show Calls Try.prog 8 #[.int .i64 turn, .int .i64 ((n3 : Int) + 1)] W (Ret (.int .i64 kk) W) from hkk ▸ pick_any turn ((n3 : Int) + 1) W ht (by unfold InI; omega))
    refine hide ?_
    go_wp2_with (first
      | (go_at_call 7; (with_reducible refine HW1.out.mono ?_); rintro e Wc ⟨v, rfl, ho, hb⟩; obtain ⟨A4, c4, rfl⟩ := ho.form; obtain ⟨n4, hn4⟩ : ∃ n4, ra.length = n4 := ⟨_, rfl⟩; dsimp only at ho ⊢; rw [hn4] at ho ⊢; have HN4 := hide hn4; have HO := hide ho; have HBX := hide hb; clear hn4 ho hb)
      | (go_at_call 8; (with_reducible refine (HPK.out _).mono ?_); rintro e _ ⟨rfl, rfl⟩))
    have HBc := hide (show Below w.heap.size w Wc from HBb.out.trans (HBX.out.mono hwb))
    have hwc := HBc.out.size
    have K3c := hide (K3.out.belowAll HBc.out)
    clear HW1 HPK HBX
    obtain ⟨i0, hi, hz', hz1', hz2'⟩ := info_parts info_Brief
    have HI0 := hide hi; have HZ := hide hz'; have HZ1 := hide hz1'; have HZ2 := hide hz2'
    clear hi hz' hz1' hz2'
    go_loopw [12, 13] (fun o i wr => ∃ (m : Nat) (iz : Int), m ≤ n3 ∧ i = .int .i64 iz ∧ iz = (n3 : Int) - 1 - m ∧ OwnL wr Wc.heap.size 31 (fun g => g < w.heap.size) o ((turnL l kk).take m) ∧ Below Wc.heap.size Wc wr) (fun _ i _ => (intOf i + 1).toNat)
    case atStart => exact ⟨0, _, Nat.zero_le _, rfl, by omega, OwnL.nil_ _ _ _ _, Below.refl _ _⟩
    case round =>
      obtain ⟨m, iz, hm, rfl, hiz, hoq, hbq⟩ := hrel
      have HOQ := hide hoq; have HBQ := hide hbq
      have hwq := hbq.size
      have hsl := K3c.out.belowAll hbq
      have hoB := hoq.below_
      clear hoq hbq
      by_cases hlt : m < n3
      · obtain ⟨i1, rfl⟩ : ∃ i1 : Nat, iz = i1 := ⟨iz.toNat, by omega⟩
        have hi1 : i1 = n3 - 1 - m := by omega
        obtain ⟨j, hj⟩ : ∃ j, (i1 + kk) % n3 = j := ⟨_, rfl⟩
        have hjl : j < n3 := by rw [← hj]; exact Nat.mod_lt _ (by omega)
        have hji : (j : Int) < n3 := by omega
        have hmod : ((i1 : Int) + (kk : Int)) % (n3 : Int) = (j : Int) := by rw [← hj]; push_cast; rfl
        obtain ⟨b, off, bx, B1, m1, d1, B2, m2, d2, B3, m3, d3, rfl, hb, hx, s1, s2, s3, k0, k1, k2⟩ := at_Brief hsl hjl
        have HT := hide (take_at (show (turnL l kk)[m]? = some bx by
          have h := turnL_at (l := l) (k := kk) (i := i1) (by omega) (by omega)
          rw [L3, show n3 - 1 - i1 = m by omega, hj] at h
          rw [h]; exact hx))
        have hi1i : (i1 : Int) < n3 := by omega
        have hkki : (kk : Int) ≤ n3 := by omega
        have hln : ((turnL l kk).take m).length ≤ 400 := by rw [List.length_take]; omega
        have S1 := hide s1; have S2 := hide s2; have S3 := hide s3
        have HI1 := hide hi1
        have hiz2 : (i1 : Int) - 1 = (n3 : Int) - 1 - ((m + 1 : Nat) : Int) := by omega
        have HIZ := hide hiz2
        clear hx hsl s1 s2 s3 hi1 hj hiz hiz2
        go_wp2_with (at_builtin; refine wpList_push (α := Brief) wr [.slice B1 m1 d1, .slice B2 m2 d2, .slice B3 m3 d3] 31 rfl (.tmp 52) (.tmp 62) 23 rfl Wc.heap.size 31 i0 _ 72 Try.underlying23 HI0.out HZ.out HZ1.out HZ2.out rfl (by decide) (fun g => g < w.heap.size) (fun g => g < w.heap.size) u12 ((turnL l kk).take m) bx rfl HOQ.out wr.heap.size rfl rfl (Brief.mk_ S1.out S2.out S3.out) (fun _ h => h) (fun g hg h => by have := (hoB g hg).1; omega) (fun g h => by omega) (by omega) (by omega) hwq ?_; intro v' w1 hown' hg _; have HO' := hide hown'; have HG := hide hg; clear hown' hg)
        go_roundw
        case rel => exact ⟨m + 1, _, by omega, rfl, HIZ.out, by rw [HT.out]; exact HO'.out, (HBQ.out.alloc (by omega) _).grown HG.out (by simp; omega) fun r e => (HOQ.out.below_ r e).1⟩
        case measure => simp [intOf]
      · have hmn : m = n3 := by omega
        subst hmn
        have hizn : iz < 0 := by omega
        obtain ⟨A6, c6, rfl⟩ := HOQ.out.form
        have htl : (turnL l kk).take m = turnL l kk := List.take_of_length_le (by rw [turnL_len]; omega)
        rw [htl] at HOQ ⊢
        obtain ⟨n6, hn6⟩ : ∃ n6, (turnL l kk).length = n6 := ⟨_, rfl⟩
        rw [hn6] at HOQ ⊢
        have HN6 := hide hn6
        have HB3 := hide (show Below w.heap.size w wr from HBc.out.trans (HBQ.out.mono hwc))
        have hw3 := HB3.out.size
        have S1 := hide ((K1.out.belowAll HB3.out).more (S' := fun _ => True) fun _ _ _ => trivial)
        have S2 := hide ((K2.out.belowAll HB3.out).more (S' := fun _ => True) fun _ _ _ => trivial)
        have S4 := hide (show Sl wr (fun _ => True) A4 n4 c4 ra from (HO.out.sl fun _ _ _ => trivial).belowAll HBQ.out)
        have HW := hide (show Calls Try.prog 7 #[.slice A1 n1 c1, .slice A2 n2 c2, .slice A6 n6 c6] wr (RetIE (ra, re) wr) from by
          have h := worth_any wr (fun _ => True) A1 A2 A6 n1 c1 n2 c2 n6 c6 vars weight (turnL l kk) S1.out S2.out (HOQ.out.sl fun _ _ _ => trivial)
          rw [worth_perm (turnL_perm l kk), hrr] at h
          exact h)
        have HRR := hide hrr
        clear htl hn6 HOQ HBQ hsl hiz hrr
        cases hg : goodW vars weight l with
        | false =>
          have hr2 := HRR.out
          unfold worthT at hr2
          rw [hg] at hr2
          injection hr2 with hr2 hr3
          subst hr2 hr3
          have hn40 : n4 = 0 := HN4.out.symm
          subst hn40
          go_wp2_with (first
            | (go_at_call 7; (with_reducible refine HW.out.mono ?_); rintro e Wd ⟨v, rfl, ho, hb⟩; obtain ⟨A7, c7, rfl⟩ := ho.form; dsimp only [List.length_nil] at ho ⊢; have HO7 := hide ho; have HB7 := hide hb; clear ho hb)
            | (go_at_call 9; refine (sameInts_any _ (fun _ => True) (fun _ => True) _ _ _ _ _ [] (S4.out.belowAll HB7.out) (HO7.out.sl fun _ _ _ => trivial)).mono ?_; rintro e _ ⟨rfl, u1, rfl⟩))
          go_ret
          exact ⟨rfl, (HB3.out.trans (HB7.out.mono hw3)).ext (by have := HB7.out.size; omega) _⟩
        | true =>
          have hr2 := HRR.out
          unfold worthT at hr2
          rw [hg] at hr2
          injection hr2 with hr2 hr3
          have hr3 : re = 0 := hr3.symm
          have HRA := hide (show ra = worthR vars weight l from hr2.symm)
          have G := goodW_of hg
          clear hr2
          subst hr3
          go_wp2_with (first
            | (go_at_call 7; (with_reducible refine HW.out.mono ?_); rintro e Wd ⟨v, rfl, ho, hb⟩; obtain ⟨A7, c7, rfl⟩ := ho.form; dsimp only at ho ⊢; rw [HN4.out] at ho ⊢; have HO7 := hide ho; have HB7 := hide hb; clear ho hb)
            | (go_at_call 9; refine (sameInts_any _ (fun _ => True) (fun _ => True) _ _ _ _ _ ra (S4.out.belowAll HB7.out) (HO7.out.sl fun _ _ _ => trivial)).mono ?_; rintro e _ ⟨rfl, u1, rfl⟩)
            | (go_at_call 10; refine (kept_any _ _ A3 m c3 l (((K3.out.belowAll HB3.out).belowAll HB7.out).ext _) hz3).mono ?_; rintro e We ⟨v, rfl, ho, hb⟩; obtain ⟨A8, c8, rfl⟩ := ho.form; obtain ⟨n8, hn8⟩ : ∃ n8, (keptB l).length = n8 := ⟨_, rfl⟩; rw [hn8] at ho ⊢; have HO8 := hide ho; have HB8 := hide hb; clear ho hb hn8))
          have HBE := hide (show Below w.heap.size w We from (((HB3.out.trans (HB7.out.mono hw3)).ext (by have := HB7.out.size; omega) u1).trans (HB8.out.mono (by rw [size_ext]; have := HB7.out.size; omega))))
          have hl1 : n2 = n1 := by have := G.lw; omega
          have hl4 : n4 = n1 := by rw [← HN4.out, HRA.out]; unfold worthR; rw [List.length_map, List.length_zip]; omega
          subst hl4
          subst hl1
          have T1 := hide (K1.out.belowAll HBE.out)
          have T2 := hide (K2.out.belowAll HBE.out)
          have T3 := hide (K3.out.belowAll HBE.out)
          have T4 := hide (((S4.out.belowAll HB7.out).ext u1).belowAll HB8.out)
          have T5 := hide (show Sl We (fun _ => True) A8 n8 c8 (keptB l) from HO8.out.sl fun _ _ _ => trivial)
          have hn1B : n2 ≤ 400 := by omega
          have hwe := HBE.out.size
          clear HO HO7 HO8 HB7 HB8 S1 S2 S4 HW HB3 hw3 HRR HN4 HN6 K1 K2 K3 K3c HBc HBb hwb hwc hwq hoB hizn HI0 HZ HZ1 HZ2
          go_loopw [17] (fun i wr => ∃ q : Nat, q ≤ n2 ∧ i = .int .i64 q ∧ ∃ u, wr = We.ext u) (fun i _ => n2 - (intOf i).toNat)
          case atStart => exact ⟨0, Nat.zero_le _, rfl, ext_refl _⟩
          case round =>
            obtain ⟨q, hq, rfl, hu⟩ := hrel
            have HU := hide hu
            have sv : Sl wr (fun g => g < w.heap.size) A1 n2 c1 vars := by obtain ⟨u, rfl⟩ := hu; exact T1.out.ext u
            have sw : Sl wr (fun g => g < w.heap.size) A2 n2 c2 weight := by obtain ⟨u, rfl⟩ := hu; exact T2.out.ext u
            have sa : Sl wr (fun _ => True) A4 n2 c4 ra := by obtain ⟨u, rfl⟩ := hu; exact T4.out.ext u
            clear hu
            by_cases hlq : q < n2
            · obtain ⟨g1, o1, v, rfl, hb1, hv, hvi, e1⟩ := at_int sv hlq
              obtain ⟨g2, o2, wt, rfl, hb2, hw2, hwi, e2⟩ := at_int sw hlq
              obtain ⟨g4, o4, y, rfl, hb4, hy, hyi, e4⟩ := at_int sa hlq
              have hy0' := hy
              have hyv : y = max (wt + sumB v l) 0 := by
                rw [HRA.out] at hy
                unfold worthR at hy
                rw [List.getElem?_map, zip_at hv hw2] at hy
                exact (Option.some.inj hy).symm
              have hwt := G.wt wt (List.mem_of_getElem? hw2)
              have hqi : (q : Int) < n2 := by omega
              have HV := hide hv; have HWT := hide hw2; have HYT := hide hy0'
              clear hv hw2 hy hy0' hvi hwi hyi sv sw sa e1 e2 e4 hb1 hb2 hb4
              go_wp2_with fail
              go_loopw [18, 19, 20] (fun a b i wr => ∃ k : Nat, k ≤ m ∧ i = .int .i64 k ∧ a = .bool ((l.take k).any (hasV v)) ∧ b = .bool ((l.take k).any (colV v)) ∧ ∃ u, wr = We.ext u) (fun _ _ i _ => m - (intOf i).toNat)
              case atStart => exact ⟨0, Nat.zero_le _, rfl, rfl, rfl, HU.out⟩
              clear HU
              case round =>
                obtain ⟨k, hk, rfl, rfl, rfl, hu⟩ := hrel
                have HU := hide hu
                have sv : Sl wr (fun g => g < w.heap.size) (some ⟨g1, o1, none⟩) n2 c1 vars := by obtain ⟨u, rfl⟩ := hu; exact T1.out.ext u
                have sl : Sl wr (fun g => g < w.heap.size) A3 m c3 l := by obtain ⟨u, rfl⟩ := hu; exact T3.out.ext u
                have sw : Sl wr (fun g => g < w.heap.size) (some ⟨g2, o2, none⟩) n2 c2 weight := by obtain ⟨u, rfl⟩ := hu; exact T2.out.ext u
                have sa : Sl wr (fun _ => True) (some ⟨g4, o4, none⟩) n2 c4 ra := by obtain ⟨u, rfl⟩ := hu; exact T4.out.ext u
                have sk : Sl wr (fun _ => True) A8 n8 c8 (keptB l) := by obtain ⟨u, rfl⟩ := hu; exact T5.out.ext u
                obtain ⟨_, _, v', q1, hb1, hv', _, e1⟩ := at_int sv hlq
                injection q1 with q1; injection q1 with q1 q2
                subst q1 q2
                rw [HV.out] at hv'
                injection hv' with hv'
                subst hv'
                clear hu sv
                by_cases hltk : k < m
                · obtain ⟨b, off, bx, B1, m1, d1, B2, m2, d2, B3, m3, d3, rfl, hb, hx, s1, s2, s3, k0, k1, k2⟩ := at_Brief sl hltk
                  have RB := G.all bx (List.mem_of_getElem? hx)
                  have HT1 := hide (show (l.take (k + 1)).any (hasV v) = ((l.take k).any (hasV v) || hasV v bx) by rw [take_at hx]; simp)
                  have HT2 := hide (show (l.take (k + 1)).any (colV v) = ((l.take k).any (colV v) || colV v bx) by rw [take_at hx]; simp)
                  obtain ⟨b1, hbb1⟩ : ∃ b1, (l.take k).any (hasV v) = b1 := ⟨_, rfl⟩
                  obtain ⟨b2, hbb2⟩ : ∃ b2, (l.take k).any (colV v) = b2 := ⟨_, rfl⟩
                  rw [hbb1] at HT1 ⊢
                  rw [hbb2] at HT2 ⊢
                  obtain ⟨yy, hyy⟩ : ∃ yy, idxF (fun x => x == v) 0 bx.vars = yy := ⟨_, rfl⟩
                  have HAT := hide (fun (u : Ext) => show Calls Try.prog 11 #[.slice B1 m1 d1, .int .i64 v] (wr.ext u) (Ret (.int .i64 yy) (wr.ext u)) from hyy ▸ at23_any (wr.ext u) _ _ _ _ _ (s1.ext u) v)
                  have hki : (k : Int) < m := by omega
                  have L1' := s1.len; have L2' := s2.len
                  have lc := RB.lc
                  clear hbb1 hbb2 hx sl sw sa sk
                  rcases idxF_at (f := fun x => x == v) bx.vars 0 with ⟨h0, hnone⟩ | ⟨i1, x1, h0, hx1, hxv⟩
                  · obtain ⟨p1, p2, _⟩ := none_at hnone
                    rw [hyy] at h0
                    subst h0
                    rw [p1] at HT1; rw [p2] at HT2
                    clear hyy hnone p1 p2 s1 s2 s3 L1' L2' lc
                    cases b1 <;> cases b2
                    all_goals
                      go_wp2_with fail
                      refine wp_region_ext (by kernel_rfl) (by kernel_rfl) ?_
                      repeat (any_goals (first | go_big_quiet_step (((go_at_call 11; with_reducible exact quiet_ret (HAT.out _)))) | quiet_step (((go_at_call 11; with_reducible exact quiet_ret (HAT.out _))))))
                      refine wpQuiet_nil ?_
                      rintro _ ⟨uq, rfl⟩
                      go_wp2_with fail
                      go_roundw
                      case rel => exact ⟨k + 1, by omega, by go_num, by rw [HT1.out]; rfl, by rw [HT2.out]; rfl, by obtain ⟨u, hu⟩ := HU.out; rw [hu]; exact ext_ext _ _ _⟩
                      case measure => simp [intOf]; omega
                  · have hx1v : x1 = v := by simpa using hxv
                    subst hx1v
                    have hi1 : i1 < m2 := by have := (List.getElem?_eq_some_iff.1 hx1).1; omega
                    obtain ⟨g5, o5, c', rfl, hb5, hc', _, e5⟩ := at_int s2 hi1
                    obtain ⟨p1, p2, _⟩ := col_at RB hx1 hc'
                    rw [hyy, Nat.zero_add] at h0
                    subst h0
                    rw [p1] at HT1; rw [p2] at HT2
                    have hi1i : (i1 : Int) < m2 := by omega
                    clear hyy p1 p2 s1 s2 s3 L1' L2' lc hx1 hxv hc'
                    by_cases hc0 : 0 ≤ c'
                    · rw [decide_eq_true hc0] at HT2
                      cases b1 <;> cases b2
                      all_goals
                        go_wp2_with fail
                        refine wp_region_ext (by kernel_rfl) (by kernel_rfl) ?_
                        repeat (any_goals (first | go_big_quiet_step (((go_at_call 11; with_reducible exact quiet_ret (HAT.out _)))) | quiet_step (((go_at_call 11; with_reducible exact quiet_ret (HAT.out _))))))
                        refine wpQuiet_nil ?_
                        rintro _ ⟨uq, rfl⟩
                        go_wp2_with fail
                        go_roundw
                        case rel => exact ⟨k + 1, by omega, by go_num, by rw [HT1.out]; rfl, by rw [HT2.out]; rfl, by obtain ⟨u, hu⟩ := HU.out; rw [hu]; exact ext_ext _ _ _⟩
                        case measure => simp [intOf]; omega
                    · rw [decide_eq_false hc0] at HT2
                      have hc0' : decide (0 ≤ c') = false := decide_eq_false hc0
                      cases b1 <;> cases b2
                      all_goals
                        go_wp2_with fail
                        refine wp_region_ext (by kernel_rfl) (by kernel_rfl) ?_
                        repeat (any_goals (first | go_big_quiet_step (((go_at_call 11; with_reducible exact quiet_ret (HAT.out _)))) | quiet_step (((go_at_call 11; with_reducible exact quiet_ret (HAT.out _))))))
                        refine wpQuiet_nil ?_
                        rintro _ ⟨uq, rfl⟩
                        go_wp2_with fail
                        go_roundw
                        case rel => exact ⟨k + 1, by omega, by go_num, by rw [HT1.out]; rfl, by rw [HT2.out]; rfl, by obtain ⟨u, hu⟩ := HU.out; rw [hu]; exact ext_ext _ _ _⟩
                        case measure => simp [intOf]; omega
                · have hkm : k = m := by omega
                  subst hkm
                  have hlk : l.take k = l := List.take_of_length_le (by omega)
                  rw [hlk]
                  obtain ⟨_, _, w', q1, hb2, hw', _, e2⟩ := at_int sw hlq
                  injection q1 with q1; injection q1 with q1 q2
                  subst q1 q2
                  obtain ⟨_, _, y', q1, hb4, hy', _, e4⟩ := at_int sa hlq
                  injection q1 with q1; injection q1 with q1 q2
                  subst q1 q2
                  have hwy : w' = wt ∧ y' = y := by
                    rw [HWT.out] at hw'
                    rw [HYT.out] at hy'
                    exact ⟨(Option.some.inj hw').symm, (Option.some.inj hy').symm⟩
                  obtain ⟨rfl, rfl⟩ := hwy
                  obtain ⟨z, hz'⟩ : ∃ z, idxF (fun x => x == v) 0 (keptB l) = z := ⟨_, rfl⟩
                  have HAT := hide (fun (u : Ext) => show Calls Try.prog 11 #[.slice A8 n8 c8, .int .i64 v] (wr.ext u) (Ret (.int .i64 z) (wr.ext u)) from hz' ▸ at23_any (wr.ext u) _ _ _ _ _ (sk.ext u) v)
                  have f2 : l.any (hasV v) = false → y' = w' := fun h => by have := sum_none (v := v) h; omega
                  have f4 : l.any (colV v) = false → y' ≤ w' := fun h => by have := sum_spilled (v := v) G.all h; omega
                  have f3 : 0 ≤ z → w' ≤ y' := fun h => by
                    have hm : (keptB l).contains v = true := by rw [← idx_mem, hz']; exact decide_eq_true h
                    have := sum_kept (v := v) G.all (kept_mem (List.contains_iff_mem.1 hm)).2
                    omega
                  have hy0 : 0 ≤ y' := by omega
                  have hyd : decide (y' < 0) = false := decide_eq_false (by omega)
                  obtain ⟨b1, hbb1⟩ : ∃ b1, l.any (hasV v) = b1 := ⟨_, rfl⟩
                  obtain ⟨b2, hbb2⟩ : ∃ b2, l.any (colV v) = b2 := ⟨_, rfl⟩
                  rw [hbb1] at f2 ⊢
                  rw [hbb2] at f4 ⊢
                  clear hyv hwt hz' hbb1 hbb2 sl sw sa sk hw' hy' hlk HV
                  cases b1
                  · have e2 : y' = w' := f2 rfl
                    subst e2
                    clear f2
                    cases b2
                    · have e4' := f4 rfl
                      have f4d : decide (y' < y') = false := decide_eq_false (by omega)
                      clear f4 e4'
                      by_cases hzz : 0 ≤ z
                      · have f3d : decide (y' < y') = false := decide_eq_false (by have := f3 hzz; omega)
                        clear f3
                        go_wp2_with fail
                        refine wp_region_ext (by kernel_rfl) (by kernel_rfl) ?_
                        repeat (any_goals (first | go_big_quiet_step (((go_at_call 11; with_reducible exact quiet_ret (HAT.out _)))) | quiet_step (((go_at_call 11; with_reducible exact quiet_ret (HAT.out _))))))
                        refine wpQuiet_nil ?_
                        rintro _ ⟨uq, rfl⟩
                        go_wp2_with fail
                        first
                          | (go_roundw; case rel => exact ⟨q + 1, by omega, by go_num, by obtain ⟨u, hu⟩ := HU.out; rw [hu]; exact ext_ext _ _ _⟩; case measure => simp [intOf]; omega)
                          | exact ⟨⟨q + 1, by omega, by go_num, by obtain ⟨u, hu⟩ := HU.out; rw [hu]; exact ext_ext _ _ _⟩, by simp [intOf]; omega⟩
                      · have hzd : decide (0 ≤ z) = false := decide_eq_false hzz
                        clear f3
                        go_wp2_with fail
                        refine wp_region_ext (by kernel_rfl) (by kernel_rfl) ?_
                        repeat (any_goals (first | go_big_quiet_step (((go_at_call 11; with_reducible exact quiet_ret (HAT.out _)))) | quiet_step (((go_at_call 11; with_reducible exact quiet_ret (HAT.out _))))))
                        refine wpQuiet_nil ?_
                        rintro _ ⟨uq, rfl⟩
                        go_wp2_with fail
                        first
                          | (go_roundw; case rel => exact ⟨q + 1, by omega, by go_num, by obtain ⟨u, hu⟩ := HU.out; rw [hu]; exact ext_ext _ _ _⟩; case measure => simp [intOf]; omega)
                          | exact ⟨⟨q + 1, by omega, by go_num, by obtain ⟨u, hu⟩ := HU.out; rw [hu]; exact ext_ext _ _ _⟩, by simp [intOf]; omega⟩
                    · clear f4
                      by_cases hzz : 0 ≤ z
                      · have f3d : decide (y' < y') = false := decide_eq_false (by have := f3 hzz; omega)
                        clear f3
                        go_wp2_with fail
                        refine wp_region_ext (by kernel_rfl) (by kernel_rfl) ?_
                        repeat (any_goals (first | go_big_quiet_step (((go_at_call 11; with_reducible exact quiet_ret (HAT.out _)))) | quiet_step (((go_at_call 11; with_reducible exact quiet_ret (HAT.out _))))))
                        refine wpQuiet_nil ?_
                        rintro _ ⟨uq, rfl⟩
                        go_wp2_with fail
                        first
                          | (go_roundw; case rel => exact ⟨q + 1, by omega, by go_num, by obtain ⟨u, hu⟩ := HU.out; rw [hu]; exact ext_ext _ _ _⟩; case measure => simp [intOf]; omega)
                          | exact ⟨⟨q + 1, by omega, by go_num, by obtain ⟨u, hu⟩ := HU.out; rw [hu]; exact ext_ext _ _ _⟩, by simp [intOf]; omega⟩
                      · have hzd : decide (0 ≤ z) = false := decide_eq_false hzz
                        clear f3
                        go_wp2_with fail
                        refine wp_region_ext (by kernel_rfl) (by kernel_rfl) ?_
                        repeat (any_goals (first | go_big_quiet_step (((go_at_call 11; with_reducible exact quiet_ret (HAT.out _)))) | quiet_step (((go_at_call 11; with_reducible exact quiet_ret (HAT.out _))))))
                        refine wpQuiet_nil ?_
                        rintro _ ⟨uq, rfl⟩
                        go_wp2_with fail
                        first
                          | (go_roundw; case rel => exact ⟨q + 1, by omega, by go_num, by obtain ⟨u, hu⟩ := HU.out; rw [hu]; exact ext_ext _ _ _⟩; case measure => simp [intOf]; omega)
                          | exact ⟨⟨q + 1, by omega, by go_num, by obtain ⟨u, hu⟩ := HU.out; rw [hu]; exact ext_ext _ _ _⟩, by simp [intOf]; omega⟩
                  · clear f2
                    cases b2
                    · have e4' := f4 rfl
                      have f4d : decide (w' < y') = false := decide_eq_false (by omega)
                      clear f4 e4'
                      by_cases hzz : 0 ≤ z
                      · have f3d : decide (y' < w') = false := decide_eq_false (by have := f3 hzz; omega)
                        clear f3
                        go_wp2_with fail
                        refine wp_region_ext (by kernel_rfl) (by kernel_rfl) ?_
                        repeat (any_goals (first | go_big_quiet_step (((go_at_call 11; with_reducible exact quiet_ret (HAT.out _)))) | quiet_step (((go_at_call 11; with_reducible exact quiet_ret (HAT.out _))))))
                        refine wpQuiet_nil ?_
                        rintro _ ⟨uq, rfl⟩
                        go_wp2_with fail
                        first
                          | (go_roundw; case rel => exact ⟨q + 1, by omega, by go_num, by obtain ⟨u, hu⟩ := HU.out; rw [hu]; exact ext_ext _ _ _⟩; case measure => simp [intOf]; omega)
                          | exact ⟨⟨q + 1, by omega, by go_num, by obtain ⟨u, hu⟩ := HU.out; rw [hu]; exact ext_ext _ _ _⟩, by simp [intOf]; omega⟩
                      · have hzd : decide (0 ≤ z) = false := decide_eq_false hzz
                        clear f3
                        go_wp2_with fail
                        refine wp_region_ext (by kernel_rfl) (by kernel_rfl) ?_
                        repeat (any_goals (first | go_big_quiet_step (((go_at_call 11; with_reducible exact quiet_ret (HAT.out _)))) | quiet_step (((go_at_call 11; with_reducible exact quiet_ret (HAT.out _))))))
                        refine wpQuiet_nil ?_
                        rintro _ ⟨uq, rfl⟩
                        go_wp2_with fail
                        first
                          | (go_roundw; case rel => exact ⟨q + 1, by omega, by go_num, by obtain ⟨u, hu⟩ := HU.out; rw [hu]; exact ext_ext _ _ _⟩; case measure => simp [intOf]; omega)
                          | exact ⟨⟨q + 1, by omega, by go_num, by obtain ⟨u, hu⟩ := HU.out; rw [hu]; exact ext_ext _ _ _⟩, by simp [intOf]; omega⟩
                    · clear f4
                      by_cases hzz : 0 ≤ z
                      · have f3d : decide (y' < w') = false := decide_eq_false (by have := f3 hzz; omega)
                        clear f3
                        go_wp2_with fail
                        refine wp_region_ext (by kernel_rfl) (by kernel_rfl) ?_
                        repeat (any_goals (first | go_big_quiet_step (((go_at_call 11; with_reducible exact quiet_ret (HAT.out _)))) | quiet_step (((go_at_call 11; with_reducible exact quiet_ret (HAT.out _))))))
                        refine wpQuiet_nil ?_
                        rintro _ ⟨uq, rfl⟩
                        go_wp2_with fail
                        first
                          | (go_roundw; case rel => exact ⟨q + 1, by omega, by go_num, by obtain ⟨u, hu⟩ := HU.out; rw [hu]; exact ext_ext _ _ _⟩; case measure => simp [intOf]; omega)
                          | exact ⟨⟨q + 1, by omega, by go_num, by obtain ⟨u, hu⟩ := HU.out; rw [hu]; exact ext_ext _ _ _⟩, by simp [intOf]; omega⟩
                      · have hzd : decide (0 ≤ z) = false := decide_eq_false hzz
                        clear f3
                        go_wp2_with fail
                        refine wp_region_ext (by kernel_rfl) (by kernel_rfl) ?_
                        repeat (any_goals (first | go_big_quiet_step (((go_at_call 11; with_reducible exact quiet_ret (HAT.out _)))) | quiet_step (((go_at_call 11; with_reducible exact quiet_ret (HAT.out _))))))
                        refine wpQuiet_nil ?_
                        rintro _ ⟨uq, rfl⟩
                        go_wp2_with fail
                        first
                          | (go_roundw; case rel => exact ⟨q + 1, by omega, by go_num, by obtain ⟨u, hu⟩ := HU.out; rw [hu]; exact ext_ext _ _ _⟩; case measure => simp [intOf]; omega)
                          | exact ⟨⟨q + 1, by omega, by go_num, by obtain ⟨u, hu⟩ := HU.out; rw [hu]; exact ext_ext _ _ _⟩, by simp [intOf]; omega⟩
            · have hqn : q = n2 := by omega
              subst hqn
              clear sv sw sa
              go_wp2_with fail
              go_ret
              exact ⟨rfl, by obtain ⟨u, hu⟩ := HU.out; rw [hu]; exact HBE.out.ext hwe u⟩
end Go.Proofs.Ythmglmmafgdmhaa
