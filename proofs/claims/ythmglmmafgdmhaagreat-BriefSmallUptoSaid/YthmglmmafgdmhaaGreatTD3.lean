/- Walks: the document's: what variables are worth. -/
import Derived.Test.YthmglmmafgdmhaaGreatT1
set_option linter.unusedSimpArgs false
set_option linter.unusedVariables false
namespace Go.Proofs.YthmglmmafgdmhaaGreat
open Go.RowKit Go.Maps

/-- What a right brief adds to a variable that it has. -/
theorem cont_at {b : Brief} (R : RightB b) {k : Nat} {v c e : Int} (h1 : b.vars[k]? = some v) (h2 : b.colors[k]? = some c) (h3 : b.edge[k]? = some e) : contT v (trip b) = valE c e := by
  have hm : (v, c, e) ∈ trip b := List.mem_iff_getElem?.2 ⟨k, trip_at h1 h2 h3⟩
  have hu : ∀ t ∈ trip b, t.1 = v → t = (v, c, e) := fun t ht hv => by
    obtain ⟨j, hj⟩ := List.mem_iff_getElem?.1 ht
    obtain ⟨g1, g2, g3⟩ := trip_at' hj
    have hjk : j = k := (List.getElem?_inj (List.getElem?_eq_some_iff.1 g1).1 (risingF_nodup R.rise)).1 (by rw [g1, h1, hv])
    subst hjk
    rw [h1] at g1; rw [h2] at g2; rw [h3] at g3
    obtain ⟨t1, t2, t3⟩ := t
    simp only [Option.some.injEq] at g1 g2 g3
    simp [g1, g2, g3]
  have key : ∀ l : List (Int × Int × Int), (∃ t ∈ l, t.1 = v) → (∀ t ∈ l, t.1 = v → t = (v, c, e)) → contT v l = valE c e := by
    intro l
    induction l with
    | nil => rintro ⟨t, ht, _⟩; simp at ht
    | cons t l ih =>
      intro he hl
      unfold contT
      by_cases hv : t.1 = v
      · rw [if_pos hv, hl t (by simp) hv]
      · rw [if_neg hv]
        refine ih ?_ fun q hq => hl q (by simp [hq])
        obtain ⟨q, hq, hqv⟩ := he
        rcases List.mem_cons.1 hq with rfl | hq
        · exact absurd hqv hv
        · exact ⟨q, hq, hqv⟩
  exact key _ ⟨_, hm, rfl⟩ hu
set_option maxRecDepth 100000 in
set_option maxHeartbeats 8000000 in
theorem dworth_any (w : World) (S : Nat → Prop) (A1 A2 A3 : Option Addr) (n1 c1 n2 c2 n3 c3 : Nat) (vars weight : List Int) (l : List Brief) (h1 : Sl w S A1 n1 c1 vars) (h2 : Sl w S A2 n2 c2 weight) (h3 : Sl w S A3 n3 c3 l) :
    Calls Tryz.prog 11 #[.slice A1 n1 c1, .slice A2 n2 c2, .slice A3 n3 c3] w (RetIE (worthT vars weight l) w) := by
  have L1 := h1.len; have L2 := h2.len; have L3 := h3.len
  have hn1 := h1.nle; have hn2 := h2.nle; have hn3 := h3.nle
  obtain ⟨r, hr⟩ : ∃ r, risingF 0 vars = r := ⟨_, rfl⟩
  obtain ⟨ow, how⟩ : ∃ r, anyF (outF 0 1099511627776) weight = r := ⟨_, rfl⟩
  obtain ⟨ol, hol⟩ : ∃ r, anyF (fun b => !rightB b) l = r := ⟨_, rfl⟩
  have HR := hide (show Calls Tryz.prog 34 #[.slice A1 n1 c1] w (RetX (.bool r) w) from hr ▸ drising_any w S A1 n1 c1 vars h1)
  have HC := hide (fun (u : Ext) => show Calls Tryz.prog 35 #[.slice A2 n2 c2, .int .i64 0, .int .i64 1099511627776] (w.ext u) (Ret (.bool (!ow)) (w.ext u)) from how ▸ dwithin_any _ S A2 n2 c2 weight (h2.ext u) _ _)
  have HL := hide (fun (u : Ext) (hn : n3 ≤ 200) => show Calls Tryz.prog 36 #[.slice A3 n3 c3] (w.ext u) (RetX (.bool (!ol)) (w.ext u)) from hol ▸ dall_any _ S A3 n3 c3 l (h3.ext u) hn)
  have HG := hide (show goodW vars weight l = (r && (decide (n2 = n1) && (!ow && (decide (n3 ≤ 200) && !ol)))) by unfold goodW; rw [hr, how, hol, L1, L2, L3])
  have HT := hide (fun (h : goodW vars weight l = false) => show worthT vars weight l = ([], 2) by unfold worthT; rw [h]; rfl)
  have H1 := hide h1; have H2 := hide h2; have H3 := hide h3
  clear h1 h2 h3 hr how hol
  go_enter Tryz.func11, Tryz.ntmps11
  cases r
  · go_wp2_with (go_at_call 34; (with_reducible refine (HR.out).mono ?_); rintro e _ ⟨rfl, ux, rfl⟩)
    go_ret2
    exact ⟨_, by rw [HT.out (by rw [HG.out]; rfl)]; rfl, by rw [HT.out (by rw [HG.out]; rfl)]; exact OwnL.nil_ _ _ _ _, Below.of_ext w _ (Nat.le_refl _)⟩
  by_cases e2 : n2 = n1
  case neg =>
    have hd1 : (n2 == n1) = false := by simpa using e2
    have hd2 : decide (n2 = n1) = false := decide_eq_false e2
    have hd3 : ((n2 : Int) == n1) = false := by simp; omega
    have hd4 : decide ((n2 : Int) = n1) = false := decide_eq_false (by omega)
    have hd6 : (n2 != n1) = true := by simpa using e2
    have hd7 : decide (¬ n2 = n1) = true := decide_eq_true e2
    have hd8 : ((n2 : Int) != n1) = true := by simp; omega
    go_wp2_with (go_at_call 34; (with_reducible refine (HR.out).mono ?_); rintro e _ ⟨rfl, ux, rfl⟩)
    go_ret2
    exact ⟨_, by rw [HT.out (by rw [HG.out]; simp [e2])]; rfl, by rw [HT.out (by rw [HG.out]; simp [e2])]; exact OwnL.nil_ _ _ _ _, Below.of_ext w _ (Nat.le_refl _)⟩
  subst e2
  cases ow
  case true =>
    go_wp2_with (first | (go_at_call 34; (with_reducible refine (HR.out).mono ?_); rintro e _ ⟨rfl, ux, rfl⟩) | (go_at_call 35; (with_reducible refine (HC.out _).mono ?_); rintro e w' ⟨rfl, rfl⟩))
    go_ret2
    exact ⟨_, by rw [HT.out (by rw [HG.out]; simp)]; rfl, by rw [HT.out (by rw [HG.out]; simp)]; exact OwnL.nil_ _ _ _ _, Below.of_ext w _ (Nat.le_refl _)⟩
  by_cases e3 : 200 < n3
  · have e4 : (200 : Int) < n3 := by omega
    have hd1 : decide (200 < n3) = true := decide_eq_true e3
    go_wp2_with (first | (go_at_call 34; (with_reducible refine (HR.out).mono ?_); rintro e _ ⟨rfl, ux, rfl⟩) | (go_at_call 35; (with_reducible refine (HC.out _).mono ?_); rintro e w' ⟨rfl, rfl⟩))
    go_ret2
    exact ⟨_, by rw [HT.out (by rw [HG.out]; simp; omega)]; rfl, by rw [HT.out (by rw [HG.out]; simp; omega)]; exact OwnL.nil_ _ _ _ _, Below.of_ext w _ (Nat.le_refl _)⟩
  have e4 : n3 ≤ 200 := by omega
  have e5 : ¬ (200 : Int) < n3 := by omega
  have hd1 : decide (200 < n3) = false := decide_eq_false e3
  have hd5 : decide ((200 : Int) < n3) = false := decide_eq_false e5
  have HLL := hide (fun u => HL.out u e4)
  cases ol
  case true =>
    go_wp2_with (first | (go_at_call 34; (with_reducible refine (HR.out).mono ?_); rintro e _ ⟨rfl, ux, rfl⟩) | (go_at_call 35; (with_reducible refine (HC.out _).mono ?_); rintro e w' ⟨rfl, rfl⟩) | (go_at_call 36; (with_reducible refine (HLL.out _).mono ?_); rintro e _ ⟨rfl, uz, rfl⟩))
    go_ret2
    exact ⟨_, by rw [HT.out (by rw [HG.out]; simp)]; rfl, by rw [HT.out (by rw [HG.out]; simp)]; exact OwnL.nil_ _ _ _ _, (Below.of_ext w _ (Nat.le_refl _)).ext (by rw [size_ext]; omega) _⟩
  have hg : goodW vars weight l = true := by rw [HG.out]; simp [e4]
  have G := goodW_of hg
  go_wp2_with (first | (go_at_call 34; (with_reducible refine (HR.out).mono ?_); rintro e _ ⟨rfl, ux, rfl⟩) | (go_at_call 35; (with_reducible refine (HC.out _).mono ?_); rintro e w' ⟨rfl, rfl⟩) | (go_at_call 36; (with_reducible refine (HLL.out _).mono ?_); rintro e _ ⟨rfl, uz, rfl⟩))
  obtain ⟨W1, hW1⟩ : ∃ W1, (w.ext ux).ext uz = W1 := ⟨_, rfl⟩
  rw [hW1]
  have HB1 := hide (show Below w.heap.size w W1 by rw [← hW1]; exact (Below.of_ext w _ (Nat.le_refl _)).ext (by rw [size_ext]; omega) _)
  have hw1 := HB1.out.size
  have K1 := hide (H1.out.belowAll HB1.out); have K2 := hide (H2.out.belowAll HB1.out); have K3 := hide (H3.out.belowAll HB1.out)
  have hn1B : n2 ≤ 200 := by have := rising_few G.rise; omega
  have HRT := hide (show worthT vars weight l = (worthR vars weight l, 0) by unfold worthT; rw [hg]; rfl)
  clear hW1 H1 H2 H3 HR HC HL HLL HG HT hd1 hd5 hg
  obtain ⟨i0, hi, hz, hz1, hz2⟩ := info_parts info_int
  have HI0 := hide hi; have HZ := hide hz; have HZ1 := hide hz1; have HZ2 := hide hz2
  clear hi hz hz1 hz2
  go_loopw [8, 9] (fun o i wr => ∃ q : Nat, q ≤ n2 ∧ i = .int .i64 q ∧ OwnL wr W1.heap.size 3 (fun _ => False) o ((worthR vars weight l).take q) ∧ Below W1.heap.size W1 wr) (fun _ i _ => n2 - (intOf i).toNat)
  case atStart => exact ⟨0, Nat.zero_le _, rfl, OwnL.nil_ _ _ _ _, Below.refl _ _⟩
  case round =>
    obtain ⟨q, hq, rfl, hoq, hbq⟩ := hrel
    have HOQ := hide hoq; have HBQ := hide hbq
    have hwq := hbq.size
    have sv := K1.out.belowAll hbq
    have sw := K2.out.belowAll hbq
    clear hoq hbq
    by_cases hlq : q < n2
    · obtain ⟨g1, o1, v, rfl, hb1, hv, hvi, e1⟩ := at_int sv hlq
      obtain ⟨g2, o2, wt, rfl, hb2, hw2, hwi, e2⟩ := at_int sw hlq
      have hwt := G.wt wt (List.mem_of_getElem? hw2)
      have HTK := hide (show (worthR vars weight l).take (q + 1) = (worthR vars weight l).take q ++ [max (wt + sumB v l) 0] by
        apply take_at
        unfold worthR
        rw [List.getElem?_map, zip_at hv hw2]; rfl)
      have hqi : (q : Int) < n2 := by omega
      have HV := hide hv
      clear hv hw2 hvi hwi sv sw
      go_wp2_with fail
      go_loopw [10, 11] (fun a i wr => ∃ k : Nat, k ≤ n3 ∧ i = .int .i64 k ∧ a = .int .i64 (wt + sumB v (l.take k)) ∧ OwnL wr W1.heap.size 3 (fun _ => False) u8 ((worthR vars weight l).take q) ∧ Below W1.heap.size W1 wr) (fun _ i _ => n3 - (intOf i).toNat)
      case atStart => exact ⟨0, Nat.zero_le _, rfl, by simp [sumB], HOQ.out, HBQ.out⟩
      clear HOQ HBQ
      case round =>
        obtain ⟨k, hk, rfl, rfl, hoq, hbq⟩ := hrel
        have HOK := hide hoq; have HBK := hide hbq
        have sv := K1.out.belowAll hbq
        have sl := K3.out.belowAll hbq
        have hwk := hbq.size
        clear hoq hbq
        obtain ⟨_, _, v', q1, hb1, hv', _, e1⟩ := at_int sv hlq
        injection q1 with q1; injection q1 with q1 q2
        subst q1 q2
        rw [HV.out] at hv'
        injection hv' with hv'
        subst hv'
        have hsb := sumB_bd v (l := l.take k) fun b hb => G.all b (List.mem_of_mem_take hb)
        have hkl : ((l.take k).length : Int) * 1099511627776 ≤ 200 * 1099511627776 := Int.mul_le_mul_of_nonneg_right (by have := G.few; rw [List.length_take]; omega) (by decide)
        obtain ⟨s0, hs0⟩ : ∃ s0, wt + sumB v (l.take k) = s0 := ⟨_, rfl⟩
        have hsB : -1000000000000000 ≤ s0 ∧ s0 ≤ 1000000000000000 := by omega
        obtain ⟨hsB1, hsB2⟩ := hsB
        rw [hs0]
        clear sv hsb hkl
        by_cases hltk : k < n3
        · obtain ⟨b, off, bx, B1, m1, d1, B2, m2, d2, B3, m3, d3, rfl, hb, hx, s1, s2, s3, k0, k1, k2⟩ := at_Brief sl hltk
          have RB := G.all bx (List.mem_of_getElem? hx)
          have HT1 := hide (show wt + sumB v (l.take (k + 1)) = s0 + contT v (trip bx) by rw [take_at hx, sumB_snoc]; omega)
          obtain ⟨yy, hyy⟩ : ∃ yy, idxF (fun x => x == v) 0 bx.vars = yy := ⟨_, rfl⟩
          have HAT := hide (fun (u : Ext) => show Calls Tryz.prog 37 #[.slice B1 m1 d1, .int .i64 v] (wr.ext u) (Ret (.int .i64 yy) (wr.ext u)) from hyy ▸ dat_any (wr.ext u) _ _ _ _ _ (s1.ext u) v)
          have hki : (k : Int) < n3 := by omega
          have L1' := s1.len; have L2' := s2.len; have L3' := s3.len
          have lc := RB.lc; have le := RB.le
          clear hx sl hs0
          rcases idxF_at (f := fun x => x == v) bx.vars 0 with ⟨h0, hnone⟩ | ⟨i1, x1, h0, hx1, hxv⟩
          · obtain ⟨p1, _, _⟩ := none_at hnone
            rw [hyy] at h0
            subst h0
            rw [cont_none p1, Int.add_zero] at HT1
            clear hyy hnone p1 s1 s2 s3 L1' L2' L3' lc le
            go_wp2_with fail
            refine wp_region_ext (by kernel_rfl) (by kernel_rfl) ?_
            repeat (any_goals (first | go_big_quiet_step (((go_at_call 37; with_reducible exact quiet_ret (HAT.out _)))) | quiet_step (((go_at_call 37; with_reducible exact quiet_ret (HAT.out _))))))
            refine wpQuiet_nil ?_
            rintro _ ⟨uq, rfl⟩
            go_wp2_with fail
            go_roundw
            case rel => exact ⟨k + 1, by omega, by go_num, by rw [HT1.out], HOK.out.ext _, HBK.out.ext hwk _⟩
            case measure => simp [intOf]; omega
          · have hx1v : x1 = v := by simpa using hxv
            subst hx1v
            have hi1 : i1 < m2 := by have := (List.getElem?_eq_some_iff.1 hx1).1; omega
            have hi3 : i1 < m3 := by omega
            obtain ⟨g5, o5, c', rfl, hb5, hc', _, e5⟩ := at_int s2 hi1
            obtain ⟨g6, o6, e', rfl, hb6, he', _, e6⟩ := at_int s3 hi3
            have hcont := cont_at RB hx1 hc' he'
            have heb := RB.edg e' (List.mem_of_getElem? he')
            obtain ⟨heb1, heb2⟩ := heb
            rw [hyy, Nat.zero_add] at h0
            subst h0
            rw [hcont] at HT1
            have hi1i : (i1 : Int) < m2 := by omega
            have hi3i : (i1 : Int) < m3 := by omega
            clear hyy hcont s1 s2 s3 L1' L2' L3' lc le hx1 hxv hc' he'
            by_cases hc0 : c' < 0
            · have hdc : decide (c' < 0) = true := decide_eq_true hc0
              have hdc2 : decide (0 ≤ c') = false := decide_eq_false (by omega)
              have hwr : IntKind.i64.wrap (s0 - e') = s0 - e' := IntWalk.i64_in _ (by omega)
              have HT2 := hide (show wt + sumB x1 (l.take (k + 1)) = s0 - e' by rw [HT1.out]; unfold valE; rw [if_pos hc0]; omega)
              go_wp2_with fail
              refine wp_region_ext (by kernel_rfl) (by kernel_rfl) ?_
              repeat (any_goals (first | go_big_quiet_step (((go_at_call 37; with_reducible exact quiet_ret (HAT.out _)))) | quiet_step (((go_at_call 37; with_reducible exact quiet_ret (HAT.out _))))))
              refine wpQuiet_nil ?_
              rintro _ ⟨uq, rfl⟩
              go_wp2_with fail
              go_roundw
              case rel => exact ⟨k + 1, by omega, by go_num, by rw [HT2.out], HOK.out.ext _, HBK.out.ext hwk _⟩
              case measure => simp [intOf]; omega
            · have hdc : decide (c' < 0) = false := decide_eq_false hc0
              have hdc2 : decide (0 ≤ c') = true := decide_eq_true (by omega)
              have hwr : IntKind.i64.wrap (s0 + e') = s0 + e' := IntWalk.i64_in _ (by omega)
              have HT2 := hide (show wt + sumB x1 (l.take (k + 1)) = s0 + e' by rw [HT1.out]; unfold valE; rw [if_neg hc0])
              go_wp2_with fail
              refine wp_region_ext (by kernel_rfl) (by kernel_rfl) ?_
              repeat (any_goals (first | go_big_quiet_step (((go_at_call 37; with_reducible exact quiet_ret (HAT.out _)))) | quiet_step (((go_at_call 37; with_reducible exact quiet_ret (HAT.out _))))))
              refine wpQuiet_nil ?_
              rintro _ ⟨uq, rfl⟩
              go_wp2_with fail
              go_roundw
              case rel => exact ⟨k + 1, by omega, by go_num, by rw [HT2.out], HOK.out.ext _, HBK.out.ext hwk _⟩
              case measure => simp [intOf]; omega
        · have hkn : k = n3 := by omega
          subst hkn
          have hlk : l.take k = l := List.take_of_length_le (by omega)
          rw [hlk] at hs0
          rw [hs0] at HTK
          have hoB := HOK.out.below_
          have hln : ((worthR vars weight l).take q).length ≤ 200 := by rw [List.length_take]; omega
          have HIN := hide (show InI (max s0 0) by unfold InI; omega)
          clear hlk sl hs0
          go_wp2_with (at_builtin; refine wpList_push (α := Int) wr [.int .i64 (max s0 0)] 3 rfl (.tmp 110) (.tmp 113) 22 rfl W1.heap.size 3 i0 _ 8 Tryz.underlying22 HI0.out HZ.out HZ1.out HZ2.out rfl (by decide) (fun _ => False) (fun _ => False) u8 _ (max s0 0) rfl HOK.out _ rfl rfl ⟨rfl, HIN.out⟩ (fun _ h => h) (fun _ _ h => h) (fun _ h => h.elim) (by omega) (by omega) hwk ?_; intro v' w1 hown' hg _; have HO' := hide hown'; have HG := hide hg; clear hown' hg)
          exact ⟨⟨q + 1, by omega, by go_num, by rw [HTK.out]; exact HO'.out, (HBK.out.alloc (by omega) _).grown HG.out (by simp; omega) fun r e => (HOK.out.below_ r e).1⟩, by simp [intOf]; omega⟩
    · have hqn : q = n2 := by omega
      subst hqn
      clear sv sw
      go_wp2_with fail
      go_ret2
      exact ⟨_, by rw [HRT.out]; rfl, by
        rw [HRT.out]
        have h := HOQ.out
        rw [List.take_of_length_le (by unfold worthR; rw [List.length_map, List.length_zip]; omega)] at h
        exact h.lowB hw1, HB1.out.trans (HBQ.out.mono hw1)⟩
end Go.Proofs.YthmglmmafgdmhaaGreat
