/- Walks: BriefWorth. -/
import Derived.Test.YthmglmmafgdmhaaGreatTD3
import Derived.Test.YthmglmmafgdmhaaGreatT2
import Derived.Test.YthmglmmafgdmhaaGreatAP5
set_option linter.unusedSimpArgs false
set_option linter.unusedVariables false
namespace Go.Proofs.YthmglmmafgdmhaaGreat
open Go.RowKit Go.Maps

/-- Two lists, each of its own row, in a new row. -/
theorem apart_two (W : World) (B : Nat) (a b : Hdr) (xa xb : List Int) (hB : B ≤ W.heap.size) (ha : OwnL W B 3 (fun _ => False) a.v xa) (hb : OwnL W B 3 (fun _ => False) b.v xb)
    (nab : ∀ g, a.v.ownBlock = some g → b.v.ownBlock ≠ some g) (la : a.n ≤ 1000000) (lb : b.n ≤ 1000000) :
    Calls Tryz.prog 14 #[.slice (some ⟨W.heap.size, 0, none⟩) 2 2] (W.alloc (.cells #[a.v, b.v] 22)) (fun e w' => e = .returned (.bool true) ∧ Below B (W.alloc (.cells #[a.v, b.v] 22)) w') := by
  have hlt : ∀ (h : Hdr) (xs : List Int), OwnL W B 3 (fun _ => False) h.v xs → ∀ g, h.v.ownBlock = some g → g ≠ W.heap.size := fun h xs ho g hg => by have := (ho.below_ g hg).2; omega
  refine apartInts_any _ B (fun b => b = W.heap.size) (some ⟨W.heap.size, 0, none⟩) 2 2 [a, b] (fun k => match k with | 0 => xa | _ => xb) ⟨?_, ⟨?_, ?_⟩, ?_, Below.refl _ _, fun b h => by rw [h]; simp, fun _ _ => rfl⟩ (by simp; omega) (by decide) ?_
  · exact Sl.lit (S := fun _ => False) (us := [a.v, b.v]) rfl (RepL.hdrs _ _ [a, b]) rfl (by decide) (fun _ h => h.elim) rfl
  · intro k h hk
    match k, hk with
    | 0, hk => injection hk with hk; subst hk; exact ha.alloc _
    | 1, hk => injection hk with hk; subst hk; exact hb.alloc _
    | k + 2, hk => simp at hk
  · intro j k x y g hj hk hne hx hy
    match j, hj, k, hk with
    | 0, hj, 0, hk => exact hne rfl
    | 1, hj, 1, hk => exact hne rfl
    | 0, hj, 1, hk => injection hj with hj; injection hk with hk; subst hj hk; exact nab g hx hy
    | 1, hj, 0, hk => injection hj with hj; injection hk with hk; subst hj hk; exact nab g hy hx
    | j + 2, hj, _, _ => simp at hj
    | _, _, k + 2, hk => simp at hk
  · intro k h g hk hg
    match k, hk with
    | 0, hk => injection hk with hk; subst hk; exact hlt _ _ ha g hg
    | 1, hk => injection hk with hk; subst hk; exact hlt _ _ hb g hg
    | k + 2, hk => simp at hk
  · intro k h hk
    match k, hk with
    | 0, hk => injection hk with hk; subst hk; exact la
    | 1, hk => injection hk with hk; subst hk; exact lb
    | k + 2, hk => simp at hk
set_option maxRecDepth 100000 in
set_option maxHeartbeats 16000000 in
theorem briefWorth_any (w : World) (S : Nat → Prop) (A1 A2 A3 : Option Addr) (n1 c1 n2 c2 n3 c3 : Nat) (vars weight : List Int) (l : List Brief) (h1 : Sl w S A1 n1 c1 vars) (h2 : Sl w S A2 n2 c2 weight) (h3 : Sl w S A3 n3 c3 l)
    (hz1 : n1 ≤ 1048576) (hz2 : n2 ≤ 1048576) (hz3 : n3 ≤ 1048576) (hz : ∀ b ∈ l, b.vars.length ≤ 1048576 ∧ b.colors.length ≤ 1048576 ∧ b.edge.length ≤ 1048576) :
    Calls Tryz.prog 3 #[.slice A1 n1 c1, .slice A2 n2 c2, .slice A3 n3 c3] w (fun e w' => e = .returned (.bool true) ∧ Below w.heap.size w w') := by
  have L1 := h1.len; have L2 := h2.len; have L3 := h3.len
  have K1 := hide (h1.more (S' := fun _ => True) fun _ _ _ => trivial)
  have K2 := hide (h2.more (S' := fun _ => True) fun _ _ _ => trivial)
  have K3 := hide (h3.more (S' := fun _ => True) fun _ _ _ => trivial)
  obtain ⟨sz, hsz⟩ : ∃ sz, sizeL (l.length : Nat) l = sz := ⟨_, rfl⟩
  have hsz0 : (l.length : Int) ≤ sz := by rw [← hsz]; exact sizeL_ge l _
  have hsz1 : sz ≤ 2 * 3145728 := by rw [← hsz]; exact sizeL_bd (by decide) l _ (by omega) fun b hb => by have := hz b hb; omega
  have HSZ := hide (show Calls Tryz.prog 6 #[.slice A3 n3 c3] w (RetX (.int .i64 sz) w) from hsz ▸ size23_any w _ A3 n3 c3 l K3.out hz3 hz)
  clear h1 h2 h3
  go_enter Tryz.func3, Tryz.ntmps3
  have hwr1 : IntKind.i64.wrap ((n1 : Int) + n2) = (n1 : Int) + n2 := IntWalk.i64_in _ (by omega)
  have hwr2 : IntKind.i64.wrap ((n1 : Int) + n2 + sz) = (n1 : Int) + n2 + sz := IntWalk.i64_in _ (by omega)
  by_cases hbig : 400 < (n1 : Int) + n2 + sz
  · go_wp2_with (first
      | (go_at_call 6; (with_reducible refine HSZ.out.mono ?_); rintro e _ ⟨rfl, ux, rfl⟩)
      | (go_at_call 7; refine (awake23_any _).mono ?_; rintro e _ ⟨rfl, ua, rfl⟩))
    go_ret
    exact ⟨rfl, (Below.of_ext w _ (Nat.le_refl _)).ext (by rw [size_ext]; omega) _⟩
  · have htot := sizeL_small l _ (by rw [hsz]; omega)
    have htp := totL_pos l
    have htot' : (n3 : Int) + totL l ≤ 400 := by omega
    have C1 := hide (fun u : Ext => lentInts_own (w.ext u) _ A1 n1 c1 vars (K1.out.ext u) (by omega))
    have C2 := hide (fun u u' : Ext => lentInts_own ((w.ext u).ext u') _ A2 n2 c2 weight ((K2.out.ext u).ext u') (by omega))
    have C3 := hide (fun u u' u'' : Ext => lent23_any (((w.ext u).ext u').ext u'') _ A3 n3 c3 l (((K3.out.ext u).ext u').ext u'') hz3 hz)
    go_wp2_with (first
      | (go_at_call 6; (with_reducible refine HSZ.out.mono ?_); rintro e _ ⟨rfl, ux, rfl⟩)
      | (go_at_call 8; (with_reducible refine (C1.out _).mono ?_); rintro e _ ⟨g1, d1, rfl, t1, _, u1, rfl⟩; have T1 := hide t1; clear t1 C1)
      | (go_at_call 8; (with_reducible refine (C2.out _ _).mono ?_); rintro e _ ⟨g2, d2, rfl, t2, _, u2, rfl⟩; have T2 := hide t2; clear t2 C2)
      | (go_at_call 9; (with_reducible refine (C3.out _ _ _).mono ?_); rintro e _ ⟨B3, m3, d3, So, rfl, ho, hSo, u3, rfl⟩; have HO3 := hide ho; clear ho hSo C3; refine Hd.out ?_))
    obtain ⟨W3, hW3⟩ : ∃ W3, (((w.ext ux).ext u1).ext u2).ext u3 = W3 := ⟨_, rfl⟩
    have HB3 := hide (show Below w.heap.size w W3 by rw [← hW3]; exact (((Below.of_ext w ux (Nat.le_refl _)).ext (by rw [size_ext]; omega) u1).ext (by simp only [size_ext]; omega) u2).ext (by simp only [size_ext]; omega) u3)
    have R1 := hide (show Sl W3 (fun _ => True) (some ⟨g1, 0, none⟩) (n1 + 12) d1 (row vars) by rw [← hW3, ← L1]; exact ((T1.out.ext u2).ext u3).more fun _ _ _ => trivial)
    have R2 := hide (show Sl W3 (fun _ => True) (some ⟨g2, 0, none⟩) (n2 + 12) d2 (row weight) by rw [← hW3, ← L2]; exact (T2.out.ext u3).more fun _ _ _ => trivial)
    have hm3 : m3 = n3 := by
      obtain ⟨_, _, e⟩ := HO3.out.form
      injection e with _ e _
      rw [e, List.length_map, L3]
    have R3 := hide (show Sl W3 (fun _ => True) B3 n3 d3 (lbs l) by rw [← hW3, ← hm3]; exact HO3.out.sl fun _ _ _ => trivial)
    have Q1 := hide (K1.out.belowAll HB3.out); have Q2 := hide (K2.out.belowAll HB3.out); have Q3 := hide (K3.out.belowAll HB3.out)
    subst hm3
    rw [hW3]
    have hw3 := HB3.out.size
    clear hW3 T1 T2 HO3 HSZ hwr1 hwr2 K1 K2 K3
    obtain ⟨rr, hrr⟩ : ∃ r, worthT vars weight l = r := ⟨_, rfl⟩
    obtain ⟨ra, re⟩ := rr
    have hral : ra.length ≤ 400 := by
      have h : ra = (worthT vars weight l).1 := by rw [hrr]
      rw [h]
      unfold worthT
      split
      · unfold worthR; rw [List.length_map, List.length_zip]; omega
      · exact Nat.zero_le _
    have HW := hide (fun (W : World) (hb : Below W3.heap.size W3 W) => show Calls Tryz.prog 10 #[.slice (some ⟨g1, 0, none⟩) n1 d1, .slice (some ⟨g2, 0, none⟩) n2 d2, .slice B3 m3 d3] W (RetIE (ra, re) W) from hrr ▸ worth_any W (fun _ => True) _ _ _ n1 d1 n2 d2 m3 d3 vars weight l ((R1.out.forget L1).belowAll hb) ((R2.out.forget L2).belowAll hb) ((lbs_forget R3.out).belowAll hb))
    have HRF := hide (fun (W : World) (hb : Below W3.heap.size W3 W) => refs23_any W (fun _ => True) A3 m3 c3 l (Q3.out.belowAll hb) hz3)
    have HD := hide (fun (W : World) (hb : Below W3.heap.size W3 W) (A : Option Addr) (n c : Nat) (h : Sl W (fun _ => True) A n c l) => show Calls Tryz.prog 11 #[.slice A1 n1 c1, .slice A2 n2 c2, .slice A n c] W (RetIE (ra, re) W) from hrr ▸ dworth_any W (fun _ => True) _ _ _ n1 c1 n2 c2 n c vars weight l (Q1.out.belowAll hb) (Q2.out.belowAll hb) h)
    clear hrr
    refine hide ?_
    go_wp2_with (first
      | (go_at_call 10; (with_reducible refine (HW.out W3 (Below.refl _ _)).mono ?_); rintro e W4 ⟨v, rfl, ho, hb⟩; obtain ⟨A4, c4, rfl⟩ := ho.form; dsimp only at ho ⊢; obtain ⟨n4, hn4⟩ : ∃ n4, ra.length = n4 := ⟨_, rfl⟩; rw [hn4] at ho hral ⊢; have HN4 := hide hn4; have HOA := hide ho; have HB4 := hide hb; clear ho hb hn4; refine Hd.out ?_))
    have hw4 := HB4.out.size
    refine hide ?_
    go_wp2_with (first
      | (go_at_call 12; (with_reducible refine (HRF.out W4 HB4.out).mono ?_); rintro e _ ⟨A6, n6, c6, rfl, hs6, -, u4, rfl⟩; have HS6 := hide hs6; clear hs6)
      | (go_at_call 11; (with_reducible refine (HD.out _ (HB4.out.ext hw4 u4) _ _ _ HS6.out).mono ?_); rintro e W5 ⟨v, rfl, ho, hb⟩; obtain ⟨A5, c5, rfl⟩ := ho.form; dsimp only at ho ⊢; rw [HN4.out] at ho ⊢; have HOB := hide ho; have HB45 := hide ((Below.of_ext W4 u4 (Nat.le_refl _)).trans (hb.mono (by rw [size_ext]; omega))); clear ho hb HS6; refine Hd.out ?_))
    have HB5 := hide (HB4.out.trans (HB45.out.mono hw4))
    have hw5 := HB5.out.size
    have hw45 := HB45.out.size
    refine hide ?_
    go_wp2_with (first
      | (go_at_call 10; (with_reducible refine (HW.out W5 HB5.out).mono ?_); rintro e W6 ⟨v, rfl, ho, hb⟩; obtain ⟨A7, c7, rfl⟩ := ho.form; dsimp only at ho ⊢; rw [HN4.out] at ho ⊢; have HOC := hide ho; have HB56 := hide hb; clear ho hb; refine Hd.out ?_))
    have HB6 := hide (HB5.out.trans (HB56.out.mono hw5))
    have hw6 := HB6.out.size
    have hw56 := HB56.out.size
    have hOa : OwnL W6 W3.heap.size 3 (fun _ => False) (.slice A4 n4 c4) ra := HOA.out.keep (by omega) (fun _ hf => hf.elim) fun g hg => (HB56.out.block g (by have := (HOA.out.below_ g hg).2; omega)).trans (HB45.out.block g (HOA.out.below_ g hg).2)
    have hOc : OwnL W6 W3.heap.size 3 (fun _ => False) (.slice A7 n4 c7) ra := HOC.out.lowB hw5
    have hne : ∀ g, (Value.slice A4 n4 c4).ownBlock = some g → (Value.slice A7 n4 c7).ownBlock ≠ some g := fun g hg hc => by have := (HOA.out.below_ g hg).2; have := (HOC.out.below_ g hc).1; omega
    have HSA := hide (show Sl W6 (fun _ => True) A4 n4 c4 ra from hOa.sl fun _ _ _ => trivial)
    have HSB := hide (show Sl W6 (fun _ => True) A5 n4 c5 ra from (HOB.out.sl fun _ _ _ => trivial).belowAll HB56.out)
    have HAP := hide (fun u : Ext => show Calls Tryz.prog 14 #[.slice (some ⟨W6.heap.size + u.blocks.size, 0, none⟩) 2 2] ((W6.ext u).alloc (.cells #[.slice A4 n4 c4, .slice A7 n4 c7] 22)) (fun e w' => e = .returned (.bool true) ∧ Below W3.heap.size ((W6.ext u).alloc (.cells #[.slice A4 n4 c4, .slice A7 n4 c7] 22)) w') from by
      have h := apart_two (W6.ext u) W3.heap.size ⟨A4, n4, c4⟩ ⟨A7, n4, c7⟩ ra ra (by rw [size_ext]; omega) (hOa.ext u) (hOc.ext u) hne (by show n4 ≤ 1000000; omega) (by show n4 ≤ 1000000; omega)
      rw [size_ext] at h
      exact h)
    have HKI := hide (fun (W : World) (hb : Below W3.heap.size W3 W) => keptInts_any W (fun _ => True) (fun _ => True) (some ⟨g1, 0, none⟩) A1 n1 d1 c1 vars (R1.out.belowAll hb) (Q1.out.belowAll hb) (by omega))
    have HKJ := hide (fun (W : World) (hb : Below W3.heap.size W3 W) => keptInts_any W (fun _ => True) (fun _ => True) (some ⟨g2, 0, none⟩) A2 n2 d2 c2 weight (R2.out.belowAll hb) (Q2.out.belowAll hb) (by omega))
    have HKB := hide (fun (W : World) (hb : Below W3.heap.size W3 W) => kept23_any W (fun _ => True) (fun _ => True) B3 A3 m3 d3 c3 l (R3.out.belowAll hb) (Q3.out.belowAll hb) hz3 hz)
    have hee : (re == re) = true := by simp
    clear hOa hOc hne HW HRF HD HOA HOB HOC R1 R2 R3 Q1 Q2 Q3 HB45 HB56
    refine hide ?_
    go_wp2_with (first
      | (go_at_call 13; refine (sameInts_any W6 (fun _ => True) (fun _ => True) _ _ _ _ _ ra HSA.out HSB.out).mono ?_; rintro e _ ⟨rfl, u7, rfl⟩)
      | (go_at_call 14; (with_reducible refine (HAP.out u7).mono ?_); rintro e W8 ⟨rfl, hb⟩; have HB8 := hide (show Below W3.heap.size W3 W8 from ((HB6.out.ext hw6 u7).alloc (by rw [size_ext]; omega) _).trans hb); clear hb)
      | (go_at_call 15; (with_reducible refine (HKI.out _ HB8.out).mono ?_); rintro e _ ⟨rfl, u9, rfl⟩)
      | (go_at_call 15; (with_reducible refine (HKJ.out _ (HB8.out.ext HB8.out.size u9)).mono ?_); rintro e _ ⟨rfl, u10, rfl⟩)
      | (go_at_call 16; (with_reducible refine (HKB.out _ ((HB8.out.ext HB8.out.size u9).ext (HB8.out.ext HB8.out.size u9).size u10)).mono ?_); rintro e _ ⟨rfl, u11, rfl⟩)
      | (go_at_call 7; refine (awake23_any _).mono ?_; rintro e _ ⟨rfl, u12, rfl⟩))
    go_ret
    have hw8 := HB8.out.size
    exact ⟨rfl, HB3.out.trans (((((HB8.out.ext hw8 u9).ext (by rw [size_ext]; omega) u10).ext (by simp only [size_ext]; omega) u11).ext (by simp only [size_ext]; omega) u12).mono hw3)⟩
end Go.Proofs.YthmglmmafgdmhaaGreat
