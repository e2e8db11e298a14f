/- law28: walks: CertBack. Printed by gen_cb1.py. -/
import Derived.Test.YtppkanniefignaaGreatDoorG39
import Derived.Test.YtppkanniefignaaGreatDoorG29
import Derived.Test.YtppkanniefignaaGreatDoorG40
import Derived.Test.YtppkanniefignaaGreatDoorG20
import Derived.Test.YtppkanniefignaaGreatDoorShelfC
set_option linter.unusedSimpArgs false
set_option linter.unusedVariables false
namespace Go.Proofs.YtppkanniefignaaGreatDoor
open Go.RowKit Go.Maps
/-- What is read of package-level variables, strings.Split and ReplaceAll too. -/
structure VarsQ (w : World) : Prop where
  p : VarsP w
  m : ∃ m, w.cell? ⟨0, 0, none⟩ = some (.int .i64 m)
theorem VarsQ.below {w w' : World} {B : Nat} (h : VarsQ w) (hb : Below B w w') (hB : 8 ≤ B) : VarsQ w' := by
  obtain ⟨m, hm⟩ := h.m
  exact ⟨h.p.below hb hB, m, (World.cell?_of_block (hb.block _ (by show 0 < B; omega))).trans hm⟩
theorem VarsQ.ext {w : World} (h : VarsQ w) (u : Ext) : VarsQ (w.ext u) := h.below (Below.of_ext w u (Nat.le_refl _)) h.p.v.sz
theorem flat_len (c : UInt8) (new : List UInt8) (h : 1 ≤ new.length) : ∀ l : List UInt8, (l.flatMap (rep1 c new)).length ≤ new.length * l.length
  | [] => Nat.le_refl _
  | b :: l => by
    have ih := flat_len c new h l
    have h1 : (rep1 c new b).length ≤ new.length := by unfold rep1; split; exact Nat.le_refl _; exact h
    rw [List.flatMap_cons, List.length_append, List.length_cons, Nat.mul_add]
    omega
/-- strings.ReplaceAll at one byte. -/
theorem replace_any (t : ByteArray) (c : UInt8) (new : List UInt8) (hn : ([c] == new) = false) (hl : 1 ≤ new.length) (hl2 : new.length ≤ 64) (w : World) (ht : t.size ≤ 4194304) (hv : VarsQ w) :
    Calls Tryz.prog 22 #[.string t, .string ⟨#[c]⟩, .string ⟨new.toArray⟩] w fun e w' => e = .returned (.string (mkB (Lib.replaceAll t.data.toList [c] new))) ∧ Below w.heap.size w w' := by
  obtain ⟨m, hm⟩ := hv.m
  have h1 := Lib.countB_le ⟨#[c]⟩ (by show 1 ≤ 1; omega) t.size t (Nat.le_refl _)
  have h2 : (⟨new.toArray⟩ : ByteArray).size = new.length := by show new.toArray.size = _; simp
  have h3 : Lib.countB t ⟨#[c]⟩ * (⟨new.toArray⟩ : ByteArray).size ≤ 4194304 * 64 := Nat.mul_le_mul (by omega) (by omega)
  have := Tryz.strings_ReplaceAll t ⟨#[c]⟩ ⟨new.toArray⟩ m w (by omega) hm (by show 1 ≤ 1; omega) (by omega)
  exact this
theorem wq_text (t : ByteArray) : (⟨#[59, 32, 97, 108, 108, 10, 10, 32]⟩ : ByteArray) ++ mkB (wqB t.data.toList) = wqT t := by
  unfold wqT; rw [mkB_append]; rfl
set_option maxRecDepth 100000 in
set_option maxHeartbeats 32000000 in
theorem certBack_any (w : World) (S S2 : Nat → Prop) (A B : Option Addr) (n k m j : Nat) (x : Cert) (s : ByteArray) (h : Sl w S A n k x.tiles) (g : Sl w S2 B m j x.facts) (hm1 : ∀ t ∈ x.tiles, t.blocks.length ≤ 140737488355328) (hm2 : ∀ l ∈ x.facts, l.length ≤ 140737488355328)
    (hs : s.size ≤ 140737488355328) (hv : VarsQ w) : Calls Tryz.prog 5 #[.agg #[.slice A n k, .slice B m j], .string s] w (RetX (.bool true) w) := by
  obtain ⟨C, hC⟩ : ∃ C, w.heap.size = C := ⟨_, rfl⟩
  obtain ⟨W0, hW0⟩ : ∃ W0, w.alloc (.cells #[.slice A n k, .slice B m j] 26) = W0 := ⟨_, rfl⟩
  have HB0 := hide (show Below w.heap.size w W0 from by rw [← hW0]; exact (Below.refl _ _).alloc (Nat.le_refl _) _)
  have hr0 : W0.heap[C]? = some (.cells #[.slice A n k, .slice B m j] 26 (0, 0)) := by rw [← hW0, ← hC]; exact heap_alloc_new w _
  have HR0 := hide hr0
  have HS := hide (show Sl W0 S A n k x.tiles from by rw [← hW0]; exact h.alloc _)
  have HG := hide (show Sl W0 S2 B m j x.facts from by rw [← hW0]; exact g.alloc _)
  have HV := hide (show VarsQ W0 from hv.below HB0.out hv.p.v.sz)
  have HAW := hide (awake28_any W0 HV.out.p)
  have HCO := hide (fun u : Ext => certOf28_any (W0.ext u) S S2 A B n k m j x (HS.out.ext u) (HG.out.ext u) hm1 hm2)
  obtain ⟨N, hN⟩ : ∃ N, certN x = N := ⟨_, rfl⟩
  rw [hN] at HCO
  have HN := hide hN
  have HCQ := hide hC; have HWQ := hide hW0
  have a0 : W0.cell? ⟨C, 0, none⟩ = some (.slice A n k) := cell_of_row W0 C _ _ _ (0, 0) hr0
  have a1 : W0.cell? ⟨C, 1, none⟩ = some (.slice B m j) := cell_of_row W0 C _ _ _ (0, 0) hr0
  have al : C < W0.heap.size := (Array.getElem?_eq_some_iff.1 hr0).1
  clear h g hv hm1 hm2 hN hC hW0 hr0
  go_enter Tryz.func5, Tryz.ntmps5
  go_upto_region 1 with (fail)
  rw [HWQ.out]
  try rw [HCQ.out]
  by_cases hbig : 1500 < N ∨ 6000 < s.size
  · by_cases hbig1 : 1500 < N
    · have hb1 : decide ((1500 : Int) < N) = true := by simpa using hbig1
      go_wp2_with (first | (go_at_call 7; (with_reducible refine HAW.out.mono ?_); rintro e _ ⟨rfl, u1, rfl⟩) | (go_at_call 13; (with_reducible refine (HCO.out _).mono ?_); rintro e _ ⟨rfl, u2, rfl⟩))
      go_ret
      exact RetX.b rfl ((HB0.out.ext HB0.out.size _).ext (by rw [size_ext]; have := HB0.out.size; omega) _)
    · have hb1 : decide ((1500 : Int) < N) = false := by simp; omega
      have hb2 : decide ((6000 : Int) < s.size) = true := by simp; omega
      go_wp2_with (first | (go_at_call 7; (with_reducible refine HAW.out.mono ?_); rintro e _ ⟨rfl, u1, rfl⟩) | (go_at_call 13; (with_reducible refine (HCO.out _).mono ?_); rintro e _ ⟨rfl, u2, rfl⟩))
      go_ret
      exact RetX.b rfl ((HB0.out.ext HB0.out.size _).ext (by rw [size_ext]; have := HB0.out.size; omega) _)
  have hs6 : s.size ≤ 6000 := by omega
  have hb1 : decide ((1500 : Int) < N) = false := by simp; omega
  have hb2 : decide ((6000 : Int) < s.size) = false := by simp; omega
  have HCN := hide (show certN x ≤ 1500 by rw [HN.out]; omega)
  clear hbig
  go_upto_region 5 with (first | (go_at_call 7; (with_reducible refine HAW.out.mono ?_); rintro e _ ⟨rfl, u1, rfl⟩) | (go_at_call 13; (with_reducible refine (HCO.out _).mono ?_); rintro e _ ⟨rfl, u2, rfl⟩))
  obtain ⟨W1, hW1⟩ : ∃ W, (W0.ext u1).ext u2 = W := ⟨_, rfl⟩
  have hb01 : Below W0.heap.size W0 W1 := by rw [← hW1]; exact (Below.of_ext W0 u1 (Nat.le_refl _)).ext (by rw [size_ext]; omega) u2
  rw [hW1]
  have HB1 := hide (HB0.out.trans (hb01.mono HB0.out.size))
  have HV1 := hide (show VarsQ W1 from HV.out.below hb01 HV.out.p.v.sz)
  have HS1 := hide (show Sl W1 (fun q => q < W0.heap.size) A n k x.tiles from (HS.out.more (S' := fun q => q < W0.heap.size) fun q hq _ => hq).below hb01 fun q hq => hq)
  have HG1 := hide (show Sl W1 (fun q => q < W0.heap.size) B m j x.facts from (HG.out.more (S' := fun q => q < W0.heap.size) fun q hq _ => hq).below hb01 fun q hq => hq)
  have hr1 : W1.heap[C]? = some (.cells #[.slice A n k, .slice B m j] 26 (0, 0)) := (hb01.block C al).trans HR0.out
  clear hb01 hW1 a0 a1 al hb1 hb2 HB0 HV HS HG HAW HCO HR0 HCQ HWQ HN
  have a0 : W1.cell? ⟨C, 0, none⟩ = some (.slice A n k) := cell_of_row W1 C _ _ _ (0, 0) hr1
  have a1 : W1.cell? ⟨C, 1, none⟩ = some (.slice B m j) := cell_of_row W1 C _ _ _ (0, 0) hr1
  have al : C < W1.heap.size := (Array.getElem?_eq_some_iff.1 hr1).1
  have HR1 := hide hr1
  clear hr1
  have HPR := hide (print28_any W1 _ _ A B n k m j x HS1.out HG1.out HV1.out.p)
  have HRI := hide (fun u : Ext => right28_any (W1.ext u) _ _ A B n k m j x (HS1.out.ext u) (HG1.out.ext u) (HV1.out.p.ext u))
  cases hrb : rightB x with
  | false =>
    have hpx : printB28 x = (ByteArray.empty, 2) := by unfold printB28; rw [if_neg (by rw [hrb]; decide)]
    rw [hpx] at HPR
    rw [hrb] at HRI
    dsimp only at HPR
    clear hpx hrb
    go_upto_region 13 with (first | (go_at_call 15; (with_reducible refine HPR.out.mono ?_); rintro e _ ⟨rfl, u3, rfl⟩) | (go_at_call 17; (with_reducible refine (HRI.out _).mono ?_); rintro e _ ⟨rfl, u4, rfl⟩))
    obtain ⟨W9, hW9⟩ : ∃ W, (W1.ext u3).ext u4 = W := ⟨_, rfl⟩
    have hb19 : Below W1.heap.size W1 W9 := by rw [← hW9]; exact (Below.of_ext W1 u3 (Nat.le_refl _)).ext (by rw [size_ext]; omega) u4
    rw [hW9]
    have HB9 := hide (HB1.out.trans (hb19.mono HB1.out.size))
    have HV9 := hide (show VarsP W9 from HV1.out.p.below hb19 HV1.out.p.v.sz)
    clear hb19 hW9 a0 a1 al HB1 HV1 HS1 HG1 HR1 HPR HRI HCN
    have HP3 := hide (parse28_any s W9 HV9.out)
    obtain ⟨⟨d, el, ec, ee⟩, hr⟩ : ∃ r, parse28 s = r := ⟨_, rfl⟩
    rw [hr] at HP3
    have HR := hide hr
    clear hr
    go_wp2_with (go_at_call 8; (with_reducible refine HP3.out.mono ?_); rintro e W10 ⟨A3, n3, k3, B3, m3, j3, D3, St3, Sf3, rfl, ho, hb⟩; dsimp only; have HO3 := hide ho; have HB10 := hide hb; clear ho hb; refine Hd.out ?_)
    obtain ⟨E, hE⟩ : ∃ C, W10.heap.size = C := ⟨_, rfl⟩
    obtain ⟨W11, hW11⟩ : ∃ W', W10.alloc (.cells #[.slice A3 n3 k3, .slice B3 m3 j3] 26) = W' := ⟨_, rfl⟩
    have hr11 : W11.heap[E]? = some (.cells #[.slice A3 n3 k3, .slice B3 m3 j3] 26 (0, 0)) := by rw [← hW11, ← hE]; exact heap_alloc_new W10 _
    have HB101 := hide (show Below W10.heap.size W10 W11 from by rw [← hW11]; exact (Below.refl _ _).alloc (Nat.le_refl _) _)
    have HB911 := hide (show Below W9.heap.size W9 W11 from HB10.out.trans (HB101.out.mono HB10.out.size))
    have HB11 := hide (show Below w.heap.size w W11 from HB9.out.trans (HB911.out.mono HB9.out.size))
    have HV11 := hide (show VarsP W11 from HV9.out.below HB911.out HV9.out.v.sz)
    have HS11 := hide (show Sl W11 (fun _ => True) A3 n3 k3 d.tiles from (HO3.out.ot.tiles.sl (S' := fun _ => True) fun _ _ _ => trivial).belowAll HB101.out)
    have HG11 := hide (show Sl W11 (fun _ => True) B3 m3 j3 d.facts from (HO3.out.of.rows.sl (S' := fun _ => True) fun _ _ _ => trivial).belowAll HB101.out)
    have hn3 : d.tiles.length = n3 := HO3.out.nt
    have hm3 : d.facts.length = m3 := HO3.out.nf
    have d0 : W11.cell? ⟨E, 0, none⟩ = some (.slice A3 n3 k3) := cell_of_row W11 E _ _ _ (0, 0) hr11
    have d1 : W11.cell? ⟨E, 1, none⟩ = some (.slice B3 m3 j3) := cell_of_row W11 E _ _ _ (0, 0) hr11
    have dl : E < W11.heap.size := (Array.getElem?_eq_some_iff.1 hr11).1
    have HR11 := hide hr11
    have HW11 := hide hW11; have HE := hide hE
    clear hr11 hW11 hE HP3 HB10 HB101 HB911 HO3 HB9 HV9
    by_cases he : ee = 0
    · subst he
      obtain ⟨rfl, rfl, hrd⟩ := parse_right28 hs6 HR.out
      obtain ⟨ut, hut⟩ : ∃ t, showB d = t := ⟨_, rfl⟩
      have hpd : printB28 d = (ut, 0) := by unfold printB28; rw [if_pos hrd, hut]
      have hpu : parse28 ut = (d, 0, 0, 0) := hut ▸ parse_show28 hrd
      have HPD := hide (print28_any W11 _ _ A3 B3 n3 k3 m3 j3 d HS11.out HG11.out HV11.out)
      rw [hpd] at HPD
      dsimp only at HPD
      have HPU := hide (fun (W : World) (h : VarsP W) => show Calls Tryz.prog 8 #[.string ut] W (CertP (d, 0, 0, 0) W) from hpu ▸ parse28_any ut W h)
      clear hpd hpu hut hrd hn3 hm3
      refine hide ?_
      go_upto_region 14 with fail
      rw [HW11.out]
      try rw [HE.out]
      go_wp2_with (first | (go_at_call 15; (with_reducible refine HPD.out.mono ?_); rintro e _ ⟨rfl, u9, rfl⟩) | (go_at_call 8; (with_reducible refine (HPU.out _ (HV11.out.ext u9)).mono ?_); rintro e W12 ⟨A4, n4, k4, B4, m4, j4, D4, St4, Sf4, rfl, ho, hb⟩; dsimp only; have HO4 := hide ho; have HB12 := hide hb; clear ho hb; refine Hd.out ?_))
      have hb112 : Below W11.heap.size W11 W12 := (Below.of_ext W11 u9 (Nat.le_refl _)).trans (HB12.out.mono (by rw [size_ext]; omega))
      obtain rfl : n4 = n3 := by have h1 := HO4.out.nt; have h2 := HS11.out.len; show n4 = n3; exact h1.symm.trans h2
      obtain rfl : m4 = m3 := by have h1 := HO4.out.nf; have h2 := HG11.out.len; exact h1.symm.trans h2
      obtain ⟨E2, hE2⟩ : ∃ C, W12.heap.size = C := ⟨_, rfl⟩
      obtain ⟨W13, hW13⟩ : ∃ W', W12.alloc (.cells #[.slice A4 n4 k4, .slice B4 m4 j4] 26) = W' := ⟨_, rfl⟩
      have hr13 : W13.heap[E2]? = some (.cells #[.slice A4 n4 k4, .slice B4 m4 j4] 26 (0, 0)) := by rw [← hW13, ← hE2]; exact heap_alloc_new W12 _
      have hb123 : Below W12.heap.size W12 W13 := by rw [← hW13]; exact (Below.refl _ _).alloc (Nat.le_refl _) _
      have hb113 : Below W11.heap.size W11 W13 := hb112.trans (hb123.mono hb112.size)
      have hr113 : W13.heap[E]? = some (.cells #[.slice A3 n4 k3, .slice B3 m4 j3] 26 (0, 0)) := (hb113.block E dl).trans HR11.out
      have HSC := hide (sameCert28_any W13 _ _ _ _ A3 A4 B3 B4 n4 k3 k4 m4 j3 j4 d (HS11.out.belowAll hb113) ((HO4.out.ot.tiles.sl (S' := fun _ => True) fun _ _ _ => trivial).belowAll hb123) (HG11.out.belowAll hb113) ((HO4.out.of.rows.sl (S' := fun _ => True) fun _ _ _ => trivial).belowAll hb123))
      have HB13 := hide (show Below w.heap.size w W13 from HB11.out.trans (hb113.mono HB11.out.size))
      have HW13 := hide hW13; have HE2 := hide hE2
      have e0 : W13.cell? ⟨E, 0, none⟩ = some (.slice A3 n4 k3) := cell_of_row W13 E _ _ _ (0, 0) hr113
      have e1 : W13.cell? ⟨E, 1, none⟩ = some (.slice B3 m4 j3) := cell_of_row W13 E _ _ _ (0, 0) hr113
      have el1 : E < W13.heap.size := (Array.getElem?_eq_some_iff.1 hr113).1
      have f0 : W13.cell? ⟨E2, 0, none⟩ = some (.slice A4 n4 k4) := cell_of_row W13 E2 _ _ _ (0, 0) hr13
      have f1 : W13.cell? ⟨E2, 1, none⟩ = some (.slice B4 m4 j4) := cell_of_row W13 E2 _ _ _ (0, 0) hr13
      have fl1 : E2 < W13.heap.size := (Array.getElem?_eq_some_iff.1 hr13).1
      clear hr13 hr113 hb112 hb123 hb113 hW13 hE2 d0 d1 dl HPD HPU HO4
      refine hide ?_
      go_upto_region 18 with fail
      rw [HW13.out]
      try rw [HE2.out]
      go_wp2_with (go_at_call 10; (with_reducible refine HSC.out.mono ?_); rintro e _ ⟨rfl, u10, rfl⟩)
      go_ret
      exact RetX.b rfl (HB13.out.ext HB13.out.size _)
    · obtain ⟨rfl, hel, hec⟩ := parse_bad28 HR.out he
      obtain rfl : n3 = 0 := hn3.symm
      obtain rfl : m3 = 0 := hm3.symm
      have he1 : (ee != 0) = true := by simpa using he
      have hl1 : decide (0 ≤ el) = true := by simpa using hel
      have hl2 : decide (0 ≤ ec) = true := by simpa using hec
      refine hide ?_
      go_upto_region 14 with fail
      rw [HW11.out]
      try rw [HE.out]
      go_wp2_with fail
      go_ret
      exact RetX.b rfl HB11.out
  | true =>
    have hfx : fitsB x = true := by unfold rightB at hrb; rw [Bool.and_eq_true] at hrb; exact hrb.1
    obtain ⟨tx, htx⟩ : ∃ t, showB x = t := ⟨_, rfl⟩
    have htz : tx.size ≤ 262144 := by rw [← htx]; unfold rightB at hrb; rw [Bool.and_eq_true, decide_eq_true_eq] at hrb; exact hrb.2
    have hpx : printB28 x = (tx, 0) := by unfold printB28; rw [if_pos hrb, htx]
    have hpt : parse28 tx = (x, 0, 0, 0) := htx ▸ parse_show28 hrb
    have hpw : parse28 (wqT tx) = (x, 0, 0, 0) := htx ▸ parse_wq28 hfx HCN.out
    have hwz : (wqB tx.data.toList).length ≤ 210000 := htx ▸ show_wq hfx HCN.out
    rw [hpx] at HPR
    rw [hrb] at HRI
    dsimp only at HPR
    clear hpx hrb htx hfx HCN
    go_upto_region 9 with (first | (go_at_call 15; (with_reducible refine HPR.out.mono ?_); rintro e _ ⟨rfl, u3, rfl⟩) | (go_at_call 17; (with_reducible refine (HRI.out _).mono ?_); rintro e _ ⟨rfl, u4, rfl⟩))
    obtain ⟨W2, hW2⟩ : ∃ W, (W1.ext u3).ext u4 = W := ⟨_, rfl⟩
    have hb12 : Below W1.heap.size W1 W2 := by rw [← hW2]; exact (Below.of_ext W1 u3 (Nat.le_refl _)).ext (by rw [size_ext]; omega) u4
    rw [hW2]
    have HB2 := hide (HB1.out.trans (hb12.mono HB1.out.size))
    have HV2 := hide (show VarsQ W2 from HV1.out.below hb12 HV1.out.p.v.sz)
    have HS2 := hide (HS1.out.belowAll hb12)
    have HG2 := hide (HG1.out.belowAll hb12)
    have hr2 : W2.heap[C]? = some (.cells #[.slice A n k, .slice B m j] 26 (0, 0)) := (hb12.block C al).trans HR1.out
    have hl2 : C < W2.heap.size := (Array.getElem?_eq_some_iff.1 hr2).1
    have HR2 := hide hr2; have HL2 := hide hl2
    clear hb12 hW2 a0 a1 al HB1 HV1 HS1 HG1 HR1 HPR HRI hr2 hl2
    have HP1 := hide (show Calls Tryz.prog 8 #[.string tx] W2 (CertP (x, 0, 0, 0) W2) from hpt ▸ parse28_any tx W2 HV2.out.p)
    clear hpt
    go_wp2_with (go_at_call 8; (with_reducible refine HP1.out.mono ?_); rintro e W3 ⟨A1, n1, k1, B1, m1, j1, D1, St1, Sf1, rfl, ho, hb⟩; dsimp only; have HO1 := hide ho; have HB23 := hide hb; clear ho hb; refine Hd.out ?_)
    obtain rfl : n1 = n := by have h1 := HO1.out.nt; have h2 := HS2.out.len; show n1 = n; exact h1.symm.trans h2
    obtain rfl : m1 = m := by have h1 := HO1.out.nf; have h2 := HG2.out.len; exact h1.symm.trans h2
    obtain ⟨E1, hE1⟩ : ∃ C, W3.heap.size = C := ⟨_, rfl⟩
    obtain ⟨W4, hW4⟩ : ∃ W', W3.alloc (.cells #[.slice A1 n1 k1, .slice B1 m1 j1] 26) = W' := ⟨_, rfl⟩
    have hr4 : W4.heap[E1]? = some (.cells #[.slice A1 n1 k1, .slice B1 m1 j1] 26 (0, 0)) := by rw [← hW4, ← hE1]; exact heap_alloc_new W3 _
    have hb34 : Below W3.heap.size W3 W4 := by rw [← hW4]; exact (Below.refl _ _).alloc (Nat.le_refl _) _
    have HB24 := hide (show Below W2.heap.size W2 W4 from HB23.out.trans (hb34.mono HB23.out.size))
    have HV4 := hide (show VarsQ W4 from HV2.out.below HB24.out HV2.out.p.v.sz)
    have HS4 := hide (show Sl W4 (fun _ => True) A1 n1 k1 x.tiles from (HO1.out.ot.tiles.sl (S' := fun _ => True) fun _ _ _ => trivial).belowAll hb34)
    have HG4 := hide (show Sl W4 (fun _ => True) B1 m1 j1 x.facts from (HO1.out.of.rows.sl (S' := fun _ => True) fun _ _ _ => trivial).belowAll hb34)
    have HR4 := hide hr4; have HL4 := hide (Array.getElem?_eq_some_iff.1 hr4).1
    have HW4 := hide hW4; have HE1 := hide hE1
    clear hr4 hb34 hW4 hE1 HP1 HO1 HB23
    refine hide ?_
    go_upto_region 10 with fail
    rw [HW4.out]
    try rw [HE1.out]
    obtain ⟨r1, hr1⟩ : ∃ t, mkB (Lib.replaceAll tx.data.toList [32] [32, 9, 32]) = t := ⟨_, rfl⟩
    have hz1 : r1.size ≤ 786432 := by
      rw [← hr1, mkB_size, replace_one _ _ _ (by decide)]
      have := flat_len 32 [32, 9, 32] (by decide) tx.data.toList
      rw [← size_list] at this
      simp only [List.length_cons, List.length_nil] at this
      omega
    have HRA := hide (show Calls Tryz.prog 22 #[.string tx, .string ⟨#[32]⟩, .string ⟨#[32, 9, 32]⟩] W4 (fun e w' => e = .returned (.string r1) ∧ Below W4.heap.size W4 w') from hr1 ▸ replace_any tx 32 [32, 9, 32] (by decide) (by decide) (by decide) W4 (by omega) HV4.out)
    obtain ⟨r2, hr2⟩ : ∃ t, mkB (wqB tx.data.toList) = t := ⟨_, rfl⟩
    have hz2 : r2.size ≤ 210000 := by rw [← hr2, mkB_size]; exact hwz
    have hrr : mkB (Lib.replaceAll r1.data.toList [10] [32, 59, 32, 101, 110, 100, 10, 10]) = r2 := by rw [← hr2, ← hr1]; exact replace_wq tx
    have HRB := hide (fun (W : World) (hW : VarsQ W) => show Calls Tryz.prog 22 #[.string r1, .string ⟨#[10]⟩, .string ⟨#[32, 59, 32, 101, 110, 100, 10, 10]⟩] W (fun e w' => e = .returned (.string r2) ∧ Below W.heap.size W w') from hrr ▸ replace_any r1 10 [32, 59, 32, 101, 110, 100, 10, 10] (by decide) (by decide) (by decide) W (by omega) hW)
    have hct : (⟨#[59, 32, 97, 108, 108, 10, 10, 32]⟩ : ByteArray) ++ r2 = wqT tx := by rw [← hr2]; exact wq_text tx
    obtain ⟨tw, htw⟩ : ∃ t, wqT tx = t := ⟨_, rfl⟩
    rw [htw] at hct hpw
    have HPW := hide (fun (W : World) (hW : VarsP W) => show Calls Tryz.prog 8 #[.string tw] W (CertP (x, 0, 0, 0) W) from hpw ▸ parse28_any tw W hW)
    have hcz : (⟨#[59, 32, 97, 108, 108, 10, 10, 32]⟩ : ByteArray).size + r2.size ≤ 9223372036854775807 := by show 8 + r2.size ≤ _; omega
    clear hr1 hr2 hrr htw hpw hwz hz1
    go_wp2_with (first
      | (go_at_call 22; (with_reducible refine HRA.out.mono ?_); rintro e W5 ⟨rfl, hb⟩; have HB45 := hide hb; have HV5 := hide (show VarsQ W5 from HV4.out.below hb HV4.out.p.v.sz); clear hb)
      | (go_at_call 22; (with_reducible refine (HRB.out W5 HV5.out).mono ?_); rintro e W6 ⟨rfl, hb⟩; have HB56 := hide hb; have HV6 := hide (show VarsQ W6 from HV5.out.below hb HV5.out.p.v.sz); clear hb)
      | (simp (disch := (first | omega | assumption)) only [run_string_add_sum])
      | (go_at_call 8; (with_reducible refine (HPW.out W6 HV6.out.p).mono ?_); rintro e W7 ⟨A2, n2, k2, B2, m2, j2, D2, St2, Sf2, rfl, ho, hb⟩; dsimp only; have HO2 := hide ho; have HB67 := hide hb; clear ho hb; refine Hd.out ?_))
    obtain rfl : n2 = n1 := by have h1 := HO2.out.nt; have h2 := HS2.out.len; show n2 = n1; exact h1.symm.trans h2
    obtain rfl : m2 = m1 := by have h1 := HO2.out.nf; have h2 := HG2.out.len; exact h1.symm.trans h2
    obtain ⟨E3, hE3⟩ : ∃ C, W7.heap.size = C := ⟨_, rfl⟩
    obtain ⟨W8, hW8⟩ : ∃ W', W7.alloc (.cells #[.slice A2 n2 k2, .slice B2 m2 j2] 26) = W' := ⟨_, rfl⟩
    have hr8 : W8.heap[E3]? = some (.cells #[.slice A2 n2 k2, .slice B2 m2 j2] 26 (0, 0)) := by rw [← hW8, ← hE3]; exact heap_alloc_new W7 _
    have hb78 : Below W7.heap.size W7 W8 := by rw [← hW8]; exact (Below.refl _ _).alloc (Nat.le_refl _) _
    have hb46 : Below W4.heap.size W4 W6 := HB45.out.trans (HB56.out.mono HB45.out.size)
    have hb47 : Below W4.heap.size W4 W7 := hb46.trans (HB67.out.mono hb46.size)
    have hb48 : Below W4.heap.size W4 W8 := hb47.trans (hb78.mono hb47.size)
    have hb28 : Below W2.heap.size W2 W8 := HB24.out.trans (hb48.mono HB24.out.size)
    have HB8 := hide (show Below w.heap.size w W8 from HB2.out.trans (hb28.mono HB2.out.size))
    have HV8 := hide (show VarsP W8 from HV2.out.p.below hb28 HV2.out.p.v.sz)
    have hr84 : W8.heap[E1]? = some (.cells #[.slice A1 n2 k1, .slice B1 m2 j1] 26 (0, 0)) := (hb48.block E1 HL4.out).trans HR4.out
    have hr82 : W8.heap[C]? = some (.cells #[.slice A n2 k, .slice B m2 j] 26 (0, 0)) := (hb28.block C HL2.out).trans HR2.out
    have HSA := hide (sameCert28_any W8 _ _ _ _ A A1 B B1 n2 k k1 m2 j j1 x (HS2.out.belowAll hb28) (HS4.out.belowAll hb48) (HG2.out.belowAll hb28) (HG4.out.belowAll hb48))
    have HSB := hide (fun u : Ext => sameCert28_any (W8.ext u) _ _ _ _ A A2 B B2 n2 k k2 m2 j j2 x ((HS2.out.belowAll hb28).ext u) (((HO2.out.ot.tiles.sl (S' := fun _ => True) fun _ _ _ => trivial).belowAll hb78).ext u) ((HG2.out.belowAll hb28).ext u) (((HO2.out.of.rows.sl (S' := fun _ => True) fun _ _ _ => trivial).belowAll hb78).ext u))
    have HW8 := hide hW8; have HE3 := hide hE3
    have c0 : W8.cell? ⟨C, 0, none⟩ = some (.slice A n2 k) := cell_of_row W8 C _ _ _ (0, 0) hr82
    have c1 : W8.cell? ⟨C, 1, none⟩ = some (.slice B m2 j) := cell_of_row W8 C _ _ _ (0, 0) hr82
    have cl : C < W8.heap.size := (Array.getElem?_eq_some_iff.1 hr82).1
    have p0 : W8.cell? ⟨E1, 0, none⟩ = some (.slice A1 n2 k1) := cell_of_row W8 E1 _ _ _ (0, 0) hr84
    have p1 : W8.cell? ⟨E1, 1, none⟩ = some (.slice B1 m2 j1) := cell_of_row W8 E1 _ _ _ (0, 0) hr84
    have pl : E1 < W8.heap.size := (Array.getElem?_eq_some_iff.1 hr84).1
    have q0 : W8.cell? ⟨E3, 0, none⟩ = some (.slice A2 n2 k2) := cell_of_row W8 E3 _ _ _ (0, 0) hr8
    have q1 : W8.cell? ⟨E3, 1, none⟩ = some (.slice B2 m2 j2) := cell_of_row W8 E3 _ _ _ (0, 0) hr8
    have ql : E3 < W8.heap.size := (Array.getElem?_eq_some_iff.1 hr8).1
    clear hr8 hr84 hr82 hb78 hb46 hb47 hb48 hb28 hW8 hE3 HRA HRB HPW HO2 HB45 HV5 HB56 HV6 HB67 HB24 HV4 HS4 HG4 HR4 HL4 HS2 HG2 HR2 HL2 HB2 HV2 hct hcz hz2 htz
    refine hide ?_
    go_upto_region 11 with fail
    rw [HW8.out]
    try rw [HE3.out]
    go_upto_region 13 with (first
      | (go_at_call 10; (with_reducible refine HSA.out.mono ?_); rintro e _ ⟨rfl, u5, rfl⟩)
      | (go_at_call 10; (with_reducible refine (HSB.out _).mono ?_); rintro e _ ⟨rfl, u6, rfl⟩))
    obtain ⟨W9, hW9⟩ : ∃ W, (W8.ext u5).ext u6 = W := ⟨_, rfl⟩
    have hb89 : Below W8.heap.size W8 W9 := by rw [← hW9]; exact (Below.of_ext W8 u5 (Nat.le_refl _)).ext (by rw [size_ext]; omega) u6
    rw [hW9]
    have HB9 := hide (HB8.out.trans (hb89.mono HB8.out.size))
    have HV9 := hide (show VarsP W9 from HV8.out.below hb89 HV8.out.v.sz)
    clear hb89 hW9 c0 c1 cl p0 p1 pl q0 q1 ql HB8 HV8 HSA HSB HW8 HE3 HW4 HE1
    have HP3 := hide (parse28_any s W9 HV9.out)
    obtain ⟨⟨d, el, ec, ee⟩, hr⟩ : ∃ r, parse28 s = r := ⟨_, rfl⟩
    rw [hr] at HP3
    have HR := hide hr
    clear hr
    go_wp2_with (go_at_call 8; (with_reducible refine HP3.out.mono ?_); rintro e W10 ⟨A3, n3, k3, B3, m3, j3, D3, St3, Sf3, rfl, ho, hb⟩; dsimp only; have HO3 := hide ho; have HB10 := hide hb; clear ho hb; refine Hd.out ?_)
    obtain ⟨E, hE⟩ : ∃ C, W10.heap.size = C := ⟨_, rfl⟩
    obtain ⟨W11, hW11⟩ : ∃ W', W10.alloc (.cells #[.slice A3 n3 k3, .slice B3 m3 j3] 26) = W' := ⟨_, rfl⟩
    have hr11 : W11.heap[E]? = some (.cells #[.slice A3 n3 k3, .slice B3 m3 j3] 26 (0, 0)) := by rw [← hW11, ← hE]; exact heap_alloc_new W10 _
    have HB101 := hide (show Below W10.heap.size W10 W11 from by rw [← hW11]; exact (Below.refl _ _).alloc (Nat.le_refl _) _)
    have HB911 := hide (show Below W9.heap.size W9 W11 from HB10.out.trans (HB101.out.mono HB10.out.size))
    have HB11 := hide (show Below w.heap.size w W11 from HB9.out.trans (HB911.out.mono HB9.out.size))
    have HV11 := hide (show VarsP W11 from HV9.out.below HB911.out HV9.out.v.sz)
    have HS11 := hide (show Sl W11 (fun _ => True) A3 n3 k3 d.tiles from (HO3.out.ot.tiles.sl (S' := fun _ => True) fun _ _ _ => trivial).belowAll HB101.out)
    have HG11 := hide (show Sl W11 (fun _ => True) B3 m3 j3 d.facts from (HO3.out.of.rows.sl (S' := fun _ => True) fun _ _ _ => trivial).belowAll HB101.out)
    have hn3 : d.tiles.length = n3 := HO3.out.nt
    have hm3 : d.facts.length = m3 := HO3.out.nf
    have d0 : W11.cell? ⟨E, 0, none⟩ = some (.slice A3 n3 k3) := cell_of_row W11 E _ _ _ (0, 0) hr11
    have d1 : W11.cell? ⟨E, 1, none⟩ = some (.slice B3 m3 j3) := cell_of_row W11 E _ _ _ (0, 0) hr11
    have dl : E < W11.heap.size := (Array.getElem?_eq_some_iff.1 hr11).1
    have HR11 := hide hr11
    have HW11 := hide hW11; have HE := hide hE
    clear hr11 hW11 hE HP3 HB10 HB101 HB911 HO3 HB9 HV9
    by_cases he : ee = 0
    · subst he
      obtain ⟨rfl, rfl, hrd⟩ := parse_right28 hs6 HR.out
      obtain ⟨ut, hut⟩ : ∃ t, showB d = t := ⟨_, rfl⟩
      have hpd : printB28 d = (ut, 0) := by unfold printB28; rw [if_pos hrd, hut]
      have hpu : parse28 ut = (d, 0, 0, 0) := hut ▸ parse_show28 hrd
      have HPD := hide (print28_any W11 _ _ A3 B3 n3 k3 m3 j3 d HS11.out HG11.out HV11.out)
      rw [hpd] at HPD
      dsimp only at HPD
      have HPU := hide (fun (W : World) (h : VarsP W) => show Calls Tryz.prog 8 #[.string ut] W (CertP (d, 0, 0, 0) W) from hpu ▸ parse28_any ut W h)
      clear hpd hpu hut hrd hn3 hm3
      refine hide ?_
      go_upto_region 14 with fail
      rw [HW11.out]
      try rw [HE.out]
      go_wp2_with (first | (go_at_call 15; (with_reducible refine HPD.out.mono ?_); rintro e _ ⟨rfl, u9, rfl⟩) | (go_at_call 8; (with_reducible refine (HPU.out _ (HV11.out.ext u9)).mono ?_); rintro e W12 ⟨A4, n4, k4, B4, m4, j4, D4, St4, Sf4, rfl, ho, hb⟩; dsimp only; have HO4 := hide ho; have HB12 := hide hb; clear ho hb; refine Hd.out ?_))
      have hb112 : Below W11.heap.size W11 W12 := (Below.of_ext W11 u9 (Nat.le_refl _)).trans (HB12.out.mono (by rw [size_ext]; omega))
      obtain rfl : n4 = n3 := by have h1 := HO4.out.nt; have h2 := HS11.out.len; show n4 = n3; exact h1.symm.trans h2
      obtain rfl : m4 = m3 := by have h1 := HO4.out.nf; have h2 := HG11.out.len; exact h1.symm.trans h2
      obtain ⟨E2, hE2⟩ : ∃ C, W12.heap.size = C := ⟨_, rfl⟩
      obtain ⟨W13, hW13⟩ : ∃ W', W12.alloc (.cells #[.slice A4 n4 k4, .slice B4 m4 j4] 26) = W' := ⟨_, rfl⟩
      have hr13 : W13.heap[E2]? = some (.cells #[.slice A4 n4 k4, .slice B4 m4 j4] 26 (0, 0)) := by rw [← hW13, ← hE2]; exact heap_alloc_new W12 _
      have hb123 : Below W12.heap.size W12 W13 := by rw [← hW13]; exact (Below.refl _ _).alloc (Nat.le_refl _) _
      have hb113 : Below W11.heap.size W11 W13 := hb112.trans (hb123.mono hb112.size)
      have hr113 : W13.heap[E]? = some (.cells #[.slice A3 n4 k3, .slice B3 m4 j3] 26 (0, 0)) := (hb113.block E dl).trans HR11.out
      have HSC := hide (sameCert28_any W13 _ _ _ _ A3 A4 B3 B4 n4 k3 k4 m4 j3 j4 d (HS11.out.belowAll hb113) ((HO4.out.ot.tiles.sl (S' := fun _ => True) fun _ _ _ => trivial).belowAll hb123) (HG11.out.belowAll hb113) ((HO4.out.of.rows.sl (S' := fun _ => True) fun _ _ _ => trivial).belowAll hb123))
      have HB13 := hide (show Below w.heap.size w W13 from HB11.out.trans (hb113.mono HB11.out.size))
      have HW13 := hide hW13; have HE2 := hide hE2
      have e0 : W13.cell? ⟨E, 0, none⟩ = some (.slice A3 n4 k3) := cell_of_row W13 E _ _ _ (0, 0) hr113
      have e1 : W13.cell? ⟨E, 1, none⟩ = some (.slice B3 m4 j3) := cell_of_row W13 E _ _ _ (0, 0) hr113
      have el1 : E < W13.heap.size := (Array.getElem?_eq_some_iff.1 hr113).1
      have f0 : W13.cell? ⟨E2, 0, none⟩ = some (.slice A4 n4 k4) := cell_of_row W13 E2 _ _ _ (0, 0) hr13
      have f1 : W13.cell? ⟨E2, 1, none⟩ = some (.slice B4 m4 j4) := cell_of_row W13 E2 _ _ _ (0, 0) hr13
      have fl1 : E2 < W13.heap.size := (Array.getElem?_eq_some_iff.1 hr13).1
      clear hr13 hr113 hb112 hb123 hb113 hW13 hE2 d0 d1 dl HPD HPU HO4
      refine hide ?_
      go_upto_region 18 with fail
      rw [HW13.out]
      try rw [HE2.out]
      go_wp2_with (go_at_call 10; (with_reducible refine HSC.out.mono ?_); rintro e _ ⟨rfl, u10, rfl⟩)
      go_ret
      exact RetX.b rfl (HB13.out.ext HB13.out.size _)
    · obtain ⟨rfl, hel, hec⟩ := parse_bad28 HR.out he
      obtain rfl : n3 = 0 := hn3.symm
      obtain rfl : m3 = 0 := hm3.symm
      have he1 : (ee != 0) = true := by simpa using he
      have hl1 : decide (0 ≤ el) = true := by simpa using hel
      have hl2 : decide (0 ≤ ec) = true := by simpa using hec
      refine hide ?_
      go_upto_region 14 with fail
      rw [HW11.out]
      try rw [HE.out]
      go_wp2_with fail
      go_ret
      exact RetX.b rfl HB11.out
end Go.Proofs.YtppkanniefignaaGreatDoor
