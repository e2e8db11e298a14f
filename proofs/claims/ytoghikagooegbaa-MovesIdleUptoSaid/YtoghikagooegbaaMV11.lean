/- Walks: law 26: MovesIdle. -/
import Derived.Test.YtoghikagooegbaaMV10
import Derived.RegionTactic
import Derived.ChangeAlike
set_option linter.unusedSimpArgs false
set_option linter.unusedVariables false
namespace Go.Proofs.Ytoghikagooegbaa
open Go.RowKit Go.Maps

theorem rowIns_of {xs : List Move} {t : Int} (h : rightM' xs (spL t) = true) : rowIns xs t = (rowOf (spL t) (busyM xs)).map insM := by unfold rowIns; rw [if_pos h]
theorem rowErr_of {xs : List Move} {t : Int} (h : rightM' xs (spL t) = true) : rowErr xs t = 0 := by unfold rowErr; rw [if_pos h]
theorem below_drew (B : Nat) (W : World) (hB : B ≤ W.heap.size) : Below B W W.drew := by
  obtain ⟨u, hu⟩ := ext_drew W
  rw [hu]
  exact ⟨rfl, rfl, rfl, by rw [size_ext]; omega, fun k hk => ext_block W u k (by omega)⟩
theorem two_boxes (W : World) (X Y : Array Value) (T : TypeId) : (((W.alloc (.cells X T)).alloc (.cells Y T)).drew).heap[W.heap.size]? = some (.cells X T (0, 0)) ∧ (((W.alloc (.cells X T)).alloc (.cells Y T)).drew).heap[W.heap.size + 1]? = some (.cells Y T (0, 0)) ∧ Below W.heap.size W ((W.alloc (.cells X T)).alloc (.cells Y T)).drew := by
  refine ⟨?_, ?_, ?_⟩
  · show ((W.alloc (.cells X T)).alloc (.cells Y T)).heap[W.heap.size]? = _
    rw [Below.heap_alloc _ _ _ (by simp)]
    exact heap_alloc_new W _
  · show ((W.alloc (.cells X T)).alloc (.cells Y T)).heap[W.heap.size + 1]? = _
    have h := heap_alloc_new (W.alloc (.cells X T)) (.cells Y T)
    rw [World.size_alloc] at h
    exact h
  · have h := ((Below.refl W.heap.size W).alloc (Nat.le_refl _) (.cells X T)).alloc (by simp) (.cells Y T)
    exact h.trans (below_drew _ _ (by simp; omega))
set_option maxRecDepth 100000 in
set_option maxHeartbeats 16000000 in
theorem movesIdle_any (w : World) (S : Nat → Prop) (A : Option Addr) (n c : Nat) (xs : List Move) (h : Sl w S A n c xs) (t o : Int) (ht : InI t) (ho : InI o) :
    Calls Try.prog 6 #[.slice A n c, .int .i64 t, .int .i64 o] w (RetX (.bool true) w) := by
  have HAW := hide (awake26_any w)
  by_cases h60 : 60 < n
  · clear h
    have hn60 : (60 : Int) < n := by omega
    go_enter Try.func6, Try.ntmps6
    go_wp2_with (go_at_call 7; (with_reducible refine HAW.out.mono ?_); rintro e _ ⟨rfl, u1, rfl⟩)
    go_ret
    exact RetX.b rfl (Below.of_ext w u1 (Nat.le_refl _))
  have hm : n ≤ 1048576 := by omega
  have hn60 : decide ((60 : Int) < n) = false := by simp; omega
  obtain ⟨r1, hr1⟩ : ∃ r, rightM' xs (spL t) = r := ⟨_, rfl⟩
  obtain ⟨r2, hr2⟩ : ∃ r, rightM' xs (spL o) = r := ⟨_, rfl⟩
  have HR1 := hide (fun u : Ext => show Calls Try.prog 12 #[.slice A n c, .int .i64 t] (w.ext u) (RetX (.bool r1) (w.ext u)) from hr1 ▸ mright_any _ S A n c xs (h.ext u) hm t ht)
  have HR2 := hide (fun u u' : Ext => show Calls Try.prog 12 #[.slice A n c, .int .i64 o] ((w.ext u).ext u') (RetX (.bool r2) ((w.ext u).ext u')) from hr2 ▸ mright_any _ S A n c xs ((h.ext u).ext u') hm o ho)
  cases r1 with
  | false =>
    go_enter Try.func6, Try.ntmps6
    go_wp2_with (first
      | (go_at_call 7; (with_reducible refine HAW.out.mono ?_); rintro e _ ⟨rfl, u1, rfl⟩)
      | (go_at_call 12; (with_reducible refine (HR1.out _).mono ?_); rintro e _ ⟨rfl, u2, rfl⟩))
    go_ret
    exact RetX.b rfl ((Below.of_ext w u1 (Nat.le_refl _)).ext (by rw [size_ext]; omega) u2)
  | true =>
  cases r2 with
  | false =>
    go_enter Try.func6, Try.ntmps6
    go_wp2_with (first
      | (go_at_call 7; (with_reducible refine HAW.out.mono ?_); rintro e _ ⟨rfl, u1, rfl⟩)
      | (go_at_call 12; (with_reducible refine (HR1.out _).mono ?_); rintro e _ ⟨rfl, u2, rfl⟩)
      | (go_at_call 12; (with_reducible refine (HR2.out _ _).mono ?_); rintro e _ ⟨rfl, u3, rfl⟩))
    go_ret
    exact RetX.b rfl ((Below.of_ext w u1 (Nat.le_refl _)).ext (by rw [size_ext]; omega) u2 |>.ext (by simp only [size_ext]; omega) u3)
  | true =>
  have S1 := rightM_iff.1 hr1
  have S2 := rightM_iff.1 hr2
  have ht0 : 0 ≤ t ∧ t < 400 := by have := S1.spare; unfold okL spL at this; simp at this; omega
  have hbr : rightM' (busyM xs) (spL t) = true := rightM_iff.2 (sound_busy S1)
  obtain ⟨rs, hrs⟩ : ∃ rs, rowOf (spL t) (busyM xs) = rs := ⟨_, rfl⟩
  have hro : rowOf (spL o) (busyM xs) = rs.map (subM (spL t) (spL o)) := by
    rw [← hrs]; exact row_other (fun m hm => S1.free m (mem_busy.1 hm).1) fun m hm => (S2.free m (mem_busy.1 hm).1).2
  have HOK := hide (show ∀ m ∈ rs, m.dst.slot = true → m.src.slot = false by
    rw [← hrs]; exact fun m hm => (row_ok _ (StatM.of S1 rfl) m hm).2)
  have HRG := hide (show ringsM xs = ringsN (spL t) rs by
    obtain ⟨k, rfl⟩ : ∃ k : Nat, t = (k : Int) := ⟨t.toNat, by omega⟩
    rw [ringsM_right S1, hrs])
  have E1 : rowIns xs t = rs.map insM := by rw [rowIns_of hr1, hrs]
  have E2 : rowIns (busyM xs) t = rs.map insM := by rw [rowIns_of hbr, busy_busy, hrs]
  have E3 : rowIns xs o = (rs.map (subM (spL t) (spL o))).map insM := by rw [rowIns_of hr2, hro]
  have HROW1 := hide (fun (W : World) (hb : Below w.heap.size w W) => show Calls Try.prog 8 #[.slice A n c, .int .i64 t] W (RetRow26 (rs.map insM) 0 W) from E1 ▸ rowErr_of hr1 ▸ rowIns_any W _ A n c xs (h.belowAll hb) hm t ht)
  have HROW3 := hide (fun (W : World) (hb : Below w.heap.size w W) => show Calls Try.prog 8 #[.slice A n c, .int .i64 o] W (RetRow26 ((rs.map (subM (spL t) (spL o))).map insM) 0 W) from E3 ▸ rowErr_of hr2 ▸ rowIns_any W _ A n c xs (h.belowAll hb) hm o ho)
  have HROW2 := hide (fun (W : World) (S' : Nat → Prop) (A' : Option Addr) (n' c' : Nat) (hs : Sl W S' A' n' c' (busyM xs)) (hn' : n' ≤ 1048576) => show Calls Try.prog 8 #[.slice A' n' c', .int .i64 t] W (RetRow26 (rs.map insM) 0 W) from E2 ▸ rowErr_of hbr ▸ rowIns_any W _ A' n' c' (busyM xs) hs hn' t ht)
  have HBU := hide (fun (W : World) (hb : Below w.heap.size w W) => busy_any W _ A n c xs (h.belowAll hb) hm)
  have HRI := hide (fun (W : World) (hb : Below w.heap.size w W) => rings_any W _ A n c xs (h.belowAll hb) hm)
  have hbl := busy_le xs
  rw [h.len] at hbl
  have hrsl : rs.length ≤ 2 * n + 1 := by have := rowOf_le (spL t) (busyM xs); rw [hrs] at this; omega
  clear hbr hro hrs E1 E2 E3 S1 S2 hr1 hr2 h
  go_enter Try.func6, Try.ntmps6
  go_wp2_with (first
    | (go_at_call 7; (with_reducible refine HAW.out.mono ?_); rintro e _ ⟨rfl, u1, rfl⟩)
    | (go_at_call 12; (with_reducible refine (HR1.out _).mono ?_); rintro e _ ⟨rfl, u2, rfl⟩)
    | (go_at_call 12; (with_reducible refine (HR2.out _ _).mono ?_); rintro e _ ⟨rfl, u3, rfl⟩; refine Hd.out ?_))
  obtain ⟨W3, hW3⟩ : ∃ W, ((w.ext u1).ext u2).ext u3 = W := ⟨_, rfl⟩
  have HB3 := hide (show Below w.heap.size w W3 by rw [← hW3]; exact (Below.of_ext w u1 (Nat.le_refl _)).ext (by rw [size_ext]; omega) u2 |>.ext (by simp only [size_ext]; omega) u3)
  rw [hW3]
  clear hW3 HAW HR1 HR2
  refine hide ?_
  obtain ⟨nr, hnr⟩ : ∃ nr, rs.length = nr := ⟨_, rfl⟩
  have HNR := hide hnr
  have own_n : ∀ {W : World} {b : Nat} {A : Option Addr} {n' c' : Nat} {l : List Ins}, OwnL W b 54 (fun _ => False) (.slice A n' c') l → l.length = nr → n' = nr := fun ho hl => by
    obtain ⟨_, _, e⟩ := ho.form; injection e with _ e; omega
  have l1 : (rs.map insM).length = nr := by rw [List.length_map, hnr]
  have l3 : ((rs.map (subM (spL t) (spL o))).map insM).length = nr := by rw [List.length_map, List.length_map, hnr]
  go_wp2_with (first
    | (go_at_call 8; (with_reducible refine (HROW1.out _ HB3.out).mono ?_); rintro e _ ⟨A4, n4, c4, rfl, ho4, u4, rfl⟩; have HO4 := hide ho4; clear ho4; refine Hd.out ?_))
  obtain rfl := own_n HO4.out l1
  obtain ⟨W4, hW4⟩ : ∃ W, W3.ext u4 = W := ⟨_, rfl⟩
  have HB4 := hide (show Below w.heap.size w W4 by rw [← hW4]; exact HB3.out.ext HB3.out.size u4)
  rw [hW4] at HO4 ⊢
  have HS4 := hide (show Sl W4 (fun _ => True) A4 n4 c4 (rs.map insM) from HO4.out.sl fun _ _ _ => trivial)
  clear hW4 HB3 HO4
  refine hide ?_
  go_wp2_with (first
    | (go_at_call 11; (with_reducible refine (HBU.out _ HB4.out).mono ?_); rintro e _ ⟨A5, n5, c5, S5, rfl, ho5, hS5, u5, rfl⟩; have HO5 := hide ho5; clear ho5 hS5; refine Hd.out ?_))
  obtain ⟨W5, hW5⟩ : ∃ W, W4.ext u5 = W := ⟨_, rfl⟩
  have HB5 := hide (show Below w.heap.size w W5 by rw [← hW5]; exact HB4.out.ext HB4.out.size u5)
  have HS5 := hide (show Sl W5 (fun _ => True) A4 n4 c4 (rs.map insM) by rw [← hW5]; exact HS4.out.ext u5)
  rw [hW5] at HO5 ⊢
  have hn5 : n5 ≤ 1048576 := by obtain ⟨_, _, e⟩ := HO5.out.form; injection e with _ e; omega
  have HROW2' := hide (HROW2.out W5 (fun _ => True) A5 n5 c5 (HO5.out.sl fun _ _ _ => trivial) hn5)
  clear hW5 HB4 HS4 HO5 HROW2
  refine hide ?_
  go_wp2_with (first
    | (go_at_call 8; (with_reducible refine HROW2'.out.mono ?_); rintro e _ ⟨A6, n6, c6, rfl, ho6, u6, rfl⟩; have HO6 := hide ho6; clear ho6; refine Hd.out ?_))
  obtain rfl := own_n HO6.out l1
  obtain ⟨W6, hW6⟩ : ∃ W, W5.ext u6 = W := ⟨_, rfl⟩
  have HB6 := hide (show Below w.heap.size w W6 by rw [← hW6]; exact HB5.out.ext HB5.out.size u6)
  rw [hW6] at HO6 ⊢
  have HSA6 := hide (show Sl W6 (fun _ => True) A4 n6 c4 (rs.map insM) by rw [← hW6]; exact HS5.out.ext u6)
  have HSB6 := hide (show Sl W6 (fun _ => True) A6 n6 c6 (rs.map insM) from HO6.out.sl fun _ _ _ => trivial)
  clear hW6 HB5 HS5 HO6 HROW2'
  refine hide ?_
  go_wp2_with (first
    | (go_at_call 8; (with_reducible refine (HROW3.out _ HB6.out).mono ?_); rintro e _ ⟨A7, n7, c7, rfl, ho7, u7, rfl⟩; have HO7 := hide ho7; clear ho7; refine Hd.out ?_))
  obtain rfl := own_n HO7.out l3
  obtain ⟨W7, hW7⟩ : ∃ W, W6.ext u7 = W := ⟨_, rfl⟩
  have HB7 := hide (show Below w.heap.size w W7 by rw [← hW7]; exact HB6.out.ext HB6.out.size u7)
  rw [hW7] at HO7 ⊢
  have HSA7 := hide (show Sl W7 (fun _ => True) A4 n7 c4 (rs.map insM) by rw [← hW7]; exact HSA6.out.ext u7)
  have HSB7 := hide (show Sl W7 (fun _ => True) A6 n7 c6 (rs.map insM) by rw [← hW7]; exact HSB6.out.ext u7)
  have HSC7 := hide (show Sl W7 (fun _ => True) A7 n7 c7 ((rs.map (subM (spL t) (spL o))).map insM) from HO7.out.sl fun _ _ _ => trivial)
  clear hW7 HB6 HSA6 HSB6 HO7
  have HSM := hide (sameRow_any W7 _ _ A4 A6 n7 c4 c6 _ HSA7.out HSB7.out)
  refine hide ?_
  go_wp2_with (first
    | (go_at_call 14; (with_reducible refine HSM.out.mono ?_); rintro e _ ⟨rfl, u8, rfl⟩; refine Hd.out ?_))
  obtain ⟨W8, hW8⟩ : ∃ W, W7.ext u8 = W := ⟨_, rfl⟩
  have HB8 := hide (show Below w.heap.size w W8 by rw [← hW8]; exact HB7.out.ext HB7.out.size u8)
  have HSA := hide (show Sl W8 (fun _ => True) A4 n7 c4 (rs.map insM) by rw [← hW8]; exact HSA7.out.ext u8)
  have HSC := hide (show Sl W8 (fun _ => True) A7 n7 c7 ((rs.map (subM (spL t) (spL o))).map insM) by rw [← hW8]; exact HSC7.out.ext u8)
  rw [hW8]
  clear hW8 HB7 HSA7 HSB7 HSC7 HSM own_n l1 l3 HROW1 HROW3 HBU
  have hw8 := HB8.out.size
  refine hide ?_
  go_wp2_with fail
  go_loopw [13, 14] (fun p i wr => ∃ k : Nat, k ≤ n7 ∧ i = .int .i64 k ∧ p = .int .i64 (ringsN (spL t) (rs.take k) : Nat) ∧ ∃ u : Ext, wr = W8.ext u) (fun _ i _ => n7 - (intOf i).toNat)
  case atStart => exact ⟨0, Nat.zero_le _, rfl, rfl, ext_refl _⟩
  case round =>
    obtain ⟨k, hk, rfl, rfl, u, rfl⟩ := hrel
    obtain ⟨W, hW⟩ : ∃ W, W8.ext u = W := ⟨_, rfl⟩
    have HBW := hide (show Below W8.heap.size W8 W by rw [← hW]; exact Below.of_ext W8 u (Nat.le_refl _))
    rw [hW]
    clear hW
    have hwq := HBW.out.size
    by_cases hlt : k < n7
    · obtain ⟨bx, ox, x, Ax, nx, cx, rfl, hbx, hx, -, -, -, -, -, -, hsx, -, c0, c1, c2, c3, c4, c5, c6, c7⟩ := at_Ins (HSA.out.belowAll HBW.out) hlt
      obtain ⟨by_, oy, y, Ay, ny, cy, rfl, hby, hy, -, -, -, -, -, -, hsy, -, d0, d1, d2, d3, d4, d5, d6, d7⟩ := at_Ins (HSC.out.belowAll HBW.out) hlt
      obtain ⟨m, hm⟩ : ∃ m, rs[k]? = some m := ⟨_, List.getElem?_eq_getElem (by rw [HNR.out]; exact hlt)⟩
      have hxm : insM m = x := by rw [List.getElem?_map, hm] at hx; simpa using hx
      have hym : insM (subM (spL t) (spL o) m) = y := by rw [List.getElem?_map, List.getElem?_map, hm] at hy; simpa using hy
      have hfx : fixI t o x = y := by rw [← hxm, ← hym]; exact fix_ins (HOK.out m (List.mem_of_getElem? hm))
      have hpt : (x.op = 16 ∧ x.imm = t) ↔ m.dst = spL t := by rw [← hxm]; exact put_ins
      have HRT := hide (ringsN_take (s := spL t) hm)
      have hrn : ringsN (spL t) (rs.take k) ≤ k := Nat.le_trans List.countP_le_length (by rw [List.length_take]; omega)
      obtain ⟨rv, hrv⟩ : ∃ rv, ringsN (spL t) (rs.take k) = rv := ⟨_, rfl⟩
      rw [hrv] at hrn HRT ⊢
      clear hx hy hm hxm hym hrv
      obtain ⟨op, ds, a, b, im, cl, ar, my⟩ := x
      obtain ⟨op', ds', a', b', im', cl', ar', my'⟩ := y
      simp only at c0 c1 c2 c3 c4 c5 c6 c7 d0 d1 d2 d3 d4 d5 d6 d7 hsx hsy hpt
      have hie : op' = op ∧ ds' = ds ∧ a' = a ∧ b' = b ∧ cl' = cl ∧ ar' = ar ∧ my' = my ∧ im' = if op ≠ 15 ∧ im = t then o else im := by
        unfold fixI at hfx
        split at hfx
        · rename_i hc; injection hfx with e1 e2 e3 e4 e5 e6 e7 e8; simp only at hc; rw [if_pos hc]; exact ⟨e1.symm, e2.symm, e3.symm, e4.symm, e6.symm, e7.symm, e8.symm, e5.symm⟩
        · rename_i hc; injection hfx with e1 e2 e3 e4 e5 e6 e7 e8; simp only at hc; rw [if_neg hc]; exact ⟨e1.symm, e2.symm, e3.symm, e4.symm, e6.symm, e7.symm, e8.symm, e5.symm⟩
      obtain ⟨rfl, rfl, rfl, rfl, rfl, rfl, rfl, him⟩ := hie
      clear hfx
      have HIM := hide him
      have HPT := hide hpt
      obtain rfl : nx = ny := hsx.len.symm.trans hsy.len
      have HSI := hide (fun (V : World) (hb : Below W.heap.size W V) => sameIns_any V _ _ Ax Ay nx cx cy ⟨op', ds', a', b', im', cl', ar', my'⟩ (hsx.belowAll hb) (hsy.belowAll hb))
      simp only at HSI
      have hki : (k : Int) < n7 := by omega
      have hwr : IntKind.i64.wrap ((rv : Int) + 1) = (rv : Int) + 1 := IntWalk.i64_in _ (by omega)
      clear him hpt hsx hsy
      go_wp2_with fail
      clear hwr
      go_region
      · obtain ⟨hz1, hz2, hz3⟩ := two_boxes W #[.int .i64 op', .int .i64 ds', .int .i64 a', .int .i64 b', .int .i64 im, .int .i64 cl', .slice Ax nx cx, .int .i64 my'] #[.int .i64 op', .int .i64 ds', .int .i64 a', .int .i64 b', .int .i64 im', .int .i64 cl', .slice Ay nx cy, .int .i64 my'] 54
        obtain ⟨Z, hZ⟩ : ∃ Z, ((W.alloc (.cells #[.int .i64 op', .int .i64 ds', .int .i64 a', .int .i64 b', .int .i64 im, .int .i64 cl', .slice Ax nx cx, .int .i64 my'] 54)).alloc (.cells #[.int .i64 op', .int .i64 ds', .int .i64 a', .int .i64 b', .int .i64 im', .int .i64 cl', .slice Ay nx cy, .int .i64 my'] 54)).drew = Z := ⟨_, rfl⟩
        rw [hZ] at hz1 hz2 hz3
        have HZX := hide hz1
        have HZY := hide hz2
        have HBZ := hide hz3
        obtain ⟨gx, hgx⟩ : ∃ g, W.heap.size = g := ⟨_, rfl⟩
        obtain ⟨gy, hgy⟩ : ∃ g, W.heap.size + 1 = g := ⟨_, rfl⟩
        have hgl : W.heap.size ≤ gx := by omega
        have hne : gx ≠ gy := by omega
        rw [hgx] at HZX
        rw [hgy] at HZY
        simp only [hZ]
        simp only [hgy]
        simp only [hgx]
        clear hZ hgx hgy hz1 hz2 hz3
        have x0 : Z.cell? ⟨gx, 0, none⟩ = some (.int .i64 op') := cell_of_row Z _ _ _ _ (0, 0) HZX.out
        have x1 : Z.cell? ⟨gx, 1, none⟩ = some (.int .i64 ds') := cell_of_row Z _ _ _ _ (0, 0) HZX.out
        have x2 : Z.cell? ⟨gx, 2, none⟩ = some (.int .i64 a') := cell_of_row Z _ _ _ _ (0, 0) HZX.out
        have x3 : Z.cell? ⟨gx, 3, none⟩ = some (.int .i64 b') := cell_of_row Z _ _ _ _ (0, 0) HZX.out
        have x4 : Z.cell? ⟨gx, 4, none⟩ = some (.int .i64 im) := cell_of_row Z _ _ _ _ (0, 0) HZX.out
        have x5 : Z.cell? ⟨gx, 5, none⟩ = some (.int .i64 cl') := cell_of_row Z _ _ _ _ (0, 0) HZX.out
        have x6 : Z.cell? ⟨gx, 6, none⟩ = some (.slice Ax nx cx) := cell_of_row Z _ _ _ _ (0, 0) HZX.out
        have x7 : Z.cell? ⟨gx, 7, none⟩ = some (.int .i64 my') := cell_of_row Z _ _ _ _ (0, 0) HZX.out
        have y0 : Z.cell? ⟨gy, 0, none⟩ = some (.int .i64 op') := cell_of_row Z _ _ _ _ (0, 0) HZY.out
        have y1 : Z.cell? ⟨gy, 1, none⟩ = some (.int .i64 ds') := cell_of_row Z _ _ _ _ (0, 0) HZY.out
        have y2 : Z.cell? ⟨gy, 2, none⟩ = some (.int .i64 a') := cell_of_row Z _ _ _ _ (0, 0) HZY.out
        have y3 : Z.cell? ⟨gy, 3, none⟩ = some (.int .i64 b') := cell_of_row Z _ _ _ _ (0, 0) HZY.out
        have y4 : Z.cell? ⟨gy, 4, none⟩ = some (.int .i64 im') := cell_of_row Z _ _ _ _ (0, 0) HZY.out
        have y5 : Z.cell? ⟨gy, 5, none⟩ = some (.int .i64 cl') := cell_of_row Z _ _ _ _ (0, 0) HZY.out
        have y6 : Z.cell? ⟨gy, 6, none⟩ = some (.slice Ay nx cy) := cell_of_row Z _ _ _ _ (0, 0) HZY.out
        have y7 : Z.cell? ⟨gy, 7, none⟩ = some (.int .i64 my') := cell_of_row Z _ _ _ _ (0, 0) HZY.out
        have fx : Z.frozen? ⟨gx, 4, none⟩ = false := by simp [World.frozen?, HZX.out]
        have hgxZ : gx < Z.heap.size := (Array.getElem?_eq_some_iff.1 HZX.out).1
        clear HZX HZY c1 c2 c3 c5 c6 c7 d0 d1 d2 d3 d4 d5 d6 d7
        by_cases e15 : op' = 15
        · subst e15
          have e := HIM.out
          rw [if_neg (by simp)] at e
          subst e
          have hno : m.dst ≠ spL t := fun e => by have := (HPT.out.2 e).1; omega
          rw [if_neg hno] at HRT
          clear HIM HPT hno
          go_wp2_with (go_at_call 26; (with_reducible refine (HSI.out _ HBZ.out).mono ?_); rintro e _ ⟨rfl, u9, rfl⟩; refine Hd.out ?_)
          obtain ⟨V, hV⟩ : ∃ V, Z.ext u9 = V := ⟨_, rfl⟩
          have HBV := hide (show Below W.heap.size W V by rw [← hV]; exact Below.ext HBZ.out HBZ.out.size u9)
          have g0 : V.cell? ⟨bx, ox + k * 8, none⟩ = some (.int .i64 15) := (HBV.out.cell hbx).trans c0
          have g4 : V.cell? ⟨bx, ox + k * 8 + 4, none⟩ = some (.int .i64 im') := (HBV.out.cell hbx).trans c4
          rw [hV]
          clear hV x0 x1 x2 x3 x4 x5 x6 x7 y0 y1 y2 y3 y4 y5 y6 y7 c0 c4 fx
          refine hide ?_
          go_wp2_with fail
          first
            | (go_roundw; case rel => exact ⟨k + 1, by omega, by go_num, by rw [HRT.out]; rfl, Below.to_ext (HBW.out.trans (HBV.out.mono hwq))⟩; case measure => simp [intOf]; omega)
            | exact ⟨⟨k + 1, by omega, by go_num, by rw [HRT.out]; rfl, Below.to_ext (HBW.out.trans (HBV.out.mono hwq))⟩, by simp [intOf]; omega⟩
        · have q1 : (op' == 15) = false := by simpa using e15
          have q2 : (op' != 15) = true := by simp [bne, q1]
          by_cases eim : im = t
          · have e := HIM.out
            rw [if_pos ⟨e15, eim⟩] at e
            subst e
            have eim' : t = im := eim.symm
            subst eim'
            by_cases e16 : op' = 16
            · subst e16
              have hyes : m.dst = spL t := HPT.out.1 ⟨rfl, rfl⟩
              rw [if_pos hyes] at HRT
              clear HIM HPT hyes q1 q2 eim
              go_wp2_with (go_at_call 26; (with_reducible refine (HSI.out _ (HBZ.out.setCell hgl _)).mono ?_); rintro e _ ⟨rfl, u9, rfl⟩; refine Hd.out ?_)
              obtain ⟨V, hV⟩ : ∃ V, (Z.setCell ⟨gx, 4, none⟩ (.int .i64 im')).ext u9 = V := ⟨_, rfl⟩
              have HBV := hide (show Below W.heap.size W V by rw [← hV]; exact Below.ext (HBZ.out.setCell hgl _) (HBZ.out.setCell hgl _).size u9)
              have g0 : V.cell? ⟨bx, ox + k * 8, none⟩ = some (.int .i64 16) := (HBV.out.cell hbx).trans c0
              have g4 : V.cell? ⟨bx, ox + k * 8 + 4, none⟩ = some (.int .i64 t) := (HBV.out.cell hbx).trans c4
              rw [hV]
              clear hV x0 x1 x2 x3 x4 x5 x6 x7 y0 y1 y2 y3 y4 y5 y6 y7 c0 c4 fx
              refine hide ?_
              go_wp2_with fail
              first
                | (go_roundw; case rel => exact ⟨k + 1, by omega, by go_num, by rw [HRT.out]; go_num, Below.to_ext (HBW.out.trans (HBV.out.mono hwq))⟩; case measure => simp [intOf]; omega)
                | exact ⟨⟨k + 1, by omega, by go_num, by rw [HRT.out]; go_num, Below.to_ext (HBW.out.trans (HBV.out.mono hwq))⟩, by simp [intOf]; omega⟩
            · have q3 : (op' == 16) = false := by simpa using e16
              have hno : m.dst ≠ spL t := fun e => e16 (HPT.out.2 e).1
              rw [if_neg hno] at HRT
              clear HIM HPT hno eim
              go_wp2_with (go_at_call 26; (with_reducible refine (HSI.out _ (HBZ.out.setCell hgl _)).mono ?_); rintro e _ ⟨rfl, u9, rfl⟩; refine Hd.out ?_)
              obtain ⟨V, hV⟩ : ∃ V, (Z.setCell ⟨gx, 4, none⟩ (.int .i64 im')).ext u9 = V := ⟨_, rfl⟩
              have HBV := hide (show Below W.heap.size W V by rw [← hV]; exact Below.ext (HBZ.out.setCell hgl _) (HBZ.out.setCell hgl _).size u9)
              have g0 : V.cell? ⟨bx, ox + k * 8, none⟩ = some (.int .i64 op') := (HBV.out.cell hbx).trans c0
              have g4 : V.cell? ⟨bx, ox + k * 8 + 4, none⟩ = some (.int .i64 t) := (HBV.out.cell hbx).trans c4
              rw [hV]
              clear hV x0 x1 x2 x3 x4 x5 x6 x7 y0 y1 y2 y3 y4 y5 y6 y7 c0 c4 fx
              refine hide ?_
              go_wp2_with fail
              first
                | (go_roundw; case rel => exact ⟨k + 1, by omega, by go_num, by rw [HRT.out]; rfl, Below.to_ext (HBW.out.trans (HBV.out.mono hwq))⟩; case measure => simp [intOf]; omega)
                | exact ⟨⟨k + 1, by omega, by go_num, by rw [HRT.out]; rfl, Below.to_ext (HBW.out.trans (HBV.out.mono hwq))⟩, by simp [intOf]; omega⟩
          · have e := HIM.out
            rw [if_neg (fun h => eim h.2)] at e
            subst e
            have q4 : (im' == t) = false := by simpa using eim
            have hno : m.dst ≠ spL t := fun e => eim (HPT.out.2 e).2
            rw [if_neg hno] at HRT
            clear HIM HPT hno
            by_cases e16 : op' = 16
            · subst e16
              clear q1 q2
              go_wp2_with (go_at_call 26; (with_reducible refine (HSI.out _ HBZ.out).mono ?_); rintro e _ ⟨rfl, u9, rfl⟩; refine Hd.out ?_)
              obtain ⟨V, hV⟩ : ∃ V, Z.ext u9 = V := ⟨_, rfl⟩
              have HBV := hide (show Below W.heap.size W V by rw [← hV]; exact Below.ext HBZ.out HBZ.out.size u9)
              have g0 : V.cell? ⟨bx, ox + k * 8, none⟩ = some (.int .i64 16) := (HBV.out.cell hbx).trans c0
              have g4 : V.cell? ⟨bx, ox + k * 8 + 4, none⟩ = some (.int .i64 im') := (HBV.out.cell hbx).trans c4
              rw [hV]
              clear hV x0 x1 x2 x3 x4 x5 x6 x7 y0 y1 y2 y3 y4 y5 y6 y7 c0 c4 fx
              refine hide ?_
              go_wp2_with fail
              first
                | (go_roundw; case rel => exact ⟨k + 1, by omega, by go_num, by rw [HRT.out]; rfl, Below.to_ext (HBW.out.trans (HBV.out.mono hwq))⟩; case measure => simp [intOf]; omega)
                | exact ⟨⟨k + 1, by omega, by go_num, by rw [HRT.out]; rfl, Below.to_ext (HBW.out.trans (HBV.out.mono hwq))⟩, by simp [intOf]; omega⟩
            · have q3 : (op' == 16) = false := by simpa using e16
              go_wp2_with (go_at_call 26; (with_reducible refine (HSI.out _ HBZ.out).mono ?_); rintro e _ ⟨rfl, u9, rfl⟩; refine Hd.out ?_)
              obtain ⟨V, hV⟩ : ∃ V, Z.ext u9 = V := ⟨_, rfl⟩
              have HBV := hide (show Below W.heap.size W V by rw [← hV]; exact Below.ext HBZ.out HBZ.out.size u9)
              have g0 : V.cell? ⟨bx, ox + k * 8, none⟩ = some (.int .i64 op') := (HBV.out.cell hbx).trans c0
              have g4 : V.cell? ⟨bx, ox + k * 8 + 4, none⟩ = some (.int .i64 im') := (HBV.out.cell hbx).trans c4
              rw [hV]
              clear hV x0 x1 x2 x3 x4 x5 x6 x7 y0 y1 y2 y3 y4 y5 y6 y7 c0 c4 fx
              refine hide ?_
              go_wp2_with fail
              first
                | (go_roundw; case rel => exact ⟨k + 1, by omega, by go_num, by rw [HRT.out]; rfl, Below.to_ext (HBW.out.trans (HBV.out.mono hwq))⟩; case measure => simp [intOf]; omega)
                | exact ⟨⟨k + 1, by omega, by go_num, by rw [HRT.out]; rfl, Below.to_ext (HBW.out.trans (HBV.out.mono hwq))⟩, by simp [intOf]; omega⟩
      · obtain ⟨hz1, hz2, hz3⟩ := two_boxes W #[.int .i64 op', .int .i64 ds', .int .i64 a', .int .i64 b', .int .i64 im', .int .i64 cl', .slice Ay nx cy, .int .i64 my'] #[.int .i64 op', .int .i64 ds', .int .i64 a', .int .i64 b', .int .i64 im, .int .i64 cl', .slice Ax nx cx, .int .i64 my'] 54
        obtain ⟨Z, hZ⟩ : ∃ Z, ((W.alloc (.cells #[.int .i64 op', .int .i64 ds', .int .i64 a', .int .i64 b', .int .i64 im', .int .i64 cl', .slice Ay nx cy, .int .i64 my'] 54)).alloc (.cells #[.int .i64 op', .int .i64 ds', .int .i64 a', .int .i64 b', .int .i64 im, .int .i64 cl', .slice Ax nx cx, .int .i64 my'] 54)).drew = Z := ⟨_, rfl⟩
        rw [hZ] at hz1 hz2 hz3
        have HZX := hide hz2
        have HZY := hide hz1
        have HBZ := hide hz3
        obtain ⟨gx, hgx⟩ : ∃ g, W.heap.size + 1 = g := ⟨_, rfl⟩
        obtain ⟨gy, hgy⟩ : ∃ g, W.heap.size = g := ⟨_, rfl⟩
        have hgl : W.heap.size ≤ gx := by omega
        have hne : gx ≠ gy := by omega
        rw [hgx] at HZX
        rw [hgy] at HZY
        simp only [hZ]
        simp only [hgx]
        simp only [hgy]
        clear hZ hgx hgy hz1 hz2 hz3
        have x0 : Z.cell? ⟨gx, 0, none⟩ = some (.int .i64 op') := cell_of_row Z _ _ _ _ (0, 0) HZX.out
        have x1 : Z.cell? ⟨gx, 1, none⟩ = some (.int .i64 ds') := cell_of_row Z _ _ _ _ (0, 0) HZX.out
        have x2 : Z.cell? ⟨gx, 2, none⟩ = some (.int .i64 a') := cell_of_row Z _ _ _ _ (0, 0) HZX.out
        have x3 : Z.cell? ⟨gx, 3, none⟩ = some (.int .i64 b') := cell_of_row Z _ _ _ _ (0, 0) HZX.out
        have x4 : Z.cell? ⟨gx, 4, none⟩ = some (.int .i64 im) := cell_of_row Z _ _ _ _ (0, 0) HZX.out
        have x5 : Z.cell? ⟨gx, 5, none⟩ = some (.int .i64 cl') := cell_of_row Z _ _ _ _ (0, 0) HZX.out
        have x6 : Z.cell? ⟨gx, 6, none⟩ = some (.slice Ax nx cx) := cell_of_row Z _ _ _ _ (0, 0) HZX.out
        have x7 : Z.cell? ⟨gx, 7, none⟩ = some (.int .i64 my') := cell_of_row Z _ _ _ _ (0, 0) HZX.out
        have y0 : Z.cell? ⟨gy, 0, none⟩ = some (.int .i64 op') := cell_of_row Z _ _ _ _ (0, 0) HZY.out
        have y1 : Z.cell? ⟨gy, 1, none⟩ = some (.int .i64 ds') := cell_of_row Z _ _ _ _ (0, 0) HZY.out
        have y2 : Z.cell? ⟨gy, 2, none⟩ = some (.int .i64 a') := cell_of_row Z _ _ _ _ (0, 0) HZY.out
        have y3 : Z.cell? ⟨gy, 3, none⟩ = some (.int .i64 b') := cell_of_row Z _ _ _ _ (0, 0) HZY.out
        have y4 : Z.cell? ⟨gy, 4, none⟩ = some (.int .i64 im') := cell_of_row Z _ _ _ _ (0, 0) HZY.out
        have y5 : Z.cell? ⟨gy, 5, none⟩ = some (.int .i64 cl') := cell_of_row Z _ _ _ _ (0, 0) HZY.out
        have y6 : Z.cell? ⟨gy, 6, none⟩ = some (.slice Ay nx cy) := cell_of_row Z _ _ _ _ (0, 0) HZY.out
        have y7 : Z.cell? ⟨gy, 7, none⟩ = some (.int .i64 my') := cell_of_row Z _ _ _ _ (0, 0) HZY.out
        have fx : Z.frozen? ⟨gx, 4, none⟩ = false := by simp [World.frozen?, HZX.out]
        have hgxZ : gx < Z.heap.size := (Array.getElem?_eq_some_iff.1 HZX.out).1
        clear HZX HZY c1 c2 c3 c5 c6 c7 d0 d1 d2 d3 d4 d5 d6 d7
        by_cases e15 : op' = 15
        · subst e15
          have e := HIM.out
          rw [if_neg (by simp)] at e
          subst e
          have hno : m.dst ≠ spL t := fun e => by have := (HPT.out.2 e).1; omega
          rw [if_neg hno] at HRT
          clear HIM HPT hno
          go_wp2_with (go_at_call 26; (with_reducible refine (HSI.out _ HBZ.out).mono ?_); rintro e _ ⟨rfl, u9, rfl⟩; refine Hd.out ?_)
          obtain ⟨V, hV⟩ : ∃ V, Z.ext u9 = V := ⟨_, rfl⟩
          have HBV := hide (show Below W.heap.size W V by rw [← hV]; exact Below.ext HBZ.out HBZ.out.size u9)
          have g0 : V.cell? ⟨bx, ox + k * 8, none⟩ = some (.int .i64 15) := (HBV.out.cell hbx).trans c0
          have g4 : V.cell? ⟨bx, ox + k * 8 + 4, none⟩ = some (.int .i64 im') := (HBV.out.cell hbx).trans c4
          rw [hV]
          clear hV x0 x1 x2 x3 x4 x5 x6 x7 y0 y1 y2 y3 y4 y5 y6 y7 c0 c4 fx
          refine hide ?_
          go_wp2_with fail
          first
            | (go_roundw; case rel => exact ⟨k + 1, by omega, by go_num, by rw [HRT.out]; rfl, Below.to_ext (HBW.out.trans (HBV.out.mono hwq))⟩; case measure => simp [intOf]; omega)
            | exact ⟨⟨k + 1, by omega, by go_num, by rw [HRT.out]; rfl, Below.to_ext (HBW.out.trans (HBV.out.mono hwq))⟩, by simp [intOf]; omega⟩
        · have q1 : (op' == 15) = false := by simpa using e15
          have q2 : (op' != 15) = true := by simp [bne, q1]
          by_cases eim : im = t
          · have e := HIM.out
            rw [if_pos ⟨e15, eim⟩] at e
            subst e
            have eim' : t = im := eim.symm
            subst eim'
            by_cases e16 : op' = 16
            · subst e16
              have hyes : m.dst = spL t := HPT.out.1 ⟨rfl, rfl⟩
              rw [if_pos hyes] at HRT
              clear HIM HPT hyes q1 q2 eim
              go_wp2_with (go_at_call 26; (with_reducible refine (HSI.out _ (HBZ.out.setCell hgl _)).mono ?_); rintro e _ ⟨rfl, u9, rfl⟩; refine Hd.out ?_)
              obtain ⟨V, hV⟩ : ∃ V, (Z.setCell ⟨gx, 4, none⟩ (.int .i64 im')).ext u9 = V := ⟨_, rfl⟩
              have HBV := hide (show Below W.heap.size W V by rw [← hV]; exact Below.ext (HBZ.out.setCell hgl _) (HBZ.out.setCell hgl _).size u9)
              have g0 : V.cell? ⟨bx, ox + k * 8, none⟩ = some (.int .i64 16) := (HBV.out.cell hbx).trans c0
              have g4 : V.cell? ⟨bx, ox + k * 8 + 4, none⟩ = some (.int .i64 t) := (HBV.out.cell hbx).trans c4
              rw [hV]
              clear hV x0 x1 x2 x3 x4 x5 x6 x7 y0 y1 y2 y3 y4 y5 y6 y7 c0 c4 fx
              refine hide ?_
              go_wp2_with fail
              first
                | (go_roundw; case rel => exact ⟨k + 1, by omega, by go_num, by rw [HRT.out]; go_num, Below.to_ext (HBW.out.trans (HBV.out.mono hwq))⟩; case measure => simp [intOf]; omega)
                | exact ⟨⟨k + 1, by omega, by go_num, by rw [HRT.out]; go_num, Below.to_ext (HBW.out.trans (HBV.out.mono hwq))⟩, by simp [intOf]; omega⟩
            · have q3 : (op' == 16) = false := by simpa using e16
              have hno : m.dst ≠ spL t := fun e => e16 (HPT.out.2 e).1
              rw [if_neg hno] at HRT
              clear HIM HPT hno eim
              go_wp2_with (go_at_call 26; (with_reducible refine (HSI.out _ (HBZ.out.setCell hgl _)).mono ?_); rintro e _ ⟨rfl, u9, rfl⟩; refine Hd.out ?_)
              obtain ⟨V, hV⟩ : ∃ V, (Z.setCell ⟨gx, 4, none⟩ (.int .i64 im')).ext u9 = V := ⟨_, rfl⟩
              have HBV := hide (show Below W.heap.size W V by rw [← hV]; exact Below.ext (HBZ.out.setCell hgl _) (HBZ.out.setCell hgl _).size u9)
              have g0 : V.cell? ⟨bx, ox + k * 8, none⟩ = some (.int .i64 op') := (HBV.out.cell hbx).trans c0
              have g4 : V.cell? ⟨bx, ox + k * 8 + 4, none⟩ = some (.int .i64 t) := (HBV.out.cell hbx).trans c4
              rw [hV]
              clear hV x0 x1 x2 x3 x4 x5 x6 x7 y0 y1 y2 y3 y4 y5 y6 y7 c0 c4 fx
              refine hide ?_
              go_wp2_with fail
              first
                | (go_roundw; case rel => exact ⟨k + 1, by omega, by go_num, by rw [HRT.out]; rfl, Below.to_ext (HBW.out.trans (HBV.out.mono hwq))⟩; case measure => simp [intOf]; omega)
                | exact ⟨⟨k + 1, by omega, by go_num, by rw [HRT.out]; rfl, Below.to_ext (HBW.out.trans (HBV.out.mono hwq))⟩, by simp [intOf]; omega⟩
          · have e := HIM.out
            rw [if_neg (fun h => eim h.2)] at e
            subst e
            have q4 : (im' == t) = false := by simpa using eim
            have hno : m.dst ≠ spL t := fun e => eim (HPT.out.2 e).2
            rw [if_neg hno] at HRT
            clear HIM HPT hno
            by_cases e16 : op' = 16
            · subst e16
              clear q1 q2
              go_wp2_with (go_at_call 26; (with_reducible refine (HSI.out _ HBZ.out).mono ?_); rintro e _ ⟨rfl, u9, rfl⟩; refine Hd.out ?_)
              obtain ⟨V, hV⟩ : ∃ V, Z.ext u9 = V := ⟨_, rfl⟩
              have HBV := hide (show Below W.heap.size W V by rw [← hV]; exact Below.ext HBZ.out HBZ.out.size u9)
              have g0 : V.cell? ⟨bx, ox + k * 8, none⟩ = some (.int .i64 16) := (HBV.out.cell hbx).trans c0
              have g4 : V.cell? ⟨bx, ox + k * 8 + 4, none⟩ = some (.int .i64 im') := (HBV.out.cell hbx).trans c4
              rw [hV]
              clear hV x0 x1 x2 x3 x4 x5 x6 x7 y0 y1 y2 y3 y4 y5 y6 y7 c0 c4 fx
              refine hide ?_
              go_wp2_with fail
              first
                | (go_roundw; case rel => exact ⟨k + 1, by omega, by go_num, by rw [HRT.out]; rfl, Below.to_ext (HBW.out.trans (HBV.out.mono hwq))⟩; case measure => simp [intOf]; omega)
                | exact ⟨⟨k + 1, by omega, by go_num, by rw [HRT.out]; rfl, Below.to_ext (HBW.out.trans (HBV.out.mono hwq))⟩, by simp [intOf]; omega⟩
            · have q3 : (op' == 16) = false := by simpa using e16
              go_wp2_with (go_at_call 26; (with_reducible refine (HSI.out _ HBZ.out).mono ?_); rintro e _ ⟨rfl, u9, rfl⟩; refine Hd.out ?_)
              obtain ⟨V, hV⟩ : ∃ V, Z.ext u9 = V := ⟨_, rfl⟩
              have HBV := hide (show Below W.heap.size W V by rw [← hV]; exact Below.ext HBZ.out HBZ.out.size u9)
              have g0 : V.cell? ⟨bx, ox + k * 8, none⟩ = some (.int .i64 op') := (HBV.out.cell hbx).trans c0
              have g4 : V.cell? ⟨bx, ox + k * 8 + 4, none⟩ = some (.int .i64 im') := (HBV.out.cell hbx).trans c4
              rw [hV]
              clear hV x0 x1 x2 x3 x4 x5 x6 x7 y0 y1 y2 y3 y4 y5 y6 y7 c0 c4 fx
              refine hide ?_
              go_wp2_with fail
              first
                | (go_roundw; case rel => exact ⟨k + 1, by omega, by go_num, by rw [HRT.out]; rfl, Below.to_ext (HBW.out.trans (HBV.out.mono hwq))⟩; case measure => simp [intOf]; omega)
                | exact ⟨⟨k + 1, by omega, by go_num, by rw [HRT.out]; rfl, Below.to_ext (HBW.out.trans (HBV.out.mono hwq))⟩, by simp [intOf]; omega⟩
    · have hkn : k = n7 := by omega
      subst hkn
      have hlk : rs.take k = rs := List.take_of_length_le (by rw [HNR.out]; exact Nat.le_refl _)
      have HRI' := hide (HRI.out W (HB8.out.trans (HBW.out.mono hw8)))
      rw [HRG.out] at HRI'
      rw [hlk]
      go_wp2_with (go_at_call 17; (with_reducible refine HRI'.out.mono ?_); rintro e _ ⟨rfl, u9, rfl⟩)
      go_ret
      exact RetX.b rfl ((HB8.out.trans (HBW.out.mono hw8)).ext (by omega) u9)
end Go.Proofs.Ytoghikagooegbaa
