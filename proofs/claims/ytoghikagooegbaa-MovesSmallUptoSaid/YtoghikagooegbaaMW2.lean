/- Walks: the document's moves: Right. Printed by gen_mw2.py. -/
import Derived.Test.YtoghikagooegbaaN4
import Derived.Deep.DeepCutAuto
import Derived.Deep.CutBlock
set_option linter.unusedSimpArgs false
set_option linter.unusedVariables false
namespace Go.Proofs.Ytoghikagooegbaa
open Go.RowKit Go.Maps

theorem all_range_false {f : Nat → Bool} {j n : Nat} (hj : j < n) (hf : f j = false) : (List.range n).all f = false := by
  rw [List.all_eq_false]
  exact ⟨j, List.mem_range.2 hj, by simp [hf]⟩
theorem all_range_succ {f : Nat → Bool} {j : Nat} (h : (List.range j).all f = true) (hf : f j = true) : (List.range (j + 1)).all f = true := by
  rw [List.range_succ, List.all_append, h]; simp [hf]
theorem rightD_false {xs : List Move} {s : Loc} {k : Nat} (hk : k < xs.length) (h : rowAt26 xs s k = false) : false = rightD xs s := by
  unfold rightD; rw [all_range_false hk h, Bool.and_false]
theorem row_alone {xs : List Move} {s : Loc} {k : Nat} {x : Move} (hx : xs[k]? = some x) (h : aloneB s x = false) : rowAt26 xs s k = false := by
  unfold rowAt26; rw [hx]; simp [h]
theorem row_at {xs : List Move} {s : Loc} {k j : Nat} {x : Move} (hx : xs[k]? = some x) (hj : j < xs.length) (h : atB xs k x j = false) : rowAt26 xs s k = false := by
  unfold rowAt26; rw [hx]; simp only [all_range_false hj h, Bool.and_false]
theorem row_good {xs : List Move} {s : Loc} {k : Nat} {x : Move} (hx : xs[k]? = some x) (h : aloneB s x = true) (h2 : (List.range xs.length).all (atB xs k x) = true) : rowAt26 xs s k = true := by
  unfold rowAt26; rw [hx]; simp only [h, h2, Bool.and_self]
set_option maxRecDepth 100000 in
set_option maxHeartbeats 32000000 in
theorem rightD_any (w : World) (S : Nat → Prop) (A : Option Addr) (n c : Nat) (xs : List Move) (h : Sl w S A n c xs) (t : Int) :
    Calls Try.prog 13 #[.slice A n c, .int .i64 t] w (RetX (.bool (rightD xs (spL t))) w) := by
  have hnle := h.nle
  have HL := hide h.len
  have HS := hide h
  clear h
  obtain ⟨p0, hp0⟩ : ∃ p, okL (spL t) = p := ⟨_, rfl⟩
  have HP0 := hide (fun W => show Calls Try.prog 34 #[.agg #[.bool true, .int .i64 t]] W (RetX (.bool p0) W) from hp0 ▸ place26_any W (spL t))
  have HPE := hide hp0
  clear hp0
  go_enter Try.func13, Try.ntmps13
  cases p0 with
  | false =>
    go_wp2_with (go_at_call 34; (with_reducible refine (HP0.out _).mono ?_); rintro e _ ⟨rfl, u, rfl⟩)
    go_ret
    exact RetX.b (by unfold rightD; rw [HPE.out]; rfl) (((Below.refl _ _).alloc (Nat.le_refl _) _).ext (by simp) u)
  | true =>
  obtain ⟨g0, hg0⟩ : ∃ g, w.heap.size = g := ⟨_, rfl⟩
  go_wp2_with (go_at_call 34; (with_reducible refine (HP0.out _).mono ?_); rintro e _ ⟨rfl, u, rfl⟩; refine Hd.out ?_)
  obtain ⟨W0, hW0⟩ : ∃ W, (w.alloc (.cells #[.bool true, .int .i64 t] 40)).ext u = W := ⟨_, rfl⟩
  have HB0 := hide (show Below w.heap.size w W0 by rw [← hW0]; exact ((Below.refl _ _).alloc (Nat.le_refl _) _).ext (by simp) u)
  have HG0 := hide (show W0.heap[g0]? = some (.cells #[.bool true, .int .i64 t] 40 (0, 0)) by rw [← hW0, ← hg0]; exact (ext_block _ u _ (by simp)).trans (heap_alloc_new w _))
  rw [hW0]
  clear hW0 HP0
  refine hide ?_
  go_wp2_with fail
  go_loopw [6] (fun i wr => ∃ k : Nat, k ≤ n ∧ i = .int .i64 k ∧ (List.range k).all (rowAt26 xs (spL t)) = true ∧ Below w.heap.size w wr ∧ wr.heap[g0]? = some (.cells #[.bool true, .int .i64 t] 40 (0, 0))) (fun i _ => n - (intOf i).toNat)
  case atStart => exact ⟨0, Nat.zero_le _, rfl, rfl, HB0.out, HG0.out⟩
  clear HB0 HG0 u
  case round =>
    obtain ⟨k, hk, rfl, hall, hbq, hgq⟩ := hrel
    have HALL := hide hall
    have HBQ := hide hbq; have HGQ := hide hgq
    have hwq := hbq.size
    have hgl := (Array.getElem?_eq_some_iff.1 hgq).1
    clear hall hbq hgq
    by_cases hlt : k < n
    · have hki : (k : Int) < n := by omega
      have hnx : n ≤ xs.length := by rw [HL.out]; exact Nat.le_refl _
      obtain ⟨b, off, x, rfl, hb, hx, hx1, hx2, c0, c1, c2, c3⟩ := at_Move (HS.out.belowAll HBQ.out) hlt
      obtain ⟨⟨s1, n1⟩, ⟨s2, n2⟩⟩ := x
      simp only at c0 c1 c2 c3
      obtain ⟨p1, hp1⟩ : ∃ p, okL ⟨s1, n1⟩ = p := ⟨_, rfl⟩
      obtain ⟨p2, hp2⟩ : ∃ p, okL ⟨s2, n2⟩ = p := ⟨_, rfl⟩
      obtain ⟨e1, he1⟩ : ∃ p, decide ((⟨s1, n1⟩ : Loc) = spL t) = p := ⟨_, rfl⟩
      obtain ⟨e2, he2⟩ : ∃ p, decide ((⟨s2, n2⟩ : Loc) = spL t) = p := ⟨_, rfl⟩
      obtain ⟨e3, he3⟩ : ∃ p, decide ((⟨s1, n1⟩ : Loc) = ⟨s2, n2⟩) = p := ⟨_, rfl⟩
      have HAL := hide (show aloneB (spL t) ⟨⟨s1, n1⟩, ⟨s2, n2⟩⟩ = (p1 && p2 && !e1 && !e2 && !(!e3 && s1 && s2)) by
        unfold aloneB; simp only; rw [hp1, hp2, he1, he2, ← he3]; simp)
      have HP1 := hide (fun W => show Calls Try.prog 34 #[.agg #[.bool s1, .int .i64 n1]] W (RetX (.bool p1) W) from hp1 ▸ place26_any W ⟨s1, n1⟩)
      have HP2 := hide (fun W => show Calls Try.prog 34 #[.agg #[.bool s2, .int .i64 n2]] W (RetX (.bool p2) W) from hp2 ▸ place26_any W ⟨s2, n2⟩)
      have EQ1 : ∀ w : World, (Op.equalIn 10000 40 (.agg #[.bool s1, .int .i64 n1]) (.agg #[.bool true, .int .i64 t])).run Try.prog w = .ok e1 w := fun w => he1 ▸ eq_loc_run ⟨s1, n1⟩ (spL t) w
      have EQ2 : ∀ w : World, (Op.equalIn 10000 40 (.agg #[.bool s2, .int .i64 n2]) (.agg #[.bool true, .int .i64 t])).run Try.prog w = .ok e2 w := fun w => he2 ▸ eq_loc_run ⟨s2, n2⟩ (spL t) w
      have EQ3 : ∀ w : World, (Op.equalIn 10000 40 (.agg #[.bool s1, .int .i64 n1]) (.agg #[.bool s2, .int .i64 n2])).run Try.prog w = .ok e3 w := fun w => he3 ▸ eq_loc_run ⟨s1, n1⟩ ⟨s2, n2⟩ w
      have HE3 := hide he3
      have HX := hide hx
      obtain ⟨g1, hg1⟩ : ∃ g, wr.heap.size = g := ⟨_, rfl⟩
      clear hp1 hp2 he1 he2 he3 hx hx1 hx2
      go_upto_region 8 with (fail)
      obtain ⟨W1, hW1⟩ : ∃ W, wr.alloc (.cells #[.bool s1, .int .i64 n1, .bool s2, .int .i64 n2] 69) = W := ⟨_, rfl⟩
      have HB1 := hide (show Below w.heap.size w W1 by rw [← hW1]; exact HBQ.out.alloc hwq _)
      have HX1 := hide (show W1.heap[g1]? = some (.cells #[.bool s1, .int .i64 n1, .bool s2, .int .i64 n2] 69 (0, 0)) by rw [← hW1, ← hg1]; exact heap_alloc_new wr _)
      have HG1 := hide (show W1.heap[g0]? = some (.cells #[.bool true, .int .i64 t] 40 (0, 0)) by rw [← hW1]; exact (Below.heap_alloc _ _ _ hgl).trans HGQ.out)
      rw [hW1]
      clear hW1 HBQ HGQ c0 c1 c2 c3 hb hwq hgl hg1
      go_cut [62] from 24 to 61 (fun s62 wc => s62 = .bool (!aloneB (spL t) ⟨⟨s1, n1⟩, ⟨s2, n2⟩⟩) ∧ ∃ u : Ext, wc = W1.ext u)
      case first =>
        have a0 : W1.cell? ⟨g1, 0, none⟩ = some (.bool s1) := cell_of_row W1 _ _ _ _ (0, 0) HX1.out
        have a1 : W1.cell? ⟨g1, 1, none⟩ = some (.int .i64 n1) := cell_of_row W1 _ _ _ _ (0, 0) HX1.out
        have a2 : W1.cell? ⟨g1, 2, none⟩ = some (.bool s2) := cell_of_row W1 _ _ _ _ (0, 0) HX1.out
        have a3 : W1.cell? ⟨g1, 3, none⟩ = some (.int .i64 n2) := cell_of_row W1 _ _ _ _ (0, 0) HX1.out
        have z0 : W1.cell? ⟨g0, 0, none⟩ = some (.bool true) := cell_of_row W1 _ _ _ _ (0, 0) HG1.out
        have z1 : W1.cell? ⟨g0, 1, none⟩ = some (.int .i64 t) := cell_of_row W1 _ _ _ _ (0, 0) HG1.out
        have hg1l : g1 < W1.heap.size := (Array.getElem?_eq_some_iff.1 HX1.out).1
        have hg0l : g0 < W1.heap.size := (Array.getElem?_eq_some_iff.1 HG1.out).1
        cases p1 with
        | false =>
          go_wp2_with (go_at_call 34; (with_reducible refine (HP1.out _).mono ?_); rintro e _ ⟨rfl, u, rfl⟩)
          go_meet
          exact ⟨by rw [HAL.out]; rfl, u, rfl⟩
        | true =>
        go_wp2_with (first
          | (go_at_call 34; (with_reducible refine (HP1.out _).mono ?_); rintro e _ ⟨rfl, u, rfl⟩)
          | (go_at_call 34; (with_reducible refine (HP2.out _).mono ?_); rintro e _ ⟨rfl, u', rfl⟩; refine Hd.out ?_))
        have HBF := hide (show Below w.heap.size w ((W1.ext u).ext u') from (HB1.out.ext HB1.out.size u).ext (by rw [size_ext]; have := HB1.out.size; omega) u')
        have HEX := hide (show ∃ v : Ext, (W1.ext u).ext u' = W1.ext v from ext_ext W1 u u')
        refine hide ?_
        cases p2 with
        | false => 
          go_wp2_with fail
          go_meet
          exact ⟨by rw [HAL.out]; rfl, HEX.out⟩
        | true =>
        cases e1 with
        | true => 
          go_wp2_with fail
          go_meet
          exact ⟨by rw [HAL.out]; rfl, HEX.out⟩
        | false =>
        cases e2 with
        | true => 
          go_wp2_with fail
          go_meet
          exact ⟨by rw [HAL.out]; rfl, HEX.out⟩
        | false =>
        cases e3 with
        | true =>
          go_wp2_with fail
          go_meet
          exact ⟨by rw [HAL.out]; rfl, HEX.out⟩
        | false =>
        cases s1 with
        | false =>
          go_wp2_with fail
          go_meet
          exact ⟨by rw [HAL.out]; rfl, HEX.out⟩
        | true =>
        cases s2 with
        | true => 
          go_wp2_with fail
          go_meet
          exact ⟨by rw [HAL.out]; rfl, HEX.out⟩
        | false =>
          go_wp2_with fail
          go_meet
          exact ⟨by rw [HAL.out]; rfl, HEX.out⟩
      case rest =>
        obtain ⟨rfl, u, hwc⟩ := hcut
        obtain ⟨al, hal⟩ : ∃ al, (!aloneB (spL t) ⟨⟨s1, n1⟩, ⟨s2, n2⟩⟩) = al := ⟨_, rfl⟩
        have HALN := hide hal
        rw [hal]
        obtain ⟨W2, hW2⟩ : ∃ W, W = wc := ⟨_, rfl⟩
        subst hW2
        have HB2 := hide (show Below w.heap.size w W2 by rw [hwc]; exact HB1.out.ext HB1.out.size u)
        have HX2 := hide (show W2.heap[g1]? = some (.cells #[.bool s1, .int .i64 n1, .bool s2, .int .i64 n2] 69 (0, 0)) by rw [hwc]; exact (ext_block W1 u g1 (Array.getElem?_eq_some_iff.1 HX1.out).1).trans HX1.out)
        have HG2 := hide (show W2.heap[g0]? = some (.cells #[.bool true, .int .i64 t] 40 (0, 0)) by rw [hwc]; exact (ext_block W1 u g0 (Array.getElem?_eq_some_iff.1 HG1.out).1).trans HG1.out)
        clear hwc hal HB1 HX1 HG1 HP1 HP2 EQ1 EQ2 HAL
        cases al with
        | true =>
          go_wp2_with fail
          go_ret
          exact RetX.b (rightD_false (Nat.lt_of_lt_of_le hlt hnx) (row_alone HX.out (by simpa using HALN.out))) HB2.out
        | false =>
        have HALT := hide (show aloneB (spL t) ⟨⟨s1, n1⟩, ⟨s2, n2⟩⟩ = true by simpa using HALN.out)
        go_wp2_with fail
        go_loopw [8] (fun i wq => ∃ j : Nat, j ≤ n ∧ i = .int .i64 j ∧ (List.range j).all (atB xs k (⟨⟨s1, n1⟩, ⟨s2, n2⟩⟩ : Move)) = true ∧ ∃ u : Ext, wq = W2.ext u) (fun i _ => n - (intOf i).toNat)
        case atStart => exact ⟨0, Nat.zero_le _, rfl, rfl, ext_refl _⟩
        case round =>
          obtain ⟨j, hj, rfl, hja, u, hwu⟩ := hrel
          have HJA := hide hja
          have HBV := hide (show Below W2.heap.size W2 wr by rw [hwu]; exact Below.of_ext W2 u (Nat.le_refl _))
          have HV1 := hide (show wr.heap[g1]? = some (.cells #[.bool s1, .int .i64 n1, .bool s2, .int .i64 n2] 69 (0, 0)) by rw [hwu]; exact (ext_block W2 u g1 (Array.getElem?_eq_some_iff.1 HX2.out).1).trans HX2.out)
          have hw2 := HB2.out.size
          have hwv := HBV.out.size
          clear hja hwu
          by_cases hlj : j < n
          · have hji : (j : Int) < n := by omega
            obtain ⟨b, off, y, eA, hb, hy, -, -, y0, y1, y2, y3⟩ := at_Move (HS.out.belowAll (HB2.out.trans (HBV.out.mono hw2))) hlj
            injection eA with eA
            simp only [Addr.mk.injEq, and_true] at eA
            obtain ⟨rfl, rfl⟩ := eA
            obtain ⟨⟨t1, m1⟩, ⟨t2, m2⟩⟩ := y
            simp only at y0 y1 y2 y3
            obtain ⟨d, hd⟩ : ∃ p, decide ((⟨t2, m2⟩ : Loc) = ⟨s2, n2⟩) = p := ⟨_, rfl⟩
            obtain ⟨gq, hgq⟩ : ∃ p, decide ((⟨t1, m1⟩ : Loc) = ⟨s2, n2⟩) = p := ⟨_, rfl⟩
            obtain ⟨bq, hbq⟩ : ∃ p, decide ((⟨t1, m1⟩ : Loc) = ⟨t2, m2⟩) = p := ⟨_, rfl⟩
            obtain ⟨sq, hsq⟩ : ∃ p, decide (j = k) = p := ⟨_, rfl⟩
            have HAT := hide (show atB xs k (⟨⟨s1, n1⟩, ⟨s2, n2⟩⟩ : Move) j = !((!sq && d) || (s2 && !e3 && gq && !bq)) by
              unfold atB; rw [hy]; unfold clashB; simp only
              rw [hsq, hd, hgq, ← hbq]
              have h3 := HE3.out
              rw [show decide ((⟨s1, n1⟩ : Loc) ≠ ⟨s2, n2⟩) = !e3 by rw [← h3]; simp]
              simp)
            have EQD : ∀ w : World, (Op.equalIn 10000 40 (.agg #[.bool t2, .int .i64 m2]) (.agg #[.bool s2, .int .i64 n2])).run Try.prog w = .ok d w := fun w => hd ▸ eq_loc_run ⟨t2, m2⟩ ⟨s2, n2⟩ w
            have EQG : ∀ w : World, (Op.equalIn 10000 40 (.agg #[.bool t1, .int .i64 m1]) (.agg #[.bool s2, .int .i64 n2])).run Try.prog w = .ok gq w := fun w => hgq ▸ eq_loc_run ⟨t1, m1⟩ ⟨s2, n2⟩ w
            have EQB : ∀ w : World, (Op.equalIn 10000 40 (.agg #[.bool t1, .int .i64 m1]) (.agg #[.bool t2, .int .i64 m2])).run Try.prog w = .ok bq w := fun w => hbq ▸ eq_loc_run ⟨t1, m1⟩ ⟨t2, m2⟩ w
            have hjk : ((j : Int) == (k : Int)) = sq := by rw [← hsq]; by_cases e : j = k <;> simp [e]; omega
            have hjk2 : ((j : Int) != (k : Int)) = !sq := by rw [← hjk]; rfl
            clear hy hd hgq hbq hsq
            go_upto_region 13 with (fail)
            go_cut [81] from 69 to 80 (fun s81 wc => s81 = .bool (!sq && d) ∧ ∃ u : Ext, wc = wr.ext u)
            case first =>
              have a0 : wr.cell? ⟨g1, 0, none⟩ = some (.bool s1) := cell_of_row wr _ _ _ _ (0, 0) HV1.out
              have a1 : wr.cell? ⟨g1, 1, none⟩ = some (.int .i64 n1) := cell_of_row wr _ _ _ _ (0, 0) HV1.out
              have a2 : wr.cell? ⟨g1, 2, none⟩ = some (.bool s2) := cell_of_row wr _ _ _ _ (0, 0) HV1.out
              have a3 : wr.cell? ⟨g1, 3, none⟩ = some (.int .i64 n2) := cell_of_row wr _ _ _ _ (0, 0) HV1.out
              have hg1w : g1 < wr.heap.size := (Array.getElem?_eq_some_iff.1 HV1.out).1
              cases sq with
              | true =>
                go_wp2_with fail
                refine wp_region_flow_ext [] [] (by kernel_rfl) rfl (by kernel_rfl) ?_
                repeat (refine flow_known (by kernel_rfl) (fun K hK => ?_); go_simp; (first | (refine hK _ ?_; clear hK K) | (apply Exists.intro; refine ⟨fun _ => ?_, hK _ ?_⟩; (fail); clear hK K)))
                refine flow_done [] (by kernel_rfl) ?_
                intro u2
                simp only [List.nil_append, List.cons_append, endH_f, endH_t, endH_nil]
                go_wp2_with fail
                go_meet
                exact ⟨rfl, u2, rfl⟩
              | false =>
                cases d with
                | true =>
                  go_wp2_with fail
                  refine wp_region_flow_ext [] [] (by kernel_rfl) rfl (by kernel_rfl) ?_
                  repeat (refine flow_known (by kernel_rfl) (fun K hK => ?_); go_simp; (first | (refine hK _ ?_; clear hK K) | (apply Exists.intro; refine ⟨fun _ => ?_, hK _ ?_⟩; (fail); clear hK K)))
                  refine flow_done [] (by kernel_rfl) ?_
                  intro u2
                  simp only [List.nil_append, List.cons_append, endH_f, endH_t, endH_nil]
                  go_wp2_with fail
                  go_meet
                  exact ⟨rfl, u2, rfl⟩
                | false =>
                  go_wp2_with fail
                  refine wp_region_flow_ext [] [] (by kernel_rfl) rfl (by kernel_rfl) ?_
                  repeat (refine flow_known (by kernel_rfl) (fun K hK => ?_); go_simp; (first | (refine hK _ ?_; clear hK K) | (apply Exists.intro; refine ⟨fun _ => ?_, hK _ ?_⟩; (fail); clear hK K)))
                  refine flow_done [] (by kernel_rfl) ?_
                  intro u2
                  simp only [List.nil_append, List.cons_append, endH_f, endH_t, endH_nil]
                  go_wp2_with fail
                  go_meet
                  exact ⟨rfl, u2, rfl⟩
            case rest =>
              obtain ⟨rfl, u2, hwc⟩ := hcut
              obtain ⟨sd, hsd⟩ : ∃ sd, (!sq && d) = sd := ⟨_, rfl⟩
              rw [hsd]
              cases sd with
              | true =>
                go_wp2_with fail
                go_ret
                exact RetX.b (rightD_false (Nat.lt_of_lt_of_le hlt hnx) (row_at HX.out (Nat.lt_of_lt_of_le hlj hnx) (by rw [HAT.out, hsd]; rfl))) (by rw [hwc]; exact HB2.out.trans ((HBV.out.ext hwv u2).mono hw2))
              | false =>
              have HAT2 := hide (show atB xs k (⟨⟨s1, n1⟩, ⟨s2, n2⟩⟩ : Move) j = !(s2 && !e3 && gq && !bq) by rw [HAT.out, hsd]; rfl)
              obtain ⟨V2, hV2⟩ : ∃ V, V = wc := ⟨_, rfl⟩
              subst hV2
              have HB3 := hide (show Below W2.heap.size W2 V2 by rw [hwc]; exact HBV.out.ext hwv u2)
              have hgx := (ext_block wr u2 g1 (Array.getElem?_eq_some_iff.1 HV1.out).1).trans HV1.out
              rw [← hwc] at hgx
              have b0 : V2.cell? ⟨g1, 0, none⟩ = some (.bool s1) := cell_of_row V2 _ _ _ _ (0, 0) hgx
              have b1 : V2.cell? ⟨g1, 1, none⟩ = some (.int .i64 n1) := cell_of_row V2 _ _ _ _ (0, 0) hgx
              have b2 : V2.cell? ⟨g1, 2, none⟩ = some (.bool s2) := cell_of_row V2 _ _ _ _ (0, 0) hgx
              have b3 : V2.cell? ⟨g1, 3, none⟩ = some (.int .i64 n2) := cell_of_row V2 _ _ _ _ (0, 0) hgx
              have q0 : V2.cell? ⟨b, off + j * 4, none⟩ = some (.bool t1) := by rw [hwc, cell?_ext _ _ _ hb]; exact y0
              have q1 : V2.cell? ⟨b, off + j * 4 + 1, none⟩ = some (.int .i64 m1) := by rw [hwc, cell?_ext _ _ _ hb]; exact y1
              have q2 : V2.cell? ⟨b, off + j * 4 + 2, none⟩ = some (.bool t2) := by rw [hwc, cell?_ext _ _ _ hb]; exact y2
              have q3 : V2.cell? ⟨b, off + j * 4 + 3, none⟩ = some (.int .i64 m2) := by rw [hwc, cell?_ext _ _ _ hb]; exact y3
              have hb2 : b < V2.heap.size := by rw [hwc, size_ext]; omega
              have hg12 : g1 < V2.heap.size := (Array.getElem?_eq_some_iff.1 hgx).1
              have hv2 := HB3.out.size
              clear hwc hgx y0 y1 y2 y3 hb HBV HV1 hwv HAT hsd EQD
              cases s2 with
              | false =>
                go_wp2_with fail
                refine wp_region_flow_ext [] [] (by kernel_rfl) rfl (by kernel_rfl) ?_
                repeat (refine flow_known (by kernel_rfl) (fun K hK => ?_); go_simp; (first | (refine hK _ ?_; clear hK K) | (apply Exists.intro; refine ⟨fun _ => ?_, hK _ ?_⟩; (fail); clear hK K)))
                refine flow_done [] (by kernel_rfl) ?_
                intro u3
                simp only [List.nil_append, List.cons_append, endH_f, endH_t, endH_nil]
                go_wp2_with fail
                first
                  | (go_roundw; case rel => exact ⟨j + 1, by omega, by go_num, all_range_succ HJA.out (by rw [HAT2.out]; rfl), Below.to_ext (HB3.out.ext hv2 u3)⟩; case measure => simp [intOf]; omega)
                  | exact ⟨⟨j + 1, by omega, by go_num, all_range_succ HJA.out (by rw [HAT2.out]; rfl), Below.to_ext (HB3.out.ext hv2 u3)⟩, by simp [intOf]; omega⟩
              | true =>
                cases e3 with
                | true =>
                  go_wp2_with fail
                  refine wp_region_flow_ext [] [] (by kernel_rfl) rfl (by kernel_rfl) ?_
                  repeat (refine flow_known (by kernel_rfl) (fun K hK => ?_); go_simp; (first | (refine hK _ ?_; clear hK K) | (apply Exists.intro; refine ⟨fun _ => ?_, hK _ ?_⟩; (fail); clear hK K)))
                  refine flow_done [] (by kernel_rfl) ?_
                  intro u3
                  simp only [List.nil_append, List.cons_append, endH_f, endH_t, endH_nil]
                  go_wp2_with fail
                  first
                    | (go_roundw; case rel => exact ⟨j + 1, by omega, by go_num, all_range_succ HJA.out (by rw [HAT2.out]; rfl), Below.to_ext (HB3.out.ext hv2 u3)⟩; case measure => simp [intOf]; omega)
                    | exact ⟨⟨j + 1, by omega, by go_num, all_range_succ HJA.out (by rw [HAT2.out]; rfl), Below.to_ext (HB3.out.ext hv2 u3)⟩, by simp [intOf]; omega⟩
                | false =>
                  cases gq with
                  | false =>
                    go_wp2_with fail
                    refine wp_region_flow_ext [] [] (by kernel_rfl) rfl (by kernel_rfl) ?_
                    repeat (refine flow_known (by kernel_rfl) (fun K hK => ?_); go_simp; (first | (refine hK _ ?_; clear hK K) | (apply Exists.intro; refine ⟨fun _ => ?_, hK _ ?_⟩; (fail); clear hK K)))
                    refine flow_done [] (by kernel_rfl) ?_
                    intro u3
                    simp only [List.nil_append, List.cons_append, endH_f, endH_t, endH_nil]
                    go_wp2_with fail
                    first
                      | (go_roundw; case rel => exact ⟨j + 1, by omega, by go_num, all_range_succ HJA.out (by rw [HAT2.out]; rfl), Below.to_ext (HB3.out.ext hv2 u3)⟩; case measure => simp [intOf]; omega)
                      | exact ⟨⟨j + 1, by omega, by go_num, all_range_succ HJA.out (by rw [HAT2.out]; rfl), Below.to_ext (HB3.out.ext hv2 u3)⟩, by simp [intOf]; omega⟩
                  | true =>
                    cases bq with
                    | true =>
                      go_wp2_with fail
                      refine wp_region_flow_ext [] [] (by kernel_rfl) rfl (by kernel_rfl) ?_
                      repeat (refine flow_known (by kernel_rfl) (fun K hK => ?_); go_simp; (first | (refine hK _ ?_; clear hK K) | (apply Exists.intro; refine ⟨fun _ => ?_, hK _ ?_⟩; (fail); clear hK K)))
                      refine flow_done [] (by kernel_rfl) ?_
                      intro u3
                      simp only [List.nil_append, List.cons_append, endH_f, endH_t, endH_nil]
                      go_wp2_with fail
                      first
                        | (go_roundw; case rel => exact ⟨j + 1, by omega, by go_num, all_range_succ HJA.out (by rw [HAT2.out]; rfl), Below.to_ext (HB3.out.ext hv2 u3)⟩; case measure => simp [intOf]; omega)
                        | exact ⟨⟨j + 1, by omega, by go_num, all_range_succ HJA.out (by rw [HAT2.out]; rfl), Below.to_ext (HB3.out.ext hv2 u3)⟩, by simp [intOf]; omega⟩
                    | false =>
                      go_wp2_with fail
                      refine wp_region_flow_ext [] [] (by kernel_rfl) rfl (by kernel_rfl) ?_
                      repeat (refine flow_known (by kernel_rfl) (fun K hK => ?_); go_simp; (first | (refine hK _ ?_; clear hK K) | (apply Exists.intro; refine ⟨fun _ => ?_, hK _ ?_⟩; (fail); clear hK K)))
                      refine flow_done [] (by kernel_rfl) ?_
                      intro u3
                      simp only [List.nil_append, List.cons_append, endH_f, endH_t, endH_nil]
                      go_wp2_with fail
                      go_ret
                      exact RetX.b (rightD_false (Nat.lt_of_lt_of_le hlt hnx) (row_at HX.out (Nat.lt_of_lt_of_le hlj hnx) (by rw [HAT2.out]; rfl))) (HB2.out.trans ((HB3.out.ext hv2 u3).mono hw2))
          · have hjn : j = n := by omega
            have hlj2 : decide ((j : Int) < n) = false := by simp; omega
            have HRO := hide (row_good (s := spL t) HX.out HALT.out (show (List.range xs.length).all (atB xs k (⟨⟨s1, n1⟩, ⟨s2, n2⟩⟩ : Move)) = true by rw [HL.out, ← hjn]; exact HJA.out))
            have HNB := hide (HB2.out.trans (HBV.out.mono hw2))
            have HNG := hide ((HBV.out.block g0 (Array.getElem?_eq_some_iff.1 HG2.out).1).trans HG2.out)
            clear hjn
            go_wp2_with fail
            first
              | (go_roundw; case rel => exact ⟨k + 1, by omega, by go_num, all_range_succ HALL.out HRO.out, HNB.out, HNG.out⟩; case measure => simp [intOf]; omega)
              | exact ⟨⟨k + 1, by omega, by go_num, all_range_succ HALL.out HRO.out, HNB.out, HNG.out⟩, by simp [intOf]; omega⟩
    · have hkn : k = n := by omega
      subst hkn
      go_wp2_with fail
      go_ret
      exact RetX.b (by unfold rightD; rw [HPE.out, HL.out, HALL.out]; rfl) HBQ.out
end Go.Proofs.Ytoghikagooegbaa
