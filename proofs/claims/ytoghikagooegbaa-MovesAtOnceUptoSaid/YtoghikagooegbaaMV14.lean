/- Walks: law 26: MovesAtOnce. -/
import Derived.Test.YtoghikagooegbaaMV14a
set_option linter.unusedSimpArgs false
set_option linter.unusedVariables false
namespace Go.Proofs.Ytoghikagooegbaa
open Go.RowKit Go.Maps

theorem KnownAt.load {P : Program} {ops : Array Oper} {o : Oper} {a : Act} {w : World} {c : Value} {g : Nat} (hgd : o.guard = none) (ty : TypeId) (x : Operand) (ho : o.op = .load ty x) (hx : a.eval x = .pointer (some ⟨g, 0, none⟩)) (hr : (loadVar ty ⟨g, 0, none⟩).run P w = .ok c w) : KnownAt P ops o a c w := by
  have hw : Region.wanted o (yielded ops a.tmps) = true := by simp [Region.wanted, hgd]
  unfold KnownAt
  rw [if_pos hw]
  unfold execOp
  simp only [ho, hx, Instr.loadAt, Instr.sureAddr, Sem.run_bind, Sem.run_pure, Result.andThen_ok, hr]
  exact ⟨rfl, rfl⟩
theorem MachAt.congr {w : World} {g : Nat} {f f' : Nat → Int} (h : MachAt w g f) (he : ∀ i, i < 464 → f i = f' i) : MachAt w g f' := by
  obtain ⟨cur, h1, h2, h3⟩ := h.at_
  exact ⟨cur, h1, h2, fun i hi => by rw [← he i hi]; exact h3 i hi⟩
theorem MachAt.load {w : World} {g : Nat} {f : Nat → Int} (h : MachAt w g f) : ∃ c : Array Value, (∀ i, i < 464 → c[i]? = some (.int .i64 (f i))) ∧ ∀ u : Ext, (loadVar 59 ⟨g, 0, none⟩).run Try.prog (w.ext u) = .ok (.agg c) (w.ext u) := by
  obtain ⟨cur, h1, h2, h3⟩ := h.at_
  refine ⟨cur, h3, fun u => ?_⟩
  have hg := (Array.getElem?_eq_some_iff.1 h1).1
  exact run_loadVar_row (w.ext u) g _ _ cur (0, 0) _ ((ext_block w u g hg).trans h1) machine_under rfl (by rw [h2]; kernel_rfl)
theorem rowIns_of2 {xs : List Move} {t : Int} (h : rightM' xs (spL t) = true) : rowIns xs t = (rowOf (spL t) (busyM xs)).map insM := by unfold rowIns; rw [if_pos h]
theorem rowErr_of2 {xs : List Move} {t : Int} (h : rightM' xs (spL t) = true) : rowErr xs t = 0 := by unfold rowErr; rw [if_pos h]
theorem does_any (w : World) (g : Nat) (f : Nat → Int) (h : MachAt w g f) (m : Move) (h1 : okL m.src = true) (h2 : okL m.dst = true) (h3 : m.dst.slot = true → m.src.slot = false) (x : Ins) (hx : insM m = x) (A : Option Addr) (n c : Nat) :
    Calls Try.prog 24 #[.pointer (some ⟨g, 0, none⟩), .agg #[.int .i64 x.op, .int .i64 x.dst, .int .i64 x.a, .int .i64 x.b, .int .i64 x.imm, .int .i64 x.callee, .slice A n c, .int .i64 x.many]] w (RetDoes g (setN f (cellN m.dst) (f (cellN m.src))) w) := by
  subst hx
  obtain ⟨⟨s1, n1⟩, ⟨s2, n2⟩⟩ := m
  unfold okL at h1 h2
  simp only [Bool.and_eq_true, decide_eq_true_eq] at h1 h2
  obtain ⟨a, rfl⟩ : ∃ a : Nat, n1 = (a : Int) := ⟨n1.toNat, by omega⟩
  obtain ⟨d, rfl⟩ : ∃ d : Nat, n2 = (d : Int) := ⟨n2.toNat, by omega⟩
  have h1' := h1.2
  have h2' := h2.2
  cases s2
  · cases s1
    · have := doesMove_any w g f h d a (by simp at h2'; omega) (by simp at h1'; omega) A n c
      simpa [insM, cellN] using this
    · have := doesGet_any w g f h d a (by simp at h2'; omega) (by simp at h1'; omega) A n c
      simpa [insM, cellN] using this
  · have := h3 rfl
    simp only at this
    subst this
    have := doesPut_any w g f h a d (by simp at h1'; omega) (by simp at h2'; omega) A n c
    simpa [insM, cellN] using this
set_option maxRecDepth 100000 in
set_option maxHeartbeats 16000000 in
theorem movesAtOnce_any (w : World) (S : Nat → Prop) (A : Option Addr) (n c : Nat) (xs : List Move) (h : Sl w S A n c xs) (t : Int) (ht : InI t) :
    Calls Try.prog 5 #[.slice A n c, .int .i64 t] w (RetX (.bool true) w) := by
  have HAW := hide (awake26_any w)
  by_cases h60 : 60 < n
  · clear h
    have hn60 : (60 : Int) < n := by omega
    go_enter Try.func5, Try.ntmps5
    go_wp2_with (go_at_call 7; (with_reducible refine HAW.out.mono ?_); rintro e _ ⟨rfl, u1, rfl⟩)
    go_ret
    exact RetX.b rfl (Below.of_ext w u1 (Nat.le_refl _))
  have hm : n ≤ 1048576 := by omega
  have hn60 : decide ((60 : Int) < n) = false := by simp; omega
  obtain ⟨r1, hr1⟩ : ∃ r, rightM' xs (spL t) = r := ⟨_, rfl⟩
  cases r1 with
  | false =>
    have HROW := hide (fun (W : World) (hb : Below w.heap.size w W) => show Calls Try.prog 8 #[.slice A n c, .int .i64 t] W (RetRow26 [] 2 W) by
      have := rowIns_any W _ A n c xs (h.belowAll hb) hm t ht
      unfold rowIns rowErr at this
      rw [hr1] at this
      exact this)
    have HR1 := hide (fun (W : World) (hb : Below w.heap.size w W) => show Calls Try.prog 12 #[.slice A n c, .int .i64 t] W (RetX (.bool false) W) from hr1 ▸ mright_any _ _ A n c xs (h.belowAll hb) hm t ht)
    clear h
    go_enter Try.func5, Try.ntmps5
    go_wp2_with (first
      | (go_at_call 7; (with_reducible refine HAW.out.mono ?_); rintro e _ ⟨rfl, u1, rfl⟩)
      | (go_at_call 8; (with_reducible refine (HROW.out _ (Below.of_ext w u1 (Nat.le_refl _))).mono ?_); rintro e _ ⟨A4, n4, c4, rfl, ho4, u4, rfl⟩; have HO4 := hide ho4; clear ho4; refine Hd.out ?_))
    obtain rfl : n4 = 0 := by obtain ⟨_, _, e⟩ := HO4.out.form; injection e
    have HB4 := hide (show Below w.heap.size w ((w.ext u1).ext u4) from (Below.of_ext w u1 (Nat.le_refl _)).ext (by rw [size_ext]; omega) u4)
    refine hide ?_
    go_wp2_with (go_at_call 12; (with_reducible refine (HR1.out _ HB4.out).mono ?_); rintro e _ ⟨rfl, u5, rfl⟩)
    go_ret
    exact RetX.b rfl (HB4.out.ext HB4.out.size u5)
  | true =>
  have S1 := rightM_iff.1 hr1
  have ht0 : 0 ≤ t ∧ t < 400 := by have := S1.spare; unfold okL spL at this; simp at this; omega
  obtain ⟨tn, rfl⟩ : ∃ tn : Nat, t = (tn : Int) := ⟨t.toNat, by omega⟩
  obtain ⟨rs, hrs⟩ : ∃ rs, rowOf (spL tn) (busyM xs) = rs := ⟨_, rfl⟩
  have HOK := hide (show ∀ m ∈ rs, (okL m.src = true ∧ okL m.dst = true) ∧ (m.dst.slot = true → m.src.slot = false) by rw [← hrs]; exact row_ok _ (StatM.of S1 rfl))
  have HXO := hide S1.ok
  have HAO := hide (show ∀ i, i < 464 → i ≠ 64 + tn → doneF startF rs i = wantF startF xs i by
    intro i hi hne
    rw [← hrs]
    exact at_once_cells S1 i hi (by unfold cellN spL; simpa using hne))
  have HLEN := hide (show rs.length = (busyM xs).length + ringsM xs by
    rw [ringsM_right S1, ← hrs]
    exact rowOf_len _ (StatM.of S1 rfl).fr)
  have hrsl : rs.length ≤ 2 * n + 1 := by have := rowOf_le (spL tn) (busyM xs); have h2 := busy_le xs; rw [hrs] at this; rw [h.len] at h2; omega
  have E1 : rowIns xs tn = rs.map insM := by rw [rowIns_of2 hr1, hrs]
  have HROW := hide (fun (W : World) (hb : Below w.heap.size w W) => show Calls Try.prog 8 #[.slice A n c, .int .i64 tn] W (RetRow26 (rs.map insM) 0 W) from E1 ▸ rowErr_of2 hr1 ▸ rowIns_any W _ A n c xs (h.belowAll hb) hm tn ht)
  have HBU := hide (fun (W : World) (hb : Below w.heap.size w W) => busy_any W _ A n c xs (h.belowAll hb) hm)
  have HRI := hide (fun (W : World) (hb : Below w.heap.size w W) => rings_any W _ A n c xs (h.belowAll hb) hm)
  have HS := hide (fun (W : World) (hb : Below w.heap.size w W) => h.belowAll hb)
  have HFR := hide fresh26_any
  have HL := hide h.len
  clear E1 hrs S1 hr1 h
  go_enter Try.func5, Try.ntmps5
  go_wp2_with (first
    | (go_at_call 7; (with_reducible refine HAW.out.mono ?_); rintro e _ ⟨rfl, u1, rfl⟩)
    | (go_at_call 8; (with_reducible refine (HROW.out _ (Below.of_ext w u1 (Nat.le_refl _))).mono ?_); rintro e _ ⟨A4, n4, c4, rfl, ho4, u4, rfl⟩; have HO4 := hide ho4; clear ho4; refine Hd.out ?_))
  have hn4 : rs.length = n4 := by obtain ⟨_, _, e⟩ := HO4.out.form; injection e with _ e _; rw [List.length_map] at e; exact e.symm
  obtain ⟨W4, hW4⟩ : ∃ W, (w.ext u1).ext u4 = W := ⟨_, rfl⟩
  have HB4 := hide (show Below w.heap.size w W4 by rw [← hW4]; exact (Below.of_ext w u1 (Nat.le_refl _)).ext (by rw [size_ext]; omega) u4)
  have HSR := hide (show Sl W4 (fun b => b < W4.heap.size) A4 n4 c4 (rs.map insM) by rw [← hW4]; exact (HO4.out.sl (S' := fun _ => True) fun _ _ _ => trivial).more fun b hb _ => hb)
  have HN4 := hide hn4
  have hn4b : n4 ≤ 2 * n + 1 := by omega
  rw [hW4]
  clear hW4 HO4 HAW HROW hn4
  refine hide ?_
  go_wp2_with (first
    | (go_at_call 23; (with_reducible refine (HFR.out _).mono ?_); rintro e _ ⟨g1, rfl, hg1, hm1, u5, rfl⟩; have HM1 := hide hm1; clear hm1; refine Hd.out ?_))
  obtain ⟨W5, hW5⟩ : ∃ W, W4.ext u5 = W := ⟨_, rfl⟩
  have HB5 := hide (show Below w.heap.size w W5 by rw [← hW5]; exact HB4.out.ext HB4.out.size u5)
  have HSR5 := hide (show Sl W5 (fun b => b ≠ g1) A4 n4 c4 (rs.map insM) by rw [← hW5]; exact (HSR.out.more fun b hb hl => by omega).ext u5)
  rw [hW5] at HM1 ⊢
  have hg1w : w.heap.size ≤ g1 := by have := HB4.out.size; omega
  clear hW5 hg1 HB4 HSR
  refine hide ?_
  go_wp2_with fail
  go_loopw [8] (fun i wr => ∃ k : Nat, k ≤ n4 ∧ i = .int .i64 k ∧ MachAt wr g1 (doneF startF (rs.take k)) ∧ W5.grownBy wr (some g1)) (fun i _ => n4 - (intOf i).toNat)
  case atStart => exact ⟨0, Nat.zero_le _, rfl, HM1.out, World.grownBy.refl _ _⟩
  clear HM1
  case round =>
    obtain ⟨k, hk, rfl, hmq, hgq⟩ := hrel
    have HMQ := hide hmq; have HGQ := hide hgq
    have hsz := hgq.size
    clear hmq hgq
    by_cases hlt : k < n4
    · have hki : (k : Int) < n4 := by omega
      obtain ⟨bx, ox, x, Ax, nx, cx, rfl, hbx, hx, -, -, -, -, -, -, -, -, c0, c1, c2, c3, c4, c5, c6, c7⟩ := at_Ins (HSR5.out.keep HGQ.out.size fun b hb hl => HGQ.out.block b hl (fun e => by injection e with e; exact hb e)) hlt
      obtain ⟨m, hm'⟩ : ∃ m, rs[k]? = some m := ⟨_, List.getElem?_eq_getElem (by rw [HN4.out]; exact hlt)⟩
      have hxm : insM m = x := by rw [List.getElem?_map, hm'] at hx; simpa using hx
      have hok := HOK.out m (List.mem_of_getElem? hm')
      have HD := hide (fun (V : World) (hv : MachAt V g1 (doneF startF (rs.take k))) => does_any V g1 _ hv m hok.1.1 hok.1.2 hok.2 x hxm Ax nx cx)
      have HTA := hide (take_at hm')
      clear hx hm' hxm hok
      go_wp2_with (go_at_call 24; (with_reducible refine (HD.out _ HMQ.out).mono ?_); rintro e w6 ⟨rfl, hm6, hg6⟩; have HM6 := hide hm6; have HG6 := hide hg6; clear hm6 hg6)
      have HM7 := hide (show MachAt w6 g1 (doneF startF (rs.take (k + 1))) by rw [HTA.out, doneF_snoc]; exact HM6.out)
      first
        | (go_roundw; case rel => exact ⟨k + 1, by omega, by go_num, HM7.out, HGQ.out.trans HG6.out⟩; case measure => simp [intOf]; omega)
        | exact ⟨⟨k + 1, by omega, by go_num, HM7.out, HGQ.out.trans HG6.out⟩, by simp [intOf]; omega⟩
    · have hkn : k = n4 := by omega
      have hki : decide ((k : Int) < n4) = false := by simp; omega
      have hlk : rs.take k = rs := List.take_of_length_le (by rw [HN4.out]; omega)
      rw [hlk] at HMQ
      have HB7 := hide (show Below w.heap.size w wr from HB5.out.grown HGQ.out HB5.out.size fun r e => by injection e with e; omega)
      obtain ⟨W7, hW7⟩ : ∃ W, wr = W := ⟨_, rfl⟩
      rw [hW7] at HMQ HB7 ⊢
      clear hW7 hlk hkn HGQ HSR5 HB5 hsz
      go_wp2_with (first
        | (go_at_call 23; (with_reducible refine (HFR.out _).mono ?_); rintro e _ ⟨g2, rfl, hg2, hm2, u8, rfl⟩; have HM2 := hide hm2; clear hm2; refine Hd.out ?_))
      obtain ⟨W8, hW8⟩ : ∃ W, W7.ext u8 = W := ⟨_, rfl⟩
      have HB8 := hide (show Below w.heap.size w W8 by rw [← hW8]; exact HB7.out.ext HB7.out.size u8)
      have HM1 := hide (show MachAt W8 g1 (doneF startF rs) by rw [← hW8]; exact HMQ.out.ext u8)
      have hg12 : g1 < g2 := by have := HMQ.out.lt; omega
      rw [hW8] at HM2 ⊢
      clear hW8 hg2 HB7 HMQ
      refine hide ?_
      go_wp2_with fail
      go_loopw [10] (fun i wr => ∃ k : Nat, k ≤ n ∧ i = .int .i64 k ∧ MachAt wr g2 (wantF startF (xs.take k)) ∧ W8.grownBy wr (some g2)) (fun i _ => n - (intOf i).toNat)
      case atStart => exact ⟨0, Nat.zero_le _, rfl, HM2.out, World.grownBy.refl _ _⟩
      clear HM2
      case round =>
        obtain ⟨k2, hk2, rfl, hmq, hgq⟩ := hrel
        have HMQ := hide hmq; have HGQ := hide hgq
        have HBQ := hide (show Below w.heap.size w wr from HB8.out.grown hgq HB8.out.size fun r e => by injection e with e; omega)
        have hsz := hgq.size
        clear hmq hgq
        by_cases hlt : k2 < n
        · have hki2 : (k2 : Int) < n := by omega
          obtain ⟨bx, ox, x, rfl, hbx, hx, hx1, hx2, c0, c1, c2, c3⟩ := at_Move (HS.out _ HBQ.out) hlt
          have hxo := HXO.out x (List.mem_of_getElem? hx)
          have HTA := hide (take_at hx)
          obtain ⟨⟨s1, n1⟩, ⟨s2, n2⟩⟩ := x
          simp only at c0 c1 c2 c3 hx1 hx2
          obtain ⟨d, rfl⟩ : ∃ d : Nat, n2 = (d : Int) := ⟨n2.toNat, by have := hxo.2; unfold okL at this; simp at this; omega⟩
          have hn1 : n1 ≤ 1000000 := by have := hxo.1; unfold okL at this; cases s1 <;> simp at this <;> omega
          obtain ⟨v, hv⟩ : ∃ v, startM ⟨s1, n1⟩ = v := ⟨_, rfl⟩
          have HST := hide (fun W => show Calls Try.prog 25 #[.agg #[.bool s1, .int .i64 n1]] W (RetX (.int .i64 v) W) from hv ▸ start26_any W ⟨s1, n1⟩ hx1 hn1)
          have HV := hide hv
          clear hx hv hx1 hx2
          go_wp2_with (first
            | (go_at_call 25; (with_reducible refine (HST.out _).mono ?_); rintro e _ ⟨rfl, u9, rfl⟩; refine Hd.out ?_))
          obtain ⟨W9, hW9⟩ : ∃ W, wr.ext u9 = W := ⟨_, rfl⟩
          have HM9 := hide (show MachAt W9 g2 (wantF startF (xs.take k2)) by rw [← hW9]; exact HMQ.out.ext u9)
          have HG9 := hide (show W8.grownBy W9 (some g2) by rw [← hW9]; exact HGQ.out.trans (grown_of_ext u9 (some g2)))
          have e0 : W9.cell? ⟨bx, ox + k2 * 4, none⟩ = some (.bool s1) := by rw [← hW9, cell?_ext _ _ _ hbx]; exact c0
          have e1 : W9.cell? ⟨bx, ox + k2 * 4 + 1, none⟩ = some (.int .i64 n1) := by rw [← hW9, cell?_ext _ _ _ hbx]; exact c1
          have e2 : W9.cell? ⟨bx, ox + k2 * 4 + 2, none⟩ = some (.bool s2) := by rw [← hW9, cell?_ext _ _ _ hbx]; exact c2
          have e3 : W9.cell? ⟨bx, ox + k2 * 4 + 3, none⟩ = some (.int .i64 d) := by rw [← hW9, cell?_ext _ _ _ hbx]; exact c3
          have hbx9 : bx < W9.heap.size := by rw [← hW9, size_ext]; omega
          have hg29 : g2 < W9.heap.size := HM9.out.lt
          rw [hW9]
          clear hW9 HMQ HGQ HBQ c0 c1 c2 c3 hbx hsz HST
          refine hide ?_
          cases s2
          · have hd : d < 64 := by have h := hxo.2; unfold okL at h; simp at h; omega
            have q1 : (0 : Int) ≤ d := by omega
            have q2 : (d : Int) < 64 := by omega
            go_wp2_with fail
            refine wp_region_last_ext [] [] 11 (by kernel_rfl) rfl rfl rfl (by kernel_rfl) (by kernel_rfl) ?_
            simp only [List.take_succ_cons, List.take_zero]
            repeat (refine flow_known (by kernel_rfl) (fun K hK => ?_); go_simp; (first | (refine hK _ ?_; clear hK K) | (apply Exists.intro; refine ⟨fun _ => ?_, hK _ ?_⟩; (fail); clear hK K)))
            refine flow_done [] (by kernel_rfl) ?_
            intro u
            simp only [List.nil_append, List.cons_append, endH_f, endH_t, endH_nil]
            have HMA := hide (HM9.out.ext u)
            have HGA := hide (HG9.out.trans (grown_of_ext u (some g2)))
            obtain ⟨WA, hWA⟩ : ∃ V, W9.ext u = V := ⟨_, rfl⟩
            rw [hWA] at HMA HGA ⊢
            clear hWA HM9 HG9 e0 e1 e2 e3
            have d0 := HMA.out.cell (i := d) (by omega)
            have f0 := HMA.out.frozen (d)
            have HMB := hide (show MachAt (WA.setCell ⟨g2, d, none⟩ (.int .i64 v)) g2 (wantF startF (xs.take (k2 + 1))) by
              rw [HTA.out, wantF_snoc, HV.out]
              have h := HMA.out.set (i := d) (by omega) v
              simpa [cellN] using h)
            have HGB := hide (HGA.out.trans (grown_setCell WA g2 (d) (.int .i64 v)))
            go_simp
            go_wp2_with fail
            first
              | (go_roundw; case rel => exact ⟨k2 + 1, by omega, by go_num, HMB.out, HGB.out⟩; case measure => simp [intOf]; omega)
              | exact ⟨⟨k2 + 1, by omega, by go_num, HMB.out, HGB.out⟩, by simp [intOf]; omega⟩
          · have hd : d < 400 := by have h := hxo.2; unfold okL at h; simp at h; omega
            have q1 : (0 : Int) ≤ d := by omega
            have q2 : (d : Int) < 400 := by omega
            go_wp2_with fail
            refine wp_region_last_ext [] [] 11 (by kernel_rfl) rfl rfl rfl (by kernel_rfl) (by kernel_rfl) ?_
            simp only [List.take_succ_cons, List.take_zero]
            repeat (refine flow_known (by kernel_rfl) (fun K hK => ?_); go_simp; (first | (refine hK _ ?_; clear hK K) | (apply Exists.intro; refine ⟨fun _ => ?_, hK _ ?_⟩; (fail); clear hK K)))
            refine flow_done [] (by kernel_rfl) ?_
            intro u
            simp only [List.nil_append, List.cons_append, endH_f, endH_t, endH_nil]
            have HMA := hide (HM9.out.ext u)
            have HGA := hide (HG9.out.trans (grown_of_ext u (some g2)))
            obtain ⟨WA, hWA⟩ : ∃ V, W9.ext u = V := ⟨_, rfl⟩
            rw [hWA] at HMA HGA ⊢
            clear hWA HM9 HG9 e0 e1 e2 e3
            have d0 := HMA.out.cell (i := 64 + d) (by omega)
            have f0 := HMA.out.frozen (64 + d)
            have HMB := hide (show MachAt (WA.setCell ⟨g2, 64 + d, none⟩ (.int .i64 v)) g2 (wantF startF (xs.take (k2 + 1))) by
              rw [HTA.out, wantF_snoc, HV.out]
              have h := HMA.out.set (i := 64 + d) (by omega) v
              simpa [cellN] using h)
            have HGB := hide (HGA.out.trans (grown_setCell WA g2 (64 + d) (.int .i64 v)))
            go_simp
            go_wp2_with fail
            first
              | (go_roundw; case rel => exact ⟨k2 + 1, by omega, by go_num, HMB.out, HGB.out⟩; case measure => simp [intOf]; omega)
              | exact ⟨⟨k2 + 1, by omega, by go_num, HMB.out, HGB.out⟩, by simp [intOf]; omega⟩
        · have hkn : k2 = n := by omega
          have hki2 : decide ((k2 : Int) < n) = false := by simp; omega
          have hlk : xs.take k2 = xs := List.take_of_length_le (by rw [HL.out]; omega)
          rw [hlk] at HMQ
          have HBE := hide (show Below w.heap.size w wr from HBQ.out)
          have HM1e := hide (show MachAt wr g1 (doneF startF rs) from HM1.out.keep (HGQ.out.block g1 HM1.out.lt (fun e => by injection e with e; omega)))
          obtain ⟨WE, hWE⟩ : ∃ W, wr = W := ⟨_, rfl⟩
          rw [hWE] at HMQ HBE HM1e ⊢
          clear hWE hlk hkn HGQ HBQ hsz
          have q1 : (0 : Int) ≤ tn := by omega
          have q2 : (tn : Int) < 400 := by omega
          have d1 := HM1e.out.cell (i := 64 + tn) (by omega)
          have hg1e := HM1e.out.lt
          have hg2e := HMQ.out.lt
          go_wp2_with fail
          refine wp_region_last_ext [] [] 11 (by kernel_rfl) rfl rfl rfl (by kernel_rfl) (by kernel_rfl) ?_
          simp only [List.take_succ_cons, List.take_zero]
          repeat (refine flow_known (by kernel_rfl) (fun K hK => ?_); go_simp; (first | (refine hK _ ?_; clear hK K) | (apply Exists.intro; refine ⟨fun _ => ?_, hK _ ?_⟩; (fail); clear hK K)))
          refine flow_done [] (by kernel_rfl) ?_
          intro u
          simp only [List.nil_append, List.cons_append, endH_f, endH_t, endH_nil]
          have HMA := hide (HMQ.out.ext u)
          have HMB := hide (HM1e.out.ext u)
          have HBA := hide (HBE.out.ext HBE.out.size u)
          obtain ⟨WA, hWA⟩ : ∃ V, WE.ext u = V := ⟨_, rfl⟩
          rw [hWA] at HMA HMB HBA ⊢
          clear hWA HMQ HM1e HBE d1 hg1e hg2e
          have d0 := HMA.out.cell (i := 64 + tn) (by omega)
          have f0 := HMA.out.frozen (64 + tn)
          obtain ⟨v1, hv1⟩ : ∃ v1, doneF startF rs (64 + tn) = v1 := ⟨_, rfl⟩
          rw [hv1]
          obtain ⟨WB, hWB⟩ : ∃ V, WA.setCell ⟨g2, 64 + tn, none⟩ (.int .i64 v1) = V := ⟨_, rfl⟩
          have HM3 := hide (show MachAt WB g2 (setN (wantF startF xs) (64 + tn) v1) by rw [← hWB]; exact HMA.out.set (by omega) v1)
          have HM4 := hide (show MachAt WB g1 (doneF startF rs) by rw [← hWB]; exact HMB.out.keep (Below.heap_setCell _ _ _ _ (by show g1 ≠ g2; omega)))
          have HBB := hide (show Below w.heap.size w WB by rw [← hWB]; exact HBA.out.setCell (by show w.heap.size ≤ g2; omega) _)
          go_simp
          go_wp2_with fail
          have HM5 := hide (show MachAt WB g2 (doneF startF rs) from HM3.out.congr fun i hi => by
            unfold setN
            by_cases e : i = 64 + tn
            · rw [if_pos e, e, hv1]
            · rw [if_neg e, HAO.out i hi e])
          obtain ⟨c1, hc1, hl1⟩ := HM4.out.load
          obtain ⟨c2, hc2, hl2⟩ := HM5.out.load
          have EQ := fun W : World => eq_machine W _ c1 c2 hc1 hc2
          have HL1 := hide hl1; have HL2 := hide hl2
          obtain ⟨nb, hnb⟩ : ∃ nb, (busyM xs).length = nb := ⟨_, rfl⟩
          obtain ⟨rg, hrg⟩ : ∃ rg, ringsM xs = rg := ⟨_, rfl⟩
          have hsum : n4 = nb + rg := by have := HLEN.out; rw [hnb, hrg, HN4.out] at this; exact this
          have hwr : IntKind.i64.wrap ((nb : Int) + rg) = (n4 : Int) := by rw [IntWalk.i64_in _ (by omega)]; omega
          have HBU' := hide (fun u : Ext => HBU.out (WB.ext u) (HBB.out.ext HBB.out.size u))
          have HRI' := hide (fun u : Ext => show Calls Try.prog 17 #[.slice A n c] (WB.ext u) (RetX (.int .i64 rg) (WB.ext u)) from hrg ▸ HRI.out (WB.ext u) (HBB.out.ext HBB.out.size u))
          have HNB := hide hnb
          clear hc1 hc2 hl1 hl2 hnb hrg hv1 d0 f0 HM3 HM4 HM5 HMA HMB HBA HAO HLEN HBU HRI hWB hsum
          refine wp_region_flow_ext [] [11] (by kernel_rfl) rfl (by kernel_rfl) ?_
          refine flow_known (by kernel_rfl) (fun K hK => ?_)
          go_simp
          refine hK _ ?_
          clear hK K
          refine flow_known (by kernel_rfl) (fun K hK => ?_)
          go_simp
          refine hK _ ?_
          clear hK K
          refine flow_out [] (.agg c1) (by kernel_rfl) ?_ ?_
          · intro u
            exact KnownAt.load rfl 59 (.tmp 101) rfl rfl (HL1.out u)
          try simp only [Act.put]
          refine flow_known (by kernel_rfl) (fun K hK => ?_)
          go_simp
          refine hK _ ?_
          clear hK K
          refine flow_known (by kernel_rfl) (fun K hK => ?_)
          go_simp
          refine hK _ ?_
          clear hK K
          refine flow_out [] (.agg c2) (by kernel_rfl) ?_ ?_
          · intro u
            exact KnownAt.load rfl 59 (.tmp 104) rfl (by simp [Act.eval, Act.put]) (HL2.out u)
          repeat (refine flow_known (by kernel_rfl) (fun K hK => ?_); go_simp; (first | (refine hK _ ?_; clear hK K) | (apply Exists.intro; refine ⟨fun _ => ?_, hK _ ?_⟩; (fail); clear hK K)))
          refine flow_keep0 (SlP nb (busyM xs)) (by kernel_rfl) (SlP.stable_ rfl) ?_ ?_
          · intro u
            go_simp
            refine (HBU'.out u).mono ?_
            rintro e _ ⟨A5, n5, c5, S5, rfl, ho5, hS5, x5, rfl⟩
            have hn5 : n5 = nb := by obtain ⟨_, _, e⟩ := ho5.form; injection e with _ e _; rw [e, HNB.out]
            subst hn5
            exact ⟨_, rfl, ⟨fun _ => True, A5, c5, rfl, ho5.sl fun _ _ _ => trivial⟩, onW_ext ⟨_, rfl⟩ ⟨x5, rfl⟩⟩
          refine flow_out [true] (.int .i64 nb) (by kernel_rfl) ?_ ?_
          · intro u
            try simp only [List.nil_append, List.cons_append, useH_f, useH_t, useH_nil]
            rintro _ ⟨S5, A5, c5, rfl, hs5⟩
            go_simp
          repeat (refine flow_known (by kernel_rfl) (fun K hK => ?_); go_simp; (first | (refine hK _ ?_; clear hK K) | (apply Exists.intro; refine ⟨fun _ => ?_, hK _ ?_⟩; ((go_at_call 17; exact (HRI'.out _))); clear hK K)))
          refine flow_done [true] (by kernel_rfl) ?_
          intro u
          simp only [List.nil_append, List.cons_append, endH_f, endH_t, endH_nil]
          rintro _ ⟨S5, A5, c5, rfl, hs5⟩
          clear hs5
          go_simp
          go_wp2_with fail
          go_ret
          exact RetX.b rfl (HBB.out.ext HBB.out.size u)
end Go.Proofs.Ytoghikagooegbaa
