/- law28: walks: parts as they are written. Printed by gen_c4.py. -/
import Derived.Test.YtppkanniefignaaGreatDoorG22
import Derived.Test.YtppkanniefignaaGreatDoorW3
import Derived.Test.YtppkanniefignaaGreatDoorG10
import Derived.Test.YtppkanniefignaaGreatDoorL2d
import Derived.Test.YtppkanniefignaaGreatDoorG2
import Derived.Lib.ItoaLen
set_option linter.unusedSimpArgs false
set_option linter.unusedVariables false
namespace Go.Proofs.YtppkanniefignaaGreatDoor
open Go.RowKit Go.Maps

theorem itoa28_sz (n : Int) (h : InI n) : (itoaB n).size ≤ 21 := by
  have := Lib.itoa_length_le n h.1 h.2
  unfold itoaB
  show (Lib.itoa n).toArray.size ≤ 21
  simpa using this
theorem info_str28 : (Tryz.prog.info? 9).map (fun i => (i.zero, i.size, i.bytes)) = some (some (.string ⟨#[]⟩), 1, 16) := by kernel_rfl
theorem zero_str : (Tryz.prog.info? 9).map (·.zero) = some (some (.string ⟨#[]⟩)) := by kernel_rfl
theorem zero_int28 : (Tryz.prog.info? 3).map (·.zero) = some (some (.int .i64 0)) := by kernel_rfl
theorem zero_var : (Tryz.prog.info? 118).map (·.zero) = some (some (.int .i64 0)) := by kernel_rfl
theorem zero_loc : (Tryz.prog.info? 40).map (·.zero) = some (some (.agg #[.bool false, .int .i64 0])) := by kernel_rfl
theorem as28_str (v : Value) (w : World) : (Instr.typeAssert (.iface 9 v) 20 9 true).run Tryz.prog w = .ok (.tuple #[v, .bool true]) w := by simp [Instr.typeAssert, run_underlying Tryz.underlying9]
theorem as28_str_no (t : TypeId) (ht : t ≠ 9) (v : Value) (w : World) : (Instr.typeAssert (.iface t v) 20 9 true).run Tryz.prog w = .ok (.tuple #[.string ⟨#[]⟩, .bool false]) w := by
  obtain ⟨i, e, z⟩ := Option.map_eq_some_iff.1 zero_str
  simp [Instr.typeAssert, run_underlying Tryz.underlying9, ht, zeroValue, typeInfo, e, z]
theorem as28_str_nil (w : World) : (Instr.typeAssert .nilIface 20 9 true).run Tryz.prog w = .ok (.tuple #[.string ⟨#[]⟩, .bool false]) w := by
  obtain ⟨i, e, z⟩ := Option.map_eq_some_iff.1 zero_str
  simp [Instr.typeAssert, run_underlying Tryz.underlying9, zeroValue, typeInfo, e, z]
theorem as28_int28 (v : Value) (w : World) : (Instr.typeAssert (.iface 3 v) 20 3 true).run Tryz.prog w = .ok (.tuple #[v, .bool true]) w := by simp [Instr.typeAssert, run_underlying Tryz.underlying3]
theorem as28_int28_no (t : TypeId) (ht : t ≠ 3) (v : Value) (w : World) : (Instr.typeAssert (.iface t v) 20 3 true).run Tryz.prog w = .ok (.tuple #[.int .i64 0, .bool false]) w := by
  obtain ⟨i, e, z⟩ := Option.map_eq_some_iff.1 zero_int28
  simp [Instr.typeAssert, run_underlying Tryz.underlying3, ht, zeroValue, typeInfo, e, z]
theorem as28_int28_nil (w : World) : (Instr.typeAssert .nilIface 20 3 true).run Tryz.prog w = .ok (.tuple #[.int .i64 0, .bool false]) w := by
  obtain ⟨i, e, z⟩ := Option.map_eq_some_iff.1 zero_int28
  simp [Instr.typeAssert, run_underlying Tryz.underlying3, zeroValue, typeInfo, e, z]
theorem as28_var (v : Value) (w : World) : (Instr.typeAssert (.iface 118 v) 20 118 true).run Tryz.prog w = .ok (.tuple #[v, .bool true]) w := by simp [Instr.typeAssert, run_underlying Tryz.underlying118]
theorem as28_var_no (t : TypeId) (ht : t ≠ 118) (v : Value) (w : World) : (Instr.typeAssert (.iface t v) 20 118 true).run Tryz.prog w = .ok (.tuple #[.int .i64 0, .bool false]) w := by
  obtain ⟨i, e, z⟩ := Option.map_eq_some_iff.1 zero_var
  simp [Instr.typeAssert, run_underlying Tryz.underlying118, ht, zeroValue, typeInfo, e, z]
theorem as28_var_nil (w : World) : (Instr.typeAssert .nilIface 20 118 true).run Tryz.prog w = .ok (.tuple #[.int .i64 0, .bool false]) w := by
  obtain ⟨i, e, z⟩ := Option.map_eq_some_iff.1 zero_var
  simp [Instr.typeAssert, run_underlying Tryz.underlying118, zeroValue, typeInfo, e, z]
theorem as28_loc (v : Value) (w : World) : (Instr.typeAssert (.iface 40 v) 20 40 true).run Tryz.prog w = .ok (.tuple #[v, .bool true]) w := by simp [Instr.typeAssert, run_underlying Tryz.underlying40]
theorem as28_loc_no (t : TypeId) (ht : t ≠ 40) (v : Value) (w : World) : (Instr.typeAssert (.iface t v) 20 40 true).run Tryz.prog w = .ok (.tuple #[.agg #[.bool false, .int .i64 0], .bool false]) w := by
  obtain ⟨i, e, z⟩ := Option.map_eq_some_iff.1 zero_loc
  simp [Instr.typeAssert, run_underlying Tryz.underlying40, ht, zeroValue, typeInfo, e, z]
theorem as28_loc_nil (w : World) : (Instr.typeAssert .nilIface 20 40 true).run Tryz.prog w = .ok (.tuple #[.agg #[.bool false, .int .i64 0], .bool false]) w := by
  obtain ⟨i, e, z⟩ := Option.map_eq_some_iff.1 zero_loc
  simp [Instr.typeAssert, run_underlying Tryz.underlying40, zeroValue, typeInfo, e, z]
theorem at_Pt {w : World} {S : Nat → Prop} {A : Option Addr} {n c : Nat} {xs : List Pt} (h : Sl w S A n c xs) {k : Nat} (hk : k < n) :
    ∃ b off, ∃ x : Pt, A = some ⟨b, off, none⟩ ∧ b < w.heap.size ∧ xs[k]? = some x ∧ PtIn x ∧ w.cell? ⟨b, off + k, none⟩ = some (ptV x) := by
  obtain ⟨b, off, x, us, e, hb, _, hx, hus, hc⟩ := h.at_ hk
  obtain ⟨rfl, h1⟩ := hus
  refine ⟨b, off, x, e, hb, hx, h1, ?_⟩
  have := hc 0 _ rfl
  simpa [Rep.size] using this
set_option maxRecDepth 100000 in
set_option maxHeartbeats 16000000 in
theorem words28_any (w : World) (S : Nat → Prop) (A : Option Addr) (n c : Nat) (ps : List Pt) (h : Sl w S A n c ps) (hn : n ≤ 1048576) (hv : VarsP w) :
    Calls Tryz.prog 69 #[.slice A n c] w (fun e w' => ∃ A' c', e = .returned (.slice A' n c') ∧ OwnL w' w.heap.size 9 (fun _ => False) (.slice A' n c') (ps.map ptB) ∧ ∃ u, w' = w.ext u) := by
  obtain ⟨i0, hi0, hz, hz1, hz2⟩ := info_parts info_str28
  have HI0 := hide hi0; have HZ := hide hz; have HZ1 := hide hz1; have HZ2 := hide hz2
  clear hi0 hz hz1 hz2
  have HS := hide h; have HV := hide hv; have HL := hide h.len
  have HG := hide hv.v.sz
  clear h hv
  go_enter Tryz.func69, Tryz.ntmps69
  go_wp2_with fail
  go_loopw [2, 12] (fun v i wr => ∃ (k : Nat) (Ao : Option Addr) (co : Nat), v = .slice Ao k co ∧ i = .int .i64 k ∧ k ≤ n ∧ OwnL wr w.heap.size 9 (fun _ => False) (.slice Ao k co) ((ps.take k).map ptB) ∧ Below w.heap.size w wr) (fun _ i _ => n - (intOf i).toNat)
  case atStart => exact ⟨0, none, 0, rfl, rfl, Nat.zero_le _, OwnL.nil_ _ _ _ _, Below.refl _ _⟩
  case round =>
    obtain ⟨k, Ao, co, rfl, rfl, hk, hown, hbw⟩ := hrel
    have HO := hide hown; have HB := hide hbw
    have hsz : w.heap.size ≤ wr.heap.size := hbw.size
    clear hown hbw
    by_cases hlt : k < n
    · obtain ⟨b, off, x, rfl, hb, hx, hix, c0⟩ := at_Pt (HS.out.belowAll HB.out) hlt
      have HTK := hide (show ((ps.take k).map ptB) ++ [ptB x] = (ps.take (k + 1)).map ptB by rw [List.take_add_one, hx]; simp)
      have HVW := hide (HV.out.below HB.out HG.out)
      have HD0 := hide (show ((ps.take k).map ptB).length = k by rw [List.length_map, List.length_take]; have := HS.out.len; omega)
      clear hx
      have hki : (k : Int) < n := by omega
      cases x with
      | str s =>
        have hix : s.size ≤ 1048576 := hix
        change wr.cell? _ = some (.iface 9 (.string s)) at c0
        obtain ⟨V, hV⟩ : ∃ V, wr = V := ⟨_, rfl⟩
        subst hV
        have HBV := hide (Below.refl wr.heap.size wr)
        have HTX := hide (show s = ptB (.str s) from rfl)
        have HTS := hide (show s.size ≤ maxLen by unfold maxLen; omega)
        go_wp2_with (first | (simp only [as28_str]) | (at_builtin; refine wpList_push (α := ByteArray) wr [.string s] 9 rfl (.tmp 20) (.tmp 22) 54 rfl w.heap.size 9 i0 _ 16 Tryz.underlying54 HI0.out HZ.out HZ1.out HZ2.out rfl (by decide) (fun _ => False) (fun _ => False) (.slice Ao k co) ((ps.take k).map ptB) s rfl (HO.out.keep HBV.out.size (fun _ hf => hf.elim) fun b hb => HBV.out.block b (HO.out.below_ b hb).2) wr.heap.size rfl rfl ⟨rfl, HTS.out⟩ (fun _ h => h) (fun _ _ h => h) (fun _ h => h.elim) (by rw [HD0.out]; omega) (by rw [HD0.out]; omega) (by have := HBV.out.size; omega) ?_; intro v' w' ho1 hgr h5; have HO1 := hide ho1; have HGR := hide hgr; clear ho1 hgr h5))
        obtain ⟨Av, cv, hv⟩ := HO1.out.form
        have hq := HO1.out
        rw [HTX.out, HTK.out] at hq
        have hl1 : ((ps.take (k + 1)).map ptB).length = k + 1 := by rw [List.length_map, List.length_take]; have := HS.out.len; omega
        obtain ⟨Av, cv, rfl⟩ := hq.form
        rw [hl1] at hq ⊢
        have HQ := hide hq
        have HBQ := hide (show Below w.heap.size w w' from ((HB.out.trans (HBV.out.mono hsz)).alloc (by have := HBV.out.size; omega) _).grown HGR.out (by have := HBV.out.size; simp; omega) (fun g e => (HO.out.below_ g e).1))
        clear hq hl1 hv
        go_roundw
        case rel => exact ⟨k + 1, Av, cv, rfl, by go_num, by omega, HQ.out, HBQ.out⟩
        case measure => simp [intOf]; omega
      | int m =>
        have hix : InI m := hix
        change wr.cell? _ = some (.iface 3 (.int .i64 m)) at c0
        have HIT := hide (fun (W : World) (hw : VarsP W) => itoaP_any (m) hix W hw)
        have hts := itoa28_sz (m) hix
        obtain ⟨ti, hti⟩ : ∃ t, itoaB (m) = t := ⟨_, rfl⟩
        rw [hti] at HIT hts
        have HTI := hide hti
        clear hti
        have HTX := hide (show ti = ptB (.int m) from HTI.out.symm)
        have HTS := hide (show ti.size ≤ maxLen by unfold maxLen; omega)
        go_wp2_with (first | (simp only [as28_str_no 3 (by decide), as28_int28]) | (go_at_call 102; (with_reducible refine (HIT.out _ HVW.out).mono ?_); rintro e V ⟨rfl, u1, hV⟩; have HBV := hide (show Below wr.heap.size wr V by rw [hV]; exact (Below.of_ext wr u1 (Nat.le_refl _))); clear hV) | (at_builtin; refine wpList_push (α := ByteArray) V [.string ti] 9 rfl (.tmp 27) (.tmp 30) 54 rfl w.heap.size 9 i0 _ 16 Tryz.underlying54 HI0.out HZ.out HZ1.out HZ2.out rfl (by decide) (fun _ => False) (fun _ => False) (.slice Ao k co) ((ps.take k).map ptB) ti rfl (HO.out.keep HBV.out.size (fun _ hf => hf.elim) fun b hb => HBV.out.block b (HO.out.below_ b hb).2) V.heap.size rfl rfl ⟨rfl, HTS.out⟩ (fun _ h => h) (fun _ _ h => h) (fun _ h => h.elim) (by rw [HD0.out]; omega) (by rw [HD0.out]; omega) (by have := HBV.out.size; omega) ?_; intro v' w' ho1 hgr h5; have HO1 := hide ho1; have HGR := hide hgr; clear ho1 hgr h5))
        obtain ⟨Av, cv, hv⟩ := HO1.out.form
        have hq := HO1.out
        rw [HTX.out, HTK.out] at hq
        have hl1 : ((ps.take (k + 1)).map ptB).length = k + 1 := by rw [List.length_map, List.length_take]; have := HS.out.len; omega
        obtain ⟨Av, cv, rfl⟩ := hq.form
        rw [hl1] at hq ⊢
        have HQ := hide hq
        have HBQ := hide (show Below w.heap.size w w' from ((HB.out.trans (HBV.out.mono hsz)).alloc (by have := HBV.out.size; omega) _).grown HGR.out (by have := HBV.out.size; simp; omega) (fun g e => (HO.out.below_ g e).1))
        clear hq hl1 hv
        go_roundw
        case rel => exact ⟨k + 1, Av, cv, rfl, by go_num, by omega, HQ.out, HBQ.out⟩
        case measure => simp [intOf]; omega
      | nm y =>
        cases y with
        | var m =>
          have hix : InI m := hix
          change wr.cell? _ = some (.iface 118 (.int .i64 m)) at c0
          by_cases hm : m < 0
          · have hmi : decide (m < 0) = true := by simpa using hm
            obtain ⟨q, hq⟩ : ∃ q, -1 - m = q := ⟨_, rfl⟩
            have hqi : InI q := by unfold InI at hix ⊢; omega
            have hqw : IntKind.i64.wrap q = q := IntWalk.i64_in _ (by unfold InI at hqi; omega)
            have HIT := hide (fun (W : World) (hw : VarsP W) => itoaP_any (q) hqi W hw)
            have hts := itoa28_sz (q) hqi
            obtain ⟨ti, hti⟩ : ∃ t, itoaB (q) = t := ⟨_, rfl⟩
            rw [hti] at HIT hts
            have HTI := hide hti
            clear hti
            have g1 : (⟨#[104]⟩ : ByteArray).size + ti.size ≤ 9223372036854775807 := by have : (⟨#[104]⟩ : ByteArray).size = 1 := rfl; omega
            have HTX := hide (show (⟨#[104]⟩ : ByteArray) ++ ti = ptB (.nm (.var m)) by unfold ptB; simp only; rw [if_pos hm, hq, HTI.out])
            have HTS := hide (show ((⟨#[104]⟩ : ByteArray) ++ ti).size ≤ maxLen by rw [ByteArray.size_append]; have : (⟨#[104]⟩ : ByteArray).size = 1 := rfl; unfold maxLen; omega)
            go_wp2_with (first | (simp only [as28_str_no 118 (by decide), as28_int28_no 118 (by decide), as28_var]) | (go_at_call 102; (with_reducible refine (HIT.out _ HVW.out).mono ?_); rintro e V ⟨rfl, u1, hV⟩; have HBV := hide (show Below wr.heap.size wr V by rw [hV]; exact (Below.of_ext wr u1 (Nat.le_refl _))); clear hV) | (at_builtin; refine wpList_push (α := ByteArray) V [.string (⟨#[104]⟩ ++ ti)] 9 rfl (.tmp 37) (.tmp 42) 54 rfl w.heap.size 9 i0 _ 16 Tryz.underlying54 HI0.out HZ.out HZ1.out HZ2.out rfl (by decide) (fun _ => False) (fun _ => False) (.slice Ao k co) ((ps.take k).map ptB) (⟨#[104]⟩ ++ ti) rfl (HO.out.keep HBV.out.size (fun _ hf => hf.elim) fun b hb => HBV.out.block b (HO.out.below_ b hb).2) V.heap.size rfl rfl ⟨rfl, HTS.out⟩ (fun _ h => h) (fun _ _ h => h) (fun _ h => h.elim) (by rw [HD0.out]; omega) (by rw [HD0.out]; omega) (by have := HBV.out.size; omega) ?_; intro v' w' ho1 hgr h5; have HO1 := hide ho1; have HGR := hide hgr; clear ho1 hgr h5))
            obtain ⟨Av, cv, hv⟩ := HO1.out.form
            have hq := HO1.out
            rw [HTX.out, HTK.out] at hq
            have hl1 : ((ps.take (k + 1)).map ptB).length = k + 1 := by rw [List.length_map, List.length_take]; have := HS.out.len; omega
            obtain ⟨Av, cv, rfl⟩ := hq.form
            rw [hl1] at hq ⊢
            have HQ := hide hq
            have HBQ := hide (show Below w.heap.size w w' from ((HB.out.trans (HBV.out.mono hsz)).alloc (by have := HBV.out.size; omega) _).grown HGR.out (by have := HBV.out.size; simp; omega) (fun g e => (HO.out.below_ g e).1))
            clear hq hl1 hv
            go_roundw
            case rel => exact ⟨k + 1, Av, cv, rfl, by go_num, by omega, HQ.out, HBQ.out⟩
            case measure => simp [intOf]; omega
          · have hmi : decide (m < 0) = false := by simpa using hm
            have HIT := hide (fun (W : World) (hw : VarsP W) => itoaP_any (m) hix W hw)
            have hts := itoa28_sz (m) hix
            obtain ⟨ti, hti⟩ : ∃ t, itoaB (m) = t := ⟨_, rfl⟩
            rw [hti] at HIT hts
            have HTI := hide hti
            clear hti
            have g1 : (⟨#[118]⟩ : ByteArray).size + ti.size ≤ 9223372036854775807 := by have : (⟨#[118]⟩ : ByteArray).size = 1 := rfl; omega
            have HTX := hide (show (⟨#[118]⟩ : ByteArray) ++ ti = ptB (.nm (.var m)) by unfold ptB; simp only; rw [if_neg hm, HTI.out])
            have HTS := hide (show ((⟨#[118]⟩ : ByteArray) ++ ti).size ≤ maxLen by rw [ByteArray.size_append]; have : (⟨#[118]⟩ : ByteArray).size = 1 := rfl; unfold maxLen; omega)
            go_wp2_with (first | (simp only [as28_str_no 118 (by decide), as28_int28_no 118 (by decide), as28_var]) | (go_at_call 102; (with_reducible refine (HIT.out _ HVW.out).mono ?_); rintro e V ⟨rfl, u1, hV⟩; have HBV := hide (show Below wr.heap.size wr V by rw [hV]; exact (Below.of_ext wr u1 (Nat.le_refl _))); clear hV) | (at_builtin; refine wpList_push (α := ByteArray) V [.string (⟨#[118]⟩ ++ ti)] 9 rfl (.tmp 44) (.tmp 48) 54 rfl w.heap.size 9 i0 _ 16 Tryz.underlying54 HI0.out HZ.out HZ1.out HZ2.out rfl (by decide) (fun _ => False) (fun _ => False) (.slice Ao k co) ((ps.take k).map ptB) (⟨#[118]⟩ ++ ti) rfl (HO.out.keep HBV.out.size (fun _ hf => hf.elim) fun b hb => HBV.out.block b (HO.out.below_ b hb).2) V.heap.size rfl rfl ⟨rfl, HTS.out⟩ (fun _ h => h) (fun _ _ h => h) (fun _ h => h.elim) (by rw [HD0.out]; omega) (by rw [HD0.out]; omega) (by have := HBV.out.size; omega) ?_; intro v' w' ho1 hgr h5; have HO1 := hide ho1; have HGR := hide hgr; clear ho1 hgr h5))
            obtain ⟨Av, cv, hv⟩ := HO1.out.form
            have hq := HO1.out
            rw [HTX.out, HTK.out] at hq
            have hl1 : ((ps.take (k + 1)).map ptB).length = k + 1 := by rw [List.length_map, List.length_take]; have := HS.out.len; omega
            obtain ⟨Av, cv, rfl⟩ := hq.form
            rw [hl1] at hq ⊢
            have HQ := hide hq
            have HBQ := hide (show Below w.heap.size w w' from ((HB.out.trans (HBV.out.mono hsz)).alloc (by have := HBV.out.size; omega) _).grown HGR.out (by have := HBV.out.size; simp; omega) (fun g e => (HO.out.below_ g e).1))
            clear hq hl1 hv
            go_roundw
            case rel => exact ⟨k + 1, Av, cv, rfl, by go_num, by omega, HQ.out, HBQ.out⟩
            case measure => simp [intOf]; omega
        | loc l =>
          obtain ⟨sl, m⟩ := l
          have hix : InI m := hix
          change wr.cell? _ = some (.iface 40 (.agg #[.bool sl, .int .i64 m])) at c0
          have HVA := hide (HVW.out.alloc (.cells #[.bool sl, .int .i64 m] 40))
          cases sl
          · skip
            have HIT := hide (fun (W : World) (hw : VarsP W) => itoaP_any (m) hix W hw)
            have hts := itoa28_sz (m) hix
            obtain ⟨ti, hti⟩ : ∃ t, itoaB (m) = t := ⟨_, rfl⟩
            rw [hti] at HIT hts
            have HTI := hide hti
            clear hti
            have g1 : (⟨#[114]⟩ : ByteArray).size + ti.size ≤ 9223372036854775807 := by have : (⟨#[114]⟩ : ByteArray).size = 1 := rfl; omega
            have HTX := hide (show (⟨#[114]⟩ : ByteArray) ++ ti = ptB (.nm (.loc ⟨false, m⟩)) by unfold ptB; simp only [Bool.false_eq_true, if_true, if_false]; rw [HTI.out])
            have HTS := hide (show ((⟨#[114]⟩ : ByteArray) ++ ti).size ≤ maxLen by rw [ByteArray.size_append]; have : (⟨#[114]⟩ : ByteArray).size = 1 := rfl; unfold maxLen; omega)
            go_wp2_with (first | (simp only [as28_str_no 40 (by decide), as28_int28_no 40 (by decide), as28_var_no 40 (by decide), as28_loc]) | (go_at_call 102; (with_reducible refine (HIT.out _ HVA.out).mono ?_); rintro e V ⟨rfl, u1, hV⟩; have HBV := hide (show Below wr.heap.size wr V by rw [hV]; exact ((Below.refl _ _).alloc (Nat.le_refl _) _).ext (by simp) u1); clear hV) | (at_builtin; refine wpList_push (α := ByteArray) V [.string (⟨#[114]⟩ ++ ti)] 9 rfl (.tmp 55) (.tmp 61) 54 rfl w.heap.size 9 i0 _ 16 Tryz.underlying54 HI0.out HZ.out HZ1.out HZ2.out rfl (by decide) (fun _ => False) (fun _ => False) (.slice Ao k co) ((ps.take k).map ptB) (⟨#[114]⟩ ++ ti) rfl (HO.out.keep HBV.out.size (fun _ hf => hf.elim) fun b hb => HBV.out.block b (HO.out.below_ b hb).2) V.heap.size rfl rfl ⟨rfl, HTS.out⟩ (fun _ h => h) (fun _ _ h => h) (fun _ h => h.elim) (by rw [HD0.out]; omega) (by rw [HD0.out]; omega) (by have := HBV.out.size; omega) ?_; intro v' w' ho1 hgr h5; have HO1 := hide ho1; have HGR := hide hgr; clear ho1 hgr h5))
            obtain ⟨Av, cv, hv⟩ := HO1.out.form
            have hq := HO1.out
            rw [HTX.out, HTK.out] at hq
            have hl1 : ((ps.take (k + 1)).map ptB).length = k + 1 := by rw [List.length_map, List.length_take]; have := HS.out.len; omega
            obtain ⟨Av, cv, rfl⟩ := hq.form
            rw [hl1] at hq ⊢
            have HQ := hide hq
            have HBQ := hide (show Below w.heap.size w w' from ((HB.out.trans (HBV.out.mono hsz)).alloc (by have := HBV.out.size; omega) _).grown HGR.out (by have := HBV.out.size; simp; omega) (fun g e => (HO.out.below_ g e).1))
            clear hq hl1 hv
            go_roundw
            case rel => exact ⟨k + 1, Av, cv, rfl, by go_num, by omega, HQ.out, HBQ.out⟩
            case measure => simp [intOf]; omega
          · skip
            have HIT := hide (fun (W : World) (hw : VarsP W) => itoaP_any (m) hix W hw)
            have hts := itoa28_sz (m) hix
            obtain ⟨ti, hti⟩ : ∃ t, itoaB (m) = t := ⟨_, rfl⟩
            rw [hti] at HIT hts
            have HTI := hide hti
            clear hti
            have g1 : (⟨#[115]⟩ : ByteArray).size + ti.size ≤ 9223372036854775807 := by have : (⟨#[115]⟩ : ByteArray).size = 1 := rfl; omega
            have HTX := hide (show (⟨#[115]⟩ : ByteArray) ++ ti = ptB (.nm (.loc ⟨true, m⟩)) by unfold ptB; simp only [Bool.false_eq_true, if_true, if_false]; rw [HTI.out])
            have HTS := hide (show ((⟨#[115]⟩ : ByteArray) ++ ti).size ≤ maxLen by rw [ByteArray.size_append]; have : (⟨#[115]⟩ : ByteArray).size = 1 := rfl; unfold maxLen; omega)
            go_wp2_with (first | (simp only [as28_str_no 40 (by decide), as28_int28_no 40 (by decide), as28_var_no 40 (by decide), as28_loc]) | (go_at_call 102; (with_reducible refine (HIT.out _ HVA.out).mono ?_); rintro e V ⟨rfl, u1, hV⟩; have HBV := hide (show Below wr.heap.size wr V by rw [hV]; exact ((Below.refl _ _).alloc (Nat.le_refl _) _).ext (by simp) u1); clear hV) | (at_builtin; refine wpList_push (α := ByteArray) V [.string (⟨#[115]⟩ ++ ti)] 9 rfl (.tmp 55) (.tmp 61) 54 rfl w.heap.size 9 i0 _ 16 Tryz.underlying54 HI0.out HZ.out HZ1.out HZ2.out rfl (by decide) (fun _ => False) (fun _ => False) (.slice Ao k co) ((ps.take k).map ptB) (⟨#[115]⟩ ++ ti) rfl (HO.out.keep HBV.out.size (fun _ hf => hf.elim) fun b hb => HBV.out.block b (HO.out.below_ b hb).2) V.heap.size rfl rfl ⟨rfl, HTS.out⟩ (fun _ h => h) (fun _ _ h => h) (fun _ h => h.elim) (by rw [HD0.out]; omega) (by rw [HD0.out]; omega) (by have := HBV.out.size; omega) ?_; intro v' w' ho1 hgr h5; have HO1 := hide ho1; have HGR := hide hgr; clear ho1 hgr h5))
            obtain ⟨Av, cv, hv⟩ := HO1.out.form
            have hq := HO1.out
            rw [HTX.out, HTK.out] at hq
            have hl1 : ((ps.take (k + 1)).map ptB).length = k + 1 := by rw [List.length_map, List.length_take]; have := HS.out.len; omega
            obtain ⟨Av, cv, rfl⟩ := hq.form
            rw [hl1] at hq ⊢
            have HQ := hide hq
            have HBQ := hide (show Below w.heap.size w w' from ((HB.out.trans (HBV.out.mono hsz)).alloc (by have := HBV.out.size; omega) _).grown HGR.out (by have := HBV.out.size; simp; omega) (fun g e => (HO.out.below_ g e).1))
            clear hq hl1 hv
            go_roundw
            case rel => exact ⟨k + 1, Av, cv, rfl, by go_num, by omega, HQ.out, HBQ.out⟩
            case measure => simp [intOf]; omega
    · have hkn : k = n := by omega
      subst hkn
      have hlk : (ps.take k) = ps := List.take_of_length_le (by rw [HL.out]; exact Nat.le_refl _)
      rw [hlk] at HO
      go_wp2_with fail
      go_ret
      exact ⟨Ao, co, rfl, HO.out, HB.out.to_ext⟩
end Go.Proofs.YtppkanniefignaaGreatDoor
