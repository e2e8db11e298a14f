/- law28: walks: parts as they are written. Printed by gen_c4.py. law28: walks: what words name, as a map. Printed by gen_c5.py. -/
import Derived.Test.YtppkanniefignaaGreatDoorG22
import Derived.Test.YtppkanniefignaaGreatDoorG46
import Derived.Test.YtppkanniefignaaGreatDoorG10
import Derived.Test.YtppkanniefignaaGreatDoorG35
import Derived.Test.YtppkanniefignaaGreatDoorG2
import Derived.Lib.ItoaLen
set_option linter.unusedSimpArgs false
set_option linter.unusedVariables false
namespace Go.Proofs.YtppkanniefignaaGreatDoor
open Go.RowKit Go.Maps
theorem itoa28_sz (n : Int) (h : InI n) : (itoaB n).size ≤ 21 := by
 have := Lib.itoa_length_le n h.1 h.2
 unfold itoaB
 show (Lib.itoa n).toArray.size ≤ 21
 simpa using this
theorem info_str28 : (Tryz.prog.info? 9).map (fun i => (i.zero, i.size, i.bytes)) = some (some (.string ⟨#[]⟩), 1, 16) := by kernel_rfl
theorem zero_str : (Tryz.prog.info? 9).map (·.zero) = some (some (.string ⟨#[]⟩)) := by kernel_rfl
theorem zero_int28 : (Tryz.prog.info? 3).map (·.zero) = some (some (.int .i64 0)) := by kernel_rfl
theorem zero_var : (Tryz.prog.info? 118).map (·.zero) = some (some (.int .i64 0)) := by kernel_rfl
theorem zero_loc : (Tryz.prog.info? 40).map (·.zero) = some (some (.agg #[.bool false, .int .i64 0])) := by kernel_rfl
theorem as28_str (v : Value) (w : World) : (Instr.typeAssert (.iface 9 v) 20 9 true).run Tryz.prog w = .ok (.tuple #[v, .bool true]) w := by simp [Instr.typeAssert, run_underlying Tryz.underlying9]
theorem as28_str_no (t : TypeId) (ht : t ≠ 9) (v : Value) (w : World) : (Instr.typeAssert (.iface t v) 20 9 true).run Tryz.prog w = .ok (.tuple #[.string ⟨#[]⟩, .bool false]) w := by
 obtain ⟨i, e, z⟩ := Option.map_eq_some_iff.1 zero_str
 simp [Instr.typeAssert, run_underlying Tryz.underlying9, ht, zeroValue, typeInfo, e, z]
theorem as28_int28 (v : Value) (w : World) : (Instr.typeAssert (.iface 3 v) 20 3 true).run Tryz.prog w = .ok (.tuple #[v, .bool true]) w := by simp [Instr.typeAssert, run_underlying Tryz.underlying3]
theorem as28_int28_no (t : TypeId) (ht : t ≠ 3) (v : Value) (w : World) : (Instr.typeAssert (.iface t v) 20 3 true).run Tryz.prog w = .ok (.tuple #[.int .i64 0, .bool false]) w := by
 obtain ⟨i, e, z⟩ := Option.map_eq_some_iff.1 zero_int28
 simp [Instr.typeAssert, run_underlying Tryz.underlying3, ht, zeroValue, typeInfo, e, z]
theorem as28_var (v : Value) (w : World) : (Instr.typeAssert (.iface 118 v) 20 118 true).run Tryz.prog w = .ok (.tuple #[v, .bool true]) w := by simp [Instr.typeAssert, run_underlying Tryz.underlying118]
theorem as28_var_no (t : TypeId) (ht : t ≠ 118) (v : Value) (w : World) : (Instr.typeAssert (.iface t v) 20 118 true).run Tryz.prog w = .ok (.tuple #[.int .i64 0, .bool false]) w := by
 obtain ⟨i, e, z⟩ := Option.map_eq_some_iff.1 zero_var
 simp [Instr.typeAssert, run_underlying Tryz.underlying118, ht, zeroValue, typeInfo, e, z]
theorem as28_var_nil (w : World) : (Instr.typeAssert .nilIface 20 118 true).run Tryz.prog w = .ok (.tuple #[.int .i64 0, .bool false]) w := by
 obtain ⟨i, e, z⟩ := Option.map_eq_some_iff.1 zero_var
 simp [Instr.typeAssert, run_underlying Tryz.underlying118, zeroValue, typeInfo, e, z]
theorem as28_loc (v : Value) (w : World) : (Instr.typeAssert (.iface 40 v) 20 40 true).run Tryz.prog w = .ok (.tuple #[v, .bool true]) w := by simp [Instr.typeAssert, run_underlying Tryz.underlying40]
theorem as28_loc_no (t : TypeId) (ht : t ≠ 40) (v : Value) (w : World) : (Instr.typeAssert (.iface t v) 20 40 true).run Tryz.prog w = .ok (.tuple #[.agg #[.bool false, .int .i64 0], .bool false]) w := by
 obtain ⟨i, e, z⟩ := Option.map_eq_some_iff.1 zero_loc
 simp [Instr.typeAssert, run_underlying Tryz.underlying40, ht, zeroValue, typeInfo, e, z]
theorem as28_loc_nil (w : World) : (Instr.typeAssert .nilIface 20 40 true).run Tryz.prog w = .ok (.tuple #[.agg #[.bool false, .int .i64 0], .bool false]) w := by
 obtain ⟨i, e, z⟩ := Option.map_eq_some_iff.1 zero_loc
 simp [Instr.typeAssert, run_underlying Tryz.underlying40, zeroValue, typeInfo, e, z]
theorem at_Pt {w : World} {S : Nat → Prop} {A : Option Addr} {n c : Nat} {xs : List Pt} (h : Sl w S A n c xs) {k : Nat} (hk : k < n) :
  ∃ b off, ∃ x : Pt, A = some ⟨b, off, none⟩ ∧ b < w.heap.size ∧ xs[k]? = some x ∧ PtIn x ∧ w.cell? ⟨b, off + k, none⟩ = some (ptV x) := by
 obtain ⟨b, off, x, us, e, hb, _, hx, hus, hc⟩ := h.at_ hk
 obtain ⟨rfl, h1⟩ := hus
 refine ⟨b, off, x, e, hb, hx, h1, ?_⟩
 have := hc 0 _ rfl
 simpa [Rep.size] using this
set_option maxRecDepth 100000 in
set_option maxHeartbeats 16000000 in
theorem words28_any (w : World) (S : Nat → Prop) (A : Option Addr) (n c : Nat) (ps : List Pt) (h : Sl w S A n c ps) (hn : n ≤ 1048576) (hv : VarsP w) :
  Calls Tryz.prog 69 #[.slice A n c] w (fun e w' => ∃ A' c', e = .returned (.slice A' n c') ∧ OwnL w' w.heap.size 9 (fun _ => False) (.slice A' n c') (ps.map ptB) ∧ ∃ u, w' = w.ext u) := by
 obtain ⟨i0, hi0, hz, hz1, hz2⟩ := info_parts info_str28
 have HI0 := hide hi0; have HZ := hide hz; have HZ1 := hide hz1; have HZ2 := hide hz2
 clear hi0 hz hz1 hz2
 have HS := hide h; have HV := hide hv; have HL := hide h.len
 have HG := hide hv.v.sz
 clear h hv
 go_enter Tryz.func69, Tryz.ntmps69
 go_wp2_with fail
 go_loopw [2, 12] (fun v i wr => ∃ (k : Nat) (Ao : Option Addr) (co : Nat), v = .slice Ao k co ∧ i = .int .i64 k ∧ k ≤ n ∧ OwnL wr w.heap.size 9 (fun _ => False) (.slice Ao k co) ((ps.take k).map ptB) ∧ Below w.heap.size w wr) (fun _ i _ => n - (intOf i).toNat)
 case atStart => exact ⟨0, none, 0, rfl, rfl, Nat.zero_le _, OwnL.nil_ _ _ _ _, Below.refl _ _⟩
 case round =>
  obtain ⟨k, Ao, co, rfl, rfl, hk, hown, hbw⟩ := hrel
  have HO := hide hown; have HB := hide hbw
  have hsz : w.heap.size ≤ wr.heap.size := hbw.size
  clear hown hbw
  by_cases hlt : k < n
  ·obtain ⟨b, off, x, rfl, hb, hx, hix, c0⟩ := at_Pt (HS.out.belowAll HB.out) hlt
   have HTK := hide (show ((ps.take k).map ptB) ++ [ptB x] = (ps.take (k + 1)).map ptB by rw [List.take_add_one, hx]; simp)
   have HVW := hide (HV.out.below HB.out HG.out)
   have HD0 := hide (show ((ps.take k).map ptB).length = k by rw [List.length_map, List.length_take]; have := HS.out.len; omega)
   clear hx
   have hki : (k : Int) < n := by omega
   cases x with
   | str s =>
    have hix : s.size ≤ 1048576 := hix
    change wr.cell? _ = some (.iface 9 (.string s)) at c0
    obtain ⟨V, hV⟩ : ∃ V, wr = V := ⟨_, rfl⟩
    subst hV
    have HBV := hide (Below.refl wr.heap.size wr)
    have HTX := hide (show s = ptB (.str s) from rfl)
    have HTS := hide (show s.size ≤ maxLen by unfold maxLen; omega)
    go_wp2_with (first | (simp only [as28_str]) | (at_builtin; refine wpList_push (α := ByteArray) wr [.string s] 9 rfl (.tmp 20) (.tmp 22) 54 rfl w.heap.size 9 i0 _ 16 Tryz.underlying54 HI0.out HZ.out HZ1.out HZ2.out rfl (by decide) (fun _ => False) (fun _ => False) (.slice Ao k co) ((ps.take k).map ptB) s rfl (HO.out.keep HBV.out.size (fun _ hf => hf.elim) fun b hb => HBV.out.block b (HO.out.below_ b hb).2) wr.heap.size rfl rfl ⟨rfl, HTS.out⟩ (fun _ h => h) (fun _ _ h => h) (fun _ h => h.elim) (by rw [HD0.out]; omega) (by rw [HD0.out]; omega) (by have := HBV.out.size; omega) ?_; intro v' w' ho1 hgr h5; have HO1 := hide ho1; have HGR := hide hgr; clear ho1 hgr h5))
    obtain ⟨Av, cv, hv⟩ := HO1.out.form
    have hq := HO1.out
    rw [HTX.out, HTK.out] at hq
    have hl1 : ((ps.take (k + 1)).map ptB).length = k + 1 := by rw [List.length_map, List.length_take]; have := HS.out.len; omega
    obtain ⟨Av, cv, rfl⟩ := hq.form
    rw [hl1] at hq ⊢
    have HQ := hide hq
    have HBQ := hide (show Below w.heap.size w w' from ((HB.out.trans (HBV.out.mono hsz)).alloc (by have := HBV.out.size; omega) _).grown HGR.out (by have := HBV.out.size; simp; omega) (fun g e => (HO.out.below_ g e).1))
    clear hq hl1 hv
    go_roundw
    case rel => exact ⟨k + 1, Av, cv, rfl, by go_num, by omega, HQ.out, HBQ.out⟩
    case measure => simp [intOf]; omega
   | int m =>
    have hix : InI m := hix
    change wr.cell? _ = some (.iface 3 (.int .i64 m)) at c0
    have HIT := hide (fun (W : World) (hw : VarsP W) => itoaP_any (m) hix W hw)
    have hts := itoa28_sz (m) hix
    obtain ⟨ti, hti⟩ : ∃ t, itoaB (m) = t := ⟨_, rfl⟩
    rw [hti] at HIT hts
    have HTI := hide hti
    clear hti
    have HTX := hide (show ti = ptB (.int m) from HTI.out.symm)
    have HTS := hide (show ti.size ≤ maxLen by unfold maxLen; omega)
    go_wp2_with (first | (simp only [as28_str_no 3 (by decide), as28_int28]) | (go_at_call 102; (with_reducible refine (HIT.out _ HVW.out).mono ?_); rintro e V ⟨rfl, u1, hV⟩; have HBV := hide (show Below wr.heap.size wr V by rw [hV]; exact (Below.of_ext wr u1 (Nat.le_refl _))); clear hV) | (at_builtin; refine wpList_push (α := ByteArray) V [.string ti] 9 rfl (.tmp 27) (.tmp 30) 54 rfl w.heap.size 9 i0 _ 16 Tryz.underlying54 HI0.out HZ.out HZ1.out HZ2.out rfl (by decide) (fun _ => False) (fun _ => False) (.slice Ao k co) ((ps.take k).map ptB) ti rfl (HO.out.keep HBV.out.size (fun _ hf => hf.elim) fun b hb => HBV.out.block b (HO.out.below_ b hb).2) V.heap.size rfl rfl ⟨rfl, HTS.out⟩ (fun _ h => h) (fun _ _ h => h) (fun _ h => h.elim) (by rw [HD0.out]; omega) (by rw [HD0.out]; omega) (by have := HBV.out.size; omega) ?_; intro v' w' ho1 hgr h5; have HO1 := hide ho1; have HGR := hide hgr; clear ho1 hgr h5))
    obtain ⟨Av, cv, hv⟩ := HO1.out.form
    have hq := HO1.out
    rw [HTX.out, HTK.out] at hq
    have hl1 : ((ps.take (k + 1)).map ptB).length = k + 1 := by rw [List.length_map, List.length_take]; have := HS.out.len; omega
    obtain ⟨Av, cv, rfl⟩ := hq.form
    rw [hl1] at hq ⊢
    have HQ := hide hq
    have HBQ := hide (show Below w.heap.size w w' from ((HB.out.trans (HBV.out.mono hsz)).alloc (by have := HBV.out.size; omega) _).grown HGR.out (by have := HBV.out.size; simp; omega) (fun g e => (HO.out.below_ g e).1))
    clear hq hl1 hv
    go_roundw
    case rel => exact ⟨k + 1, Av, cv, rfl, by go_num, by omega, HQ.out, HBQ.out⟩
    case measure => simp [intOf]; omega
   | nm y =>
    cases y with
    | var m =>
     have hix : InI m := hix
     change wr.cell? _ = some (.iface 118 (.int .i64 m)) at c0
     by_cases hm : m < 0
     ·have hmi : decide (m < 0) = true := by simpa using hm
      obtain ⟨q, hq⟩ : ∃ q, -1 - m = q := ⟨_, rfl⟩
      have hqi : InI q := by unfold InI at hix ⊢; omega
      have hqw : IntKind.i64.wrap q = q := IntWalk.i64_in _ (by unfold InI at hqi; omega)
      have HIT := hide (fun (W : World) (hw : VarsP W) => itoaP_any (q) hqi W hw)
      have hts := itoa28_sz (q) hqi
      obtain ⟨ti, hti⟩ : ∃ t, itoaB (q) = t := ⟨_, rfl⟩
      rw [hti] at HIT hts
      have HTI := hide hti
      clear hti
      have g1 : (⟨#[104]⟩ : ByteArray).size + ti.size ≤ 9223372036854775807 := by have : (⟨#[104]⟩ : ByteArray).size = 1 := rfl; omega
      have HTX := hide (show (⟨#[104]⟩ : ByteArray) ++ ti = ptB (.nm (.var m)) by unfold ptB; simp only; rw [if_pos hm, hq, HTI.out])
      have HTS := hide (show ((⟨#[104]⟩ : ByteArray) ++ ti).size ≤ maxLen by rw [ByteArray.size_append]; have : (⟨#[104]⟩ : ByteArray).size = 1 := rfl; unfold maxLen; omega)
      go_wp2_with (first | (simp only [as28_str_no 118 (by decide), as28_int28_no 118 (by decide), as28_var]) | (go_at_call 102; (with_reducible refine (HIT.out _ HVW.out).mono ?_); rintro e V ⟨rfl, u1, hV⟩; have HBV := hide (show Below wr.heap.size wr V by rw [hV]; exact (Below.of_ext wr u1 (Nat.le_refl _))); clear hV) | (at_builtin; refine wpList_push (α := ByteArray) V [.string (⟨#[104]⟩ ++ ti)] 9 rfl (.tmp 37) (.tmp 42) 54 rfl w.heap.size 9 i0 _ 16 Tryz.underlying54 HI0.out HZ.out HZ1.out HZ2.out rfl (by decide) (fun _ => False) (fun _ => False) (.slice Ao k co) ((ps.take k).map ptB) (⟨#[104]⟩ ++ ti) rfl (HO.out.keep HBV.out.size (fun _ hf => hf.elim) fun b hb => HBV.out.block b (HO.out.below_ b hb).2) V.heap.size rfl rfl ⟨rfl, HTS.out⟩ (fun _ h => h) (fun _ _ h => h) (fun _ h => h.elim) (by rw [HD0.out]; omega) (by rw [HD0.out]; omega) (by have := HBV.out.size; omega) ?_; intro v' w' ho1 hgr h5; have HO1 := hide ho1; have HGR := hide hgr; clear ho1 hgr h5))
      obtain ⟨Av, cv, hv⟩ := HO1.out.form
      have hq := HO1.out
      rw [HTX.out, HTK.out] at hq
      have hl1 : ((ps.take (k + 1)).map ptB).length = k + 1 := by rw [List.length_map, List.length_take]; have := HS.out.len; omega
      obtain ⟨Av, cv, rfl⟩ := hq.form
      rw [hl1] at hq ⊢
      have HQ := hide hq
      have HBQ := hide (show Below w.heap.size w w' from ((HB.out.trans (HBV.out.mono hsz)).alloc (by have := HBV.out.size; omega) _).grown HGR.out (by have := HBV.out.size; simp; omega) (fun g e => (HO.out.below_ g e).1))
      clear hq hl1 hv
      go_roundw
      case rel => exact ⟨k + 1, Av, cv, rfl, by go_num, by omega, HQ.out, HBQ.out⟩
      case measure => simp [intOf]; omega
     ·have hmi : decide (m < 0) = false := by simpa using hm
      have HIT := hide (fun (W : World) (hw : VarsP W) => itoaP_any (m) hix W hw)
      have hts := itoa28_sz (m) hix
      obtain ⟨ti, hti⟩ : ∃ t, itoaB (m) = t := ⟨_, rfl⟩
      rw [hti] at HIT hts
      have HTI := hide hti
      clear hti
      have g1 : (⟨#[118]⟩ : ByteArray).size + ti.size ≤ 9223372036854775807 := by have : (⟨#[118]⟩ : ByteArray).size = 1 := rfl; omega
      have HTX := hide (show (⟨#[118]⟩ : ByteArray) ++ ti = ptB (.nm (.var m)) by unfold ptB; simp only; rw [if_neg hm, HTI.out])
      have HTS := hide (show ((⟨#[118]⟩ : ByteArray) ++ ti).size ≤ maxLen by rw [ByteArray.size_append]; have : (⟨#[118]⟩ : ByteArray).size = 1 := rfl; unfold maxLen; omega)
      go_wp2_with (first | (simp only [as28_str_no 118 (by decide), as28_int28_no 118 (by decide), as28_var]) | (go_at_call 102; (with_reducible refine (HIT.out _ HVW.out).mono ?_); rintro e V ⟨rfl, u1, hV⟩; have HBV := hide (show Below wr.heap.size wr V by rw [hV]; exact (Below.of_ext wr u1 (Nat.le_refl _))); clear hV) | (at_builtin; refine wpList_push (α := ByteArray) V [.string (⟨#[118]⟩ ++ ti)] 9 rfl (.tmp 44) (.tmp 48) 54 rfl w.heap.size 9 i0 _ 16 Tryz.underlying54 HI0.out HZ.out HZ1.out HZ2.out rfl (by decide) (fun _ => False) (fun _ => False) (.slice Ao k co) ((ps.take k).map ptB) (⟨#[118]⟩ ++ ti) rfl (HO.out.keep HBV.out.size (fun _ hf => hf.elim) fun b hb => HBV.out.block b (HO.out.below_ b hb).2) V.heap.size rfl rfl ⟨rfl, HTS.out⟩ (fun _ h => h) (fun _ _ h => h) (fun _ h => h.elim) (by rw [HD0.out]; omega) (by rw [HD0.out]; omega) (by have := HBV.out.size; omega) ?_; intro v' w' ho1 hgr h5; have HO1 := hide ho1; have HGR := hide hgr; clear ho1 hgr h5))
      obtain ⟨Av, cv, hv⟩ := HO1.out.form
      have hq := HO1.out
      rw [HTX.out, HTK.out] at hq
      have hl1 : ((ps.take (k + 1)).map ptB).length = k + 1 := by rw [List.length_map, List.length_take]; have := HS.out.len; omega
      obtain ⟨Av, cv, rfl⟩ := hq.form
      rw [hl1] at hq ⊢
      have HQ := hide hq
      have HBQ := hide (show Below w.heap.size w w' from ((HB.out.trans (HBV.out.mono hsz)).alloc (by have := HBV.out.size; omega) _).grown HGR.out (by have := HBV.out.size; simp; omega) (fun g e => (HO.out.below_ g e).1))
      clear hq hl1 hv
      go_roundw
      case rel => exact ⟨k + 1, Av, cv, rfl, by go_num, by omega, HQ.out, HBQ.out⟩
      case measure => simp [intOf]; omega
    | loc l =>
     obtain ⟨sl, m⟩ := l
     have hix : InI m := hix
     change wr.cell? _ = some (.iface 40 (.agg #[.bool sl, .int .i64 m])) at c0
     have HVA := hide (HVW.out.alloc (.cells #[.bool sl, .int .i64 m] 40))
     cases sl
     ·skip
      have HIT := hide (fun (W : World) (hw : VarsP W) => itoaP_any (m) hix W hw)
      have hts := itoa28_sz (m) hix
      obtain ⟨ti, hti⟩ : ∃ t, itoaB (m) = t := ⟨_, rfl⟩
      rw [hti] at HIT hts
      have HTI := hide hti
      clear hti
      have g1 : (⟨#[114]⟩ : ByteArray).size + ti.size ≤ 9223372036854775807 := by have : (⟨#[114]⟩ : ByteArray).size = 1 := rfl; omega
      have HTX := hide (show (⟨#[114]⟩ : ByteArray) ++ ti = ptB (.nm (.loc ⟨false, m⟩)) by unfold ptB; simp only [Bool.false_eq_true, if_true, if_false]; rw [HTI.out])
      have HTS := hide (show ((⟨#[114]⟩ : ByteArray) ++ ti).size ≤ maxLen by rw [ByteArray.size_append]; have : (⟨#[114]⟩ : ByteArray).size = 1 := rfl; unfold maxLen; omega)
      go_wp2_with (first | (simp only [as28_str_no 40 (by decide), as28_int28_no 40 (by decide), as28_var_no 40 (by decide), as28_loc]) | (go_at_call 102; (with_reducible refine (HIT.out _ HVA.out).mono ?_); rintro e V ⟨rfl, u1, hV⟩; have HBV := hide (show Below wr.heap.size wr V by rw [hV]; exact ((Below.refl _ _).alloc (Nat.le_refl _) _).ext (by simp) u1); clear hV) | (at_builtin; refine wpList_push (α := ByteArray) V [.string (⟨#[114]⟩ ++ ti)] 9 rfl (.tmp 55) (.tmp 61) 54 rfl w.heap.size 9 i0 _ 16 Tryz.underlying54 HI0.out HZ.out HZ1.out HZ2.out rfl (by decide) (fun _ => False) (fun _ => False) (.slice Ao k co) ((ps.take k).map ptB) (⟨#[114]⟩ ++ ti) rfl (HO.out.keep HBV.out.size (fun _ hf => hf.elim) fun b hb => HBV.out.block b (HO.out.below_ b hb).2) V.heap.size rfl rfl ⟨rfl, HTS.out⟩ (fun _ h => h) (fun _ _ h => h) (fun _ h => h.elim) (by rw [HD0.out]; omega) (by rw [HD0.out]; omega) (by have := HBV.out.size; omega) ?_; intro v' w' ho1 hgr h5; have HO1 := hide ho1; have HGR := hide hgr; clear ho1 hgr h5))
      obtain ⟨Av, cv, hv⟩ := HO1.out.form
      have hq := HO1.out
      rw [HTX.out, HTK.out] at hq
      have hl1 : ((ps.take (k + 1)).map ptB).length = k + 1 := by rw [List.length_map, List.length_take]; have := HS.out.len; omega
      obtain ⟨Av, cv, rfl⟩ := hq.form
      rw [hl1] at hq ⊢
      have HQ := hide hq
      have HBQ := hide (show Below w.heap.size w w' from ((HB.out.trans (HBV.out.mono hsz)).alloc (by have := HBV.out.size; omega) _).grown HGR.out (by have := HBV.out.size; simp; omega) (fun g e => (HO.out.below_ g e).1))
      clear hq hl1 hv
      go_roundw
      case rel => exact ⟨k + 1, Av, cv, rfl, by go_num, by omega, HQ.out, HBQ.out⟩
      case measure => simp [intOf]; omega
     ·skip
      have HIT := hide (fun (W : World) (hw : VarsP W) => itoaP_any (m) hix W hw)
      have hts := itoa28_sz (m) hix
      obtain ⟨ti, hti⟩ : ∃ t, itoaB (m) = t := ⟨_, rfl⟩
      rw [hti] at HIT hts
      have HTI := hide hti
      clear hti
      have g1 : (⟨#[115]⟩ : ByteArray).size + ti.size ≤ 9223372036854775807 := by have : (⟨#[115]⟩ : ByteArray).size = 1 := rfl; omega
      have HTX := hide (show (⟨#[115]⟩ : ByteArray) ++ ti = ptB (.nm (.loc ⟨true, m⟩)) by unfold ptB; simp only [Bool.false_eq_true, if_true, if_false]; rw [HTI.out])
      have HTS := hide (show ((⟨#[115]⟩ : ByteArray) ++ ti).size ≤ maxLen by rw [ByteArray.size_append]; have : (⟨#[115]⟩ : ByteArray).size = 1 := rfl; unfold maxLen; omega)
      go_wp2_with (first | (simp only [as28_str_no 40 (by decide), as28_int28_no 40 (by decide), as28_var_no 40 (by decide), as28_loc]) | (go_at_call 102; (with_reducible refine (HIT.out _ HVA.out).mono ?_); rintro e V ⟨rfl, u1, hV⟩; have HBV := hide (show Below wr.heap.size wr V by rw [hV]; exact ((Below.refl _ _).alloc (Nat.le_refl _) _).ext (by simp) u1); clear hV) | (at_builtin; refine wpList_push (α := ByteArray) V [.string (⟨#[115]⟩ ++ ti)] 9 rfl (.tmp 55) (.tmp 61) 54 rfl w.heap.size 9 i0 _ 16 Tryz.underlying54 HI0.out HZ.out HZ1.out HZ2.out rfl (by decide) (fun _ => False) (fun _ => False) (.slice Ao k co) ((ps.take k).map ptB) (⟨#[115]⟩ ++ ti) rfl (HO.out.keep HBV.out.size (fun _ hf => hf.elim) fun b hb => HBV.out.block b (HO.out.below_ b hb).2) V.heap.size rfl rfl ⟨rfl, HTS.out⟩ (fun _ h => h) (fun _ _ h => h) (fun _ h => h.elim) (by rw [HD0.out]; omega) (by rw [HD0.out]; omega) (by have := HBV.out.size; omega) ?_; intro v' w' ho1 hgr h5; have HO1 := hide ho1; have HGR := hide hgr; clear ho1 hgr h5))
      obtain ⟨Av, cv, hv⟩ := HO1.out.form
      have hq := HO1.out
      rw [HTX.out, HTK.out] at hq
      have hl1 : ((ps.take (k + 1)).map ptB).length = k + 1 := by rw [List.length_map, List.length_take]; have := HS.out.len; omega
      obtain ⟨Av, cv, rfl⟩ := hq.form
      rw [hl1] at hq ⊢
      have HQ := hide hq
      have HBQ := hide (show Below w.heap.size w w' from ((HB.out.trans (HBV.out.mono hsz)).alloc (by have := HBV.out.size; omega) _).grown HGR.out (by have := HBV.out.size; simp; omega) (fun g e => (HO.out.below_ g e).1))
      clear hq hl1 hv
      go_roundw
      case rel => exact ⟨k + 1, Av, cv, rfl, by go_num, by omega, HQ.out, HBQ.out⟩
      case measure => simp [intOf]; omega
  ·have hkn : k = n := by omega
   subst hkn
   have hlk : (ps.take k) = ps := List.take_of_length_le (by rw [HL.out]; exact Nat.le_refl _)
   rw [hlk] at HO
   go_wp2_with fail
   go_ret
   exact ⟨Ao, co, rfl, HO.out, HB.out.to_ext⟩
end Go.Proofs.YtppkanniefignaaGreatDoor
namespace Go.Proofs.YtppkanniefignaaGreatDoor
open Go.RowKit Go.Maps
def PtrS (s : ByteArray) : Post := fun v w => ∃ b off, v = .pointer (some ⟨b, off, none⟩) ∧ b < w.heap.size ∧ w.cell? ⟨b, off, none⟩ = some (.string s)
theorem PtrS.stable_ {F : World → Prop} {s : ByteArray} {mem : Bool} (hm : mem = true) : stable F mem (PtrS s) :=
 stable_mem hm fun _ w u ⟨b, off, hv, hb, hc⟩ => ⟨b, off, hv, by rw [size_ext]; omega, (cell?_ext w u _ hb).trans hc⟩
theorem at_strB {w : World} {S : Nat → Prop} {n c : Nat} {A : Option Addr} {xs : List ByteArray} (h : Sl w S A n c xs) {k : Nat} (hk : k < n) :
  ∃ b off x, A = some ⟨b, off, none⟩ ∧ b < w.heap.size ∧ xs[k]? = some x ∧ x.size ≤ maxLen ∧ w.cell? ⟨b, off + k, none⟩ = some (.string x) := by
 obtain ⟨b, off, x, us, e, hb, _, hx, hus, hc⟩ := h.at_ hk
 obtain ⟨rfl, h1⟩ := hus
 refine ⟨b, off, x, e, hb, hx, h1, ?_⟩
 have := hc 0 _ rfl
 simpa [Rep.size] using this
theorem key_sz {x : Nm} (h : NmOk x) : (keyN x).size ≤ 22 := by
 have key : ∀ c n, n < 1000 → (keyB c n).size ≤ 22 := fun c n hn => by
  have := dec_len4 hn
  unfold keyB
  show (c :: Lib.decDigits n).toArray.size ≤ 22
  simp
  omega
 cases x with
 | var n =>
  unfold NmOk at h
  unfold keyN
  simp only
  split
  ·exact key _ _ (by omega)
  ·exact key _ _ (by omega)
 | loc l =>
  obtain ⟨s, n⟩ := l
  obtain ⟨h1, h2⟩ := h
  unfold keyN
  cases s
  ·simp at h1 h2 ⊢; exact key _ _ (by omega)
  ·simp at h1 h2 ⊢; exact key _ _ (by omega)
set_option maxRecDepth 100000 in
set_option maxHeartbeats 8000000 in
theorem add28_any (w : World) (g b n : Nat) (p : Nm → Bool) (x : Nm) (hx : NmOk x) (hc : w.cell? ⟨g, 0, none⟩ = some (.map (some b))) (hg : g < w.heap.size) (hm : NmMap w b n (filW p)) (hn : n ≤ 100000) (hv : VarsP w) :
  Calls Tryz.prog 68 #[nmV x, .pointer (some ⟨g, 0, none⟩)] w (fun e w' => e = .returned (.tuple #[]) ∧ NmMap w' b (n + 1) (filW fun y => p y || decide (y = x)) ∧ ∃ w1, (∃ u, w1 = w.ext u) ∧ w1.grownBy w' (some b)) := by
 have HX := hide hx; have HM := hide hm; have HV := hide hv
 have hput : upd (filW p) (keyN x) (some (some x)) = filW fun y => p y || decide (y = x) := filW_put hx fun _ => rfl
 have HP := hide hput
 have hbl := hm.lt
 clear hm hv hput hx
 obtain ⟨t0, u0, hvx⟩ : ∃ t0 u0, nmV x = .iface t0 u0 := by cases x <;> exact ⟨_, _, rfl⟩
 have HVX := hide hvx
 rw [hvx]
 clear hvx
 go_enter Tryz.func68, Tryz.ntmps68
 refine wp_region_last_ext [] [2, 3, 4] 7 (by kernel_rfl) rfl rfl rfl (by kernel_rfl) (by kernel_rfl) ?_
 simp only [List.take_succ_cons, List.take_zero]
 repeat (refine flow_known (by kernel_rfl) (fun K hK => ?_); go_simp; (first | (refine hK _ ?_; clear hK K) | (apply Exists.intro; refine ⟨fun _ => ?_, hK _ ?_⟩; (fail); clear hK K)))
 refine flow_keep0 (SlP 1 [Pt.nm x]) (by kernel_rfl) (SlP.stable_ rfl) ?_ ?_
 ·intro u
  go_simp
  exact ⟨⟨fun _ => True, _, _, rfl, Sl.lit (S := fun _ => True) (us := [.iface t0 u0]) (by simp only [size_ext]) (RepL.single ⟨by rw [← HVX.out]; rfl, HX.out.in_⟩) rfl (by decide) (fun _ _ => trivial) trivial⟩, onW_alloc rfl ⟨_, rfl⟩⟩
 refine flow_keep [true] (SlP 1 [keyN x]) (by kernel_rfl) (SlP.stable_ rfl) ?_ ?_
 ·intro u
  try simp only [List.nil_append, List.cons_append, useH_f, useH_t, useH_nil]
  rintro _ ⟨S, A, c, rfl, hs⟩
  go_simp
  refine (words28_any _ S A 1 c [Pt.nm x] hs (by decide) (HV.out.below (Below.of_ext w u (Nat.le_refl _)) HV.out.v.sz)).mono ?_
  rintro e _ ⟨A', c', rfl, ho, u2, rfl⟩
  refine ⟨_, rfl, ⟨fun _ => True, A', c', rfl, ?_⟩, onW_ext ⟨_, rfl⟩ ⟨u2, rfl⟩⟩
  have hk : [Pt.nm x].map ptB = [keyN x] := by simp [ptB_key HX.out]
  rw [hk] at ho
  exact ho.sl fun _ _ _ => trivial
 refine flow_keep [false, true] (PtrS (keyN x)) (by kernel_rfl) (PtrS.stable_ rfl) ?_ ?_
 ·intro u
  try simp only [List.nil_append, List.cons_append, useH_f, useH_t, useH_nil]
  rintro _ ⟨S, A, c, rfl, hs⟩
  obtain ⟨b1, o1, y, rfl, hb1, hy, _, hc1⟩ := at_strB hs (show 0 < 1 by omega)
  have : y = keyN x := by simpa using hy.symm
  subst this
  go_simp
  exact ⟨⟨b1, o1, rfl, hb1, by simpa using hc1⟩, onW_same ⟨_, rfl⟩⟩
 refine flow_out [false, false, true] (.string (keyN x)) (by kernel_rfl) ?_ ?_
 ·intro u
  try simp only [List.nil_append, List.cons_append, useH_f, useH_t, useH_nil]
  rintro _ ⟨b1, o1, rfl, hb1, hc1⟩
  try simp only [List.nil_append, List.cons_append, useH_f, useH_t, useH_nil]
  go_simp
 repeat (refine flow_known (by kernel_rfl) (fun K hK => ?_); go_simp; (first | (refine hK _ ?_; clear hK K) | (apply Exists.intro; refine ⟨fun _ => ?_, hK _ ?_⟩; (fail); clear hK K)))
 refine flow_done [true, true, true] (by kernel_rfl) ?_
 intro u
 simp only [List.nil_append, List.cons_append, endH_f, endH_t, endH_nil]
 rintro _ - _ - _ -
 go_simp
 refine wpList_put_map (K := strK) (E := nmE) rfl (.tmp 3) (.tmp 8) (.tmp 9) 59 rfl Tryz.underlying59 rfl (HM.out.ext u) (by unfold maxLen; omega) (keyN x) rfl (by show _ ≤ maxLen; have := key_sz HX.out; unfold maxLen; omega) (some x) (by rw [← HVX.out]; rfl) HX.out.in_ ?_
 intro w' hm' hg'
 have HM' := hide hm'; have HG' := hide hg'
 clear hm' hg'
 go_wp2_with fail
 go_end0
 refine ⟨rfl, ?_, w.ext u, ⟨u, rfl⟩, HG'.out⟩
 have h := HM'.out
 rw [HP.out] at h
 exact h
structure NmAt (w0 w : World) (g b n : Nat) (p : Nm → Bool) : Prop where
 cell : w.heap[g]? = some (.cells #[.map (some b)] 59 (0, 0))
 map : NmMap w b n (filW p)
 bel : Below w0.heap.size w0 w
 ne : g ≠ b
 gb : w0.heap.size ≤ b
theorem NmAt.more {w0 w w1 w' : World} {g b n n' : Nat} {p q : Nm → Bool} (h : NmAt w0 w g b n p) (he : ∃ u, w1 = w.ext u) (hg : w1.grownBy w' (some b)) (hm : NmMap w' b n' (filW q)) : NmAt w0 w' g b n' q := by
 obtain ⟨u, rfl⟩ := he
 have hl := (Array.getElem?_eq_some_iff.1 h.cell).1
 refine ⟨?_, hm, (h.bel.ext h.bel.size u).grown hg (by rw [size_ext]; have := h.bel.size; omega) (fun r e => by injection e with e; subst e; exact h.gb), h.ne, h.gb⟩
 rw [hg.block g (by rw [size_ext]; omega) (fun e => h.ne (by injection e)), ext_block w u g hl]
 exact h.cell
def pA (k : Nat) : Nm → Bool
 | .var n => decide (1 ≤ n ∧ n ≤ k)
 | .loc _ => false
def pB (k : Nat) : Nm → Bool
 | .var n => decide (1 ≤ n ∧ n ≤ 200) || decide (-(k : Int) ≤ n ∧ n < 0)
 | .loc l => !l.slot && decide (0 ≤ l.n ∧ l.n < k)
def pB2 (k : Nat) : Nm → Bool
 | .var n => decide (1 ≤ n ∧ n ≤ 200) || decide (-(k : Int) - 1 ≤ n ∧ n < 0)
 | .loc l => !l.slot && decide (0 ≤ l.n ∧ l.n < k)
def pC (k : Nat) : Nm → Bool
 | .var n => decide (1 ≤ n ∧ n ≤ 200) || decide (-64 ≤ n ∧ n < 0)
 | .loc l => (!l.slot && decide (0 ≤ l.n ∧ l.n < 64)) || (l.slot && decide (0 ≤ l.n ∧ l.n < k))
theorem pA_succ (k : Nat) : (fun y => pA k y || decide (y = .var ((k : Int) + 1))) = pA (k + 1) := by
 funext y
 cases y with
 | var n => unfold pA; simp only [Nm.var.injEq]; rw [Bool.eq_iff_iff]; simp <;> omega
 | loc l => unfold pA; simp
theorem pB_a : pA 200 = pB 0 := by
 funext y
 cases y with
 | var n => unfold pA pB; simp only; rw [Bool.eq_iff_iff]; simp <;> omega
 | loc l => unfold pA pB; simp only; rw [Bool.eq_iff_iff]; simp <;> omega
theorem pB_var (k : Nat) : (fun y => pB k y || decide (y = .var (-1 - (k : Int)))) = pB2 k := by
 funext y
 cases y with
 | var n => unfold pB pB2; simp only [Nm.var.injEq]; rw [Bool.eq_iff_iff]; simp <;> omega
 | loc l => unfold pB pB2; simp
theorem pB_loc (k : Nat) : (fun y => pB2 k y || decide (y = .loc ⟨false, (k : Int)⟩)) = pB (k + 1) := by
 funext y
 cases y with
 | var n => unfold pB pB2; simp only; rw [Bool.eq_iff_iff]; simp <;> omega
 | loc l => obtain ⟨s, n⟩ := l; unfold pB pB2; simp only [Nm.loc.injEq, Loc.mk.injEq]; rw [Bool.eq_iff_iff]; cases s <;> simp <;> omega
theorem pC_b : pB 64 = pC 0 := by
 funext y
 cases y with
 | var n => unfold pB pC; simp
 | loc l => obtain ⟨s, n⟩ := l; unfold pB pC; simp only; rw [Bool.eq_iff_iff]; cases s <;> simp <;> omega
theorem pC_succ (k : Nat) : (fun y => pC k y || decide (y = .loc ⟨true, (k : Int)⟩)) = pC (k + 1) := by
 funext y
 cases y with
 | var n => unfold pC; simp
 | loc l => obtain ⟨s, n⟩ := l; unfold pC; simp only [Nm.loc.injEq, Loc.mk.injEq]; rw [Bool.eq_iff_iff]; cases s <;> simp <;> omega
theorem pC_all (x : Nm) (h : NmOk x) : pC 400 x = true := by
 cases x with
 | var n => unfold NmOk at h; unfold pC; simp <;> omega
 | loc l => obtain ⟨s, n⟩ := l; unfold NmOk at h; unfold pC; cases s <;> simp at h ⊢ <;> omega
abbrev Names (w : World) (b : Nat) : Prop := NmMap w b 728 fun s => (nameW s).map some
set_option maxRecDepth 100000 in
set_option maxHeartbeats 16000000 in
theorem names28_any (w : World) (hv : VarsP w) : Calls Tryz.prog 29 #[] w (fun e w' => ∃ b, e = .returned (.map (some b)) ∧ Names w' b ∧ w.heap.size ≤ b ∧ Below w.heap.size w w') := by
 have HV := hide hv
 have HG := hide hv.v.sz
 clear hv
 have HN0 := hide (show NmAt w ((w.alloc (.map #[] 0)).alloc (.cells #[.map (some w.heap.size)] 59)) (w.heap.size + 1) w.heap.size 0 (pA 0) from
  ⟨by have h := heap_alloc_new (w.alloc (.map #[] 0)) (.cells #[.map (some w.heap.size)] 59 (0, 0)); simpa using h, by
   have h : NmMap _ _ _ _ := (MapP.made (K := strK) (E := nmE) w).alloc (.cells #[.map (some w.heap.size)] 59)
   have e : filW (pA 0) = fun _ => none := by
    rw [← filW_none]; congr 1; funext y; cases y with | var n => unfold pA; simp <;> omega | loc l => rfl
   rw [e]; exact h, ((Below.refl _ _).alloc (Nat.le_refl _) _).alloc (by simp) _, by omega, Nat.le_refl _⟩)
 obtain ⟨b, hb⟩ : ∃ b, w.heap.size = b := ⟨_, rfl⟩
 obtain ⟨g, hg⟩ : ∃ g, b + 1 = g := ⟨_, rfl⟩
 obtain ⟨X, hX⟩ : ∃ X, (w.alloc (.map #[] 0)).alloc (.cells #[.map (some w.heap.size)] 59) = X := ⟨_, rfl⟩
 rw [hX] at HN0
 rw [hb, hg] at HN0
 have hmm := @run_makeMap Tryz.prog
 go_enter Tryz.func29, Tryz.ntmps29
 go_wp2_with fail
 try rw [hX]
 try rw [hb]
 try rw [hg]
 have HXQ := hide hX; have HBQ := hide hb; have HGQ := hide hg
 clear hX hmm
 have HADV := hide (fun (W : World) (n : Nat) (p : Nm → Bool) (m : Int) (hx : (1 ≤ m ∧ m ≤ 200) ∨ (-64 ≤ m ∧ m < 0)) (h : NmAt w W g b n p) (hn : n ≤ 100000) => show Calls Tryz.prog 68 #[.iface 118 (.int .i64 m), .pointer (some ⟨g, 0, none⟩)] W _ from add28_any W g b n p (.var m) hx (cell_of_row W g _ _ _ (0, 0) h.cell) (Array.getElem?_eq_some_iff.1 h.cell).1 h.map hn (HV.out.below h.bel HG.out))
 have HADL := hide (fun (W : World) (n : Nat) (p : Nm → Bool) (s : Bool) (m : Int) (hx1 : 0 ≤ m) (hx2 : m < (if s = true then 400 else 64)) (h : NmAt w W g b n p) (hn : n ≤ 100000) => show Calls Tryz.prog 68 #[.iface 40 (.agg #[.bool s, .int .i64 m]), .pointer (some ⟨g, 0, none⟩)] W _ from add28_any W g b n p (.loc ⟨s, m⟩) ⟨hx1, hx2⟩ (cell_of_row W g _ _ _ (0, 0) h.cell) (Array.getElem?_eq_some_iff.1 h.cell).1 h.map hn (HV.out.below h.bel HG.out))
 clear hb hg
 go_loopw [8] (fun i wr => ∃ k : Nat, k ≤ 200 ∧ i = .int .i64 k ∧ NmAt w wr g b k (pA k)) (fun i _ => 200 - (intOf i).toNat)
 case atStart => exact ⟨0, by omega, rfl, by have h := HN0.out; rw [← HXQ.out] at h; rw [HBQ.out] at h; exact h⟩
 case round =>
  obtain ⟨k, hk, rfl, hna⟩ := hrel
  have HNA := hide hna
  clear hna
  by_cases hlt : k < 200
  ·have hki : (k : Int) < 200 := by omega
   go_wp2_with (go_at_call 68; (with_reducible refine (HADV.out _ _ _ _ (.inl ⟨by omega, by omega⟩) HNA.out (by omega)).mono ?_); rintro e w2 ⟨rfl, hm2, w1, he2, hg2⟩; have HN2 := hide (HNA.out.more he2 hg2 hm2); clear hm2 he2 hg2)
   have HN3 := HN2.out
   rw [pA_succ] at HN3
   have HN4 := hide HN3
   clear HN3 HN2
   go_roundw
   case rel => exact ⟨k + 1, by omega, by go_num, HN4.out⟩
   case measure => simp [intOf]; omega
  ·have hlf : decide ((k : Int) < 200) = false := by simp; omega
   have hk2 : k = 200 := by omega
   have HNB := hide (show NmAt w wr g b 200 (pB 0) from by have h := HNA.out; rw [hk2, pB_a] at h; exact h)
   clear HNA hk2
   go_wp2_with fail
   clear hlf hlt hk HN0 HXQ
   go_loopw [17] (fun i wr => ∃ k : Nat, k ≤ 64 ∧ i = .int .i64 k ∧ NmAt w wr g b (200 + 2 * k) (pB k)) (fun i _ => 64 - (intOf i).toNat)
   case atStart => exact ⟨0, by omega, rfl, HNB.out⟩
   case round =>
    obtain ⟨k, hk, rfl, hna⟩ := hrel
    have HNA := hide hna
    clear hna HNB
    by_cases hlt : k < 64
    ·have hki : (k : Int) < 64 := by omega
     go_wp2_with (first | (go_at_call 68; (with_reducible refine (HADV.out _ _ _ _ (.inr ⟨by omega, by omega⟩) HNA.out (by omega)).mono ?_); rintro e w2 ⟨rfl, hm2, w1, he2, hg2⟩; have HN2 := hide (show NmAt w w2 g b (200 + 2 * k + 1) (pB2 k) from by have h := HNA.out.more he2 hg2 hm2; rw [pB_var] at h; exact h); clear hm2 he2 hg2) | (go_at_call 68; (with_reducible refine (HADL.out _ _ _ _ _ (by omega) (by simp; omega) HN2.out (by omega)).mono ?_); rintro e w3 ⟨rfl, hm2, w1, he2, hg2⟩; have HN4 := hide (HN2.out.more he2 hg2 hm2); clear hm2 he2 hg2))
     have HN5 := hide (show NmAt w w3 g b (200 + 2 * (k + 1)) (pB (k + 1)) from by have h := HN4.out; rw [pB_loc] at h; exact h)
     clear HN4 HN2
     go_roundw
     case rel => exact ⟨k + 1, by omega, by go_num, HN5.out⟩
     case measure => simp [intOf]; omega
    ·have hlf : decide ((k : Int) < 64) = false := by simp; omega
     have hk2 : k = 64 := by omega
     have HNB := hide (show NmAt w wr g b 328 (pC 0) from by have h := HNA.out; rw [hk2, pC_b] at h; exact h)
     clear HNA hk2
     go_wp2_with fail
     clear hlf hlt hk
     go_loopw [31] (fun i wr => ∃ k : Nat, k ≤ 400 ∧ i = .int .i64 k ∧ NmAt w wr g b (328 + k) (pC k)) (fun i _ => 400 - (intOf i).toNat)
     case atStart => exact ⟨0, by omega, rfl, HNB.out⟩
     case round =>
      obtain ⟨k, hk, rfl, hna⟩ := hrel
      have HNA := hide hna
      clear hna HNB
      by_cases hlt : k < 400
      ·have hki : (k : Int) < 400 := by omega
       go_wp2_with (go_at_call 68; (with_reducible refine (HADL.out _ _ _ _ _ (by omega) (by simp; omega) HNA.out (by omega)).mono ?_); rintro e w2 ⟨rfl, hm2, w1, he2, hg2⟩; have HN2 := hide (HNA.out.more he2 hg2 hm2); clear hm2 he2 hg2)
       have HN5 := hide (show NmAt w w2 g b (328 + (k + 1)) (pC (k + 1)) from by have h := HN2.out; rw [pC_succ] at h; exact h)
       clear HN2
       go_roundw
       case rel => exact ⟨k + 1, by omega, by go_num, HN5.out⟩
       case measure => simp [intOf]; omega
      ·have hlf : decide ((k : Int) < 400) = false := by simp; omega
       have hk2 : k = 400 := by omega
       have HNA := hide (show NmAt w wr g b 728 (pC 400) from by have h := HNA.out; rw [hk2] at h; exact h)
       clear hk2
       have hc : wr.cell? ⟨g, 0, none⟩ = some (.map (some b)) := cell_of_row wr g _ _ _ (0, 0) HNA.out.cell
       have hgl := (Array.getElem?_eq_some_iff.1 HNA.out.cell).1
       go_wp2_with fail
       go_ret
       refine ⟨b, rfl, ?_, by rw [HBQ.out]; exact Nat.le_refl _, HNA.out.bel⟩
       have h := HNA.out.map
       have e : filW (pC 400) = fun s => (nameW s).map some := by funext s; exact filW_all pC_all s
       rw [e] at h
       exact h
end Go.Proofs.YtppkanniefignaaGreatDoor
