/- law04: walks: the document's lines. Printed by gen_e4d.py. law04: walks: the document's line of a block's end. -/
import Derived.Test.YtljglhaeonbfoaaGreatDoorE4c
import Derived.Test.YtljglhaeonbfoaaGreatDoorG40
set_option linter.unusedSimpArgs false
set_option linter.unusedVariables false
namespace Go.Proofs.YtljglhaeonbfoaaGreatDoor
open Go.RowKit
theorem docVr_sz (n : Int) (h : InI n) : (docVar n).size ≤ 22 := by
 have h1 := itoa4_sz n h
 have h2 : (⟨#[118]⟩ : ByteArray).size = 1 := rfl
 show (⟨#[118]⟩ ++ itoaB n : ByteArray).size ≤ 22
 rw [ByteArray.size_append, h2]
 omega
theorem vOk_ini {n : Int} (h : vOk n = true) : InI n := by unfold vOk at h; simp at h; unfold InI; omega
set_option maxRecDepth 100000 in
set_option maxHeartbeats 8000000 in
theorem docAll_any (t : ByteArray) (w : World) (S : Nat → Prop) (A : Option Addr) (n c : Nat) (xs : List Int) (h : Sl w S A n c xs) (hv : VarsP w) (ht : t.size ≤ 1048576) (hn1 : n ≤ 1048576) :
  Calls Tryz.prog 32 #[.string t, .slice A n c] w (RetX (.string (docAll t xs)) w) := by
 have hn := h.nle
 have HS := hide h; have HV := hide hv
 have HL := hide h.len
 obtain ⟨R0, hR0⟩ : ∃ R0, xs.foldl (fun s v => (s ++ ⟨#[32]⟩) ++ docVar v) t = R0 := ⟨_, rfl⟩
 have HR1 := hide (show docAll t xs = R0 ++ ⟨#[10]⟩ from by rw [← hR0]; rfl)
 have HR0 := hide hR0
 clear h hv hR0
 rw [HR1.out]
 clear HR1
 go_enter Tryz.func32, Tryz.ntmps32
 go_wp2_with fail
 go_loopw [0, 5] (fun a b wr => ∃ (k : Nat) (acc : ByteArray) (u : Ext), a = .string acc ∧ b = .int .i64 k ∧ k ≤ n ∧ (xs.drop k).foldl (fun s v => (s ++ ⟨#[32]⟩) ++ docVar v) acc = R0 ∧ acc.size ≤ t.size + 23 * k ∧ wr = w.ext u) (fun _ b _ => n - (intOf b).toNat)
 case atStart => exact ⟨0, t, _, rfl, rfl, Nat.zero_le _, HR0.out, by omega, (ext_refl w).choose_spec⟩
 case round =>
  obtain ⟨k, acc, u, rfl, rfl, hk, hr, hsz, rfl⟩ := hrel
  have HR := hide hr
  clear hr
  by_cases hlt : k < n
  ·obtain ⟨b, off, x, rfl, hb, hx, hxi, hc⟩ := at_int (HS.out.ext u) hlt
   have HX := hide (drop_at hx)
   have HIT := hide (dVar_any (w.ext u) x hxi (HV.out.ext u))
   have hz := docVr_sz x hxi
   obtain ⟨tx, htx⟩ : ∃ tx, docVar x = tx := ⟨_, rfl⟩
   rw [htx] at HIT hz
   have HTX := hide htx
   have h32 : (⟨#[32]⟩ : ByteArray).size = 1 := rfl
   have g1 : acc.size + (⟨#[32]⟩ : ByteArray).size ≤ 9223372036854775807 := by rw [h32]; omega
   have g2 : (acc ++ ⟨#[32]⟩).size + tx.size ≤ 9223372036854775807 := by rw [ByteArray.size_append, h32]; omega
   have HZ := hide (show ((acc ++ ⟨#[32]⟩) ++ tx).size ≤ t.size + 23 * (k + 1) by rw [ByteArray.size_append, ByteArray.size_append, h32]; omega)
   clear hx hz htx h32
   go_wp2_with (first | (go_at_call 77; (with_reducible refine HIT.out.mono ?_); rintro e _ ⟨rfl, u1, rfl⟩) | (simp only [run_string_add_sum _ _ _ g1, run_string_add_sum _ _ _ g2]))
   go_roundw
   case rel =>
    obtain ⟨v, hv⟩ := ext_ext w u u1
    exact ⟨k + 1, _, v, rfl, by go_num, by omega, by have := HR.out; rw [HX.out, List.foldl_cons, HTX.out] at this; exact this, HZ.out, hv⟩
   case measure => simp [intOf]; omega
  ·have g3 : acc.size + (⟨#[10]⟩ : ByteArray).size ≤ 9223372036854775807 := by show acc.size + 1 ≤ _; omega
   go_wp2_with (simp only [run_string_add_sum _ _ _ g3])
   go_ret
   refine ⟨?_, u, rfl⟩
   have := HR.out
   rw [drop_end HL.out hlt] at this
   rw [← this]
   rfl
theorem InsR.ini {i : Ins} (h : InsR i) : InI i.dst ∧ InI i.a ∧ InI i.b ∧ InI i.imm ∧ InI i.callee := by
 have h0 : ∀ {n : Int}, n = 0 → InI n := fun e => by subst e; unfold InI; omega
 have hm : ∀ {n : Int}, immOk n = true → InI n := fun e => by unfold immOk at e; simp at e; unfold InI; omega
 have ho := h.op
 by_cases h13 : i.op = 13
 ·obtain ⟨a, b, m, c1, c2, d, _, _⟩ := h.call h13
  refine ⟨?_, h0 a, h0 b, h0 m, by unfold InI; omega⟩
  by_cases hd : i.dst = 0
  ·exact h0 hd
  ·exact vOk_ini (d hd)
 ·have hc := (h.no h13).1
  refine ⟨?_, ?_, ?_, ?_, h0 hc⟩
  ·by_cases h12 : i.op = 12
   ·exact h0 (h.dst0 h12)
   ·exact vOk_ini (h.dst h13 h12)
  ·by_cases h1 : i.op = 1
   ·exact h0 (h.a0 h1)
   ·exact vOk_ini (h.a h13 h1)
  ·by_cases hb : i.op = 1 ∨ i.op = 11 ∨ i.op = 14
   ·exact h0 (h.b0 hb)
   ·exact vOk_ini (h.b (by omega) (by omega))
  ·by_cases hb : i.op = 1 ∨ i.op = 11 ∨ i.op = 12
   ·exact hm (h.imm hb)
   ·exact h0 (h.imm0 (by omega) (by omega))
theorem vOk_ne {n : Int} (h : vOk n = true) : (n == 0) = false := by unfold vOk at h; simp at h; simp; omega
set_option maxRecDepth 100000 in
set_option maxHeartbeats 16000000 in
theorem insLine1_any (x : Ins) (hx : InsR x) (w : World) (S : Nat → Prop) (A : Option Addr) (n c : Nat) (h : Sl w S A n c x.args) (hv : VarsP w) (ho : x.op = 1) : Calls Tryz.prog 34 #[insV x A n c] w (RetX (.string (docIns x)) w) := by
 obtain ⟨hid, hia, hib, him, hic⟩ := hx.ini
 have HX := hide hx
 clear hx
 obtain ⟨o, d, a, b, m, k, args, q⟩ := x
 simp only at h hid hia hib him hic ho
 obtain ⟨C, hC⟩ : ∃ C, w.heap.size = C := ⟨_, rfl⟩
 obtain ⟨W0, hW0⟩ : ∃ W, w.alloc (.cells #[.int .i64 o, .int .i64 d, .int .i64 a, .int .i64 b, .int .i64 m, .int .i64 k, .slice A n c, .int .i64 q] 45) = W := ⟨_, rfl⟩
 have hrow : W0.heap[C]? = some (.cells #[.int .i64 o, .int .i64 d, .int .i64 a, .int .i64 b, .int .i64 m, .int .i64 k, .slice A n c, .int .i64 q] 45 (0, 0)) := by rw [← hW0, ← hC]; exact heap_alloc_new w _
 subst ho
 have hdn := vOk_ne (HX.out.dst (by simp only; decide) (by simp only; decide))
 simp only at hdn
 have c0 : W0.cell? ⟨C, 0, none⟩ = some (.int .i64 1) := cell_of_row W0 C _ _ _ (0, 0) hrow
 have c1 : W0.cell? ⟨C, 1, none⟩ = some (.int .i64 d) := cell_of_row W0 C _ _ _ (0, 0) hrow
 have c2 : W0.cell? ⟨C, 2, none⟩ = some (.int .i64 a) := cell_of_row W0 C _ _ _ (0, 0) hrow
 have c3 : W0.cell? ⟨C, 3, none⟩ = some (.int .i64 b) := cell_of_row W0 C _ _ _ (0, 0) hrow
 have c4 : W0.cell? ⟨C, 4, none⟩ = some (.int .i64 m) := cell_of_row W0 C _ _ _ (0, 0) hrow
 have c5 : W0.cell? ⟨C, 5, none⟩ = some (.int .i64 k) := cell_of_row W0 C _ _ _ (0, 0) hrow
 have c6 : W0.cell? ⟨C, 6, none⟩ = some (.slice A n c) := cell_of_row W0 C _ _ _ (0, 0) hrow
 have c7 : W0.cell? ⟨C, 7, none⟩ = some (.int .i64 q) := cell_of_row W0 C _ _ _ (0, 0) hrow
 have cl : C < W0.heap.size := (Array.getElem?_eq_some_iff.1 hrow).1
 have HB0 := hide (show Below w.heap.size w W0 from by rw [← hW0]; exact (Below.refl _ _).alloc (Nat.le_refl _) _)
 have hsl0 : Sl W0 S A n c args := by rw [← hW0]; exact h.alloc _
 have hv0 : VarsP W0 := by rw [← hW0]; exact hv.alloc _
 clear hrow h hv
 have HIM := hide (fun (u : Ext) => itoaP_any m him (W0.ext u) (hv0.ext u))
 have hzm := itoa4_sz m him
 obtain ⟨M, hM⟩ : ∃ t, itoaB m = t := ⟨_, rfl⟩
 rw [hM] at HIM hzm
 have HVD := hide (dVar_any W0 d hid hv0)
 have hzd := docVr_sz d hid
 have hd0 : (d == 0) = false := hdn
 have hd1 : (d != 0) = true := by rw [bne, hd0]; rfl
 have hDL : docLeft d = docVar d ++ ⟨#[32, 226, 134, 144, 32]⟩ := by unfold docLeft; rw [if_pos (by simpa using hd0)]
 obtain ⟨Vd, hVd⟩ : ∃ t, docVar d = t := ⟨_, rfl⟩
 rw [hVd] at HVD hzd hDL
 have h5 : (⟨#[32, 226, 134, 144, 32]⟩ : ByteArray).size = 5 := rfl
 have gd : Vd.size + (⟨#[32, 226, 134, 144, 32]⟩ : ByteArray).size ≤ 9223372036854775807 := by rw [h5]; omega
 obtain ⟨L, hL⟩ : ∃ t, docLeft d = t := ⟨_, rfl⟩
 have hzL : L.size ≤ 27 := by rw [← hL, hDL, ByteArray.size_append, h5]; omega
 have HL2 := hide (show Vd ++ ⟨#[32, 226, 134, 144, 32]⟩ = L from by rw [← hL, hDL])
 clear hDL hzd
 have HDI := hide (show docIns ⟨1, d, a, b, m, k, args, q⟩ = ((L ++ ⟨#[99, 111, 110, 115, 116, 32]⟩) ++ M) ++ ⟨#[10]⟩ from by unfold docIns; simp [hL, hM])
 rw [HDI.out]
 clear HDI
 have HSL := hide hsl0; have HV0 := hide hv0
 clear hsl0 hv0 hL hM HX
 go_enter Tryz.func34, Tryz.ntmps34
 go_upto_region 5 with (first | (go_at_call 77; (with_reducible refine HVD.out.mono ?_); rintro e _ ⟨rfl, u1, rfl⟩) | (go_at_call 33; (with_reducible refine (HIM.out _).mono ?_); rintro e _ ⟨rfl, u2, rfl⟩) | (simp only [run_string_add_sum _ _ _ gd]))
 rw [HL2.out]
 obtain ⟨u3, hu3⟩ := ext_ext W0 u1 u2
 rw [hu3]
 clear hu3 gd HVD
 obtain ⟨W, hW⟩ : ∃ W, W0.ext u3 = W := ⟨_, rfl⟩
 have HSW := hide (show Sl W S A n c args by rw [← hW]; exact HSL.out.ext _)
 have HVW := hide (show VarsP W by rw [← hW]; exact HV0.out.ext _)
 have HBW := hide (show Below w.heap.size w W by rw [← hW]; exact HB0.out.ext HB0.out.size _)
 have j0 : W.cell? ⟨C, 0, none⟩ = some (.int .i64 1) := by rw [← hW]; exact (cell?_ext W0 u3 _ cl).trans c0
 have j1 : W.cell? ⟨C, 1, none⟩ = some (.int .i64 d) := by rw [← hW]; exact (cell?_ext W0 u3 _ cl).trans c1
 have j2 : W.cell? ⟨C, 2, none⟩ = some (.int .i64 a) := by rw [← hW]; exact (cell?_ext W0 u3 _ cl).trans c2
 have j3 : W.cell? ⟨C, 3, none⟩ = some (.int .i64 b) := by rw [← hW]; exact (cell?_ext W0 u3 _ cl).trans c3
 have j4 : W.cell? ⟨C, 4, none⟩ = some (.int .i64 m) := by rw [← hW]; exact (cell?_ext W0 u3 _ cl).trans c4
 have j5 : W.cell? ⟨C, 5, none⟩ = some (.int .i64 k) := by rw [← hW]; exact (cell?_ext W0 u3 _ cl).trans c5
 have j6 : W.cell? ⟨C, 6, none⟩ = some (.slice A n c) := by rw [← hW]; exact (cell?_ext W0 u3 _ cl).trans c6
 have j7 : W.cell? ⟨C, 7, none⟩ = some (.int .i64 q) := by rw [← hW]; exact (cell?_ext W0 u3 _ cl).trans c7
 have clW : C < W.heap.size := by rw [← hW, size_ext]; omega
 rw [hW]
 clear hW hW0 cl c0 c1 c2 c3 c4 c5 c6 c7 HSL HV0 HB0 HIM HL2 hC
 have e0 : (⟨#[99, 111, 110, 115, 116, 32]⟩ : ByteArray).size = 6 := rfl
 have e1 : (⟨#[10]⟩ : ByteArray).size = 1 := rfl
 have g0 : (L).size + ((⟨#[99, 111, 110, 115, 116, 32]⟩ : ByteArray)).size ≤ 9223372036854775807 := by (try simp only [ByteArray.size_append]); (try simp only [e0, e1]); omega
 have g1 : ((L ++ ⟨#[99, 111, 110, 115, 116, 32]⟩)).size + (M).size ≤ 9223372036854775807 := by (try simp only [ByteArray.size_append]); (try simp only [e0, e1]); omega
 have g2 : (((L ++ ⟨#[99, 111, 110, 115, 116, 32]⟩) ++ M)).size + ((⟨#[10]⟩ : ByteArray)).size ≤ 9223372036854775807 := by (try simp only [ByteArray.size_append]); (try simp only [e0, e1]); omega
 clear e0 e1
 go_wp2_with (simp only [run_string_add_sum _ _ _ g0, run_string_add_sum _ _ _ g1, run_string_add_sum _ _ _ g2])
 go_ret
 exact ⟨rfl, HBW.out.to_ext⟩
set_option maxRecDepth 100000 in
set_option maxHeartbeats 16000000 in
theorem insLine11_any (x : Ins) (hx : InsR x) (w : World) (S : Nat → Prop) (A : Option Addr) (n c : Nat) (h : Sl w S A n c x.args) (hv : VarsP w) (ho : x.op = 11) : Calls Tryz.prog 34 #[insV x A n c] w (RetX (.string (docIns x)) w) := by
 obtain ⟨hid, hia, hib, him, hic⟩ := hx.ini
 have HX := hide hx
 clear hx
 obtain ⟨o, d, a, b, m, k, args, q⟩ := x
 simp only at h hid hia hib him hic ho
 obtain ⟨C, hC⟩ : ∃ C, w.heap.size = C := ⟨_, rfl⟩
 obtain ⟨W0, hW0⟩ : ∃ W, w.alloc (.cells #[.int .i64 o, .int .i64 d, .int .i64 a, .int .i64 b, .int .i64 m, .int .i64 k, .slice A n c, .int .i64 q] 45) = W := ⟨_, rfl⟩
 have hrow : W0.heap[C]? = some (.cells #[.int .i64 o, .int .i64 d, .int .i64 a, .int .i64 b, .int .i64 m, .int .i64 k, .slice A n c, .int .i64 q] 45 (0, 0)) := by rw [← hW0, ← hC]; exact heap_alloc_new w _
 subst ho
 have hdn := vOk_ne (HX.out.dst (by simp only; decide) (by simp only; decide))
 simp only at hdn
 have c0 : W0.cell? ⟨C, 0, none⟩ = some (.int .i64 11) := cell_of_row W0 C _ _ _ (0, 0) hrow
 have c1 : W0.cell? ⟨C, 1, none⟩ = some (.int .i64 d) := cell_of_row W0 C _ _ _ (0, 0) hrow
 have c2 : W0.cell? ⟨C, 2, none⟩ = some (.int .i64 a) := cell_of_row W0 C _ _ _ (0, 0) hrow
 have c3 : W0.cell? ⟨C, 3, none⟩ = some (.int .i64 b) := cell_of_row W0 C _ _ _ (0, 0) hrow
 have c4 : W0.cell? ⟨C, 4, none⟩ = some (.int .i64 m) := cell_of_row W0 C _ _ _ (0, 0) hrow
 have c5 : W0.cell? ⟨C, 5, none⟩ = some (.int .i64 k) := cell_of_row W0 C _ _ _ (0, 0) hrow
 have c6 : W0.cell? ⟨C, 6, none⟩ = some (.slice A n c) := cell_of_row W0 C _ _ _ (0, 0) hrow
 have c7 : W0.cell? ⟨C, 7, none⟩ = some (.int .i64 q) := cell_of_row W0 C _ _ _ (0, 0) hrow
 have cl : C < W0.heap.size := (Array.getElem?_eq_some_iff.1 hrow).1
 have HB0 := hide (show Below w.heap.size w W0 from by rw [← hW0]; exact (Below.refl _ _).alloc (Nat.le_refl _) _)
 have hsl0 : Sl W0 S A n c args := by rw [← hW0]; exact h.alloc _
 have hv0 : VarsP W0 := by rw [← hW0]; exact hv.alloc _
 clear hrow h hv
 have HIM := hide (fun (u : Ext) => itoaP_any m him (W0.ext u) (hv0.ext u))
 have hzm := itoa4_sz m him
 obtain ⟨M, hM⟩ : ∃ t, itoaB m = t := ⟨_, rfl⟩
 rw [hM] at HIM hzm
 have HVD := hide (dVar_any W0 d hid hv0)
 have hzd := docVr_sz d hid
 have hd0 : (d == 0) = false := hdn
 have hd1 : (d != 0) = true := by rw [bne, hd0]; rfl
 have hDL : docLeft d = docVar d ++ ⟨#[32, 226, 134, 144, 32]⟩ := by unfold docLeft; rw [if_pos (by simpa using hd0)]
 obtain ⟨Vd, hVd⟩ : ∃ t, docVar d = t := ⟨_, rfl⟩
 rw [hVd] at HVD hzd hDL
 have h5 : (⟨#[32, 226, 134, 144, 32]⟩ : ByteArray).size = 5 := rfl
 have gd : Vd.size + (⟨#[32, 226, 134, 144, 32]⟩ : ByteArray).size ≤ 9223372036854775807 := by rw [h5]; omega
 obtain ⟨L, hL⟩ : ∃ t, docLeft d = t := ⟨_, rfl⟩
 have hzL : L.size ≤ 27 := by rw [← hL, hDL, ByteArray.size_append, h5]; omega
 have HL2 := hide (show Vd ++ ⟨#[32, 226, 134, 144, 32]⟩ = L from by rw [← hL, hDL])
 clear hDL hzd
 obtain ⟨Va, hVa⟩ : ∃ t, docVar a = t := ⟨_, rfl⟩
 have HDI := hide (show docIns ⟨11, d, a, b, m, k, args, q⟩ = ((((L ++ ⟨#[108, 111, 97, 100, 32]⟩) ++ Va) ++ ⟨#[32]⟩) ++ M) ++ ⟨#[10]⟩ from by unfold docIns; simp [hL, hM, hVa])
 rw [HDI.out]
 clear HDI
 have HSL := hide hsl0; have HV0 := hide hv0
 clear hsl0 hv0 hL hM HX
 go_enter Tryz.func34, Tryz.ntmps34
 go_upto_region 5 with (first | (go_at_call 77; (with_reducible refine HVD.out.mono ?_); rintro e _ ⟨rfl, u1, rfl⟩) | (go_at_call 33; (with_reducible refine (HIM.out _).mono ?_); rintro e _ ⟨rfl, u2, rfl⟩) | (simp only [run_string_add_sum _ _ _ gd]))
 rw [HL2.out]
 obtain ⟨u3, hu3⟩ := ext_ext W0 u1 u2
 rw [hu3]
 clear hu3 gd HVD
 obtain ⟨W, hW⟩ : ∃ W, W0.ext u3 = W := ⟨_, rfl⟩
 have HSW := hide (show Sl W S A n c args by rw [← hW]; exact HSL.out.ext _)
 have HVW := hide (show VarsP W by rw [← hW]; exact HV0.out.ext _)
 have HBW := hide (show Below w.heap.size w W by rw [← hW]; exact HB0.out.ext HB0.out.size _)
 have j0 : W.cell? ⟨C, 0, none⟩ = some (.int .i64 11) := by rw [← hW]; exact (cell?_ext W0 u3 _ cl).trans c0
 have j1 : W.cell? ⟨C, 1, none⟩ = some (.int .i64 d) := by rw [← hW]; exact (cell?_ext W0 u3 _ cl).trans c1
 have j2 : W.cell? ⟨C, 2, none⟩ = some (.int .i64 a) := by rw [← hW]; exact (cell?_ext W0 u3 _ cl).trans c2
 have j3 : W.cell? ⟨C, 3, none⟩ = some (.int .i64 b) := by rw [← hW]; exact (cell?_ext W0 u3 _ cl).trans c3
 have j4 : W.cell? ⟨C, 4, none⟩ = some (.int .i64 m) := by rw [← hW]; exact (cell?_ext W0 u3 _ cl).trans c4
 have j5 : W.cell? ⟨C, 5, none⟩ = some (.int .i64 k) := by rw [← hW]; exact (cell?_ext W0 u3 _ cl).trans c5
 have j6 : W.cell? ⟨C, 6, none⟩ = some (.slice A n c) := by rw [← hW]; exact (cell?_ext W0 u3 _ cl).trans c6
 have j7 : W.cell? ⟨C, 7, none⟩ = some (.int .i64 q) := by rw [← hW]; exact (cell?_ext W0 u3 _ cl).trans c7
 have clW : C < W.heap.size := by rw [← hW, size_ext]; omega
 rw [hW]
 clear hW hW0 cl c0 c1 c2 c3 c4 c5 c6 c7 HSL HV0 HB0 HIM HL2 hC
 have HVa := hide (dVar_any W a hia HVW.out)
 have hza := docVr_sz a hia
 rw [hVa] at HVa hza
 clear hVa
 have e0 : (⟨#[108, 111, 97, 100, 32]⟩ : ByteArray).size = 5 := rfl
 have e1 : (⟨#[32]⟩ : ByteArray).size = 1 := rfl
 have e2 : (⟨#[10]⟩ : ByteArray).size = 1 := rfl
 have g0 : (L).size + ((⟨#[108, 111, 97, 100, 32]⟩ : ByteArray)).size ≤ 9223372036854775807 := by (try simp only [ByteArray.size_append]); (try simp only [e0, e1, e2]); omega
 have g1 : ((L ++ ⟨#[108, 111, 97, 100, 32]⟩)).size + (Va).size ≤ 9223372036854775807 := by (try simp only [ByteArray.size_append]); (try simp only [e0, e1, e2]); omega
 have g2 : (((L ++ ⟨#[108, 111, 97, 100, 32]⟩) ++ Va)).size + ((⟨#[32]⟩ : ByteArray)).size ≤ 9223372036854775807 := by (try simp only [ByteArray.size_append]); (try simp only [e0, e1, e2]); omega
 have g3 : ((((L ++ ⟨#[108, 111, 97, 100, 32]⟩) ++ Va) ++ ⟨#[32]⟩)).size + (M).size ≤ 9223372036854775807 := by (try simp only [ByteArray.size_append]); (try simp only [e0, e1, e2]); omega
 have g4 : (((((L ++ ⟨#[108, 111, 97, 100, 32]⟩) ++ Va) ++ ⟨#[32]⟩) ++ M)).size + ((⟨#[10]⟩ : ByteArray)).size ≤ 9223372036854775807 := by (try simp only [ByteArray.size_append]); (try simp only [e0, e1, e2]); omega
 clear e0 e1 e2
 go_wp2_with (first | (go_at_call 77; (with_reducible refine HVa.out.mono ?_); rintro e _ ⟨rfl, u4, rfl⟩) | (simp only [run_string_add_sum _ _ _ g0, run_string_add_sum _ _ _ g1, run_string_add_sum _ _ _ g2, run_string_add_sum _ _ _ g3, run_string_add_sum _ _ _ g4]))
 go_ret
 exact ⟨rfl, (HBW.out.ext HBW.out.size _).to_ext⟩
set_option maxRecDepth 100000 in
set_option maxHeartbeats 16000000 in
theorem insLine14_any (x : Ins) (hx : InsR x) (w : World) (S : Nat → Prop) (A : Option Addr) (n c : Nat) (h : Sl w S A n c x.args) (hv : VarsP w) (ho : x.op = 14) : Calls Tryz.prog 34 #[insV x A n c] w (RetX (.string (docIns x)) w) := by
 obtain ⟨hid, hia, hib, him, hic⟩ := hx.ini
 have HX := hide hx
 clear hx
 obtain ⟨o, d, a, b, m, k, args, q⟩ := x
 simp only at h hid hia hib him hic ho
 obtain ⟨C, hC⟩ : ∃ C, w.heap.size = C := ⟨_, rfl⟩
 obtain ⟨W0, hW0⟩ : ∃ W, w.alloc (.cells #[.int .i64 o, .int .i64 d, .int .i64 a, .int .i64 b, .int .i64 m, .int .i64 k, .slice A n c, .int .i64 q] 45) = W := ⟨_, rfl⟩
 have hrow : W0.heap[C]? = some (.cells #[.int .i64 o, .int .i64 d, .int .i64 a, .int .i64 b, .int .i64 m, .int .i64 k, .slice A n c, .int .i64 q] 45 (0, 0)) := by rw [← hW0, ← hC]; exact heap_alloc_new w _
 subst ho
 have hdn := vOk_ne (HX.out.dst (by simp only; decide) (by simp only; decide))
 simp only at hdn
 have c0 : W0.cell? ⟨C, 0, none⟩ = some (.int .i64 14) := cell_of_row W0 C _ _ _ (0, 0) hrow
 have c1 : W0.cell? ⟨C, 1, none⟩ = some (.int .i64 d) := cell_of_row W0 C _ _ _ (0, 0) hrow
 have c2 : W0.cell? ⟨C, 2, none⟩ = some (.int .i64 a) := cell_of_row W0 C _ _ _ (0, 0) hrow
 have c3 : W0.cell? ⟨C, 3, none⟩ = some (.int .i64 b) := cell_of_row W0 C _ _ _ (0, 0) hrow
 have c4 : W0.cell? ⟨C, 4, none⟩ = some (.int .i64 m) := cell_of_row W0 C _ _ _ (0, 0) hrow
 have c5 : W0.cell? ⟨C, 5, none⟩ = some (.int .i64 k) := cell_of_row W0 C _ _ _ (0, 0) hrow
 have c6 : W0.cell? ⟨C, 6, none⟩ = some (.slice A n c) := cell_of_row W0 C _ _ _ (0, 0) hrow
 have c7 : W0.cell? ⟨C, 7, none⟩ = some (.int .i64 q) := cell_of_row W0 C _ _ _ (0, 0) hrow
 have cl : C < W0.heap.size := (Array.getElem?_eq_some_iff.1 hrow).1
 have HB0 := hide (show Below w.heap.size w W0 from by rw [← hW0]; exact (Below.refl _ _).alloc (Nat.le_refl _) _)
 have hsl0 : Sl W0 S A n c args := by rw [← hW0]; exact h.alloc _
 have hv0 : VarsP W0 := by rw [← hW0]; exact hv.alloc _
 clear hrow h hv
 have HIM := hide (fun (u : Ext) => itoaP_any m him (W0.ext u) (hv0.ext u))
 have hzm := itoa4_sz m him
 obtain ⟨M, hM⟩ : ∃ t, itoaB m = t := ⟨_, rfl⟩
 rw [hM] at HIM hzm
 have HVD := hide (dVar_any W0 d hid hv0)
 have hzd := docVr_sz d hid
 have hd0 : (d == 0) = false := hdn
 have hd1 : (d != 0) = true := by rw [bne, hd0]; rfl
 have hDL : docLeft d = docVar d ++ ⟨#[32, 226, 134, 144, 32]⟩ := by unfold docLeft; rw [if_pos (by simpa using hd0)]
 obtain ⟨Vd, hVd⟩ : ∃ t, docVar d = t := ⟨_, rfl⟩
 rw [hVd] at HVD hzd hDL
 have h5 : (⟨#[32, 226, 134, 144, 32]⟩ : ByteArray).size = 5 := rfl
 have gd : Vd.size + (⟨#[32, 226, 134, 144, 32]⟩ : ByteArray).size ≤ 9223372036854775807 := by rw [h5]; omega
 obtain ⟨L, hL⟩ : ∃ t, docLeft d = t := ⟨_, rfl⟩
 have hzL : L.size ≤ 27 := by rw [← hL, hDL, ByteArray.size_append, h5]; omega
 have HL2 := hide (show Vd ++ ⟨#[32, 226, 134, 144, 32]⟩ = L from by rw [← hL, hDL])
 clear hDL hzd
 obtain ⟨Va, hVa⟩ : ∃ t, docVar a = t := ⟨_, rfl⟩
 have HDI := hide (show docIns ⟨14, d, a, b, m, k, args, q⟩ = (L ++ Va) ++ ⟨#[10]⟩ from by unfold docIns; simp [hL, hVa])
 rw [HDI.out]
 clear HDI
 have HSL := hide hsl0; have HV0 := hide hv0
 clear hsl0 hv0 hL hM HX
 go_enter Tryz.func34, Tryz.ntmps34
 go_upto_region 5 with (first | (go_at_call 77; (with_reducible refine HVD.out.mono ?_); rintro e _ ⟨rfl, u1, rfl⟩) | (go_at_call 33; (with_reducible refine (HIM.out _).mono ?_); rintro e _ ⟨rfl, u2, rfl⟩) | (simp only [run_string_add_sum _ _ _ gd]))
 rw [HL2.out]
 obtain ⟨u3, hu3⟩ := ext_ext W0 u1 u2
 rw [hu3]
 clear hu3 gd HVD
 obtain ⟨W, hW⟩ : ∃ W, W0.ext u3 = W := ⟨_, rfl⟩
 have HSW := hide (show Sl W S A n c args by rw [← hW]; exact HSL.out.ext _)
 have HVW := hide (show VarsP W by rw [← hW]; exact HV0.out.ext _)
 have HBW := hide (show Below w.heap.size w W by rw [← hW]; exact HB0.out.ext HB0.out.size _)
 have j0 : W.cell? ⟨C, 0, none⟩ = some (.int .i64 14) := by rw [← hW]; exact (cell?_ext W0 u3 _ cl).trans c0
 have j1 : W.cell? ⟨C, 1, none⟩ = some (.int .i64 d) := by rw [← hW]; exact (cell?_ext W0 u3 _ cl).trans c1
 have j2 : W.cell? ⟨C, 2, none⟩ = some (.int .i64 a) := by rw [← hW]; exact (cell?_ext W0 u3 _ cl).trans c2
 have j3 : W.cell? ⟨C, 3, none⟩ = some (.int .i64 b) := by rw [← hW]; exact (cell?_ext W0 u3 _ cl).trans c3
 have j4 : W.cell? ⟨C, 4, none⟩ = some (.int .i64 m) := by rw [← hW]; exact (cell?_ext W0 u3 _ cl).trans c4
 have j5 : W.cell? ⟨C, 5, none⟩ = some (.int .i64 k) := by rw [← hW]; exact (cell?_ext W0 u3 _ cl).trans c5
 have j6 : W.cell? ⟨C, 6, none⟩ = some (.slice A n c) := by rw [← hW]; exact (cell?_ext W0 u3 _ cl).trans c6
 have j7 : W.cell? ⟨C, 7, none⟩ = some (.int .i64 q) := by rw [← hW]; exact (cell?_ext W0 u3 _ cl).trans c7
 have clW : C < W.heap.size := by rw [← hW, size_ext]; omega
 rw [hW]
 clear hW hW0 cl c0 c1 c2 c3 c4 c5 c6 c7 HSL HV0 HB0 HIM HL2 hC
 have HVa := hide (dVar_any W a hia HVW.out)
 have hza := docVr_sz a hia
 rw [hVa] at HVa hza
 clear hVa
 have e0 : (⟨#[10]⟩ : ByteArray).size = 1 := rfl
 have g0 : (L).size + (Va).size ≤ 9223372036854775807 := by (try simp only [ByteArray.size_append]); (try simp only [e0]); omega
 have g1 : ((L ++ Va)).size + ((⟨#[10]⟩ : ByteArray)).size ≤ 9223372036854775807 := by (try simp only [ByteArray.size_append]); (try simp only [e0]); omega
 clear e0
 go_wp2_with (first | (go_at_call 77; (with_reducible refine HVa.out.mono ?_); rintro e _ ⟨rfl, u4, rfl⟩) | (simp only [run_string_add_sum _ _ _ g0, run_string_add_sum _ _ _ g1]))
 go_ret
 exact ⟨rfl, (HBW.out.ext HBW.out.size _).to_ext⟩
set_option maxRecDepth 100000 in
set_option maxHeartbeats 16000000 in
theorem insLine12_any (x : Ins) (hx : InsR x) (w : World) (S : Nat → Prop) (A : Option Addr) (n c : Nat) (h : Sl w S A n c x.args) (hv : VarsP w) (ho : x.op = 12) : Calls Tryz.prog 34 #[insV x A n c] w (RetX (.string (docIns x)) w) := by
 obtain ⟨hid, hia, hib, him, hic⟩ := hx.ini
 have HX := hide hx
 clear hx
 obtain ⟨o, d, a, b, m, k, args, q⟩ := x
 simp only at h hid hia hib him hic ho
 obtain ⟨C, hC⟩ : ∃ C, w.heap.size = C := ⟨_, rfl⟩
 obtain ⟨W0, hW0⟩ : ∃ W, w.alloc (.cells #[.int .i64 o, .int .i64 d, .int .i64 a, .int .i64 b, .int .i64 m, .int .i64 k, .slice A n c, .int .i64 q] 45) = W := ⟨_, rfl⟩
 have hrow : W0.heap[C]? = some (.cells #[.int .i64 o, .int .i64 d, .int .i64 a, .int .i64 b, .int .i64 m, .int .i64 k, .slice A n c, .int .i64 q] 45 (0, 0)) := by rw [← hW0, ← hC]; exact heap_alloc_new w _
 subst ho
 have hdz := HX.out.dst0 rfl
 simp only at hdz
 have c0 : W0.cell? ⟨C, 0, none⟩ = some (.int .i64 12) := cell_of_row W0 C _ _ _ (0, 0) hrow
 have c1 : W0.cell? ⟨C, 1, none⟩ = some (.int .i64 d) := cell_of_row W0 C _ _ _ (0, 0) hrow
 have c2 : W0.cell? ⟨C, 2, none⟩ = some (.int .i64 a) := cell_of_row W0 C _ _ _ (0, 0) hrow
 have c3 : W0.cell? ⟨C, 3, none⟩ = some (.int .i64 b) := cell_of_row W0 C _ _ _ (0, 0) hrow
 have c4 : W0.cell? ⟨C, 4, none⟩ = some (.int .i64 m) := cell_of_row W0 C _ _ _ (0, 0) hrow
 have c5 : W0.cell? ⟨C, 5, none⟩ = some (.int .i64 k) := cell_of_row W0 C _ _ _ (0, 0) hrow
 have c6 : W0.cell? ⟨C, 6, none⟩ = some (.slice A n c) := cell_of_row W0 C _ _ _ (0, 0) hrow
 have c7 : W0.cell? ⟨C, 7, none⟩ = some (.int .i64 q) := cell_of_row W0 C _ _ _ (0, 0) hrow
 have cl : C < W0.heap.size := (Array.getElem?_eq_some_iff.1 hrow).1
 have HB0 := hide (show Below w.heap.size w W0 from by rw [← hW0]; exact (Below.refl _ _).alloc (Nat.le_refl _) _)
 have hsl0 : Sl W0 S A n c args := by rw [← hW0]; exact h.alloc _
 have hv0 : VarsP W0 := by rw [← hW0]; exact hv.alloc _
 clear hrow h hv
 have HIM := hide (fun (u : Ext) => itoaP_any m him (W0.ext u) (hv0.ext u))
 have hzm := itoa4_sz m him
 obtain ⟨M, hM⟩ : ∃ t, itoaB m = t := ⟨_, rfl⟩
 rw [hM] at HIM hzm
 subst hdz
 have hDL : docLeft 0 = ByteArray.empty := rfl
 obtain ⟨L, hL⟩ : ∃ t, docLeft 0 = t := ⟨_, rfl⟩
 have hzL : L.size ≤ 27 := by rw [← hL]; decide
 have HL2 := hide (show (⟨#[]⟩ : ByteArray) = L from by rw [← hL, hDL]; rfl)
 have HIM0 := hide (itoaP_any m him W0 hv0)
 rw [hM] at HIM0
 clear hDL
 obtain ⟨Va, hVa⟩ : ∃ t, docVar a = t := ⟨_, rfl⟩
 obtain ⟨Vb, hVb⟩ : ∃ t, docVar b = t := ⟨_, rfl⟩
 have HDI := hide (show docIns ⟨12, 0, a, b, m, k, args, q⟩ = (((((⟨#[115, 116, 111, 114, 101, 32]⟩ ++ Va) ++ ⟨#[32]⟩) ++ M) ++ ⟨#[32]⟩) ++ Vb) ++ ⟨#[10]⟩ from by unfold docIns; simp [hM, hVa, hVb])
 rw [HDI.out]
 clear HDI
 have HSL := hide hsl0; have HV0 := hide hv0
 clear hsl0 hv0 hL hM HX
 go_enter Tryz.func34, Tryz.ntmps34
 go_upto_region 5 with (go_at_call 33; (with_reducible refine HIM0.out.mono ?_); rintro e _ ⟨rfl, u3, rfl⟩)
 rw [HL2.out]
 obtain ⟨W, hW⟩ : ∃ W, W0.ext u3 = W := ⟨_, rfl⟩
 have HSW := hide (show Sl W S A n c args by rw [← hW]; exact HSL.out.ext _)
 have HVW := hide (show VarsP W by rw [← hW]; exact HV0.out.ext _)
 have HBW := hide (show Below w.heap.size w W by rw [← hW]; exact HB0.out.ext HB0.out.size _)
 have j0 : W.cell? ⟨C, 0, none⟩ = some (.int .i64 12) := by rw [← hW]; exact (cell?_ext W0 u3 _ cl).trans c0
 have j1 : W.cell? ⟨C, 1, none⟩ = some (.int .i64 0) := by rw [← hW]; exact (cell?_ext W0 u3 _ cl).trans c1
 have j2 : W.cell? ⟨C, 2, none⟩ = some (.int .i64 a) := by rw [← hW]; exact (cell?_ext W0 u3 _ cl).trans c2
 have j3 : W.cell? ⟨C, 3, none⟩ = some (.int .i64 b) := by rw [← hW]; exact (cell?_ext W0 u3 _ cl).trans c3
 have j4 : W.cell? ⟨C, 4, none⟩ = some (.int .i64 m) := by rw [← hW]; exact (cell?_ext W0 u3 _ cl).trans c4
 have j5 : W.cell? ⟨C, 5, none⟩ = some (.int .i64 k) := by rw [← hW]; exact (cell?_ext W0 u3 _ cl).trans c5
 have j6 : W.cell? ⟨C, 6, none⟩ = some (.slice A n c) := by rw [← hW]; exact (cell?_ext W0 u3 _ cl).trans c6
 have j7 : W.cell? ⟨C, 7, none⟩ = some (.int .i64 q) := by rw [← hW]; exact (cell?_ext W0 u3 _ cl).trans c7
 have clW : C < W.heap.size := by rw [← hW, size_ext]; omega
 rw [hW]
 clear hW hW0 cl c0 c1 c2 c3 c4 c5 c6 c7 HSL HV0 HB0 HIM HL2 hC
 clear HIM0
 have HVa := hide (fun (u : Ext) => dVar_any (W.ext u) a hia (HVW.out.ext u))
 have hza := docVr_sz a hia
 have HVb := hide (fun (u : Ext) => dVar_any (W.ext u) b hib (HVW.out.ext u))
 have hzb := docVr_sz b hib
 rw [hVa] at HVa hza
 rw [hVb] at HVb hzb
 clear hVa hVb
 have e0 : (⟨#[115, 116, 111, 114, 101, 32]⟩ : ByteArray).size = 6 := rfl
 have e1 : (⟨#[32]⟩ : ByteArray).size = 1 := rfl
 have e2 : (⟨#[10]⟩ : ByteArray).size = 1 := rfl
 obtain ⟨q0, hq0⟩ : ∃ t, (⟨#[115, 116, 111, 114, 101, 32]⟩ : ByteArray) ++ Va = t := ⟨_, rfl⟩
 have mq0 : q0.size ≤ 100 := by rw [← hq0, ByteArray.size_append]; omega
 obtain ⟨q1, hq1⟩ : ∃ t, q0 ++ ⟨#[32]⟩ = t := ⟨_, rfl⟩
 have mq1 : q1.size ≤ 200 := by rw [← hq1, ByteArray.size_append]; omega
 obtain ⟨q2, hq2⟩ : ∃ t, q1 ++ M = t := ⟨_, rfl⟩
 have mq2 : q2.size ≤ 300 := by rw [← hq2, ByteArray.size_append]; omega
 obtain ⟨q3, hq3⟩ : ∃ t, q2 ++ ⟨#[32]⟩ = t := ⟨_, rfl⟩
 have mq3 : q3.size ≤ 400 := by rw [← hq3, ByteArray.size_append]; omega
 obtain ⟨q4, hq4⟩ : ∃ t, q3 ++ Vb = t := ⟨_, rfl⟩
 have mq4 : q4.size ≤ 500 := by rw [← hq4, ByteArray.size_append]; omega
 obtain ⟨q5, hq5⟩ : ∃ t, q4 ++ ⟨#[10]⟩ = t := ⟨_, rfl⟩
 have mq5 : q5.size ≤ 600 := by rw [← hq5, ByteArray.size_append]; omega
 go_wp2_with fail
 refine wp_region_flow_ext [] [] (by kernel_rfl) rfl (by kernel_rfl) ?_
 repeat (refine flow_known (by kernel_rfl) (fun K hK => ?_); go_simp; (first | (refine hK _ ?_; clear hK K) | (apply Exists.intro; refine ⟨fun _ => ?_, hK _ ?_⟩; ((go_at_call 77; exact HVa.out _)); clear hK K)))
 refine flow_out [] (.string q0) (by kernel_rfl) ?_ ?_
 ·intro u
  try simp only [List.nil_append, List.cons_append, useH_f, useH_t, useH_nil]
  go_simp
  first | (rw [if_neg (by omega)]; exact ⟨rfl, rfl⟩) | (rw [if_neg (by omega)]; exact ⟨by rw [hq0], rfl⟩)
 refine flow_out [] (.string q1) (by kernel_rfl) ?_ ?_
 ·intro u
  try simp only [List.nil_append, List.cons_append, useH_f, useH_t, useH_nil]
  go_simp
  first | (rw [if_neg (by omega)]; exact ⟨rfl, rfl⟩) | (rw [if_neg (by omega)]; exact ⟨by rw [hq1], rfl⟩)
 repeat (refine flow_known (by kernel_rfl) (fun K hK => ?_); go_simp; (first | (refine hK _ ?_; clear hK K) | (apply Exists.intro; refine ⟨fun _ => ?_, hK _ ?_⟩; (fail); clear hK K)))
 refine flow_out [] (.string q2) (by kernel_rfl) ?_ ?_
 ·intro u
  try simp only [List.nil_append, List.cons_append, useH_f, useH_t, useH_nil]
  go_simp
  first | (rw [if_neg (by omega)]; exact ⟨rfl, rfl⟩) | (rw [if_neg (by omega)]; exact ⟨by rw [hq2], rfl⟩)
 refine flow_out [] (.string q3) (by kernel_rfl) ?_ ?_
 ·intro u
  try simp only [List.nil_append, List.cons_append, useH_f, useH_t, useH_nil]
  go_simp
  first | (rw [if_neg (by omega)]; exact ⟨rfl, rfl⟩) | (rw [if_neg (by omega)]; exact ⟨by rw [hq3], rfl⟩)
 repeat (refine flow_known (by kernel_rfl) (fun K hK => ?_); go_simp; (first | (refine hK _ ?_; clear hK K) | (apply Exists.intro; refine ⟨fun _ => ?_, hK _ ?_⟩; ((go_at_call 77; exact HVb.out _)); clear hK K)))
 refine flow_out [] (.string q4) (by kernel_rfl) ?_ ?_
 ·intro u
  try simp only [List.nil_append, List.cons_append, useH_f, useH_t, useH_nil]
  go_simp
  first | (rw [if_neg (by omega)]; exact ⟨rfl, rfl⟩) | (rw [if_neg (by omega)]; exact ⟨by rw [hq4], rfl⟩)
 refine flow_out [] (.string q5) (by kernel_rfl) ?_ ?_
 ·intro u
  try simp only [List.nil_append, List.cons_append, useH_f, useH_t, useH_nil]
  go_simp
  first | (rw [if_neg (by omega)]; exact ⟨rfl, rfl⟩) | (rw [if_neg (by omega)]; exact ⟨by rw [hq5], rfl⟩)
 repeat (refine flow_known (by kernel_rfl) (fun K hK => ?_); go_simp; (first | (refine hK _ ?_; clear hK K) | (apply Exists.intro; refine ⟨fun _ => ?_, hK _ ?_⟩; (fail); clear hK K)))
 refine flow_done [] (by kernel_rfl) ?_
 intro u6
 simp only [List.nil_append, List.cons_append, endH_f, endH_t, endH_nil]
 go_simp
 go_wp2_with fail
 go_ret
 exact ⟨by (try simp only [hq0, hq1, hq2, hq3, hq4, hq5]); rfl, (HBW.out.ext HBW.out.size _).to_ext⟩
set_option maxRecDepth 100000 in
set_option maxHeartbeats 16000000 in
theorem insLine13z_any (x : Ins) (hx : InsR x) (w : World) (S : Nat → Prop) (A : Option Addr) (n c : Nat) (h : Sl w S A n c x.args) (hv : VarsP w) (ho : x.op = 13) (hd : x.dst = 0) : Calls Tryz.prog 34 #[insV x A n c] w (RetX (.string (docIns x)) w) := by
 obtain ⟨hid, hia, hib, him, hic⟩ := hx.ini
 have HX := hide hx
 clear hx
 obtain ⟨o, d, a, b, m, k, args, q⟩ := x
 simp only at h hid hia hib him hic ho
 obtain ⟨C, hC⟩ : ∃ C, w.heap.size = C := ⟨_, rfl⟩
 obtain ⟨W0, hW0⟩ : ∃ W, w.alloc (.cells #[.int .i64 o, .int .i64 d, .int .i64 a, .int .i64 b, .int .i64 m, .int .i64 k, .slice A n c, .int .i64 q] 45) = W := ⟨_, rfl⟩
 have hrow : W0.heap[C]? = some (.cells #[.int .i64 o, .int .i64 d, .int .i64 a, .int .i64 b, .int .i64 m, .int .i64 k, .slice A n c, .int .i64 q] 45 (0, 0)) := by rw [← hW0, ← hC]; exact heap_alloc_new w _
 subst ho
 have hdz : d = 0 := hd
 have c0 : W0.cell? ⟨C, 0, none⟩ = some (.int .i64 13) := cell_of_row W0 C _ _ _ (0, 0) hrow
 have c1 : W0.cell? ⟨C, 1, none⟩ = some (.int .i64 d) := cell_of_row W0 C _ _ _ (0, 0) hrow
 have c2 : W0.cell? ⟨C, 2, none⟩ = some (.int .i64 a) := cell_of_row W0 C _ _ _ (0, 0) hrow
 have c3 : W0.cell? ⟨C, 3, none⟩ = some (.int .i64 b) := cell_of_row W0 C _ _ _ (0, 0) hrow
 have c4 : W0.cell? ⟨C, 4, none⟩ = some (.int .i64 m) := cell_of_row W0 C _ _ _ (0, 0) hrow
 have c5 : W0.cell? ⟨C, 5, none⟩ = some (.int .i64 k) := cell_of_row W0 C _ _ _ (0, 0) hrow
 have c6 : W0.cell? ⟨C, 6, none⟩ = some (.slice A n c) := cell_of_row W0 C _ _ _ (0, 0) hrow
 have c7 : W0.cell? ⟨C, 7, none⟩ = some (.int .i64 q) := cell_of_row W0 C _ _ _ (0, 0) hrow
 have cl : C < W0.heap.size := (Array.getElem?_eq_some_iff.1 hrow).1
 have HB0 := hide (show Below w.heap.size w W0 from by rw [← hW0]; exact (Below.refl _ _).alloc (Nat.le_refl _) _)
 have hsl0 : Sl W0 S A n c args := by rw [← hW0]; exact h.alloc _
 have hv0 : VarsP W0 := by rw [← hW0]; exact hv.alloc _
 clear hrow h hv
 have HIM := hide (fun (u : Ext) => itoaP_any m him (W0.ext u) (hv0.ext u))
 have hzm := itoa4_sz m him
 obtain ⟨M, hM⟩ : ∃ t, itoaB m = t := ⟨_, rfl⟩
 rw [hM] at HIM hzm
 subst hdz
 have hDL : docLeft 0 = ByteArray.empty := rfl
 obtain ⟨L, hL⟩ : ∃ t, docLeft 0 = t := ⟨_, rfl⟩
 have hzL : L.size ≤ 27 := by rw [← hL]; decide
 have HL2 := hide (show (⟨#[]⟩ : ByteArray) = L from by rw [← hL, hDL]; rfl)
 have HIM0 := hide (itoaP_any m him W0 hv0)
 rw [hM] at HIM0
 clear hDL
 obtain ⟨Kc, hKc⟩ : ∃ t, itoaB k = t := ⟨_, rfl⟩
 have h8 : args.length ≤ 8 := (HX.out.call rfl).2.2.2.2.2.2.1
 have hdi : docIns ⟨13, 0, a, b, m, k, args, q⟩ = docAll ((L ++ ⟨#[99, 97, 108, 108, 32]⟩) ++ Kc) args := by unfold docIns; simp [hL, hKc]
 rw [hdi]
 clear hdi
 have HSL := hide hsl0; have HV0 := hide hv0
 clear hsl0 hv0 hL hM HX
 go_enter Tryz.func34, Tryz.ntmps34
 go_upto_region 5 with (go_at_call 33; (with_reducible refine HIM0.out.mono ?_); rintro e _ ⟨rfl, u3, rfl⟩)
 rw [HL2.out]
 obtain ⟨W, hW⟩ : ∃ W, W0.ext u3 = W := ⟨_, rfl⟩
 have HSW := hide (show Sl W S A n c args by rw [← hW]; exact HSL.out.ext _)
 have HVW := hide (show VarsP W by rw [← hW]; exact HV0.out.ext _)
 have HBW := hide (show Below w.heap.size w W by rw [← hW]; exact HB0.out.ext HB0.out.size _)
 have j0 : W.cell? ⟨C, 0, none⟩ = some (.int .i64 13) := by rw [← hW]; exact (cell?_ext W0 u3 _ cl).trans c0
 have j1 : W.cell? ⟨C, 1, none⟩ = some (.int .i64 0) := by rw [← hW]; exact (cell?_ext W0 u3 _ cl).trans c1
 have j2 : W.cell? ⟨C, 2, none⟩ = some (.int .i64 a) := by rw [← hW]; exact (cell?_ext W0 u3 _ cl).trans c2
 have j3 : W.cell? ⟨C, 3, none⟩ = some (.int .i64 b) := by rw [← hW]; exact (cell?_ext W0 u3 _ cl).trans c3
 have j4 : W.cell? ⟨C, 4, none⟩ = some (.int .i64 m) := by rw [← hW]; exact (cell?_ext W0 u3 _ cl).trans c4
 have j5 : W.cell? ⟨C, 5, none⟩ = some (.int .i64 k) := by rw [← hW]; exact (cell?_ext W0 u3 _ cl).trans c5
 have j6 : W.cell? ⟨C, 6, none⟩ = some (.slice A n c) := by rw [← hW]; exact (cell?_ext W0 u3 _ cl).trans c6
 have j7 : W.cell? ⟨C, 7, none⟩ = some (.int .i64 q) := by rw [← hW]; exact (cell?_ext W0 u3 _ cl).trans c7
 have clW : C < W.heap.size := by rw [← hW, size_ext]; omega
 rw [hW]
 clear hW hW0 cl c0 c1 c2 c3 c4 c5 c6 c7 HSL HV0 HB0 HIM HL2 hC
 clear HIM0
 have HKc := hide (fun (u : Ext) => itoaP_any k hic (W.ext u) (HVW.out.ext u))
 have hzk := itoa4_sz k hic
 rw [hKc] at HKc hzk
 clear hKc
 have e0 : (⟨#[99, 97, 108, 108, 32]⟩ : ByteArray).size = 5 := rfl
 obtain ⟨q0, hq0⟩ : ∃ t, L ++ ⟨#[99, 97, 108, 108, 32]⟩ = t := ⟨_, rfl⟩
 have mq0 : q0.size ≤ 100 := by rw [← hq0, ByteArray.size_append]; omega
 obtain ⟨q1, hq1⟩ : ∃ t, q0 ++ Kc = t := ⟨_, rfl⟩
 have mq1 : q1.size ≤ 200 := by rw [← hq1, ByteArray.size_append]; omega
 have hn8 : n ≤ 8 := by have := HSW.out.len; omega
 have HAL := hide (fun (u : Ext) => docAll_any q1 (W.ext u) S A n c args (HSW.out.ext u) (HVW.out.ext u) (by omega) (by omega))
 obtain ⟨RR, hRR⟩ : ∃ t, docAll q1 args = t := ⟨_, rfl⟩
 rw [hRR] at HAL
 go_wp2_with fail
 refine wp_region_flow_ext [] [] (by kernel_rfl) rfl (by kernel_rfl) ?_
 repeat (refine flow_known (by kernel_rfl) (fun K hK => ?_); go_simp; (first | (refine hK _ ?_; clear hK K) | (apply Exists.intro; refine ⟨fun _ => ?_, hK _ ?_⟩; (fail); clear hK K)))
 refine flow_out [] (.string q0) (by kernel_rfl) ?_ ?_
 ·intro u
  try simp only [List.nil_append, List.cons_append, useH_f, useH_t, useH_nil]
  go_simp
  first | (rw [if_neg (by omega)]; exact ⟨rfl, rfl⟩) | (rw [if_neg (by omega)]; exact ⟨by rw [hq0], rfl⟩)
 repeat (refine flow_known (by kernel_rfl) (fun K hK => ?_); go_simp; (first | (refine hK _ ?_; clear hK K) | (apply Exists.intro; refine ⟨fun _ => ?_, hK _ ?_⟩; ((go_at_call 33; exact HKc.out _)); clear hK K)))
 refine flow_out [] (.string q1) (by kernel_rfl) ?_ ?_
 ·intro u
  try simp only [List.nil_append, List.cons_append, useH_f, useH_t, useH_nil]
  go_simp
  first | (rw [if_neg (by omega)]; exact ⟨rfl, rfl⟩) | (rw [if_neg (by omega)]; exact ⟨by rw [hq1], rfl⟩)
 repeat (refine flow_known (by kernel_rfl) (fun K hK => ?_); go_simp; (first | (refine hK _ ?_; clear hK K) | (apply Exists.intro; refine ⟨fun _ => ?_, hK _ ?_⟩; ((go_at_call 32; exact HAL.out _)); clear hK K)))
 refine flow_done [] (by kernel_rfl) ?_
 intro u6
 simp only [List.nil_append, List.cons_append, endH_f, endH_t, endH_nil]
 go_simp
 go_wp2_with fail
 go_ret
 exact ⟨by (try simp only [hq0, hq1, hRR]); rfl, (HBW.out.ext HBW.out.size _).to_ext⟩
set_option maxRecDepth 100000 in
set_option maxHeartbeats 16000000 in
theorem insLine13d_any (x : Ins) (hx : InsR x) (w : World) (S : Nat → Prop) (A : Option Addr) (n c : Nat) (h : Sl w S A n c x.args) (hv : VarsP w) (ho : x.op = 13) (hd : x.dst ≠ 0) : Calls Tryz.prog 34 #[insV x A n c] w (RetX (.string (docIns x)) w) := by
 obtain ⟨hid, hia, hib, him, hic⟩ := hx.ini
 have HX := hide hx
 clear hx
 obtain ⟨o, d, a, b, m, k, args, q⟩ := x
 simp only at h hid hia hib him hic ho
 obtain ⟨C, hC⟩ : ∃ C, w.heap.size = C := ⟨_, rfl⟩
 obtain ⟨W0, hW0⟩ : ∃ W, w.alloc (.cells #[.int .i64 o, .int .i64 d, .int .i64 a, .int .i64 b, .int .i64 m, .int .i64 k, .slice A n c, .int .i64 q] 45) = W := ⟨_, rfl⟩
 have hrow : W0.heap[C]? = some (.cells #[.int .i64 o, .int .i64 d, .int .i64 a, .int .i64 b, .int .i64 m, .int .i64 k, .slice A n c, .int .i64 q] 45 (0, 0)) := by rw [← hW0, ← hC]; exact heap_alloc_new w _
 subst ho
 have hdn : (d == 0) = false := by simpa using hd
 have c0 : W0.cell? ⟨C, 0, none⟩ = some (.int .i64 13) := cell_of_row W0 C _ _ _ (0, 0) hrow
 have c1 : W0.cell? ⟨C, 1, none⟩ = some (.int .i64 d) := cell_of_row W0 C _ _ _ (0, 0) hrow
 have c2 : W0.cell? ⟨C, 2, none⟩ = some (.int .i64 a) := cell_of_row W0 C _ _ _ (0, 0) hrow
 have c3 : W0.cell? ⟨C, 3, none⟩ = some (.int .i64 b) := cell_of_row W0 C _ _ _ (0, 0) hrow
 have c4 : W0.cell? ⟨C, 4, none⟩ = some (.int .i64 m) := cell_of_row W0 C _ _ _ (0, 0) hrow
 have c5 : W0.cell? ⟨C, 5, none⟩ = some (.int .i64 k) := cell_of_row W0 C _ _ _ (0, 0) hrow
 have c6 : W0.cell? ⟨C, 6, none⟩ = some (.slice A n c) := cell_of_row W0 C _ _ _ (0, 0) hrow
 have c7 : W0.cell? ⟨C, 7, none⟩ = some (.int .i64 q) := cell_of_row W0 C _ _ _ (0, 0) hrow
 have cl : C < W0.heap.size := (Array.getElem?_eq_some_iff.1 hrow).1
 have HB0 := hide (show Below w.heap.size w W0 from by rw [← hW0]; exact (Below.refl _ _).alloc (Nat.le_refl _) _)
 have hsl0 : Sl W0 S A n c args := by rw [← hW0]; exact h.alloc _
 have hv0 : VarsP W0 := by rw [← hW0]; exact hv.alloc _
 clear hrow h hv
 have HIM := hide (fun (u : Ext) => itoaP_any m him (W0.ext u) (hv0.ext u))
 have hzm := itoa4_sz m him
 obtain ⟨M, hM⟩ : ∃ t, itoaB m = t := ⟨_, rfl⟩
 rw [hM] at HIM hzm
 have HVD := hide (dVar_any W0 d hid hv0)
 have hzd := docVr_sz d hid
 have hd0 : (d == 0) = false := hdn
 have hd1 : (d != 0) = true := by rw [bne, hd0]; rfl
 have hDL : docLeft d = docVar d ++ ⟨#[32, 226, 134, 144, 32]⟩ := by unfold docLeft; rw [if_pos (by simpa using hd0)]
 obtain ⟨Vd, hVd⟩ : ∃ t, docVar d = t := ⟨_, rfl⟩
 rw [hVd] at HVD hzd hDL
 have h5 : (⟨#[32, 226, 134, 144, 32]⟩ : ByteArray).size = 5 := rfl
 have gd : Vd.size + (⟨#[32, 226, 134, 144, 32]⟩ : ByteArray).size ≤ 9223372036854775807 := by rw [h5]; omega
 obtain ⟨L, hL⟩ : ∃ t, docLeft d = t := ⟨_, rfl⟩
 have hzL : L.size ≤ 27 := by rw [← hL, hDL, ByteArray.size_append, h5]; omega
 have HL2 := hide (show Vd ++ ⟨#[32, 226, 134, 144, 32]⟩ = L from by rw [← hL, hDL])
 clear hDL hzd
 obtain ⟨Kc, hKc⟩ : ∃ t, itoaB k = t := ⟨_, rfl⟩
 have h8 : args.length ≤ 8 := (HX.out.call rfl).2.2.2.2.2.2.1
 have hdi : docIns ⟨13, d, a, b, m, k, args, q⟩ = docAll ((L ++ ⟨#[99, 97, 108, 108, 32]⟩) ++ Kc) args := by unfold docIns; simp [hL, hKc]
 rw [hdi]
 clear hdi
 have HSL := hide hsl0; have HV0 := hide hv0
 clear hsl0 hv0 hL hM HX
 go_enter Tryz.func34, Tryz.ntmps34
 go_upto_region 5 with (first | (go_at_call 77; (with_reducible refine HVD.out.mono ?_); rintro e _ ⟨rfl, u1, rfl⟩) | (go_at_call 33; (with_reducible refine (HIM.out _).mono ?_); rintro e _ ⟨rfl, u2, rfl⟩) | (simp only [run_string_add_sum _ _ _ gd]))
 rw [HL2.out]
 obtain ⟨u3, hu3⟩ := ext_ext W0 u1 u2
 rw [hu3]
 clear hu3 gd HVD
 obtain ⟨W, hW⟩ : ∃ W, W0.ext u3 = W := ⟨_, rfl⟩
 have HSW := hide (show Sl W S A n c args by rw [← hW]; exact HSL.out.ext _)
 have HVW := hide (show VarsP W by rw [← hW]; exact HV0.out.ext _)
 have HBW := hide (show Below w.heap.size w W by rw [← hW]; exact HB0.out.ext HB0.out.size _)
 have j0 : W.cell? ⟨C, 0, none⟩ = some (.int .i64 13) := by rw [← hW]; exact (cell?_ext W0 u3 _ cl).trans c0
 have j1 : W.cell? ⟨C, 1, none⟩ = some (.int .i64 d) := by rw [← hW]; exact (cell?_ext W0 u3 _ cl).trans c1
 have j2 : W.cell? ⟨C, 2, none⟩ = some (.int .i64 a) := by rw [← hW]; exact (cell?_ext W0 u3 _ cl).trans c2
 have j3 : W.cell? ⟨C, 3, none⟩ = some (.int .i64 b) := by rw [← hW]; exact (cell?_ext W0 u3 _ cl).trans c3
 have j4 : W.cell? ⟨C, 4, none⟩ = some (.int .i64 m) := by rw [← hW]; exact (cell?_ext W0 u3 _ cl).trans c4
 have j5 : W.cell? ⟨C, 5, none⟩ = some (.int .i64 k) := by rw [← hW]; exact (cell?_ext W0 u3 _ cl).trans c5
 have j6 : W.cell? ⟨C, 6, none⟩ = some (.slice A n c) := by rw [← hW]; exact (cell?_ext W0 u3 _ cl).trans c6
 have j7 : W.cell? ⟨C, 7, none⟩ = some (.int .i64 q) := by rw [← hW]; exact (cell?_ext W0 u3 _ cl).trans c7
 have clW : C < W.heap.size := by rw [← hW, size_ext]; omega
 rw [hW]
 clear hW hW0 cl c0 c1 c2 c3 c4 c5 c6 c7 HSL HV0 HB0 HIM HL2 hC
 have HKc := hide (fun (u : Ext) => itoaP_any k hic (W.ext u) (HVW.out.ext u))
 have hzk := itoa4_sz k hic
 rw [hKc] at HKc hzk
 clear hKc
 have e0 : (⟨#[99, 97, 108, 108, 32]⟩ : ByteArray).size = 5 := rfl
 obtain ⟨q0, hq0⟩ : ∃ t, L ++ ⟨#[99, 97, 108, 108, 32]⟩ = t := ⟨_, rfl⟩
 have mq0 : q0.size ≤ 100 := by rw [← hq0, ByteArray.size_append]; omega
 obtain ⟨q1, hq1⟩ : ∃ t, q0 ++ Kc = t := ⟨_, rfl⟩
 have mq1 : q1.size ≤ 200 := by rw [← hq1, ByteArray.size_append]; omega
 have hn8 : n ≤ 8 := by have := HSW.out.len; omega
 have HAL := hide (fun (u : Ext) => docAll_any q1 (W.ext u) S A n c args (HSW.out.ext u) (HVW.out.ext u) (by omega) (by omega))
 obtain ⟨RR, hRR⟩ : ∃ t, docAll q1 args = t := ⟨_, rfl⟩
 rw [hRR] at HAL
 go_wp2_with fail
 refine wp_region_flow_ext [] [] (by kernel_rfl) rfl (by kernel_rfl) ?_
 repeat (refine flow_known (by kernel_rfl) (fun K hK => ?_); go_simp; (first | (refine hK _ ?_; clear hK K) | (apply Exists.intro; refine ⟨fun _ => ?_, hK _ ?_⟩; (fail); clear hK K)))
 refine flow_out [] (.string q0) (by kernel_rfl) ?_ ?_
 ·intro u
  try simp only [List.nil_append, List.cons_append, useH_f, useH_t, useH_nil]
  go_simp
  first | (rw [if_neg (by omega)]; exact ⟨rfl, rfl⟩) | (rw [if_neg (by omega)]; exact ⟨by rw [hq0], rfl⟩)
 repeat (refine flow_known (by kernel_rfl) (fun K hK => ?_); go_simp; (first | (refine hK _ ?_; clear hK K) | (apply Exists.intro; refine ⟨fun _ => ?_, hK _ ?_⟩; ((go_at_call 33; exact HKc.out _)); clear hK K)))
 refine flow_out [] (.string q1) (by kernel_rfl) ?_ ?_
 ·intro u
  try simp only [List.nil_append, List.cons_append, useH_f, useH_t, useH_nil]
  go_simp
  first | (rw [if_neg (by omega)]; exact ⟨rfl, rfl⟩) | (rw [if_neg (by omega)]; exact ⟨by rw [hq1], rfl⟩)
 repeat (refine flow_known (by kernel_rfl) (fun K hK => ?_); go_simp; (first | (refine hK _ ?_; clear hK K) | (apply Exists.intro; refine ⟨fun _ => ?_, hK _ ?_⟩; ((go_at_call 32; exact HAL.out _)); clear hK K)))
 refine flow_done [] (by kernel_rfl) ?_
 intro u6
 simp only [List.nil_append, List.cons_append, endH_f, endH_t, endH_nil]
 go_simp
 go_wp2_with fail
 go_ret
 exact ⟨by (try simp only [hq0, hq1, hRR]); rfl, (HBW.out.ext HBW.out.size _).to_ext⟩
set_option maxRecDepth 100000 in
set_option maxHeartbeats 16000000 in
theorem insLine2_any (x : Ins) (hx : InsR x) (w : World) (S : Nat → Prop) (A : Option Addr) (n c : Nat) (h : Sl w S A n c x.args) (hv : VarsP w) (h2 : 2 ≤ x.op) (h10 : x.op ≤ 10) : Calls Tryz.prog 34 #[insV x A n c] w (RetX (.string (docIns x)) w) := by
 obtain ⟨hid, hia, hib, him, hic⟩ := hx.ini
 have HX := hide hx
 clear hx
 obtain ⟨o, d, a, b, m, k, args, q⟩ := x
 simp only at h hid hia hib him hic h2 h10
 obtain ⟨C, hC⟩ : ∃ C, w.heap.size = C := ⟨_, rfl⟩
 obtain ⟨W0, hW0⟩ : ∃ W, w.alloc (.cells #[.int .i64 o, .int .i64 d, .int .i64 a, .int .i64 b, .int .i64 m, .int .i64 k, .slice A n c, .int .i64 q] 45) = W := ⟨_, rfl⟩
 have hrow : W0.heap[C]? = some (.cells #[.int .i64 o, .int .i64 d, .int .i64 a, .int .i64 b, .int .i64 m, .int .i64 k, .slice A n c, .int .i64 q] 45 (0, 0)) := by rw [← hW0, ← hC]; exact heap_alloc_new w _
 obtain ⟨p, rfl⟩ : ∃ p : Nat, o = (p : Int) := ⟨o.toNat, by omega⟩
 have hdn := vOk_ne (HX.out.dst (by simp only; omega) (by simp only; omega))
 simp only at hdn
 have c0 : W0.cell? ⟨C, 0, none⟩ = some (.int .i64 (p : Int)) := cell_of_row W0 C _ _ _ (0, 0) hrow
 have c1 : W0.cell? ⟨C, 1, none⟩ = some (.int .i64 d) := cell_of_row W0 C _ _ _ (0, 0) hrow
 have c2 : W0.cell? ⟨C, 2, none⟩ = some (.int .i64 a) := cell_of_row W0 C _ _ _ (0, 0) hrow
 have c3 : W0.cell? ⟨C, 3, none⟩ = some (.int .i64 b) := cell_of_row W0 C _ _ _ (0, 0) hrow
 have c4 : W0.cell? ⟨C, 4, none⟩ = some (.int .i64 m) := cell_of_row W0 C _ _ _ (0, 0) hrow
 have c5 : W0.cell? ⟨C, 5, none⟩ = some (.int .i64 k) := cell_of_row W0 C _ _ _ (0, 0) hrow
 have c6 : W0.cell? ⟨C, 6, none⟩ = some (.slice A n c) := cell_of_row W0 C _ _ _ (0, 0) hrow
 have c7 : W0.cell? ⟨C, 7, none⟩ = some (.int .i64 q) := cell_of_row W0 C _ _ _ (0, 0) hrow
 have cl : C < W0.heap.size := (Array.getElem?_eq_some_iff.1 hrow).1
 have HB0 := hide (show Below w.heap.size w W0 from by rw [← hW0]; exact (Below.refl _ _).alloc (Nat.le_refl _) _)
 have hsl0 : Sl W0 S A n c args := by rw [← hW0]; exact h.alloc _
 have hv0 : VarsP W0 := by rw [← hW0]; exact hv.alloc _
 clear hrow h hv
 have HIM := hide (fun (u : Ext) => itoaP_any m him (W0.ext u) (hv0.ext u))
 have hzm := itoa4_sz m him
 obtain ⟨M, hM⟩ : ∃ t, itoaB m = t := ⟨_, rfl⟩
 rw [hM] at HIM hzm
 have HVD := hide (dVar_any W0 d hid hv0)
 have hzd := docVr_sz d hid
 have hd0 : (d == 0) = false := hdn
 have hd1 : (d != 0) = true := by rw [bne, hd0]; rfl
 have hDL : docLeft d = docVar d ++ ⟨#[32, 226, 134, 144, 32]⟩ := by unfold docLeft; rw [if_pos (by simpa using hd0)]
 obtain ⟨Vd, hVd⟩ : ∃ t, docVar d = t := ⟨_, rfl⟩
 rw [hVd] at HVD hzd hDL
 have h5 : (⟨#[32, 226, 134, 144, 32]⟩ : ByteArray).size = 5 := rfl
 have gd : Vd.size + (⟨#[32, 226, 134, 144, 32]⟩ : ByteArray).size ≤ 9223372036854775807 := by rw [h5]; omega
 obtain ⟨L, hL⟩ : ∃ t, docLeft d = t := ⟨_, rfl⟩
 have hzL : L.size ≤ 27 := by rw [← hL, hDL, ByteArray.size_append, h5]; omega
 have HL2 := hide (show Vd ++ ⟨#[32, 226, 134, 144, 32]⟩ = L from by rw [← hL, hDL])
 clear hDL hzd
 obtain ⟨Va, hVa⟩ : ∃ t, docVar a = t := ⟨_, rfl⟩
 obtain ⟨Vb, hVb⟩ : ∃ t, docVar b = t := ⟨_, rfl⟩
 obtain ⟨On, hOn⟩ : ∃ t, opT (p : Int) = t := ⟨_, rfl⟩
 have HDI := hide (show docIns ⟨(p : Int), d, a, b, m, k, args, q⟩ = (((((L ++ On) ++ ⟨#[32]⟩) ++ Va) ++ ⟨#[32]⟩) ++ Vb) ++ ⟨#[10]⟩ from by unfold docIns; simp only; rw [if_neg (by omega), if_neg (by omega), if_neg (by omega), if_neg (by omega), if_neg (by omega), hL, hVa, hVb, hOn])
 rw [HDI.out]
 clear HDI
 have HSL := hide hsl0; have HV0 := hide hv0
 clear hsl0 hv0 hL hM HX
 go_enter Tryz.func34, Tryz.ntmps34
 go_upto_region 5 with (first | (go_at_call 77; (with_reducible refine HVD.out.mono ?_); rintro e _ ⟨rfl, u1, rfl⟩) | (go_at_call 33; (with_reducible refine (HIM.out _).mono ?_); rintro e _ ⟨rfl, u2, rfl⟩) | (simp only [run_string_add_sum _ _ _ gd]))
 rw [HL2.out]
 obtain ⟨u3, hu3⟩ := ext_ext W0 u1 u2
 rw [hu3]
 clear hu3 gd HVD
 obtain ⟨W, hW⟩ : ∃ W, W0.ext u3 = W := ⟨_, rfl⟩
 have HSW := hide (show Sl W S A n c args by rw [← hW]; exact HSL.out.ext _)
 have HVW := hide (show VarsP W by rw [← hW]; exact HV0.out.ext _)
 have HBW := hide (show Below w.heap.size w W by rw [← hW]; exact HB0.out.ext HB0.out.size _)
 have j0 : W.cell? ⟨C, 0, none⟩ = some (.int .i64 (p : Int)) := by rw [← hW]; exact (cell?_ext W0 u3 _ cl).trans c0
 have j1 : W.cell? ⟨C, 1, none⟩ = some (.int .i64 d) := by rw [← hW]; exact (cell?_ext W0 u3 _ cl).trans c1
 have j2 : W.cell? ⟨C, 2, none⟩ = some (.int .i64 a) := by rw [← hW]; exact (cell?_ext W0 u3 _ cl).trans c2
 have j3 : W.cell? ⟨C, 3, none⟩ = some (.int .i64 b) := by rw [← hW]; exact (cell?_ext W0 u3 _ cl).trans c3
 have j4 : W.cell? ⟨C, 4, none⟩ = some (.int .i64 m) := by rw [← hW]; exact (cell?_ext W0 u3 _ cl).trans c4
 have j5 : W.cell? ⟨C, 5, none⟩ = some (.int .i64 k) := by rw [← hW]; exact (cell?_ext W0 u3 _ cl).trans c5
 have j6 : W.cell? ⟨C, 6, none⟩ = some (.slice A n c) := by rw [← hW]; exact (cell?_ext W0 u3 _ cl).trans c6
 have j7 : W.cell? ⟨C, 7, none⟩ = some (.int .i64 q) := by rw [← hW]; exact (cell?_ext W0 u3 _ cl).trans c7
 have clW : C < W.heap.size := by rw [← hW, size_ext]; omega
 rw [hW]
 clear hW hW0 cl c0 c1 c2 c3 c4 c5 c6 c7 HSL HV0 HB0 HIM HL2 hC
 have HVa := hide (fun (u : Ext) => dVar_any (W.ext u) a hia (HVW.out.ext u))
 have hza := docVr_sz a hia
 have HVb := hide (fun (u : Ext) => dVar_any (W.ext u) b hib (HVW.out.ext u))
 have hzb := docVr_sz b hib
 have HOn := hide (fun (u : Ext) => name4_any p (by omega) (by omega) (W.ext u))
 have hzo : (opT (p : Int)).size ≤ 100 := by rcases (by omega : p = 2 ∨ p = 3 ∨ p = 4 ∨ p = 5 ∨ p = 6 ∨ p = 7 ∨ p = 8 ∨ p = 9 ∨ p = 10) with rfl | rfl | rfl | rfl | rfl | rfl | rfl | rfl | rfl <;> decide
 rw [hVa] at HVa hza
 rw [hVb] at HVb hzb
 rw [hOn] at HOn hzo
 clear hVa hVb hOn
 have e0 : (⟨#[32]⟩ : ByteArray).size = 1 := rfl
 have e1 : (⟨#[10]⟩ : ByteArray).size = 1 := rfl
 obtain ⟨q0, hq0⟩ : ∃ t, L ++ On = t := ⟨_, rfl⟩
 have mq0 : q0.size ≤ 200 := by rw [← hq0, ByteArray.size_append]; omega
 obtain ⟨q1, hq1⟩ : ∃ t, q0 ++ ⟨#[32]⟩ = t := ⟨_, rfl⟩
 have mq1 : q1.size ≤ 250 := by rw [← hq1, ByteArray.size_append]; omega
 obtain ⟨q2, hq2⟩ : ∃ t, q1 ++ Va = t := ⟨_, rfl⟩
 have mq2 : q2.size ≤ 300 := by rw [← hq2, ByteArray.size_append]; omega
 obtain ⟨q3, hq3⟩ : ∃ t, q2 ++ ⟨#[32]⟩ = t := ⟨_, rfl⟩
 have mq3 : q3.size ≤ 400 := by rw [← hq3, ByteArray.size_append]; omega
 obtain ⟨q4, hq4⟩ : ∃ t, q3 ++ Vb = t := ⟨_, rfl⟩
 have mq4 : q4.size ≤ 500 := by rw [← hq4, ByteArray.size_append]; omega
 obtain ⟨q5, hq5⟩ : ∃ t, q4 ++ ⟨#[10]⟩ = t := ⟨_, rfl⟩
 have mq5 : q5.size ≤ 600 := by rw [← hq5, ByteArray.size_append]; omega
 have p1 : ((p : Int) == 1) = false := by simp; omega
 have p2 : ((p : Int) == 11) = false := by simp; omega
 have p3 : ((p : Int) == 12) = false := by simp; omega
 have p4 : ((p : Int) == 13) = false := by simp; omega
 have p5 : ((p : Int) == 14) = false := by simp; omega
 go_wp2_with fail
 refine wp_region_flow_ext [] [] (by kernel_rfl) rfl (by kernel_rfl) ?_
 repeat (refine flow_known (by kernel_rfl) (fun K hK => ?_); go_simp; (first | (refine hK _ ?_; clear hK K) | (apply Exists.intro; refine ⟨fun _ => ?_, hK _ ?_⟩; ((go_at_call 79; exact HOn.out _)); clear hK K)))
 refine flow_out [] (.string q0) (by kernel_rfl) ?_ ?_
 ·intro u
  try simp only [List.nil_append, List.cons_append, useH_f, useH_t, useH_nil]
  go_simp
  first | (rw [if_neg (by omega)]; exact ⟨rfl, rfl⟩) | (rw [if_neg (by omega)]; exact ⟨by rw [hq0], rfl⟩)
 refine flow_out [] (.string q1) (by kernel_rfl) ?_ ?_
 ·intro u
  try simp only [List.nil_append, List.cons_append, useH_f, useH_t, useH_nil]
  go_simp
  first | (rw [if_neg (by omega)]; exact ⟨rfl, rfl⟩) | (rw [if_neg (by omega)]; exact ⟨by rw [hq1], rfl⟩)
 repeat (refine flow_known (by kernel_rfl) (fun K hK => ?_); go_simp; (first | (refine hK _ ?_; clear hK K) | (apply Exists.intro; refine ⟨fun _ => ?_, hK _ ?_⟩; ((go_at_call 77; exact HVa.out _)); clear hK K)))
 refine flow_out [] (.string q2) (by kernel_rfl) ?_ ?_
 ·intro u
  try simp only [List.nil_append, List.cons_append, useH_f, useH_t, useH_nil]
  go_simp
  first | (rw [if_neg (by omega)]; exact ⟨rfl, rfl⟩) | (rw [if_neg (by omega)]; exact ⟨by rw [hq2], rfl⟩)
 refine flow_out [] (.string q3) (by kernel_rfl) ?_ ?_
 ·intro u
  try simp only [List.nil_append, List.cons_append, useH_f, useH_t, useH_nil]
  go_simp
  first | (rw [if_neg (by omega)]; exact ⟨rfl, rfl⟩) | (rw [if_neg (by omega)]; exact ⟨by rw [hq3], rfl⟩)
 repeat (refine flow_known (by kernel_rfl) (fun K hK => ?_); go_simp; (first | (refine hK _ ?_; clear hK K) | (apply Exists.intro; refine ⟨fun _ => ?_, hK _ ?_⟩; ((go_at_call 77; exact HVb.out _)); clear hK K)))
 refine flow_out [] (.string q4) (by kernel_rfl) ?_ ?_
 ·intro u
  try simp only [List.nil_append, List.cons_append, useH_f, useH_t, useH_nil]
  go_simp
  first | (rw [if_neg (by omega)]; exact ⟨rfl, rfl⟩) | (rw [if_neg (by omega)]; exact ⟨by rw [hq4], rfl⟩)
 refine flow_out [] (.string q5) (by kernel_rfl) ?_ ?_
 ·intro u
  try simp only [List.nil_append, List.cons_append, useH_f, useH_t, useH_nil]
  go_simp
  first | (rw [if_neg (by omega)]; exact ⟨rfl, rfl⟩) | (rw [if_neg (by omega)]; exact ⟨by rw [hq5], rfl⟩)
 repeat (refine flow_known (by kernel_rfl) (fun K hK => ?_); go_simp; (first | (refine hK _ ?_; clear hK K) | (apply Exists.intro; refine ⟨fun _ => ?_, hK _ ?_⟩; (fail); clear hK K)))
 refine flow_done [] (by kernel_rfl) ?_
 intro u6
 simp only [List.nil_append, List.cons_append, endH_f, endH_t, endH_nil]
 go_simp
 go_wp2_with fail
 go_ret
 exact ⟨by (try simp only [hq0, hq1, hq2, hq3, hq4, hq5]); rfl, (HBW.out.ext HBW.out.size _).to_ext⟩
theorem insLine_any (x : Ins) (hx : InsR x) (w : World) (S : Nat → Prop) (A : Option Addr) (n c : Nat) (h : Sl w S A n c x.args) (hv : VarsP w) : Calls Tryz.prog 34 #[insV x A n c] w (RetX (.string (docIns x)) w) := by
 have ho := hx.op
 rcases (by omega : x.op = 1 ∨ (2 ≤ x.op ∧ x.op ≤ 10) ∨ x.op = 11 ∨ x.op = 12 ∨ x.op = 13 ∨ x.op = 14) with h1 | ⟨h2, h3⟩ | h1 | h1 | h1 | h1
 ·exact insLine1_any x hx w S A n c h hv h1
 ·exact insLine2_any x hx w S A n c h hv h2 h3
 ·exact insLine11_any x hx w S A n c h hv h1
 ·exact insLine12_any x hx w S A n c h hv h1
 ·by_cases hd : x.dst = 0
  ·exact insLine13z_any x hx w S A n c h hv h1 hd
  ·exact insLine13d_any x hx w S A n c h hv h1 hd
 ·exact insLine14_any x hx w S A n c h hv h1
end Go.Proofs.YtljglhaeonbfoaaGreatDoor
namespace Go.Proofs.YtljglhaeonbfoaaGreatDoor
open Go.RowKit
theorem TermR.ini {t : Term} (h : TermR t) : InI t.a := by
 have hk := h.k
 rcases (by omega : t.kind = 1 ∨ t.kind = 2 ∨ t.kind = 3 ∨ t.kind = 4) with k | k | k | k
 ·have := (h.jump k).1; unfold InI; omega
 ·exact vOk_ini (h.branch k)
 ·by_cases h0 : t.a = 0
  ·unfold InI; omega
  ·exact vOk_ini ((h.ret k).1 h0)
 ·have := (h.trap k).1; unfold InI; omega
set_option maxRecDepth 100000 in
set_option maxHeartbeats 16000000 in
theorem termLine_any (t : Term) (ht : TermR t) (w : World) (hv : VarsP w) : Calls Tryz.prog 35 #[tmV t] w (RetX (.string (docTerm t)) w) := by
 have hia := ht.ini
 have hk4 := ht.k
 have h0 := ht.to0
 have h1 := ht.to1
 have hix : InI t.to0 := by unfold InI; omega
 have hiy : InI t.to1 := by unfold InI; omega
 have htb : termB t = true := by have := (termB_iff t).2 ht; simp only [Bool.and_eq_true] at this; exact this.1
 have HX := hide ht
 clear ht h0 h1
 obtain ⟨kd, a, x, y⟩ := t
 simp only at hia hk4 hix hiy
 obtain ⟨C, hC⟩ : ∃ C, w.heap.size = C := ⟨_, rfl⟩
 obtain ⟨W0, hW0⟩ : ∃ W, w.alloc (.cells #[.int .i64 kd, .int .i64 a, .int .i64 x, .int .i64 y] 50) = W := ⟨_, rfl⟩
 have hrow : W0.heap[C]? = some (.cells #[.int .i64 kd, .int .i64 a, .int .i64 x, .int .i64 y] 50 (0, 0)) := by rw [← hW0, ← hC]; exact heap_alloc_new w _
 have c0 : W0.cell? ⟨C, 0, none⟩ = some (.int .i64 kd) := cell_of_row W0 C _ _ _ (0, 0) hrow
 have c1 : W0.cell? ⟨C, 1, none⟩ = some (.int .i64 a) := cell_of_row W0 C _ _ _ (0, 0) hrow
 have c2 : W0.cell? ⟨C, 2, none⟩ = some (.int .i64 x) := cell_of_row W0 C _ _ _ (0, 0) hrow
 have c3 : W0.cell? ⟨C, 3, none⟩ = some (.int .i64 y) := cell_of_row W0 C _ _ _ (0, 0) hrow
 have cl : C < W0.heap.size := (Array.getElem?_eq_some_iff.1 hrow).1
 have HB0 := hide (show Below w.heap.size w W0 from by rw [← hW0]; exact (Below.refl _ _).alloc (Nat.le_refl _) _)
 have HV0 := hide (show VarsP W0 from by rw [← hW0]; exact hv.alloc _)
 have HN := hide (needs3_any ⟨kd, a, x, y⟩ W0 ⟨by unfold InI; simp only; omega, hia, hix, hiy⟩ htb)
 clear hrow hv htb
 rcases (by omega : kd = 1 ∨ kd = 2 ∨ kd = 3 ∨ kd = 4) with rfl | rfl | rfl | rfl
 ·have HDI := hide (show docTerm ⟨1, a, x, y⟩ = (⟨#[226, 134, 146, 32]⟩ ++ itoaB x) ++ ⟨#[10]⟩ from by unfold docTerm; simp)
  rw [HDI.out]
  clear HDI
  have HI := hide (itoaP_any x hix W0 HV0.out)
  have hz := itoa4_sz x hix
  obtain ⟨tx, htx⟩ : ∃ s, itoaB x = s := ⟨_, rfl⟩
  rw [htx] at HI hz ⊢
  have e4 : (⟨#[226, 134, 146, 32]⟩ : ByteArray).size = 4 := rfl
  have e1 : (⟨#[10]⟩ : ByteArray).size = 1 := rfl
  have g1 : (⟨#[226, 134, 146, 32]⟩ : ByteArray).size + tx.size ≤ 9223372036854775807 := by omega
  have g2 : ((⟨#[226, 134, 146, 32]⟩ : ByteArray) ++ tx).size + (⟨#[10]⟩ : ByteArray).size ≤ 9223372036854775807 := by rw [ByteArray.size_append]; omega
  clear htx e4 e1 HN
  go_enter Tryz.func35, Tryz.ntmps35
  go_wp2_with (first | (go_at_call 33; (with_reducible refine HI.out.mono ?_); rintro e _ ⟨rfl, u2, rfl⟩) | (simp only [run_string_add_sum _ _ _ g1, run_string_add_sum _ _ _ g2]))
  go_ret
  exact ⟨rfl, (HB0.out.ext HB0.out.size _).to_ext⟩
 ·have HDI := hide (show docTerm ⟨2, a, x, y⟩ = ((((docVar a ++ ⟨#[32, 226, 134, 146, 32]⟩) ++ itoaB x) ++ ⟨#[32]⟩) ++ itoaB y) ++ ⟨#[10]⟩ from by unfold docTerm; simp)
  rw [HDI.out]
  clear HDI
  have HV := hide (fun (u : Ext) => dVar_any (W0.ext u) a hia (HV0.out.ext u))
  have hza := docVr_sz a hia
  have HI := hide (fun (u : Ext) => itoaP_any x hix (W0.ext u) (HV0.out.ext u))
  have hzx := itoa4_sz x hix
  have HJ := hide (fun (u : Ext) => itoaP_any y hiy (W0.ext u) (HV0.out.ext u))
  have hzy := itoa4_sz y hiy
  obtain ⟨Va, hVa⟩ : ∃ s, docVar a = s := ⟨_, rfl⟩
  obtain ⟨Tx, hTx⟩ : ∃ s, itoaB x = s := ⟨_, rfl⟩
  obtain ⟨Ty, hTy⟩ : ∃ s, itoaB y = s := ⟨_, rfl⟩
  rw [hVa] at HV hza
  rw [hTx] at HI hzx
  rw [hTy] at HJ hzy
  rw [hVa, hTx, hTy]
  have e5 : (⟨#[32, 226, 134, 146, 32]⟩ : ByteArray).size = 5 := rfl
  have e0 : (⟨#[32]⟩ : ByteArray).size = 1 := rfl
  have e1 : (⟨#[10]⟩ : ByteArray).size = 1 := rfl
  obtain ⟨q0, hq0⟩ : ∃ s, Va ++ ⟨#[32, 226, 134, 146, 32]⟩ = s := ⟨_, rfl⟩
  have mq0 : q0.size ≤ 100 := by rw [← hq0, ByteArray.size_append]; omega
  obtain ⟨q1, hq1⟩ : ∃ s, q0 ++ Tx = s := ⟨_, rfl⟩
  have mq1 : q1.size ≤ 200 := by rw [← hq1, ByteArray.size_append]; omega
  obtain ⟨q2, hq2⟩ : ∃ s, q1 ++ ⟨#[32]⟩ = s := ⟨_, rfl⟩
  have mq2 : q2.size ≤ 300 := by rw [← hq2, ByteArray.size_append]; omega
  obtain ⟨q3, hq3⟩ : ∃ s, q2 ++ Ty = s := ⟨_, rfl⟩
  have mq3 : q3.size ≤ 400 := by rw [← hq3, ByteArray.size_append]; omega
  obtain ⟨q4, hq4⟩ : ∃ s, q3 ++ ⟨#[10]⟩ = s := ⟨_, rfl⟩
  rw [hq0, hq1, hq2, hq3, hq4]
  clear hVa hTx hTy HN
  go_enter Tryz.func35, Tryz.ntmps35
  go_wp2_with fail
  try rw [hC]
  try rw [hW0]
  clear hC hW0
  refine wp_region_flow_ext [] [] (by kernel_rfl) rfl (by kernel_rfl) ?_
  repeat (refine flow_known (by kernel_rfl) (fun K hK => ?_); go_simp; (first | (refine hK _ ?_; clear hK K) | (apply Exists.intro; refine ⟨fun _ => ?_, hK _ ?_⟩; ((go_at_call 77; exact HV.out _)); clear hK K)))
  refine flow_out [] (.string q0) (by kernel_rfl) ?_ ?_
  ·intro u
   try simp only [List.nil_append, List.cons_append, useH_f, useH_t, useH_nil]
   go_simp
   first | (rw [if_neg (by omega)]; exact ⟨rfl, rfl⟩) | (rw [if_neg (by omega)]; exact ⟨by rw [hq0], rfl⟩)
  repeat (refine flow_known (by kernel_rfl) (fun K hK => ?_); go_simp; (first | (refine hK _ ?_; clear hK K) | (apply Exists.intro; refine ⟨fun _ => ?_, hK _ ?_⟩; ((go_at_call 33; exact HI.out _)); clear hK K)))
  refine flow_out [] (.string q1) (by kernel_rfl) ?_ ?_
  ·intro u
   try simp only [List.nil_append, List.cons_append, useH_f, useH_t, useH_nil]
   go_simp
   first | (rw [if_neg (by omega)]; exact ⟨rfl, rfl⟩) | (rw [if_neg (by omega)]; exact ⟨by rw [hq1], rfl⟩)
  refine flow_out [] (.string q2) (by kernel_rfl) ?_ ?_
  ·intro u
   try simp only [List.nil_append, List.cons_append, useH_f, useH_t, useH_nil]
   go_simp
   first | (rw [if_neg (by omega)]; exact ⟨rfl, rfl⟩) | (rw [if_neg (by omega)]; exact ⟨by rw [hq2], rfl⟩)
  repeat (refine flow_known (by kernel_rfl) (fun K hK => ?_); go_simp; (first | (refine hK _ ?_; clear hK K) | (apply Exists.intro; refine ⟨fun _ => ?_, hK _ ?_⟩; ((go_at_call 33; exact HJ.out _)); clear hK K)))
  refine flow_out [] (.string q3) (by kernel_rfl) ?_ ?_
  ·intro u
   try simp only [List.nil_append, List.cons_append, useH_f, useH_t, useH_nil]
   go_simp
   first | (rw [if_neg (by omega)]; exact ⟨rfl, rfl⟩) | (rw [if_neg (by omega)]; exact ⟨by rw [hq3], rfl⟩)
  refine flow_out [] (.string q4) (by kernel_rfl) ?_ ?_
  ·intro u
   try simp only [List.nil_append, List.cons_append, useH_f, useH_t, useH_nil]
   go_simp
   first | (rw [if_neg (by omega)]; exact ⟨rfl, rfl⟩) | (rw [if_neg (by omega)]; exact ⟨by rw [hq4], rfl⟩)
  repeat (refine flow_known (by kernel_rfl) (fun K hK => ?_); go_simp; (first | (refine hK _ ?_; clear hK K) | (apply Exists.intro; refine ⟨fun _ => ?_, hK _ ?_⟩; (fail); clear hK K)))
  refine flow_done [] (by kernel_rfl) ?_
  intro u6
  simp only [List.nil_append, List.cons_append, endH_f, endH_t, endH_nil]
  go_simp
  go_wp2_with fail
  go_ret
  exact ⟨rfl, (HB0.out.ext HB0.out.size _).to_ext⟩
 ·have HDI := hide (show docTerm ⟨3, a, x, y⟩ = docAll tReturn (if a = 0 then [] else [a]) from by unfold docTerm; simp)
  rw [HDI.out]
  clear HDI
  have hlen : (if a = 0 then [] else [a] : List Int).length ≤ 1 := by split <;> simp
  have HAL := hide (fun (W : World) (S : Nat → Prop) (A : Option Addr) (n c : Nat) (h : Sl W S A n c (if a = 0 then [] else [a])) (hv : VarsP W) => show Calls Tryz.prog 32 #[.string ⟨#[114, 101, 116, 117, 114, 110]⟩, .slice A n c] W (RetX (.string (docAll tReturn (if a = 0 then [] else [a]))) W) from docAll_any tReturn W S A n c _ h hv (by decide) (by have := h.len; omega))
  obtain ⟨RR, hRR⟩ : ∃ s, docAll tReturn (if a = 0 then [] else [a]) = s := ⟨_, rfl⟩
  rw [hRR] at HAL ⊢
  clear hRR hlen
  go_enter Tryz.func35, Tryz.ntmps35
  go_wp2_with (first | (go_at_call 80; (with_reducible refine HN.out.mono ?_); rintro e _ ⟨A, n, c, rfl, hsl, u, rfl⟩) | (go_at_call 32; (with_reducible refine (HAL.out _ _ _ _ _ hsl (HV0.out.ext _)).mono ?_); rintro e _ ⟨rfl, u2, rfl⟩))
  go_ret
  exact ⟨rfl, ((HB0.out.ext HB0.out.size _).ext (by first | exact HB0.out.size | (rw [size_ext]; exact Nat.le_trans HB0.out.size (Nat.le_add_right _ _))) _).to_ext⟩
 ·have HDI := hide (show docTerm ⟨4, a, x, y⟩ = ⟨#[116, 114, 97, 112, 10]⟩ from by unfold docTerm; simp)
  rw [HDI.out]
  clear HDI HN
  go_enter Tryz.func35, Tryz.ntmps35
  go_wp2_with fail
  go_ret
  exact ⟨rfl, HB0.out.to_ext⟩
end Go.Proofs.YtljglhaeonbfoaaGreatDoor
