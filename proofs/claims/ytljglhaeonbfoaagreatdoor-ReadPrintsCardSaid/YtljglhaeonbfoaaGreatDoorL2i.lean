/- law02: the program's Over: the words as items. -/
import Derived.Test.YtljglhaeonbfoaaGreatDoorG13
import Derived.Test.YtljglhaeonbfoaaGreatDoorG15
import Derived.Test.YtljglhaeonbfoaaGreatDoorG3
set_option linter.unusedSimpArgs false
set_option linter.unusedVariables false
namespace Go.Proofs.YtljglhaeonbfoaaGreatDoor
open Go.RowKit
theorem info_item : (Tryz.prog.info? 118).map (fun i => (i.zero, i.size, i.bytes)) = some (some (.agg #[.int .i64 0, .int .i64 0, .nilIface]), 3, 32) := by kernel_rfl
structure MakeAt (w : World) (base R : Nat) (v : Value) (ws : List Word) : Prop where
 blk : w.heap[R]? = some (.cells (curCells v ⟨[], 0, 0, 0⟩) 109 (0, 0))
 own : OwnL w base 118 (fun _ => False) v (ws.map Itm.mk)
 lt : R < base
section
variable {w w' : World} {base R : Nat} {v : Value} {ws : List Word}
theorem MakeAt.rlt (h : MakeAt w base R v ws) : R < w.heap.size := (Array.getElem?_eq_some_iff.1 h.blk).1
theorem MakeAt.dv (h : MakeAt w base R v ws) : v.ownBlock ≠ some R := fun e => by have := (h.own.below_ R e).1; have := h.lt; omega
theorem MakeAt.ext (h : MakeAt w base R v ws) (u : Ext) : MakeAt (w.ext u) base R v ws := ⟨(ext_block w u R h.rlt).trans h.blk, h.own.ext u, h.lt⟩
theorem MakeAt.alloc (h : MakeAt w base R v ws) (o : Obj) : MakeAt (w.alloc o) base R v ws := ⟨(Below.heap_alloc w o R h.rlt).trans h.blk, h.own.alloc o, h.lt⟩
theorem MakeAt.k0 (h : MakeAt w base R v ws) : w.cell? ⟨R, 0, none⟩ = some v := cell_of_row w R _ _ _ (0, 0) h.blk
theorem MakeAt.f0 (h : MakeAt w base R v ws) : w.frozen? ⟨R, 0, none⟩ = false := by simp [World.frozen?, h.blk]
end
theorem MakeAt.grow {w w' : World} {base R : Nat} {v v' : Value} {ws ws' : List Word} (h : MakeAt w base R v ws) (hg : w.grownBy w' v.ownBlock) (hl : OwnL w' base 118 (fun _ => False) v' (ws'.map Itm.mk)) : MakeAt (w'.setCell ⟨R, 0, none⟩ v') base R v' ws' := by
 have blk : w'.heap[R]? = some (.cells (curCells v ⟨[], 0, 0, 0⟩) 109 (0, 0)) := (hg.block R h.rlt (fun e => h.dv e.symm)).trans h.blk
 refine ⟨by rw [row_setB blk]; rfl, hl.setCell (p := ⟨R, 0, none⟩) (fun h => h) (fun e => ?_) v', h.lt⟩
 have := (hl.below_ R e).1; have := h.lt; omega
theorem MakeAt.row {w : World} {base R : Nat} {ws : List Word} {g n c : Nat} (h : MakeAt w base R (.slice (some ⟨g, 0, none⟩) n c) ws) : ItRow w g ws ∧ ws.length = n ∧ n ≤ c ∧ c ≤ maxLen ∧ base ≤ g := by
 obtain ⟨h1, h2, h3, h4, h5, h6, cur, h7, h8, h9⟩ := h.own.form_at
 rw [List.length_map] at h1
 have hsz : Rep.size Itm = 3 := rfl
 rw [hsz] at h8
 refine ⟨⟨cur, h7, by rw [h8]; exact Nat.mul_le_mul_right _ (by omega), fun i x hx => ?_⟩, h1, h2, h3, h4⟩
 obtain ⟨us, hu, hc, _⟩ := h.own.cell_at (i := i) (x := ⟨x⟩) (by rw [List.getElem?_map, hx]; rfl)
 obtain ⟨rfl, r⟩ := hu
 rw [hsz] at hc
 have hcell : ∀ j, w.cell? ⟨g, j, none⟩ = cur[j]? := fun j => cell_of_row w g _ _ _ (0, 0) h7
 exact ⟨(hcell _).symm.trans (hc 0 _ rfl), (hcell _).symm.trans (hc 1 _ rfl), (hcell _).symm.trans (hc 2 _ rfl), r⟩
theorem totL_len2 : ∀ xs : List Word, xs.length ≤ totL xs
 | [] => Nat.le_refl _
 | x :: l => by have := totL_len2 l; simp only [List.length_cons, totL]; omega
theorem read_count (s : ByteArray) (hs : s.size ≤ 34359738368) : (readR s).words.length ≤ 1099511627776 := by
 by_cases he : (readR s).err = 0
 ·obtain ⟨ws, _, hR, _, _, ht⟩ := read_lexes he
  rw [hR]
  have := totL_len2 ws
  show ws.length ≤ _; omega
 ·rw [(read_err s he).1]; simp
theorem read_kinds (s : ByteArray) : ∀ x ∈ (readR s).words, x.kind = 1 ∨ x.kind = 2 ∨ x.kind = 3 ∨ x.kind = 4 := by
 intro x hx
 by_cases he : (readR s).err = 0
 ·obtain ⟨ws, hlx, hR, _⟩ := read_lexes he
  rw [hR] at hx
  obtain ⟨t, _, h⟩ := hlx.tok.1 x hx
  rcases h with h | h | h | h
  ·exact .inl h.1
  ·exact .inr (.inl h.1)
  ·exact .inr (.inr (.inl h.1))
  ·exact .inr (.inr (.inr h.1))
 ·rw [(read_err s he).1] at hx; cases hx
def dropEnd (l : List Word) : List Word := match l.getLast? with
 | some x => if endW x = true then l.dropLast else l
 | none => l
def overT (s : ByteArray) : Cur := if (readR s).err ≠ 0 then ⟨[], (readR s).err, (readR s).line, (readR s).col⟩ else ⟨dropEnd (compK true (readR s).words), 0, 0, 0⟩
def OverP (s : ByteArray) (w : World) (e : Ending) (w' : World) : Prop := e = .returned (.pointer (some ⟨w.heap.size, 0, none⟩)) ∧ CurAt w' (fun b => w.heap.size < b ∧ b < w'.heap.size) w.heap.size (overT s) ∧ Below w.heap.size w w'
set_option maxRecDepth 100000 in
set_option maxHeartbeats 40000000 in
theorem cOver1 (s : ByteArray) (w : World) (hs : s.size ≤ 34359738368) (hv : Vars w) : Calls Tryz.prog 38 #[.string s] w (OverP s w) := by
 obtain ⟨i0, hi, hz, hz1, hz2⟩ := info_parts info_item
 have HI0 := hide hi; have HZ := hide hz; have HZ1 := hide hz1; have HZ2 := hide hz2
 clear hi hz hz1 hz2
 have HV := hide hv
 have H7 := hv.sz
 clear hv
 obtain ⟨W, hW⟩ : ∃ W, w.alloc (.cells #[.slice none 0 0, .int .i64 0, .int .i64 0, .int .i64 0, .bool true] 109) = W := ⟨_, rfl⟩
 have HB := hide (show Below w.heap.size w W by rw [← hW]; exact (Below.refl _ _).alloc (Nat.le_refl _) _)
 have HBK := hide (show W.heap[w.heap.size]? = some (.cells (curCells (.slice none 0 0) ⟨[], 0, 0, 0⟩) 109 (0, 0)) by rw [← hW]; exact heap_alloc_new w _)
 have HVW := hide (HV.out.below HB.out HV.out.sz)
 have hk := fun x hx => (read_kinds s) x hx
 obtain ⟨R, hR⟩ : ∃ R, readR s = R := ⟨_, rfl⟩
 have HR := hide (show Calls Tryz.prog 83 #[.string s] W (RetRd W R) by rw [← hR]; exact read_any s W hs HVW.out)
 have HRR := hide hR
 have HK := hide (show ∀ x ∈ R.words, x.kind = 1 ∨ x.kind = 2 ∨ x.kind = 3 ∨ x.kind = 4 by rw [← hR]; exact hk)
 clear hR hk
 obtain ⟨rw_, rl, rc, re⟩ := R
 have hrR : w.heap.size < W.heap.size := (Array.getElem?_eq_some_iff.1 HBK.out).1
 obtain ⟨R, hRR⟩ : ∃ R, w.heap.size = R := ⟨_, rfl⟩
 rw [hRR] at hrR HBK
 go_enter Tryz.func38, Tryz.ntmps38
 go_wp2_with fail
 go_wp2_with (first | (go_at_call 83; refine HR.out.mono ?_; rintro e _ ⟨A1, n, c1, rfl, hS1, u1, rfl⟩; dsimp only; refine Hd.out ?_))
 refine hide ?_
 have HRb := hide hRR
 have HNW := hide (show rw_.length ≤ 1099511627776 by have := read_count s hs; rw [HRR.out] at this; exact this)
 obtain ⟨W1, hW1⟩ : ∃ W', W.ext u1 = W' := ⟨_, rfl⟩
 have HB1 := hide (show Below w.heap.size w W1 by rw [← hW1]; exact HB.out.ext HB.out.size u1)
 have HS1 := hide (show Sl W1 (fun b => W.heap.size ≤ b ∧ b < W1.heap.size) A1 n c1 rw_ by rw [← hW1] at *; exact hS1.more fun b hb h => ⟨h, hb⟩)
 have HBK1 := hide (show W1.heap[R]? = some (.cells (curCells (.slice none 0 0) ⟨[], 0, 0, 0⟩) 109 (0, 0)) by rw [← hW1, ext_block W u1 R hrR]; exact HBK.out)
 have hRW1 : R < W1.heap.size := (Array.getElem?_eq_some_iff.1 HBK1.out).1
 have hWW1 : W.heap.size ≤ W1.heap.size := by rw [← hW1, size_ext]; omega
 rw [hW1]
 have hn := HS1.out.nle
 clear hW1 hS1 HR hRR hW HBK HVW HB H7 HV
 by_cases he : re = 0
 ·subst he
  have HOV := hide (show overT s = ⟨dropEnd (compK true rw_), 0, 0, 0⟩ by unfold overT; rw [HRR.out]; exact if_neg (by simp))
  go_wp2_with fail
  go_loopw [35] (fun i wr => ∃ (k : Nat) (v : Value), i = .int .i64 k ∧ k ≤ n ∧ MakeAt wr W1.heap.size R v (rw_.take k) ∧ Only R W1 wr) (fun i _ => n - (intOf i).toNat)
  case atStart => exact ⟨0, _, rfl, Nat.zero_le _, ⟨HBK1.out, OwnL.nil_ _ _ _ _, hRW1⟩, Only.refl _ _⟩
  case round =>
   obtain ⟨k, v, rfl, hk, hmk, hon⟩ := hrel
   have HM := hide hmk; have HON := hide hon
   have hsz1 := hon.size
   clear hmk hon
   by_cases hlt : k < n
   ·obtain ⟨b, off, x, rfl, hb, hx, i0', i1', i2', i3', i4', c0, c1', c2, c3, c4⟩ := at_Word (HON.out.sl HS1.out (by omega)) hlt
    have HX := hide hx
    have HXB := hide (show InI x.line ∧ InI x.col ∧ InI x.n ∧ x.text.size ≤ maxLen from ⟨i3', i4', i2', i1'⟩)
    have HH := hide (fun W => held_any x W)
    obtain ⟨kd, tx, nn, ln, cl⟩ := x
    simp only at i0' i1' i2' i3' i4' c0 c1' c2 c3 c4 HH
    obtain ⟨th, vh, eh⟩ := (hasW ⟨kd, tx, nn, ln, cl⟩).form
    have HEH := hide eh
    rw [eh] at HH
    clear hx i0' i1' i2' i3' i4' eh
    go_wp2_with fail
    obtain ⟨V, hV⟩ : ∃ V, wr.alloc (.cells #[.int .i64 kd, .string tx, .int .i64 nn, .int .i64 ln, .int .i64 cl] 115) = V := ⟨_, rfl⟩
    have HBX := hide (show V.heap[wr.heap.size]? = some (.cells #[.int .i64 kd, .string tx, .int .i64 nn, .int .i64 ln, .int .i64 cl] 115 (0, 0)) by rw [← hV]; exact heap_alloc_new wr _)
    have HMV := hide (show MakeAt V W1.heap.size R v (rw_.take k) by rw [← hV]; exact HM.out.alloc _)
    have HONV := hide (show Only R W1 V by rw [← hV]; exact HON.out.alloc _)
    have hbx := (Array.getElem?_eq_some_iff.1 HBX.out).1
    obtain ⟨bx, hbxe⟩ : ∃ bx, wr.heap.size = bx := ⟨_, rfl⟩
    rw [hbxe] at HBX hbx
    have hszV : W1.heap.size ≤ V.heap.size := HONV.out.size
    rw [hV, hbxe]
    have hlRV := HMV.out.rlt
    have y0 : V.cell? ⟨bx, 0, none⟩ = some (.int .i64 kd) := cell_of_row V _ _ _ _ (0, 0) HBX.out
    have y1 : V.cell? ⟨bx, 1, none⟩ = some (.string tx) := cell_of_row V _ _ _ _ (0, 0) HBX.out
    have y2 : V.cell? ⟨bx, 2, none⟩ = some (.int .i64 nn) := cell_of_row V _ _ _ _ (0, 0) HBX.out
    have y3 : V.cell? ⟨bx, 3, none⟩ = some (.int .i64 ln) := cell_of_row V _ _ _ _ (0, 0) HBX.out
    have y4 : V.cell? ⟨bx, 4, none⟩ = some (.int .i64 cl) := cell_of_row V _ _ _ _ (0, 0) HBX.out
    have k0 := HMV.out.k0
    clear hV c0 c1' c2 c3 c4 hbxe hsz1 HM HON
    refine wp_region_row_last (v.ownBlock) [15] [14, 15] 19 (by kernel_rfl) rfl rfl rfl (by kernel_rfl) (by kernel_rfl) ?_
    simp only [List.take_succ_cons, List.take_zero]
    repeat (refine flowG_known (by kernel_rfl) (fun K hK => ?_); go_simp; (first | (refine hK _ ?_; clear hK K) | (apply Exists.intro; refine ⟨fun w' => ?_, hK _ ?_⟩; (fail); clear hK K)))
    repeat (refine flowG_known0 (by kernel_rfl) (by kernel_rfl) (fun K hK => ?_); go_simp; (first | (refine hK _ ?_; clear hK K) | (apply Exists.intro; refine ⟨fun _ => ?_, hK _ ?_⟩; ((go_at_call 84; exact (HH.out _))); clear hK K)))
    refine flowG_keep [] (LitP 118 [.int .i64 ln, .int .i64 cl, .iface th vh] 1) (by kernel_rfl) (LitP.stable_ rfl) (by kernel_rfl) ?_ ?_
    ·intro u hu
     try simp only [List.nil_append, List.cons_append, useH_f, useH_t, useH_nil]
     go_simp
     exact ⟨LitP.mk_ (us := [.int .i64 ln, .int .i64 cl, .iface th vh]) (by rw [size_ext]), onW_row_alloc hu⟩
    refine flowG_keep [true] (PushP W1.heap.size 118 (fun _ => False) v.ownBlock V.heap.size ((rw_.take k).map Itm.mk ++ [Itm.mk ⟨kd, tx, nn, ln, cl⟩])) (by kernel_rfl) (PushP.stable_ rfl) (by kernel_rfl) ?_ ?_
    ·intro u hu
     try simp only [List.nil_append, List.cons_append, useH_f, useH_t, useH_nil]
     intro v1 hv1
     have hMu := HMV.out.ext u
     exact HeldAt.push_own (α := Itm) rfl (.tmp 44) (.tmp 53) 103 rfl W1.heap.size 118 i0 _ 32 Tryz.underlying103 HI0.out HZ.out HZ1.out HZ2.out rfl (by decide) (fun _ => False) (fun _ => False) v _ ⟨⟨kd, tx, nn, ln, cl⟩⟩ [.int .i64 ln, .int .i64 cl, .iface th vh] 118 rfl hMu.own (by go_simp) hv1
      ⟨by rw [HEH.out], HXB.out.1, HXB.out.2.1, HXB.out.2.2.1, HXB.out.2.2.2⟩ (fun _ h => h.elim) (fun g hg h => h) (fun b h => h.elim) (by rw [List.length_map, List.length_take]; have := HNW.out; omega) (by rw [List.length_map, List.length_take]; have := HNW.out; omega) (by rw [size_ext]; omega) hu
    repeat (refine flowG_known (by kernel_rfl) (fun K hK => ?_); go_simp; (first | (refine hK _ ?_; clear hK K) | (apply Exists.intro; refine ⟨fun w' => ?_, hK _ ?_⟩; (fail); clear hK K)))
    refine flowG_done [false, true] (by kernel_rfl) ?_
    intro w6 h6
    simp only [List.nil_append, List.cons_append, endH_f, endH_t, endH_nil]
    rintro v8 v9 ⟨hown9, hv9, _⟩
    have HW9 := hide hown9; have HV9 := hide hv9; have H6 := hide h6
    obtain ⟨A9, c9, rfl⟩ := hown9.form
    generalize ((rw_.take k).map Itm.mk ++ [Itm.mk ⟨kd, tx, nn, ln, cl⟩]).length = n9 at hown9 HW9 HV9 hv9 ⊢
    clear hown9 hv9 h6
    have blk6 := hide (show w6.heap[R]? = some (.cells (curCells v ⟨[], 0, 0, 0⟩) 109 (0, 0)) from (H6.out.block R hlRV (fun e => HMV.out.dv e.symm)).trans HMV.out.blk)
    have c6 : w6.cell? ⟨R, 0, none⟩ = some v := cell_of_row w6 _ _ _ _ (0, 0) blk6.out
    have f6 : w6.frozen? ⟨R, 0, none⟩ = false := by simp [World.frozen?, blk6.out]
    clear y0 y1 y2 y3 y4 k0
    go_wp2_with fail
    go_roundw
    case rel =>
     refine ⟨k + 1, _, by go_num, by omega, HMV.out.grow H6.out (by rw [take_at HX.out, List.map_append]; exact HW9.out), ?_⟩
     have h6o : Only R W1 w6 := ⟨H6.out.os.trans HONV.out.os, H6.out.tape.trans HONV.out.tape, H6.out.output.trans HONV.out.output, Nat.le_trans HONV.out.size H6.out.size, fun b hb hbR => (H6.out.block b (by omega) (fun e => by have := (HMV.out.own.below_ b e.symm).1; omega)).trans (HONV.out.block b hb hbR)⟩
     exact h6o.set rfl _
    case measure => simp [intOf]; omega
   ·have hk' : k = n := by omega
    have htk : rw_.take k = rw_ := List.take_of_length_le (by have := HS1.out.len; omega)
    rw [htk] at HM
    clear htk
    have hown := HM.out.own
    obtain ⟨vals, ⟨_, hv⟩, _⟩ := hown
    rcases hv with ⟨rfl, h0⟩ | ⟨g, cap, cur, rfl, hgb, _⟩
    ·rw [List.length_map] at h0
     obtain rfl : rw_ = [] := List.eq_nil_of_length_eq_zero h0
     have hnl := HS1.out.len
     have k0 := HM.out.k0
     have f0 := HM.out.f0
     have hlR := HM.out.rlt
     have HCN := hide (fun W => compact_nil W)
     go_wp2_with (first | (go_at_call 85; refine (HCN.out _).mono ?_; rintro e w' ⟨rfl, rfl⟩))
     go_ret
     have hRb := HRb.out
     refine ⟨by rw [hRb]; rfl, ?_, ?_⟩
     ·rw [HOV.out, hRb]
      refine ⟨⟨none, 0, 0, ?_, Sl.nil⟩, ⟨fun _ h => (by cases h), fun _ => ⟨rfl, rfl⟩⟩, by omega⟩
      rw [row_setB HM.out.blk 0 _]; rfl
     ·exact HB1.out.trans ((HON.out.set (a := ⟨R, 0, none⟩) rfl _).below (by omega) (by have := HB1.out.size; omega))
    ·obtain ⟨hrow, hl, hlc, hcm, _⟩ := HM.out.row
     have HCM := hide (compact_any wr g _ cap rw_ hrow hl hlc hcm)
     have HBKR := hide HM.out.blk
     have k0 := HM.out.k0
     have f0 := HM.out.f0
     have hlR := HM.out.rlt
     have hgl := hrow.lt
     obtain ⟨n2, hn2⟩ : ∃ n2, (rw_.map Itm.mk).length = n2 := ⟨_, rfl⟩
     rw [hn2] at HCM k0 hlc HM hl HBKR
     have hlc9 : n2 ≤ 9223372036854775807 := by unfold maxLen at hcm; omega
     clear hrow hn2
     go_wp2_with (first | (go_at_call 85; refine HCM.out.mono ?_; rintro e w2 ⟨k2, ds, rfl, hk2, hrow2, hkd, htk2, hon2⟩; refine Hd.out ?_))
     refine hide ?_
     have HROW2 := hide hrow2; have HTK2 := hide htk2
     have HON2 := hide (show Only R W1 w2 from ⟨hon2.os.trans HON.out.os, hon2.tape.trans HON.out.tape, hon2.output.trans HON.out.output, Nat.le_trans HON.out.size hon2.size, fun b hb hbR => (hon2.block b (by have := HON.out.size; omega) (by omega)).trans (HON.out.block b hb hbR)⟩)
     have blk2 := hide ((hon2.block R hlR (by omega)).trans HBKR.out)
     have hlR2 : R < w2.heap.size := by have := hon2.size; omega
     have hgl2 := hrow2.lt
     have q0 : w2.cell? ⟨R, 0, none⟩ = some (.slice (some ⟨g, 0, none⟩) n2 cap) := cell_of_row w2 _ _ _ _ (0, 0) blk2.out
     have g0 : w2.frozen? ⟨R, 0, none⟩ = false := by simp [World.frozen?, blk2.out]
     have hgR : ¬ g = R := by omega
     have hRg : R < g := by omega
     have HC2 := hide (show CurAt (w2.setCell ⟨R, 0, none⟩ (.slice (some ⟨g, 0, none⟩) k2 cap)) (fun b => b = g) R ⟨compK false rw_, 0, 0, 0⟩ from
      ⟨⟨_, _, _, by rw [row_setB blk2.out 0 _]; rfl, by rw [← HTK2.out]; exact (HROW2.out.sl (S := fun b => b = g) rfl hkd (by omega) hcm).setCell (fun h => hgR h.symm) _⟩, ⟨fun x hx => HK.out x (compK_mem _ _ x hx), fun _ => ⟨rfl, rfl⟩⟩, by omega⟩)
     clear hon2 hrow2 htk2 k0 f0 hlR hgl
     cases hL0 : compK false rw_ with
     | nil =>
      have h00 : rw_ = [] := compK_nil hL0
      obtain rfl : k2 = 0 := by
       have := congrArg List.length HTK2.out
       rw [hL0, List.length_take] at this
       simp at this
       rcases this with h | h
       ·exact h
       ·rw [h] at hkd; simpa using hkd
      have hC := HC2.out
      rw [hL0] at hC
      have HCf := hide hC
      have HLL := hide h00
      clear hL0 h00 hC HC2
      go_wp2_with fail
      go_ret
      have hRb := HRb.out
      refine ⟨by rw [hRb]; rfl, ?_, ?_⟩
      ·rw [HOV.out, hRb, HLL.out]
       exact HCf.out.moreS (fun b hb h => by have h' : b = g := h; omega) (by omega)
      ·exact HB1.out.trans ((HON2.out.set (a := ⟨R, 0, none⟩) rfl _).below (by omega) (by have := HB1.out.size; omega))
     | cons x0 l0 =>
      have hC := HC2.out
      rw [hL0] at hC
      have HCf := hide hC
      have hpos : 0 < k2 := by
       have := congrArg List.length HTK2.out
       rw [hL0, List.length_take] at this
       simp at this; omega
      have hds : ds[0]? = some x0 := by
       have := congrArg (fun l => l[0]?) HTK2.out
       rw [hL0] at this
       simp only [List.getElem?_take, if_pos hpos] at this
       simpa using this
      obtain ⟨z0, z1, z2, _⟩ := HROW2.out.at_ hds
      simp only [Nat.zero_mul, Nat.zero_add] at z0 z1 z2
      have HE := hide (fun W => cEnded x0 W)
      unfold itV at HE
      obtain ⟨te, ve, ee⟩ := (hasW x0).form
      rw [ee] at z2 HE
      have HHD := hide (compK_head hL0)
      obtain ⟨be, hbe⟩ : ∃ b, endW x0 = b := ⟨_, rfl⟩
      rw [hbe] at HE HHD
      clear hL0 hC HC2 hds ee hbe
      go_wp2_with (first | (go_at_call 87; (with_reducible refine (HE.out _).mono ?_); rintro e _ ⟨rfl, ue, rfl⟩; refine Hd.out ?_))
      refine hide ?_
      obtain ⟨W3, hW3⟩ : ∃ W3, (w2.setCell ⟨R, 0, none⟩ (.slice (some ⟨g, 0, none⟩) k2 cap)).ext ue = W3 := ⟨_, rfl⟩
      have HC3 := hide (show CurAt W3 (fun b => b = g) R ⟨x0 :: l0, 0, 0, 0⟩ by rw [← hW3]; exact HCf.out.ext ue)
      have HO3 := hide (show Only R W1 W3 by rw [← hW3]; exact (HON2.out.set (a := ⟨R, 0, none⟩) rfl _).ext ue)
      rw [hW3]
      have hlR3 := HC3.out.lt
      clear hW3 HCf q0 g0 z0 z1 z2 HE blk2
      cases be
      ·have HLE := hide (show dropEnd (x0 :: l0) = dropEnd (compK true rw_) by rw [HHD.out]; rfl)
       rcases List.eq_nil_or_concat (x0 :: l0) with hnil | ⟨l2, y, hcat⟩
       ·obtain ⟨A4, n4, c4, k0, k1, k2, k3, k4, hs4⟩ := HC3.out.at_
        have hn4 : n4 = 0 := by have := hs4.len; rw [List.length_map] at this; rw [← this, hnil]; rfl
        subst hn4
        have hlt4 := HC3.out.lt
        have HF := hide (show dropEnd (x0 :: l0) = (x0 :: l0) by rw [hnil]; rfl)
        clear hs4 hnil k1 k2 k3 k4
        go_wp2_with fail
        go_ret
        have hRb := HRb.out
        refine ⟨by rw [hRb]; rfl, ?_, HO3.out.below (by omega) (by have := HB1.out.size; omega) |> HB1.out.trans⟩
        rw [HOV.out, hRb, ← HLE.out, HF.out]
        exact HC3.out.moreS (fun b hb h => by have h' : b = g := h; omega) (by omega)
       ·rw [List.concat_eq_append] at hcat
        obtain ⟨A4, n4, c4, k0, k1, k2, k3, k4, hs4⟩ := HC3.out.at_
        have hn4 : n4 = l2.length + 1 := by have := hs4.len; rw [List.length_map] at this; rw [← this, hcat]; simp
        obtain ⟨b4, off4, x4, rfl, hb4, hS4, hx4, _, _, _, _, c0, c1, c2⟩ := at_Itm (xs := (x0 :: l0)) hs4 (k := n4 - 1) (by omega)
        have hx4e : x4 = y := by
         have : (x0 :: l0)[n4 - 1]? = some y := by rw [hcat, hn4]; simp
         rw [this] at hx4; exact (Option.some.inj hx4).symm
        subst hx4e
        clear hS4
        have HE := hide (fun W => cEnded x4 W)
        unfold itV at HE
        obtain ⟨te, ve, ee⟩ := (hasW x4).form
        rw [ee] at c2 HE
        have hlt4 := HC3.out.lt
        have hn9 := hs4.nle
        have hc4 := hs4.2.1
        have hf4 := HC3.out.fz 0
        have HS4 := hide hs4
        obtain ⟨be, hbe⟩ : ∃ b, endW x4 = b := ⟨_, rfl⟩
        rw [hbe] at HE
        have HN4 := hide hn4
        have hn40 : 0 < n4 := by omega
        have HCAT := hide hcat
        have HBE := hide hbe
        have HEE := hide ee
        clear hs4 hcat k1 k2 k3 k4 hx4 hbe hn4 ee
        cases be
        ·have HF := hide (show dropEnd (x0 :: l0) = (x0 :: l0) by unfold dropEnd; rw [HCAT.out]; simp [HBE.out])
         go_wp2_with (first | (go_at_call 87; (with_reducible refine (HE.out _).mono ?_); rintro e _ ⟨rfl, ue, rfl⟩))
         go_ret
         have hRb := HRb.out
         refine ⟨by rw [hRb]; rfl, ?_, ((HO3.out.ext ue).below (by omega) (by have := HB1.out.size; omega)) |> HB1.out.trans⟩
         rw [HOV.out, hRb, ← HLE.out, HF.out]
         exact (HC3.out.ext ue).moreS (fun b hb h => by have h' : b = g := h; omega) (by omega)
        ·have HF := hide (show dropEnd (x0 :: l0) = l2 by unfold dropEnd; rw [HCAT.out]; simp [HBE.out])
         go_wp2_with (first | (go_at_call 87; (with_reducible refine (HE.out _).mono ?_); rintro e _ ⟨rfl, ue, rfl⟩))
         go_ret
         have hRb := HRb.out
         have hl2 := HN4.out
         have hsl := HS4.out.take_ (k := n4 - 1) (by omega)
         have e9 : n4 - 1 = l2.length := by omega
         rw [← List.map_take, HCAT.out, e9, List.take_left'] at hsl
         ·have hcur := (HC3.out.putWs (s' := ⟨l2, 0, 0, 0⟩) hsl rfl rfl rfl ⟨fun w hw => HC3.out.ok.k w (by show w ∈ (x0 :: l0); rw [HCAT.out]; simp [hw]), fun _ => ⟨rfl, rfl⟩⟩).ext ue
          rw [e9]
          refine ⟨by rw [hRb]; rfl, ?_, ?_⟩
          ·rw [HOV.out, hRb, ← HLE.out, HF.out]
           exact hcur.moreS (fun b hb h => by have h' : b = g := h; omega) (by omega)
          ·exact ((((HO3.out.set (a := ⟨R, 0, none⟩) rfl _).ext ue).below (by omega) (by have := HB1.out.size; omega)) |> HB1.out.trans)
         ·rfl
      ·have HO := hide (cOver HC3.out (by simp))
       have HLE := hide (show dropEnd l0 = dropEnd (compK true rw_) by rw [HHD.out]; rfl)
       go_wp2_with (first | (go_at_call 88; refine HO.out.mono ?_; rintro e w3 ⟨rfl, hat3, hon3⟩; refine Hd.out ?_))
       refine hide ?_
       have HC4 := hide (show CurAt w3 (fun b => b = g) R ⟨l0, 0, 0, 0⟩ from hat3)
       have HO4 := hide (HO3.out.trans hon3)
       clear hat3 hon3 HO
       rcases List.eq_nil_or_concat l0 with hnil | ⟨l2, y, hcat⟩
       ·obtain ⟨A4, n4, c4, k0, k1, k2, k3, k4, hs4⟩ := HC4.out.at_
        have hn4 : n4 = 0 := by have := hs4.len; rw [List.length_map] at this; rw [← this, hnil]; rfl
        subst hn4
        have hlt4 := HC4.out.lt
        have HF := hide (show dropEnd l0 = l0 by rw [hnil]; rfl)
        clear hs4 hnil k1 k2 k3 k4
        go_wp2_with fail
        go_ret
        have hRb := HRb.out
        refine ⟨by rw [hRb]; rfl, ?_, HO4.out.below (by omega) (by have := HB1.out.size; omega) |> HB1.out.trans⟩
        rw [HOV.out, hRb, ← HLE.out, HF.out]
        exact HC4.out.moreS (fun b hb h => by have h' : b = g := h; omega) (by omega)
       ·rw [List.concat_eq_append] at hcat
        obtain ⟨A4, n4, c4, k0, k1, k2, k3, k4, hs4⟩ := HC4.out.at_
        have hn4 : n4 = l2.length + 1 := by have := hs4.len; rw [List.length_map] at this; rw [← this, hcat]; simp
        obtain ⟨b4, off4, x4, rfl, hb4, hS4, hx4, _, _, _, _, c0, c1, c2⟩ := at_Itm (xs := l0) hs4 (k := n4 - 1) (by omega)
        have hx4e : x4 = y := by
         have : l0[n4 - 1]? = some y := by rw [hcat, hn4]; simp
         rw [this] at hx4; exact (Option.some.inj hx4).symm
        subst hx4e
        clear hS4
        have HE := hide (fun W => cEnded x4 W)
        unfold itV at HE
        obtain ⟨te, ve, ee⟩ := (hasW x4).form
        rw [ee] at c2 HE
        have hlt4 := HC4.out.lt
        have hn9 := hs4.nle
        have hc4 := hs4.2.1
        have hf4 := HC4.out.fz 0
        have HS4 := hide hs4
        obtain ⟨be, hbe⟩ : ∃ b, endW x4 = b := ⟨_, rfl⟩
        rw [hbe] at HE
        have HN4 := hide hn4
        have hn40 : 0 < n4 := by omega
        have HCAT := hide hcat
        have HBE := hide hbe
        have HEE := hide ee
        clear hs4 hcat k1 k2 k3 k4 hx4 hbe hn4 ee
        cases be
        ·have HF := hide (show dropEnd l0 = l0 by unfold dropEnd; rw [HCAT.out]; simp [HBE.out])
         go_wp2_with (first | (go_at_call 87; (with_reducible refine (HE.out _).mono ?_); rintro e _ ⟨rfl, ue, rfl⟩))
         go_ret
         have hRb := HRb.out
         refine ⟨by rw [hRb]; rfl, ?_, ((HO4.out.ext ue).below (by omega) (by have := HB1.out.size; omega)) |> HB1.out.trans⟩
         rw [HOV.out, hRb, ← HLE.out, HF.out]
         exact (HC4.out.ext ue).moreS (fun b hb h => by have h' : b = g := h; omega) (by omega)
        ·have HF := hide (show dropEnd l0 = l2 by unfold dropEnd; rw [HCAT.out]; simp [HBE.out])
         go_wp2_with (first | (go_at_call 87; (with_reducible refine (HE.out _).mono ?_); rintro e _ ⟨rfl, ue, rfl⟩))
         go_ret
         have hRb := HRb.out
         have hl2 := HN4.out
         have hsl := HS4.out.take_ (k := n4 - 1) (by omega)
         have e9 : n4 - 1 = l2.length := by omega
         rw [← List.map_take, HCAT.out, e9, List.take_left'] at hsl
         ·have hcur := (HC4.out.putWs (s' := ⟨l2, 0, 0, 0⟩) hsl rfl rfl rfl ⟨fun w hw => HC4.out.ok.k w (by show w ∈ l0; rw [HCAT.out]; simp [hw]), fun _ => ⟨rfl, rfl⟩⟩).ext ue
          rw [e9]
          refine ⟨by rw [hRb]; rfl, ?_, ?_⟩
          ·rw [HOV.out, hRb, ← HLE.out, HF.out]
           exact hcur.moreS (fun b hb h => by have h' : b = g := h; omega) (by omega)
          ·exact ((((HO4.out.set (a := ⟨R, 0, none⟩) rfl _).ext ue).below (by omega) (by have := HB1.out.size; omega)) |> HB1.out.trans)
         ·rfl
 ·have HOV := hide (show overT s = ⟨[], re, rl, rc⟩ by unfold overT; rw [HRR.out]; exact if_pos he)
  have q0 : W1.cell? ⟨R, 1, none⟩ = some (.int .i64 0) := cell_of_row W1 _ _ _ _ (0, 0) HBK1.out
  have q1 : W1.cell? ⟨R, 2, none⟩ = some (.int .i64 0) := cell_of_row W1 _ _ _ _ (0, 0) HBK1.out
  have q2 : W1.cell? ⟨R, 3, none⟩ = some (.int .i64 0) := cell_of_row W1 _ _ _ _ (0, 0) HBK1.out
  have f0 : W1.frozen? ⟨R, 1, none⟩ = false := by simp [World.frozen?, HBK1.out]
  have f1 : W1.frozen? ⟨R, 2, none⟩ = false := by simp [World.frozen?, HBK1.out]
  have f2 : W1.frozen? ⟨R, 3, none⟩ = false := by simp [World.frozen?, HBK1.out]
  have heb : (re == 0) = false := by simp [he]
  clear he
  go_wp2_with fail
  go_ret
  have hRb := HRb.out
  refine ⟨by rw [hRb]; rfl, ?_, ?_⟩
  ·rw [HOV.out, HRb.out]
   refine ⟨⟨none, 0, 0, ?_, Sl.nil⟩, ⟨fun _ h => (by cases h), fun e => absurd e (by simpa using heb)⟩, by omega⟩
   rw [row_setB (row_setB (row_setB HBK1.out 1 _) 2 _) 3 _]
   rfl
  ·exact ((HB1.out.setCell (by show w.heap.size ≤ R; omega) _).setCell (by show w.heap.size ≤ R; omega) _).setCell (by show w.heap.size ≤ R; omega) _
end Go.Proofs.YtljglhaeonbfoaaGreatDoor
