/- law02: the program's Over: the words as items. law02: the document's cursor. Printed by gen_l2j.py. law02: the document's Over. -/
import Derived.Test.YtmlopggainkoiaaDoorN3
import Derived.Test.YtmlopggainkoiaaDoorN0
import Derived.Test.YtmlopggainkoiaaDoorFlow5
import Derived.Test.YtmlopggainkoiaaDoorPush
import Derived.Test.YtmlopggainkoiaaDoorN2
import Derived.BigQuiet
import Derived.Test.YtmlopggainkoiaaDoorRF5
set_option linter.unusedSimpArgs false
set_option linter.unusedVariables false
namespace Go.Proofs.YtmlopggainkoiaaDoor
open Go.RowKit

theorem info_item : (Tryd.prog.info? 104).map (fun i => (i.zero, i.size, i.bytes)) = some (some (.agg #[.int .i64 0, .int .i64 0, .nilIface]), 3, 32) := by kernel_rfl
/-- A cursor that is made: the block R, its items in a row of its own from block base on. -/
structure MakeAt (w : World) (base R : Nat) (v : Value) (ws : List Word) : Prop where
  blk : w.heap[R]? = some (.cells (curCells v ⟨[], 0, 0, 0⟩) 101 (0, 0))
  own : OwnL w base 104 (fun _ => False) v (ws.map Itm.mk)
  lt : R < base
section
variable {w w' : World} {base R : Nat} {v : Value} {ws : List Word}
theorem MakeAt.rlt (h : MakeAt w base R v ws) : R < w.heap.size := (Array.getElem?_eq_some_iff.1 h.blk).1
theorem MakeAt.dv (h : MakeAt w base R v ws) : v.ownBlock ≠ some R := fun e => by have := (h.own.below_ R e).1; have := h.lt; omega
theorem MakeAt.ext (h : MakeAt w base R v ws) (u : Ext) : MakeAt (w.ext u) base R v ws := ⟨(ext_block w u R h.rlt).trans h.blk, h.own.ext u, h.lt⟩
theorem MakeAt.alloc (h : MakeAt w base R v ws) (o : Obj) : MakeAt (w.alloc o) base R v ws := ⟨(Below.heap_alloc w o R h.rlt).trans h.blk, h.own.alloc o, h.lt⟩
theorem MakeAt.k0 (h : MakeAt w base R v ws) : w.cell? ⟨R, 0, none⟩ = some v := cell_of_row w R _ _ _ (0, 0) h.blk
theorem MakeAt.f0 (h : MakeAt w base R v ws) : w.frozen? ⟨R, 0, none⟩ = false := by simp [World.frozen?, h.blk]
end
/-- the items have grown by the region's append -/
theorem MakeAt.grow {w w' : World} {base R : Nat} {v v' : Value} {ws ws' : List Word} (h : MakeAt w base R v ws) (hg : w.grownBy w' v.ownBlock) (hl : OwnL w' base 104 (fun _ => False) v' (ws'.map Itm.mk)) : MakeAt (w'.setCell ⟨R, 0, none⟩ v') base R v' ws' := by
  have blk : w'.heap[R]? = some (.cells (curCells v ⟨[], 0, 0, 0⟩) 101 (0, 0)) := (hg.block R h.rlt (fun e => h.dv e.symm)).trans h.blk
  refine ⟨by rw [row_setB blk]; rfl, hl.setCell (p := ⟨R, 0, none⟩) (fun h => h) (fun e => ?_) v', h.lt⟩
  have := (hl.below_ R e).1; have := h.lt; omega
theorem MakeAt.row {w : World} {base R : Nat} {ws : List Word} {g n c : Nat} (h : MakeAt w base R (.slice (some ⟨g, 0, none⟩) n c) ws) : ItRow w g ws ∧ ws.length = n ∧ n ≤ c ∧ c ≤ maxLen ∧ base ≤ g := by
  obtain ⟨h1, h2, h3, h4, h5, h6, cur, h7, h8, h9⟩ := h.own.form_at
  rw [List.length_map] at h1
  have hsz : Rep.size Itm = 3 := rfl
  rw [hsz] at h8
  refine ⟨⟨cur, h7, by rw [h8]; exact Nat.mul_le_mul_right _ (by omega), fun i x hx => ?_⟩, h1, h2, h3, h4⟩
  obtain ⟨us, hu, hc, _⟩ := h.own.cell_at (i := i) (x := ⟨x⟩) (by rw [List.getElem?_map, hx]; rfl)
  obtain ⟨rfl, r⟩ := hu
  rw [hsz] at hc
  have hcell : ∀ j, w.cell? ⟨g, j, none⟩ = cur[j]? := fun j => cell_of_row w g _ _ _ (0, 0) h7
  exact ⟨(hcell _).symm.trans (hc 0 _ rfl), (hcell _).symm.trans (hc 1 _ rfl), (hcell _).symm.trans (hc 2 _ rfl), r⟩
theorem totL_len2 : ∀ xs : List Word, xs.length ≤ totL xs
  | [] => Nat.le_refl _
  | x :: l => by have := totL_len2 l; simp only [List.length_cons, totL]; omega
theorem read_count (s : ByteArray) (hs : s.size ≤ 34359738368) : (readR s).words.length ≤ 1099511627776 := by
  by_cases he : (readR s).err = 0
  · obtain ⟨ws, _, hR, _, _, ht⟩ := read_lexes he
    rw [hR]
    have := totL_len2 ws
    show ws.length ≤ _; omega
  · rw [(read_err s he).1]; simp
theorem read_kinds (s : ByteArray) : ∀ x ∈ (readR s).words, x.kind = 1 ∨ x.kind = 2 ∨ x.kind = 3 ∨ x.kind = 4 := by
  intro x hx
  by_cases he : (readR s).err = 0
  · obtain ⟨ws, hlx, hR, _⟩ := read_lexes he
    rw [hR] at hx
    obtain ⟨t, _, h⟩ := hlx.tok.1 x hx
    rcases h with h | h | h | h
    · exact .inl h.1
    · exact .inr (.inl h.1)
    · exact .inr (.inr (.inl h.1))
    · exact .inr (.inr (.inr h.1))
  · rw [(read_err s he).1] at hx; cases hx
/-- The cursor that Over makes. -/
def dropEnd (l : List Word) : List Word := match l.getLast? with
  | some x => if endW x = true then l.dropLast else l
  | none => l
def overT (s : ByteArray) : Cur := if (readR s).err ≠ 0 then ⟨[], (readR s).err, (readR s).line, (readR s).col⟩ else ⟨dropEnd (compK true (readR s).words), 0, 0, 0⟩
def OverP (s : ByteArray) (w : World) (e : Ending) (w' : World) : Prop := e = .returned (.pointer (some ⟨w.heap.size, 0, none⟩)) ∧ CurAt w' (fun b => w.heap.size < b ∧ b < w'.heap.size) w.heap.size (overT s) ∧ Below w.heap.size w w'

set_option maxRecDepth 100000 in
set_option maxHeartbeats 40000000 in
theorem cOver1 (s : ByteArray) (w : World) (hs : s.size ≤ 34359738368) (hv : Vars w) : Calls Tryd.prog 29 #[.string s] w (OverP s w) := by
  obtain ⟨i0, hi, hz, hz1, hz2⟩ := info_parts info_item
  have HI0 := hide hi; have HZ := hide hz; have HZ1 := hide hz1; have HZ2 := hide hz2
  clear hi hz hz1 hz2
  have HV := hide hv
  have H7 := hv.sz
  clear hv
  obtain ⟨W, hW⟩ : ∃ W, w.alloc (.cells #[.slice none 0 0, .int .i64 0, .int .i64 0, .int .i64 0, .bool true] 101) = W := ⟨_, rfl⟩
  have HB := hide (show Below w.heap.size w W by rw [← hW]; exact (Below.refl _ _).alloc (Nat.le_refl _) _)
  have HBK := hide (show W.heap[w.heap.size]? = some (.cells (curCells (.slice none 0 0) ⟨[], 0, 0, 0⟩) 101 (0, 0)) by rw [← hW]; exact heap_alloc_new w _)
  have HVW := hide (HV.out.below HB.out HV.out.sz)
  have hk := fun x hx => (read_kinds s) x hx
  obtain ⟨R, hR⟩ : ∃ R, readR s = R := ⟨_, rfl⟩
  have HR := hide (show Calls Tryd.prog 13 #[.string s] W (RetRd W R) by rw [← hR]; exact read_any s W hs HVW.out)
  have HRR := hide hR
  have HK := hide (show ∀ x ∈ R.words, x.kind = 1 ∨ x.kind = 2 ∨ x.kind = 3 ∨ x.kind = 4 by rw [← hR]; exact hk)
  clear hR hk
  obtain ⟨rw_, rl, rc, re⟩ := R
  have hrR : w.heap.size < W.heap.size := (Array.getElem?_eq_some_iff.1 HBK.out).1
  obtain ⟨R, hRR⟩ : ∃ R, w.heap.size = R := ⟨_, rfl⟩
  rw [hRR] at hrR HBK
  go_enter Tryd.func29, Tryd.ntmps29
  go_wp2_with fail
  go_wp2_with (first | (go_at_call 13; refine HR.out.mono ?_; rintro e _ ⟨A1, n, c1, rfl, hS1, u1, rfl⟩; dsimp only; refine Hd.out ?_))
  refine hide ?_
  have HRb := hide hRR
  have HNW := hide (show rw_.length ≤ 1099511627776 by have := read_count s hs; rw [HRR.out] at this; exact this)
  obtain ⟨W1, hW1⟩ : ∃ W', W.ext u1 = W' := ⟨_, rfl⟩
  have HB1 := hide (show Below w.heap.size w W1 by rw [← hW1]; exact HB.out.ext HB.out.size u1)
  have HS1 := hide (show Sl W1 (fun b => W.heap.size ≤ b ∧ b < W1.heap.size) A1 n c1 rw_ by rw [← hW1] at *; exact hS1.more fun b hb h => ⟨h, hb⟩)
  have HBK1 := hide (show W1.heap[R]? = some (.cells (curCells (.slice none 0 0) ⟨[], 0, 0, 0⟩) 101 (0, 0)) by rw [← hW1, ext_block W u1 R hrR]; exact HBK.out)
  have hRW1 : R < W1.heap.size := (Array.getElem?_eq_some_iff.1 HBK1.out).1
  have hWW1 : W.heap.size ≤ W1.heap.size := by rw [← hW1, size_ext]; omega
  rw [hW1]
  have hn := HS1.out.nle
  clear hW1 hS1 HR hRR hW HBK HVW HB H7 HV
  by_cases he : re = 0
  · subst he
    have HOV := hide (show overT s = ⟨dropEnd (compK true rw_), 0, 0, 0⟩ by unfold overT; rw [HRR.out]; exact if_neg (by simp))
    go_wp2_with fail
    go_loopw [35] (fun i wr => ∃ (k : Nat) (v : Value), i = .int .i64 k ∧ k ≤ n ∧ MakeAt wr W1.heap.size R v (rw_.take k) ∧ Only R W1 wr) (fun i _ => n - (intOf i).toNat)
    case atStart => exact ⟨0, _, rfl, Nat.zero_le _, ⟨HBK1.out, OwnL.nil_ _ _ _ _, hRW1⟩, Only.refl _ _⟩
    case round =>
      obtain ⟨k, v, rfl, hk, hmk, hon⟩ := hrel
      have HM := hide hmk; have HON := hide hon
      have hsz1 := hon.size
      clear hmk hon
      by_cases hlt : k < n
      · obtain ⟨b, off, x, rfl, hb, hx, i0', i1', i2', i3', i4', c0, c1', c2, c3, c4⟩ := at_Word (HON.out.sl HS1.out (by omega)) hlt
        have HX := hide hx
        have HXB := hide (show InI x.line ∧ InI x.col ∧ InI x.n ∧ x.text.size ≤ maxLen from ⟨i3', i4', i2', i1'⟩)
        have HH := hide (fun W => held_any x W)
        obtain ⟨kd, tx, nn, ln, cl⟩ := x
        simp only at i0' i1' i2' i3' i4' c0 c1' c2 c3 c4 HH
        obtain ⟨th, vh, eh⟩ := (hasW ⟨kd, tx, nn, ln, cl⟩).form
        have HEH := hide eh
        rw [eh] at HH
        clear hx i0' i1' i2' i3' i4' eh
        go_wp2_with fail
        obtain ⟨V, hV⟩ : ∃ V, wr.alloc (.cells #[.int .i64 kd, .string tx, .int .i64 nn, .int .i64 ln, .int .i64 cl] 31) = V := ⟨_, rfl⟩
        have HBX := hide (show V.heap[wr.heap.size]? = some (.cells #[.int .i64 kd, .string tx, .int .i64 nn, .int .i64 ln, .int .i64 cl] 31 (0, 0)) by rw [← hV]; exact heap_alloc_new wr _)
        have HMV := hide (show MakeAt V W1.heap.size R v (rw_.take k) by rw [← hV]; exact HM.out.alloc _)
        have HONV := hide (show Only R W1 V by rw [← hV]; exact HON.out.alloc _)
        have hbx := (Array.getElem?_eq_some_iff.1 HBX.out).1
        obtain ⟨bx, hbxe⟩ : ∃ bx, wr.heap.size = bx := ⟨_, rfl⟩
        rw [hbxe] at HBX hbx
        have hszV : W1.heap.size ≤ V.heap.size := HONV.out.size
        rw [hV, hbxe]
        have hlRV := HMV.out.rlt
        have y0 : V.cell? ⟨bx, 0, none⟩ = some (.int .i64 kd) := cell_of_row V _ _ _ _ (0, 0) HBX.out
        have y1 : V.cell? ⟨bx, 1, none⟩ = some (.string tx) := cell_of_row V _ _ _ _ (0, 0) HBX.out
        have y2 : V.cell? ⟨bx, 2, none⟩ = some (.int .i64 nn) := cell_of_row V _ _ _ _ (0, 0) HBX.out
        have y3 : V.cell? ⟨bx, 3, none⟩ = some (.int .i64 ln) := cell_of_row V _ _ _ _ (0, 0) HBX.out
        have y4 : V.cell? ⟨bx, 4, none⟩ = some (.int .i64 cl) := cell_of_row V _ _ _ _ (0, 0) HBX.out
        have k0 := HMV.out.k0
        clear hV c0 c1' c2 c3 c4 hbxe hsz1 HM HON
        refine wp_region_row_last (v.ownBlock) [15] [14, 15] 19 (by kernel_rfl) rfl rfl rfl (by kernel_rfl) (by kernel_rfl) ?_
        simp only [List.take_succ_cons, List.take_zero]
        repeat (refine flowG_known (by kernel_rfl) (fun K hK => ?_); go_simp; (first | (refine hK _ ?_; clear hK K) | (apply Exists.intro; refine ⟨fun w' => ?_, hK _ ?_⟩; (fail); clear hK K)))
        repeat (refine flowG_known0 (by kernel_rfl) (by kernel_rfl) (fun K hK => ?_); go_simp; (first | (refine hK _ ?_; clear hK K) | (apply Exists.intro; refine ⟨fun _ => ?_, hK _ ?_⟩; ((go_at_call 62; exact (HH.out _))); clear hK K)))
        refine flowG_keep [] (LitP 104 [.int .i64 ln, .int .i64 cl, .iface th vh] 1) (by kernel_rfl) (LitP.stable_ rfl) (by kernel_rfl) ?_ ?_
        · intro u hu
          try simp only [List.nil_append, List.cons_append, useH_f, useH_t, useH_nil]
          go_simp
          exact ⟨LitP.mk_ (us := [.int .i64 ln, .int .i64 cl, .iface th vh]) (by rw [size_ext]), onW_row_alloc hu⟩
        refine flowG_keep [true] (PushP W1.heap.size 104 (fun _ => False) v.ownBlock V.heap.size ((rw_.take k).map Itm.mk ++ [Itm.mk ⟨kd, tx, nn, ln, cl⟩])) (by kernel_rfl) (PushP.stable_ rfl) (by kernel_rfl) ?_ ?_
        · intro u hu
          try simp only [List.nil_append, List.cons_append, useH_f, useH_t, useH_nil]
          intro v1 hv1
          have hMu := HMV.out.ext u
          exact HeldAt.push_own (α := Itm) rfl (.tmp 44) (.tmp 53) 95 rfl W1.heap.size 104 i0 _ 32 Tryd.underlying95 HI0.out HZ.out HZ1.out HZ2.out rfl (by decide) (fun _ => False) (fun _ => False) v _ ⟨⟨kd, tx, nn, ln, cl⟩⟩ [.int .i64 ln, .int .i64 cl, .iface th vh] 104 rfl hMu.own (by go_simp) hv1
            ⟨by rw [HEH.out], HXB.out.1, HXB.out.2.1, HXB.out.2.2.1, HXB.out.2.2.2⟩ (fun _ h => h.elim) (fun g hg h => h) (fun b h => h.elim) (by rw [List.length_map, List.length_take]; have := HNW.out; omega) (by rw [List.length_map, List.length_take]; have := HNW.out; omega) (by rw [size_ext]; omega) hu
        repeat (refine flowG_known (by kernel_rfl) (fun K hK => ?_); go_simp; (first | (refine hK _ ?_; clear hK K) | (apply Exists.intro; refine ⟨fun w' => ?_, hK _ ?_⟩; (fail); clear hK K)))
        refine flowG_done [false, true] (by kernel_rfl) ?_
        intro w6 h6
        simp only [List.nil_append, List.cons_append, endH_f, endH_t, endH_nil]
        rintro v8 v9 ⟨hown9, hv9, _⟩
        have HW9 := hide hown9; have HV9 := hide hv9; have H6 := hide h6
        obtain ⟨A9, c9, rfl⟩ := hown9.form
        generalize ((rw_.take k).map Itm.mk ++ [Itm.mk ⟨kd, tx, nn, ln, cl⟩]).length = n9 at hown9 HW9 HV9 hv9 ⊢
        clear hown9 hv9 h6
        have blk6 := hide (show w6.heap[R]? = some (.cells (curCells v ⟨[], 0, 0, 0⟩) 101 (0, 0)) from (H6.out.block R hlRV (fun e => HMV.out.dv e.symm)).trans HMV.out.blk)
        have c6 : w6.cell? ⟨R, 0, none⟩ = some v := cell_of_row w6 _ _ _ _ (0, 0) blk6.out
        have f6 : w6.frozen? ⟨R, 0, none⟩ = false := by simp [World.frozen?, blk6.out]
        clear y0 y1 y2 y3 y4 k0
        go_wp2_with fail
        go_roundw
        case rel =>
          refine ⟨k + 1, _, by go_num, by omega, HMV.out.grow H6.out (by rw [take_at HX.out, List.map_append]; exact HW9.out), ?_⟩
          have h6o : Only R W1 w6 := ⟨H6.out.os.trans HONV.out.os, H6.out.tape.trans HONV.out.tape, H6.out.output.trans HONV.out.output, Nat.le_trans HONV.out.size H6.out.size, fun b hb hbR => (H6.out.block b (by omega) (fun e => by have := (HMV.out.own.below_ b e.symm).1; omega)).trans (HONV.out.block b hb hbR)⟩
          exact h6o.set rfl _
        case measure => simp [intOf]; omega
      · have hk' : k = n := by omega
        have htk : rw_.take k = rw_ := List.take_of_length_le (by have := HS1.out.len; omega)
        rw [htk] at HM
        clear htk
        have hown := HM.out.own
        obtain ⟨vals, ⟨_, hv⟩, _⟩ := hown
        rcases hv with ⟨rfl, h0⟩ | ⟨g, cap, cur, rfl, hgb, _⟩
        · rw [List.length_map] at h0
          obtain rfl : rw_ = [] := List.eq_nil_of_length_eq_zero h0
          have hnl := HS1.out.len
          have k0 := HM.out.k0
          have f0 := HM.out.f0
          have hlR := HM.out.rlt
          have HCN := hide (fun W => compact_nil W)
          go_wp2_with (first | (go_at_call 63; refine (HCN.out _).mono ?_; rintro e w' ⟨rfl, rfl⟩))
          go_ret
          have hRb := HRb.out
          refine ⟨by rw [hRb]; rfl, ?_, ?_⟩
          · rw [HOV.out, hRb]
            refine ⟨⟨none, 0, 0, ?_, Sl.nil⟩, ⟨fun _ h => (by cases h), fun _ => ⟨rfl, rfl⟩⟩, by omega⟩
            rw [row_setB HM.out.blk 0 _]; rfl
          · exact HB1.out.trans ((HON.out.set (a := ⟨R, 0, none⟩) rfl _).below (by omega) (by have := HB1.out.size; omega))
        · obtain ⟨hrow, hl, hlc, hcm, _⟩ := HM.out.row
          have HCM := hide (compact_any wr g _ cap rw_ hrow hl hlc hcm)
          have HBKR := hide HM.out.blk
          have k0 := HM.out.k0
          have f0 := HM.out.f0
          have hlR := HM.out.rlt
          have hgl := hrow.lt
          obtain ⟨n2, hn2⟩ : ∃ n2, (rw_.map Itm.mk).length = n2 := ⟨_, rfl⟩
          rw [hn2] at HCM k0 hlc HM hl HBKR
          have hlc9 : n2 ≤ 9223372036854775807 := by unfold maxLen at hcm; omega
          clear hrow hn2
          go_wp2_with (first | (go_at_call 63; refine HCM.out.mono ?_; rintro e w2 ⟨k2, ds, rfl, hk2, hrow2, hkd, htk2, hon2⟩; refine Hd.out ?_))
          refine hide ?_
          have HROW2 := hide hrow2; have HTK2 := hide htk2
          have HON2 := hide (show Only R W1 w2 from ⟨hon2.os.trans HON.out.os, hon2.tape.trans HON.out.tape, hon2.output.trans HON.out.output, Nat.le_trans HON.out.size hon2.size, fun b hb hbR => (hon2.block b (by have := HON.out.size; omega) (by omega)).trans (HON.out.block b hb hbR)⟩)
          have blk2 := hide ((hon2.block R hlR (by omega)).trans HBKR.out)
          have hlR2 : R < w2.heap.size := by have := hon2.size; omega
          have hgl2 := hrow2.lt
          have q0 : w2.cell? ⟨R, 0, none⟩ = some (.slice (some ⟨g, 0, none⟩) n2 cap) := cell_of_row w2 _ _ _ _ (0, 0) blk2.out
          have g0 : w2.frozen? ⟨R, 0, none⟩ = false := by simp [World.frozen?, blk2.out]
          have hgR : ¬ g = R := by omega
          have hRg : R < g := by omega
          have HC2 := hide (show CurAt (w2.setCell ⟨R, 0, none⟩ (.slice (some ⟨g, 0, none⟩) k2 cap)) (fun b => b = g) R ⟨compK false rw_, 0, 0, 0⟩ from
            ⟨⟨_, _, _, by rw [row_setB blk2.out 0 _]; rfl, by rw [← HTK2.out]; exact (HROW2.out.sl (S := fun b => b = g) rfl hkd (by omega) hcm).setCell (fun h => hgR h.symm) _⟩, ⟨fun x hx => HK.out x (compK_mem _ _ x hx), fun _ => ⟨rfl, rfl⟩⟩, by omega⟩)
          clear hon2 hrow2 htk2 k0 f0 hlR hgl
          cases hL0 : compK false rw_ with
          | nil =>
            have h00 : rw_ = [] := compK_nil hL0
            obtain rfl : k2 = 0 := by
              have := congrArg List.length HTK2.out
              rw [hL0, List.length_take] at this
              simp at this
              rcases this with h | h
              · exact h
              · rw [h] at hkd; simpa using hkd
            have hC := HC2.out
            rw [hL0] at hC
            have HCf := hide hC
            have HLL := hide h00
            clear hL0 h00 hC HC2
            go_wp2_with fail
            go_ret
            have hRb := HRb.out
            refine ⟨by rw [hRb]; rfl, ?_, ?_⟩
            · rw [HOV.out, hRb, HLL.out]
              exact HCf.out.moreS (fun b hb h => by have h' : b = g := h; omega) (by omega)
            · exact HB1.out.trans ((HON2.out.set (a := ⟨R, 0, none⟩) rfl _).below (by omega) (by have := HB1.out.size; omega))
          | cons x0 l0 =>
            have hC := HC2.out
            rw [hL0] at hC
            have HCf := hide hC
            have hpos : 0 < k2 := by
              have := congrArg List.length HTK2.out
              rw [hL0, List.length_take] at this
              simp at this; omega
            have hds : ds[0]? = some x0 := by
              have := congrArg (fun l => l[0]?) HTK2.out
              rw [hL0] at this
              simp only [List.getElem?_take, if_pos hpos] at this
              simpa using this
            obtain ⟨z0, z1, z2, _⟩ := HROW2.out.at_ hds
            simp only [Nat.zero_mul, Nat.zero_add] at z0 z1 z2
            have HE := hide (fun W => cEnded x0 W)
            unfold itV at HE
            obtain ⟨te, ve, ee⟩ := (hasW x0).form
            rw [ee] at z2 HE
            have HHD := hide (compK_head hL0)
            obtain ⟨be, hbe⟩ : ∃ b, endW x0 = b := ⟨_, rfl⟩
            rw [hbe] at HE HHD
            clear hL0 hC HC2 hds ee hbe
            go_wp2_with (first | (go_at_call 65; (with_reducible refine (HE.out _).mono ?_); rintro e _ ⟨rfl, ue, rfl⟩; refine Hd.out ?_))
            refine hide ?_
            obtain ⟨W3, hW3⟩ : ∃ W3, (w2.setCell ⟨R, 0, none⟩ (.slice (some ⟨g, 0, none⟩) k2 cap)).ext ue = W3 := ⟨_, rfl⟩
            have HC3 := hide (show CurAt W3 (fun b => b = g) R ⟨x0 :: l0, 0, 0, 0⟩ by rw [← hW3]; exact HCf.out.ext ue)
            have HO3 := hide (show Only R W1 W3 by rw [← hW3]; exact (HON2.out.set (a := ⟨R, 0, none⟩) rfl _).ext ue)
            rw [hW3]
            have hlR3 := HC3.out.lt
            clear hW3 HCf q0 g0 z0 z1 z2 HE blk2
            cases be
            · have HLE := hide (show dropEnd (x0 :: l0) = dropEnd (compK true rw_) by rw [HHD.out]; rfl)
              rcases List.eq_nil_or_concat (x0 :: l0) with hnil | ⟨l2, y, hcat⟩
              · obtain ⟨A4, n4, c4, k0, k1, k2, k3, k4, hs4⟩ := HC3.out.at_
                have hn4 : n4 = 0 := by have := hs4.len; rw [List.length_map] at this; rw [← this, hnil]; rfl
                subst hn4
                have hlt4 := HC3.out.lt
                have HF := hide (show dropEnd (x0 :: l0) = (x0 :: l0) by rw [hnil]; rfl)
                clear hs4 hnil k1 k2 k3 k4
                go_wp2_with fail
                go_ret
                have hRb := HRb.out
                refine ⟨by rw [hRb]; rfl, ?_, HO3.out.below (by omega) (by have := HB1.out.size; omega) |> HB1.out.trans⟩
                rw [HOV.out, hRb, ← HLE.out, HF.out]
                exact HC3.out.moreS (fun b hb h => by have h' : b = g := h; omega) (by omega)
              · rw [List.concat_eq_append] at hcat
                obtain ⟨A4, n4, c4, k0, k1, k2, k3, k4, hs4⟩ := HC3.out.at_
                have hn4 : n4 = l2.length + 1 := by have := hs4.len; rw [List.length_map] at this; rw [← this, hcat]; simp
                obtain ⟨b4, off4, x4, rfl, hb4, hS4, hx4, _, _, _, _, c0, c1, c2⟩ := at_Itm (xs := (x0 :: l0)) hs4 (k := n4 - 1) (by omega)
                have hx4e : x4 = y := by
                  have : (x0 :: l0)[n4 - 1]? = some y := by rw [hcat, hn4]; simp
                  rw [this] at hx4; exact (Option.some.inj hx4).symm
                subst hx4e
                clear hS4
                have HE := hide (fun W => cEnded x4 W)
                unfold itV at HE
                obtain ⟨te, ve, ee⟩ := (hasW x4).form
                rw [ee] at c2 HE
                have hlt4 := HC3.out.lt
                have hn9 := hs4.nle
                have hc4 := hs4.2.1
                have hf4 := HC3.out.fz 0
                have HS4 := hide hs4
                obtain ⟨be, hbe⟩ : ∃ b, endW x4 = b := ⟨_, rfl⟩
                rw [hbe] at HE
                have HN4 := hide hn4
                have hn40 : 0 < n4 := by omega
                have HCAT := hide hcat
                have HBE := hide hbe
                have HEE := hide ee
                clear hs4 hcat k1 k2 k3 k4 hx4 hbe hn4 ee
                cases be
                · have HF := hide (show dropEnd (x0 :: l0) = (x0 :: l0) by unfold dropEnd; rw [HCAT.out]; simp [HBE.out])
                  go_wp2_with (first | (go_at_call 65; (with_reducible refine (HE.out _).mono ?_); rintro e _ ⟨rfl, ue, rfl⟩))
                  go_ret
                  have hRb := HRb.out
                  refine ⟨by rw [hRb]; rfl, ?_, ((HO3.out.ext ue).below (by omega) (by have := HB1.out.size; omega)) |> HB1.out.trans⟩
                  rw [HOV.out, hRb, ← HLE.out, HF.out]
                  exact (HC3.out.ext ue).moreS (fun b hb h => by have h' : b = g := h; omega) (by omega)
                · have HF := hide (show dropEnd (x0 :: l0) = l2 by unfold dropEnd; rw [HCAT.out]; simp [HBE.out])
                  go_wp2_with (first | (go_at_call 65; (with_reducible refine (HE.out _).mono ?_); rintro e _ ⟨rfl, ue, rfl⟩))
                  go_ret
                  have hRb := HRb.out
                  have hl2 := HN4.out
                  have hsl := HS4.out.take_ (k := n4 - 1) (by omega)
                  have e9 : n4 - 1 = l2.length := by omega
                  rw [← List.map_take, HCAT.out, e9, List.take_left'] at hsl
                  · have hcur := (HC3.out.putWs (s' := ⟨l2, 0, 0, 0⟩) hsl rfl rfl rfl ⟨fun w hw => HC3.out.ok.k w (by show w ∈ (x0 :: l0); rw [HCAT.out]; simp [hw]), fun _ => ⟨rfl, rfl⟩⟩).ext ue
                    rw [e9]
                    refine ⟨by rw [hRb]; rfl, ?_, ?_⟩
                    · rw [HOV.out, hRb, ← HLE.out, HF.out]
                      exact hcur.moreS (fun b hb h => by have h' : b = g := h; omega) (by omega)
                    · exact ((((HO3.out.set (a := ⟨R, 0, none⟩) rfl _).ext ue).below (by omega) (by have := HB1.out.size; omega)) |> HB1.out.trans)
                  · rfl
            · have HO := hide (cOver HC3.out (by simp))
              have HLE := hide (show dropEnd l0 = dropEnd (compK true rw_) by rw [HHD.out]; rfl)
              go_wp2_with (first | (go_at_call 66; refine HO.out.mono ?_; rintro e w3 ⟨rfl, hat3, hon3⟩; refine Hd.out ?_))
              refine hide ?_
              have HC4 := hide (show CurAt w3 (fun b => b = g) R ⟨l0, 0, 0, 0⟩ from hat3)
              have HO4 := hide (HO3.out.trans hon3)
              clear hat3 hon3 HO
              rcases List.eq_nil_or_concat l0 with hnil | ⟨l2, y, hcat⟩
              · obtain ⟨A4, n4, c4, k0, k1, k2, k3, k4, hs4⟩ := HC4.out.at_
                have hn4 : n4 = 0 := by have := hs4.len; rw [List.length_map] at this; rw [← this, hnil]; rfl
                subst hn4
                have hlt4 := HC4.out.lt
                have HF := hide (show dropEnd l0 = l0 by rw [hnil]; rfl)
                clear hs4 hnil k1 k2 k3 k4
                go_wp2_with fail
                go_ret
                have hRb := HRb.out
                refine ⟨by rw [hRb]; rfl, ?_, HO4.out.below (by omega) (by have := HB1.out.size; omega) |> HB1.out.trans⟩
                rw [HOV.out, hRb, ← HLE.out, HF.out]
                exact HC4.out.moreS (fun b hb h => by have h' : b = g := h; omega) (by omega)
              · rw [List.concat_eq_append] at hcat
                obtain ⟨A4, n4, c4, k0, k1, k2, k3, k4, hs4⟩ := HC4.out.at_
                have hn4 : n4 = l2.length + 1 := by have := hs4.len; rw [List.length_map] at this; rw [← this, hcat]; simp
                obtain ⟨b4, off4, x4, rfl, hb4, hS4, hx4, _, _, _, _, c0, c1, c2⟩ := at_Itm (xs := l0) hs4 (k := n4 - 1) (by omega)
                have hx4e : x4 = y := by
                  have : l0[n4 - 1]? = some y := by rw [hcat, hn4]; simp
                  rw [this] at hx4; exact (Option.some.inj hx4).symm
                subst hx4e
                clear hS4
                have HE := hide (fun W => cEnded x4 W)
                unfold itV at HE
                obtain ⟨te, ve, ee⟩ := (hasW x4).form
                rw [ee] at c2 HE
                have hlt4 := HC4.out.lt
                have hn9 := hs4.nle
                have hc4 := hs4.2.1
                have hf4 := HC4.out.fz 0
                have HS4 := hide hs4
                obtain ⟨be, hbe⟩ : ∃ b, endW x4 = b := ⟨_, rfl⟩
                rw [hbe] at HE
                have HN4 := hide hn4
                have hn40 : 0 < n4 := by omega
                have HCAT := hide hcat
                have HBE := hide hbe
                have HEE := hide ee
                clear hs4 hcat k1 k2 k3 k4 hx4 hbe hn4 ee
                cases be
                · have HF := hide (show dropEnd l0 = l0 by unfold dropEnd; rw [HCAT.out]; simp [HBE.out])
                  go_wp2_with (first | (go_at_call 65; (with_reducible refine (HE.out _).mono ?_); rintro e _ ⟨rfl, ue, rfl⟩))
                  go_ret
                  have hRb := HRb.out
                  refine ⟨by rw [hRb]; rfl, ?_, ((HO4.out.ext ue).below (by omega) (by have := HB1.out.size; omega)) |> HB1.out.trans⟩
                  rw [HOV.out, hRb, ← HLE.out, HF.out]
                  exact (HC4.out.ext ue).moreS (fun b hb h => by have h' : b = g := h; omega) (by omega)
                · have HF := hide (show dropEnd l0 = l2 by unfold dropEnd; rw [HCAT.out]; simp [HBE.out])
                  go_wp2_with (first | (go_at_call 65; (with_reducible refine (HE.out _).mono ?_); rintro e _ ⟨rfl, ue, rfl⟩))
                  go_ret
                  have hRb := HRb.out
                  have hl2 := HN4.out
                  have hsl := HS4.out.take_ (k := n4 - 1) (by omega)
                  have e9 : n4 - 1 = l2.length := by omega
                  rw [← List.map_take, HCAT.out, e9, List.take_left'] at hsl
                  · have hcur := (HC4.out.putWs (s' := ⟨l2, 0, 0, 0⟩) hsl rfl rfl rfl ⟨fun w hw => HC4.out.ok.k w (by show w ∈ l0; rw [HCAT.out]; simp [hw]), fun _ => ⟨rfl, rfl⟩⟩).ext ue
                    rw [e9]
                    refine ⟨by rw [hRb]; rfl, ?_, ?_⟩
                    · rw [HOV.out, hRb, ← HLE.out, HF.out]
                      exact hcur.moreS (fun b hb h => by have h' : b = g := h; omega) (by omega)
                    · exact ((((HO4.out.set (a := ⟨R, 0, none⟩) rfl _).ext ue).below (by omega) (by have := HB1.out.size; omega)) |> HB1.out.trans)
                  · rfl
  · have HOV := hide (show overT s = ⟨[], re, rl, rc⟩ by unfold overT; rw [HRR.out]; exact if_pos he)
    have q0 : W1.cell? ⟨R, 1, none⟩ = some (.int .i64 0) := cell_of_row W1 _ _ _ _ (0, 0) HBK1.out
    have q1 : W1.cell? ⟨R, 2, none⟩ = some (.int .i64 0) := cell_of_row W1 _ _ _ _ (0, 0) HBK1.out
    have q2 : W1.cell? ⟨R, 3, none⟩ = some (.int .i64 0) := cell_of_row W1 _ _ _ _ (0, 0) HBK1.out
    have f0 : W1.frozen? ⟨R, 1, none⟩ = false := by simp [World.frozen?, HBK1.out]
    have f1 : W1.frozen? ⟨R, 2, none⟩ = false := by simp [World.frozen?, HBK1.out]
    have f2 : W1.frozen? ⟨R, 3, none⟩ = false := by simp [World.frozen?, HBK1.out]
    have heb : (re == 0) = false := by simp [he]
    clear he
    go_wp2_with fail
    go_ret
    have hRb := HRb.out
    refine ⟨by rw [hRb]; rfl, ?_, ?_⟩
    · rw [HOV.out, HRb.out]
      refine ⟨⟨none, 0, 0, ?_, Sl.nil⟩, ⟨fun _ h => (by cases h), fun e => absurd e (by simpa using heb)⟩, by omega⟩
      rw [row_setB (row_setB (row_setB HBK1.out 1 _) 2 _) 3 _]
      rfl
    · exact ((HB1.out.setCell (by show w.heap.size ≤ R; omega) _).setCell (by show w.heap.size ≤ R; omega) _).setCell (by show w.heap.size ≤ R; omega) _
end Go.Proofs.YtmlopggainkoiaaDoor
set_option linter.unusedSimpArgs false
set_option linter.unusedVariables false
namespace Go.Proofs.YtmlopggainkoiaaDoor
open Go.RowKit

def docCells (v : Value) (s : Cur) : Array Value := #[v, .int .i64 s.e, .int .i64 s.line, .int .i64 s.col]
/-- The document's cursor: the block c, its words in blocks of S, which do not hold c. -/
structure DocAt (w : World) (S : Nat → Prop) (c : Nat) (s : Cur) : Prop where
  cells : ∃ A n k, w.heap[c]? = some (.cells (docCells (.slice A n k) s) 117 (0, 0)) ∧ Sl w S A n k s.ws
  ok : CurOk s
  nS : ¬ S c
section
variable {w w' : World} {S : Nat → Prop} {c d : Nat} {s s' : Cur}
theorem DocAt.lt (h : DocAt w S c s) : c < w.heap.size := by
  obtain ⟨A, n, k, hb, _⟩ := h.cells
  exact (Array.getElem?_eq_some_iff.1 hb).1
theorem DocAt.keep (h : DocAt w S c s) (hs : w.heap.size ≤ w'.heap.size) (hc : w'.heap[c]? = w.heap[c]?) (hk : ∀ b, S b → b < w.heap.size → w'.heap[b]? = w.heap[b]?) : DocAt w' S c s := by
  obtain ⟨A, n, k, hb, hsl⟩ := h.cells
  exact ⟨⟨A, n, k, hc.trans hb, hsl.keep hs hk⟩, h.ok, h.nS⟩
theorem DocAt.below (h : DocAt w S c s) (hb : Below w.heap.size w w') : DocAt w' S c s := h.keep hb.size (hb.block c h.lt) fun b _ hb' => hb.block b hb'
theorem DocAt.ext (h : DocAt w S c s) (u : Ext) : DocAt (w.ext u) S c s := h.below (Below.of_ext w u (Nat.le_refl _))
theorem DocAt.only (h : DocAt w S c s) (hb : Only d w w') (hc : c ≠ d) (hd : ¬ S d) : DocAt w' S c s :=
  h.keep hb.size (hb.block c h.lt hc) fun b hS hb' => hb.block b hb' (fun e => hd (e ▸ hS))
theorem DocAt.at_ (h : DocAt w S c s) : ∃ A n k, w.cell? ⟨c, 0, none⟩ = some (.slice A n k) ∧ w.cell? ⟨c, 1, none⟩ = some (.int .i64 s.e) ∧ w.cell? ⟨c, 2, none⟩ = some (.int .i64 s.line) ∧ w.cell? ⟨c, 3, none⟩ = some (.int .i64 s.col) ∧ Sl w S A n k s.ws := by
  obtain ⟨A, n, k, hb, hsl⟩ := h.cells
  exact ⟨A, n, k, cell_of_row w c _ _ _ (0, 0) hb, cell_of_row w c _ _ _ (0, 0) hb, cell_of_row w c _ _ _ (0, 0) hb, cell_of_row w c _ _ _ (0, 0) hb, hsl⟩
theorem DocAt.fz (h : DocAt w S c s) (j : Nat) : w.frozen? ⟨c, j, none⟩ = false := by
  obtain ⟨A, n, k, hb, hsl⟩ := h.cells
  simp [World.frozen?, hb]
theorem DocAt.moreS {S' : Nat → Prop} (h : DocAt w S c s) (hS : ∀ b, b < w.heap.size → S b → S' b) (hn : ¬ S' c) : DocAt w S' c s := by
  obtain ⟨A, n, k, hb, hsl⟩ := h.cells
  exact ⟨⟨A, n, k, hb, hsl.more hS⟩, h.ok, hn⟩
theorem DocAt.putWs (h : DocAt w S c s) {A : Option Addr} {n k : Nat} (hs : Sl w S A n k s'.ws) (he : s'.e = s.e) (hl : s'.line = s.line) (hc : s'.col = s.col) (hok : CurOk s') : DocAt (w.setCell ⟨c, 0, none⟩ (.slice A n k)) S c s' := by
  obtain ⟨A0, n0, k0, hb, hsl⟩ := h.cells
  exact ⟨⟨A, n, k, by rw [row_setB hb]; unfold docCells; rw [he, hl, hc]; rfl, hs.setCell h.nS _⟩, hok, h.nS⟩
end
/-- What a call on the document's cursor leaves. -/
def DocP (S : Nat → Prop) (c : Nat) (w : World) (s' : Cur) (v : Value) (e : Ending) (w' : World) : Prop := e = .returned v ∧ DocAt w' S c s' ∧ Only c w w'
/-- What the next word is, in memory. -/
inductive DocNext (w : World) (c : Nat) (s : Cur) : Prop where
  | bad (he : (s.e == 0) = false)
  | none (he : s.e = 0) (hw : s.ws = []) (k : Nat) (A : Option Addr) (k0 : w.cell? ⟨c, 0, none⟩ = some (.slice A 0 k))
  | some (x : Word) (l : List Word) (he : s.e = 0) (hw : s.ws = x :: l) (n k b off : Nat) (k0 : w.cell? ⟨c, 0, none⟩ = some (.slice (some ⟨b, off, none⟩) n k)) (hn : 0 < n) (hnk : n ≤ k) (hn9 : n ≤ 9223372036854775807) (hb : b < w.heap.size) (hcb : ¬ b = c)
      (c0 : w.cell? ⟨b, off, none⟩ = some (.int .i64 x.kind)) (c1 : w.cell? ⟨b, off + 1, none⟩ = some (.string x.text)) (c2 : w.cell? ⟨b, off + 2, none⟩ = some (.int .i64 x.n)) (c3 : w.cell? ⟨b, off + 3, none⟩ = some (.int .i64 x.line)) (c4 : w.cell? ⟨b, off + 4, none⟩ = some (.int .i64 x.col))
section
variable {w : World} {S : Nat → Prop} {c : Nat} {s : Cur}
theorem DocAt.next (h : DocAt w S c s) : DocNext w c s := by
  by_cases he : s.e = 0
  · obtain ⟨A, n, k, k0, k1, k2, k3, hs⟩ := h.at_
    cases hw : s.ws with
    | nil =>
      have hn : n = 0 := by have := hs.len; rw [hw] at this; exact this.symm
      subst hn
      exact .none he hw k A k0
    | cons x l =>
      have hn : n = l.length + 1 := by have := hs.len; rw [hw] at this; simp at this; omega
      obtain ⟨b, off, y, rfl, hb, hy, _, _, _, _, _, c0, c1, c2, c3, c4⟩ := at_Word hs (k := 0) (by omega)
      have hyx : y = x := by rw [hw] at hy; simp at hy; exact hy.symm
      subst hyx
      simp only [Nat.zero_mul, Nat.add_zero] at c0 c1 c2 c3 c4
      obtain ⟨b', off', _, _, e', _, hS', _⟩ := hs.at_ (k := 0) (by omega)
      injection e' with e'; injection e' with e1 e2
      exact .some y l he hw n k b off k0 (by omega) hs.2.1 hs.nle hb (fun e => h.nS (by rw [← e, e1]; exact hS')) c0 c1 c2 c3 c4
  · exact .bad (by simp [he])
theorem headC_bad' (he : (s.e == 0) = false) : headC s = none := headC_bad (by simpa using he)

set_option maxRecDepth 100000 in
set_option maxHeartbeats 4000000 in
theorem dMore (h : DocAt w S c s) : Calls Tryd.prog 74 #[.pointer (some ⟨c, 0, none⟩)] w (Ret (.bool (moreC s)) w) := by
  have H := hide h
  have hlt := h.lt
  have hnx := h.next
  have k1 := h.at_.choose_spec.choose_spec.choose_spec.2.1
  clear h
  cases hnx with
  | bad he =>
    have hg : moreC s = false := by unfold moreC; rw [he]; rfl
    rw [hg]
    clear hg
    go_enter Tryd.func74, Tryd.ntmps74
    go_wp2_with fail
    go_ret
    exact ⟨rfl, rfl⟩
  | none he hw k A k0 =>
    rw [he] at k1
    have hg : moreC s = false := by unfold moreC; rw [he, hw]; rfl
    rw [hg]
    clear hg he hw
    go_enter Tryd.func74, Tryd.ntmps74
    go_wp2_with fail
    go_ret
    exact ⟨rfl, rfl⟩
  | some x l he hw n k b off k0 hn hnk hn9 hb hcb c0 c1 c2 c3 c4 =>
    rw [he] at k1
    have hg : moreC s = true := by unfold moreC; rw [he, hw]; rfl
    rw [hg]
    clear hg he hw c0 c1 c2 c3 c4
    go_enter Tryd.func74, Tryd.ntmps74
    go_wp2_with fail
    go_ret
    exact ⟨rfl, rfl⟩
set_option maxRecDepth 100000 in
set_option maxHeartbeats 4000000 in
theorem dEnds (h : DocAt w S c s) : Calls Tryd.prog 76 #[.pointer (some ⟨c, 0, none⟩)] w (Ret (.bool (endsC s)) w) := by
  have H := hide h
  have hlt := h.lt
  have hnx := h.next
  have k1 := h.at_.choose_spec.choose_spec.choose_spec.2.1
  clear h
  cases hnx with
  | bad he =>
    have HM := hide (dMore H.out)
    have hm : moreC s = false := by unfold moreC; rw [he]; rfl
    rw [hm] at HM
    clear hm
    have hg : endsC s = true := by unfold endsC; rw [headC_bad' he]
    rw [hg]
    clear hg he
    go_enter Tryd.func76, Tryd.ntmps76
    go_wp2_with ((go_at_call 74; refine HM.out.mono ?_; rintro e w' ⟨rfl, rfl⟩))
    go_ret
    exact ⟨rfl, rfl⟩
  | none he hw k A k0 =>
    rw [he] at k1
    have HM := hide (dMore H.out)
    have hm : moreC s = false := by unfold moreC; rw [he, hw]; rfl
    rw [hm] at HM
    clear hm
    have hg : endsC s = true := by unfold endsC; rw [headC_nil hw]
    rw [hg]
    clear hg he
    go_enter Tryd.func76, Tryd.ntmps76
    go_wp2_with ((go_at_call 74; refine HM.out.mono ?_; rintro e w' ⟨rfl, rfl⟩))
    go_ret
    exact ⟨rfl, rfl⟩
  | some x l he hw n k b off k0 hn hnk hn9 hb hcb c0 c1 c2 c3 c4 =>
    rw [he] at k1
    have HM := hide (dMore H.out)
    have hm : moreC s = true := by unfold moreC; rw [he, hw]; rfl
    rw [hm] at HM
    clear hm
    have hg : endsC s = (x.kind == 4) := by unfold endsC; rw [headC_cons he hw]
    rw [hg]
    obtain ⟨b4, hb4⟩ : ∃ b, (x.kind == 4) = b := ⟨_, rfl⟩
    rw [hb4]
    clear hg he hw
    go_enter Tryd.func76, Tryd.ntmps76
    go_wp2_with ((go_at_call 74; refine HM.out.mono ?_; rintro e w' ⟨rfl, rfl⟩))
    go_ret
    exact ⟨rfl, rfl⟩
set_option maxRecDepth 100000 in
set_option maxHeartbeats 4000000 in
theorem dPeek (h : DocAt w S c s) : Calls Tryd.prog 78 #[.pointer (some ⟨c, 0, none⟩)] w (Ret (.string (peekC s)) w) := by
  have H := hide h
  have hlt := h.lt
  have hnx := h.next
  have k1 := h.at_.choose_spec.choose_spec.choose_spec.2.1
  clear h
  cases hnx with
  | bad he =>
    have HM := hide (dMore H.out)
    have hm : moreC s = false := by unfold moreC; rw [he]; rfl
    rw [hm] at HM
    clear hm
    have hg : peekC s = ⟨#[]⟩ := by unfold peekC; rw [headC_bad' he]; rfl
    rw [hg]
    clear hg he
    go_enter Tryd.func78, Tryd.ntmps78
    go_wp2_with ((go_at_call 74; refine HM.out.mono ?_; rintro e w' ⟨rfl, rfl⟩))
    go_ret
    exact ⟨rfl, rfl⟩
  | none he hw k A k0 =>
    rw [he] at k1
    have HM := hide (dMore H.out)
    have hm : moreC s = false := by unfold moreC; rw [he, hw]; rfl
    rw [hm] at HM
    clear hm
    have hg : peekC s = ⟨#[]⟩ := by unfold peekC; rw [headC_nil hw]; rfl
    rw [hg]
    clear hg he
    go_enter Tryd.func78, Tryd.ntmps78
    go_wp2_with ((go_at_call 74; refine HM.out.mono ?_; rintro e w' ⟨rfl, rfl⟩))
    go_ret
    exact ⟨rfl, rfl⟩
  | some x l he hw n k b off k0 hn hnk hn9 hb hcb c0 c1 c2 c3 c4 =>
    rw [he] at k1
    have HM := hide (dMore H.out)
    have hm : moreC s = true := by unfold moreC; rw [he, hw]; rfl
    rw [hm] at HM
    clear hm
    by_cases h1 : x.kind = 1
    · have hg : peekC s = x.text := by unfold peekC; rw [headC_cons he hw]; exact if_pos h1
      rw [hg]
      rw [h1] at c0
      clear hg he hw h1
      go_enter Tryd.func78, Tryd.ntmps78
      go_wp2_with ((go_at_call 74; refine HM.out.mono ?_; rintro e w' ⟨rfl, rfl⟩))
      go_ret
      exact ⟨rfl, rfl⟩
    · have hg : peekC s = ⟨#[]⟩ := by unfold peekC; rw [headC_cons he hw]; exact if_neg h1
      rw [hg]
      clear hg he hw
      go_enter Tryd.func78, Tryd.ntmps78
      go_wp2_with ((go_at_call 74; refine HM.out.mono ?_; rintro e w' ⟨rfl, rfl⟩))
      go_ret
      exact ⟨rfl, rfl⟩
def nextD (k : Int) (t : ByteArray) (s : Cur) : Bool := match headC s with
  | some w => w.kind == k && (w.text.toList == t.toList)
  | none => false
theorem nextD_nm (h : CurOk s) (t : ByteArray) : nextD 1 t s = isC (.nm t) s := by
  unfold nextD isC
  cases hd : headC s with
  | none => rfl
  | some x =>
    have hx : x ∈ s.ws := by
      unfold headC at hd
      split at hd
      · exact List.mem_of_mem_head? hd
      · cases hd
    simp only
    unfold hasW
    rcases h.k x hx with h | h | h | h <;> rw [h] <;> rfl
theorem nextD_mk (h : CurOk s) (t : ByteArray) : nextD 3 t s = isC (.mk t) s := by
  unfold nextD isC
  cases hd : headC s with
  | none => rfl
  | some x =>
    have hx : x ∈ s.ws := by
      unfold headC at hd
      split at hd
      · exact List.mem_of_mem_head? hd
      · cases hd
    simp only
    unfold hasW
    rcases h.k x hx with h | h | h | h <;> rw [h] <;> rfl
set_option maxRecDepth 100000 in
set_option maxHeartbeats 4000000 in
theorem dNext (h : DocAt w S c s) (kk : Int) (t : ByteArray) : Calls Tryd.prog 94 #[.pointer (some ⟨c, 0, none⟩), .int .i64 kk, .string t] w (Ret (.bool (nextD kk t s)) w) := by
  have H := hide h
  have hlt := h.lt
  have hnx := h.next
  have k1 := h.at_.choose_spec.choose_spec.choose_spec.2.1
  clear h
  cases hnx with
  | bad he =>
    have HM := hide (dMore H.out)
    have hm : moreC s = false := by unfold moreC; rw [he]; rfl
    rw [hm] at HM
    clear hm
    have hg : nextD kk t s = false := by unfold nextD; rw [headC_bad' he]
    rw [hg]
    clear hg he
    go_enter Tryd.func94, Tryd.ntmps94
    go_wp2_with ((go_at_call 74; refine HM.out.mono ?_; rintro e w' ⟨rfl, rfl⟩))
    go_ret
    exact ⟨rfl, rfl⟩
  | none he hw k A k0 =>
    rw [he] at k1
    have HM := hide (dMore H.out)
    have hm : moreC s = false := by unfold moreC; rw [he, hw]; rfl
    rw [hm] at HM
    clear hm
    have hg : nextD kk t s = false := by unfold nextD; rw [headC_nil hw]
    rw [hg]
    clear hg he
    go_enter Tryd.func94, Tryd.ntmps94
    go_wp2_with ((go_at_call 74; refine HM.out.mono ?_; rintro e w' ⟨rfl, rfl⟩))
    go_ret
    exact ⟨rfl, rfl⟩
  | some x l he hw n k b off k0 hn hnk hn9 hb hcb c0 c1 c2 c3 c4 =>
    rw [he] at k1
    have HM := hide (dMore H.out)
    have hm : moreC s = true := by unfold moreC; rw [he, hw]; rfl
    rw [hm] at HM
    clear hm
    have hg : nextD kk t s = (x.kind == kk && (x.text.toList == t.toList)) := by unfold nextD; rw [headC_cons he hw]
    rw [hg]
    obtain ⟨b2, hb2⟩ : ∃ b, (x.text.toList == t.toList) = b := ⟨_, rfl⟩
    rw [hb2]
    by_cases hkk : x.kind = kk
    · have hbk : (x.kind == kk) = true := by simp [hkk]
      rw [hbk, Bool.true_and]
      subst hkk
      clear hg he hw hbk
      go_enter Tryd.func94, Tryd.ntmps94
      go_wp2_with ((go_at_call 74; refine HM.out.mono ?_; rintro e w' ⟨rfl, rfl⟩))
      go_ret
      exact ⟨rfl, rfl⟩
    · have hbk : (x.kind == kk) = false := by simp [hkk]
      rw [hbk, Bool.false_and]
      clear hg he hw hbk
      go_enter Tryd.func94, Tryd.ntmps94
      go_wp2_with ((go_at_call 74; refine HM.out.mono ?_; rintro e w' ⟨rfl, rfl⟩))
      go_ret
      exact ⟨rfl, rfl⟩
set_option maxRecDepth 100000 in
set_option maxHeartbeats 4000000 in
theorem dOver (h : DocAt w S c s) (b : Bool) (hb : b = true → s.ws ≠ []) : Calls Tryd.prog 93 #[.pointer (some ⟨c, 0, none⟩), .bool b] w (DocP S c w (overC b s) (.bool b)) := by
  have H := hide h
  have hlt := h.lt
  cases b
  · clear h hb
    go_enter Tryd.func93, Tryd.ntmps93
    go_wp2_with fail
    go_ret
    exact ⟨rfl, H.out, Only.refl _ _⟩
  · obtain ⟨A, n, k, k0, k1, k2, k3, hs⟩ := h.at_
    have hn := hs.nle
    have hf := h.fz 0
    have hne := hb rfl
    have h0 : 0 < n := by
      have := hs.len
      cases hw : s.ws with
      | nil => exact absurd hw hne
      | cons y l => rw [hw] at this; simp at this; omega
    have HS := hide hs
    have hnk := hs.2.1
    clear h hs hne hb k1 k2 k3
    obtain ⟨bb, off, _, rfl, hbb, _⟩ := at_Word HS.out h0
    go_enter Tryd.func93, Tryd.ntmps93
    go_wp2_with fail
    all_goals go_ret
    · have hn1 : n = 1 := by omega
      subst_vars
      have hl : s.ws.tail = [] := by have := HS.out.len; cases hw : s.ws with | nil => rfl | cons y l => rw [hw] at this; simp at this; simp [this]
      refine ⟨rfl, H.out.putWs (s' := popC s) ?_ rfl rfl rfl (popC_ok H.out.ok), (Only.refl c w).set rfl _⟩
      show Sl w S _ (1 - 1) 0 s.ws.tail
      rw [hl]
      exact Sl.zero_
    · exact ⟨rfl, H.out.putWs (s' := popC s) (HS.out.tail_ h0) rfl rfl rfl (popC_ok H.out.ok), (Only.refl c w).set rfl _⟩
theorem nextD_ne {k : Int} {t : ByteArray} (h : nextD k t s = true) : s.ws ≠ [] := by
  intro e; unfold nextD at h; rw [headC_nil e] at h; cases h
set_option maxRecDepth 100000 in
set_option maxHeartbeats 4000000 in
theorem dKey (h : DocAt w S c s) (t : ByteArray) : Calls Tryd.prog 79 #[.pointer (some ⟨c, 0, none⟩), .string t] w (DocP S c w (overC (isC (.nm t) s) s) (.bool (isC (.nm t) s))) := by
  have HN := hide (dNext h 1 t); have HO := hide (dOver h (nextD 1 t s) (fun e => nextD_ne e))
  rw [nextD_nm h.ok] at HN HO
  obtain ⟨b, hb⟩ : ∃ b, isC (.nm t) s = b := ⟨_, rfl⟩
  rw [hb] at HN HO ⊢
  clear hb h
  go_enter Tryd.func79, Tryd.ntmps79
  go_wp2_with (first | (go_at_call 94; refine HN.out.mono ?_; rintro e w' ⟨rfl, rfl⟩) | (go_at_call 93; refine HO.out.mono ?_; rintro e w1 ⟨rfl, hat, hon⟩))
  go_ret
  exact ⟨rfl, hat, hon⟩
set_option maxRecDepth 100000 in
set_option maxHeartbeats 4000000 in
theorem dIs (h : DocAt w S c s) (t : ByteArray) : Calls Tryd.prog 80 #[.pointer (some ⟨c, 0, none⟩), .string t] w (DocP S c w (overC (isC (.mk t) s) s) (.bool (isC (.mk t) s))) := by
  have HN := hide (dNext h 3 t); have HO := hide (dOver h (nextD 3 t s) (fun e => nextD_ne e))
  rw [nextD_mk h.ok] at HN HO
  obtain ⟨b, hb⟩ : ∃ b, isC (.mk t) s = b := ⟨_, rfl⟩
  rw [hb] at HN HO ⊢
  clear hb h
  go_enter Tryd.func80, Tryd.ntmps80
  go_wp2_with (first | (go_at_call 94; refine HN.out.mono ?_; rintro e w' ⟨rfl, rfl⟩) | (go_at_call 93; refine HO.out.mono ?_; rintro e w1 ⟨rfl, hat, hon⟩))
  go_ret
  exact ⟨rfl, hat, hon⟩
set_option maxRecDepth 100000 in
set_option maxHeartbeats 4000000 in
theorem dFail (h : DocAt w S c s) (v : Int) : Calls Tryd.prog 85 #[.pointer (some ⟨c, 0, none⟩), .int .i64 v] w (DocP S c w (failC v s) (.tuple #[])) := by
  have H := hide h
  have hlt := h.lt
  have hnx := h.next
  have k1 := h.at_.choose_spec.choose_spec.choose_spec.2.1
  clear h
  cases hnx with
  | bad he =>
    have hg : failC v s = s := by unfold failC; rw [if_pos (.inl (by simpa using he))]
    rw [hg]
    clear hg
    go_enter Tryd.func85, Tryd.ntmps85
    go_wp2_with fail
    go_end0
    exact ⟨rfl, H.out, Only.refl _ _⟩
  | none he hw k A k0 =>
    rw [he] at k1
    by_cases h0 : v = 0
    · have hg : failC v s = s := by unfold failC; rw [if_pos (.inr h0)]
      rw [hg]
      subst h0
      clear hg he hw
      go_enter Tryd.func85, Tryd.ntmps85
      go_wp2_with fail
      go_end0
      exact ⟨rfl, H.out, Only.refl _ _⟩
    · have hg : failC v s = { s with e := v } := by unfold failC; rw [if_neg (by omega), hw]
      rw [hg]
      have hvb : (v == 0) = false := by simp [h0]
      have hz := H.out.ok.z he
      have f1 := H.out.fz 1
      have HW := hide hw
      have HE := hide he
      have H0 := hide h0
      clear hg he hw h0 hz
      go_enter Tryd.func85, Tryd.ntmps85
      go_wp2_with fail
      go_end0
      obtain ⟨A', n', k', hb', hs'⟩ := H.out.cells
      refine ⟨rfl, ⟨⟨A', n', k', ?_, hs'.setCell H.out.nS _⟩, ⟨H.out.ok.k, fun e => absurd e H0.out⟩, H.out.nS⟩, (Only.refl c w).set rfl _⟩
      rw [row_setB hb' 1 _]
      rfl
  | some x l he hw n k b off k0 hn hnk hn9 hb hcb c0 c1 c2 c3 c4 =>
    rw [he] at k1
    by_cases h0 : v = 0
    · have hg : failC v s = s := by unfold failC; rw [if_pos (.inr h0)]
      rw [hg]
      subst h0
      clear hg he hw c0 c1 c2 c3 c4
      go_enter Tryd.func85, Tryd.ntmps85
      go_wp2_with fail
      go_end0
      exact ⟨rfl, H.out, Only.refl _ _⟩
    · have hg : failC v s = { s with e := v, line := x.line, col := x.col } := by unfold failC; rw [if_neg (by omega), hw]
      rw [hg]
      have hvb : (v == 0) = false := by simp [h0]
      have f1 := H.out.fz 1; have f2 := H.out.fz 2; have f3 := H.out.fz 3
      have k2 := H.out.at_.choose_spec.choose_spec.choose_spec.2.2.1
      have k3 := H.out.at_.choose_spec.choose_spec.choose_spec.2.2.2.1
      have H0 := hide h0
      clear hg he hw h0
      go_enter Tryd.func85, Tryd.ntmps85
      go_wp2_with fail
      go_end0
      obtain ⟨A', n', k', hb', hs'⟩ := H.out.cells
      refine ⟨rfl, ⟨⟨A', n', k', ?_, ((hs'.setCell H.out.nS _).setCell H.out.nS _).setCell H.out.nS _⟩, ⟨H.out.ok.k, fun e => absurd e H0.out⟩, H.out.nS⟩, (((Only.refl c w).set rfl _).set rfl _).set rfl _⟩
      rw [row_setB (row_setB (row_setB hb' 1 _) 2 _) 3 _]
      rfl
/-- the words less the first, as the code writes them -/
theorem dPop (h : DocAt w S c s) {A : Option Addr} {n k : Nat} (hs : Sl w S A n k s.ws.tail) : DocAt (w.setCell ⟨c, 0, none⟩ (.slice A n k)) S c (popC s) := h.putWs (s' := popC s) hs rfl rfl rfl (popC_ok h.ok)
set_option maxRecDepth 100000 in
set_option maxHeartbeats 4000000 in
theorem dName (h : DocAt w S c s) : Calls Tryd.prog 81 #[.pointer (some ⟨c, 0, none⟩)] w (DocP S c w (nameC s).2 (.string (nameC s).1)) := by
  have H := hide h
  have hlt := h.lt
  have hnx := h.next
  have k1 := h.at_.choose_spec.choose_spec.choose_spec.2.1
  clear h
  cases hnx with
  | bad he =>
    have HM := hide (dMore H.out)
    have hm : moreC s = false := by unfold moreC; rw [he]; rfl
    rw [hm] at HM
    clear hm
    have hg : nameC s = (⟨#[]⟩, failC 7 s) := by unfold nameC; rw [headC_bad' he]; rfl
    rw [hg]
    have HF := hide (dFail H.out 7)
    clear hg he
    go_enter Tryd.func81, Tryd.ntmps81
    go_wp2_with (first | (go_at_call 74; refine HM.out.mono ?_; rintro e w' ⟨rfl, rfl⟩) | (go_at_call 85; refine HF.out.mono ?_; rintro e w1 ⟨rfl, hat, hon⟩))
    go_ret
    exact ⟨rfl, hat, hon⟩
  | none he hw k A k0 =>
    rw [he] at k1
    have HM := hide (dMore H.out)
    have hm : moreC s = false := by unfold moreC; rw [he, hw]; rfl
    rw [hm] at HM
    clear hm
    have hg : nameC s = (⟨#[]⟩, failC 7 s) := by unfold nameC; rw [headC_nil hw]; rfl
    rw [hg]
    have HF := hide (dFail H.out 7)
    clear hg he
    go_enter Tryd.func81, Tryd.ntmps81
    go_wp2_with (first | (go_at_call 74; refine HM.out.mono ?_; rintro e w' ⟨rfl, rfl⟩) | (go_at_call 85; refine HF.out.mono ?_; rintro e w1 ⟨rfl, hat, hon⟩))
    go_ret
    exact ⟨rfl, hat, hon⟩
  | some x l he hw n k b off k0 hn hnk hn9 hb hcb c0 c1 c2 c3 c4 =>
    rw [he] at k1
    have HM := hide (dMore H.out)
    have hm : moreC s = true := by unfold moreC; rw [he, hw]; rfl
    rw [hm] at HM
    clear hm
    by_cases h1 : x.kind = 1
    · have hsl : Sl w S (some ⟨b, off, none⟩) n k s.ws := by
        obtain ⟨A', n', k', q0, _, _, _, hs'⟩ := H.out.at_
        rw [k0] at q0
        injection q0 with q0
        injection q0 with e1 e2 e3
        subst e1 e2 e3
        exact hs'
      have HSL := hide hsl
      have hf0 := H.out.fz 0
      clear hsl
      have hg : nameC s = (x.text, popC s) := by unfold nameC; rw [headC_cons he hw]; exact if_pos h1
      rw [hg]
      rw [h1] at c0
      clear hg he hw h1
      go_enter Tryd.func81, Tryd.ntmps81
      go_wp2_with ((go_at_call 74; refine HM.out.mono ?_; rintro e w' ⟨rfl, rfl⟩))
      all_goals go_ret
      · have hn1 : n = 1 := by omega
        subst_vars
        have hl : s.ws.tail = [] := by have := HSL.out.len; cases hw : s.ws with | nil => rfl | cons y l => rw [hw] at this; simp at this; simp [this]
        exact ⟨rfl, dPop H.out (by rw [hl]; exact Sl.zero_), (Only.refl c w).set rfl _⟩
      · exact ⟨rfl, dPop H.out (HSL.out.tail_ hn), (Only.refl c w).set rfl _⟩
    · have hg : nameC s = (⟨#[]⟩, failC 7 s) := by unfold nameC; rw [headC_cons he hw]; exact if_neg h1
      rw [hg]
      have HF := hide (dFail H.out 7)
      clear hg he hw
      go_enter Tryd.func81, Tryd.ntmps81
      go_wp2_with (first | (go_at_call 74; refine HM.out.mono ?_; rintro e w' ⟨rfl, rfl⟩) | (go_at_call 85; refine HF.out.mono ?_; rintro e w1 ⟨rfl, hat, hon⟩))
      go_ret
      exact ⟨rfl, hat, hon⟩
set_option maxRecDepth 100000 in
set_option maxHeartbeats 4000000 in
theorem dNum (h : DocAt w S c s) (lo hi : Int) : Calls Tryd.prog 82 #[.pointer (some ⟨c, 0, none⟩), .int .i64 lo, .int .i64 hi] w (DocP S c w (numC lo hi s).2 (.int .i64 (numC lo hi s).1)) := by
  have H := hide h
  have hlt := h.lt
  have hnx := h.next
  have k1 := h.at_.choose_spec.choose_spec.choose_spec.2.1
  clear h
  cases hnx with
  | bad he =>
    have HM := hide (dMore H.out)
    have hm : moreC s = false := by unfold moreC; rw [he]; rfl
    rw [hm] at HM
    clear hm
    have hg : numC lo hi s = (0, failC 7 s) := by unfold numC; rw [headC_bad' he]
    rw [hg]
    have HF := hide (dFail H.out 7)
    clear hg he
    go_enter Tryd.func82, Tryd.ntmps82
    go_wp2_with (first | (go_at_call 74; refine HM.out.mono ?_; rintro e w' ⟨rfl, rfl⟩) | (go_at_call 85; refine HF.out.mono ?_; rintro e w1 ⟨rfl, hat, hon⟩))
    go_ret
    exact ⟨rfl, hat, hon⟩
  | none he hw k A k0 =>
    rw [he] at k1
    have HM := hide (dMore H.out)
    have hm : moreC s = false := by unfold moreC; rw [he, hw]; rfl
    rw [hm] at HM
    clear hm
    have hg : numC lo hi s = (0, failC 7 s) := by unfold numC; rw [headC_nil hw]
    rw [hg]
    have HF := hide (dFail H.out 7)
    clear hg he
    go_enter Tryd.func82, Tryd.ntmps82
    go_wp2_with (first | (go_at_call 74; refine HM.out.mono ?_; rintro e w' ⟨rfl, rfl⟩) | (go_at_call 85; refine HF.out.mono ?_; rintro e w1 ⟨rfl, hat, hon⟩))
    go_ret
    exact ⟨rfl, hat, hon⟩
  | some x l he hw n k b off k0 hn hnk hn9 hb hcb c0 c1 c2 c3 c4 =>
    rw [he] at k1
    have HM := hide (dMore H.out)
    have hm : moreC s = true := by unfold moreC; rw [he, hw]; rfl
    rw [hm] at HM
    clear hm
    by_cases h1 : x.kind = 2
    · by_cases hr : x.n < lo ∨ hi < x.n
      · have hg : numC lo hi s = (0, failC 3 s) := by unfold numC; rw [headC_cons he hw]; simp only [if_pos h1, if_pos hr]
        rw [hg]
        have HF := hide (dFail H.out 3)
        rw [h1] at c0
        clear hg he hw h1
        by_cases hlo : x.n < lo
        · clear hr
          go_enter Tryd.func82, Tryd.ntmps82
          go_wp2_with (first | (go_at_call 74; refine HM.out.mono ?_; rintro e w' ⟨rfl, rfl⟩) | (go_at_call 85; refine HF.out.mono ?_; rintro e w1 ⟨rfl, hat, hon⟩))
          go_ret
          exact ⟨rfl, hat, hon⟩
        · have hhi : hi < x.n := by omega
          clear hr
          go_enter Tryd.func82, Tryd.ntmps82
          go_wp2_with (first | (go_at_call 74; refine HM.out.mono ?_; rintro e w' ⟨rfl, rfl⟩) | (go_at_call 85; refine HF.out.mono ?_; rintro e w1 ⟨rfl, hat, hon⟩))
          all_goals go_ret
          all_goals exact ⟨rfl, hat, hon⟩
      · have hsl : Sl w S (some ⟨b, off, none⟩) n k s.ws := by
          obtain ⟨A', n', k', q0, _, _, _, hs'⟩ := H.out.at_
          rw [k0] at q0
          injection q0 with q0
          injection q0 with e1 e2 e3
          subst e1 e2 e3
          exact hs'
        have HSL := hide hsl
        have hf0 := H.out.fz 0
        clear hsl
        have hg : numC lo hi s = (x.n, popC s) := by unfold numC; rw [headC_cons he hw]; simp only [if_pos h1, if_neg hr]
        rw [hg]
        rw [h1] at c0
        have hlo : ¬ x.n < lo := fun h => hr (.inl h)
        have hhi : ¬ hi < x.n := fun h => hr (.inr h)
        clear hr
        clear hg he hw h1
        go_enter Tryd.func82, Tryd.ntmps82
        go_wp2_with ((go_at_call 74; refine HM.out.mono ?_; rintro e w' ⟨rfl, rfl⟩))
        all_goals go_ret
        · have hn1 : n = 1 := by omega
          subst_vars
          have hl : s.ws.tail = [] := by have := HSL.out.len; cases hw : s.ws with | nil => rfl | cons y l => rw [hw] at this; simp at this; simp [this]
          exact ⟨rfl, dPop H.out (by rw [hl]; exact Sl.zero_), (Only.refl c w).set rfl _⟩
        · exact ⟨rfl, dPop H.out (HSL.out.tail_ hn), (Only.refl c w).set rfl _⟩
    · have hg : numC lo hi s = (0, failC 7 s) := by unfold numC; rw [headC_cons he hw]; exact if_neg h1
      rw [hg]
      have HF := hide (dFail H.out 7)
      clear hg he hw
      go_enter Tryd.func82, Tryd.ntmps82
      go_wp2_with (first | (go_at_call 74; refine HM.out.mono ?_; rintro e w' ⟨rfl, rfl⟩) | (go_at_call 85; refine HF.out.mono ?_; rintro e w1 ⟨rfl, hat, hon⟩))
      go_ret
      exact ⟨rfl, hat, hon⟩
set_option maxRecDepth 100000 in
set_option maxHeartbeats 4000000 in
theorem dEnd (h : DocAt w S c s) : Calls Tryd.prog 84 #[.pointer (some ⟨c, 0, none⟩)] w (DocP S c w (endC s) (.tuple #[])) := by
  have H := hide h
  have hlt := h.lt
  have hnx := h.next
  have k1 := h.at_.choose_spec.choose_spec.choose_spec.2.1
  clear h
  cases hnx with
  | bad he =>
    have HM := hide (dMore H.out)
    have hm : moreC s = false := by unfold moreC; rw [he]; rfl
    rw [hm] at HM
    clear hm
    have hg : endC s = s := by unfold endC; rw [headC_bad' he]
    rw [hg]
    clear hg he
    go_enter Tryd.func84, Tryd.ntmps84
    go_wp2_with ((go_at_call 74; refine HM.out.mono ?_; rintro e w' ⟨rfl, rfl⟩))
    go_end0
    exact ⟨rfl, H.out, Only.refl _ _⟩
  | none he hw k A k0 =>
    rw [he] at k1
    have HM := hide (dMore H.out)
    have hm : moreC s = false := by unfold moreC; rw [he, hw]; rfl
    rw [hm] at HM
    clear hm
    have hg : endC s = s := by unfold endC; rw [headC_nil hw]
    rw [hg]
    clear hg he
    go_enter Tryd.func84, Tryd.ntmps84
    go_wp2_with ((go_at_call 74; refine HM.out.mono ?_; rintro e w' ⟨rfl, rfl⟩))
    go_end0
    exact ⟨rfl, H.out, Only.refl _ _⟩
  | some x l he hw n k b off k0 hn hnk hn9 hb hcb c0 c1 c2 c3 c4 =>
    rw [he] at k1
    have HM := hide (dMore H.out)
    have hm : moreC s = true := by unfold moreC; rw [he, hw]; rfl
    rw [hm] at HM
    clear hm
    by_cases h1 : x.kind = 4
    · have hg : endC s = popC s := by unfold endC; rw [headC_cons he hw]; exact if_pos h1
      rw [hg]
      rw [h1] at c0
      have HO := hide (dOver H.out true (fun _ => by rw [hw]; simp))
      have ho : overC true s = popC s := rfl
      rw [ho] at HO
      clear hg he hw h1 ho
      go_enter Tryd.func84, Tryd.ntmps84
      go_wp2_with (first | (go_at_call 74; refine HM.out.mono ?_; rintro e w' ⟨rfl, rfl⟩) | (go_at_call 93; refine HO.out.mono ?_; rintro e w1 ⟨rfl, hat, hon⟩))
      go_end0
      exact ⟨rfl, hat, hon⟩
    · have hg : endC s = failC 7 s := by unfold endC; rw [headC_cons he hw]; exact if_neg h1
      rw [hg]
      have HO := hide (dOver H.out false (fun h => by cases h))
      have ho : overC false s = s := rfl
      rw [ho] at HO
      have h1b : (x.kind == 4) = false := by simp [h1]
      clear hg he hw ho h1
      go_enter Tryd.func84, Tryd.ntmps84
      go_wp2_with (first | (go_at_call 74; refine HM.out.mono ?_; rintro e w' ⟨rfl, rfl⟩) | (go_at_call 93; refine HO.out.mono ?_; rintro e w1 ⟨rfl, hat1, hon1⟩) | (go_at_call 85; refine (dFail hat1 7).mono ?_; rintro e w2 ⟨rfl, hat, hon⟩))
      go_end0
      exact ⟨rfl, hat, hon1.trans hon⟩
set_option maxRecDepth 100000 in
set_option maxHeartbeats 4000000 in
theorem dMark (h : DocAt w S c s) {S2 : Nat → Prop} {B : Option Addr} {m k : Nat} {ts : List ByteArray} (ht : Sl w S2 B m k ts) (hS2 : ¬ S2 c) : Calls Tryd.prog 83 #[.pointer (some ⟨c, 0, none⟩), .slice B m k] w (DocP S c w (markC ts s) (.tuple #[])) := by
  have H := hide h; have HT := hide ht
  have hm := ht.nle
  clear h ht
  go_enter Tryd.func83, Tryd.ntmps83
  go_wp2_with fail
  go_loopw [4] (fun i wr => ∃ (j : Nat) (s' : Cur), i = .int .i64 j ∧ j ≤ m ∧ DocAt wr S c s' ∧ Only c w wr ∧ markC (ts.drop j) s' = markC ts s) (fun i _ => m - (intOf i).toNat)
  case atStart => exact ⟨0, s, rfl, Nat.zero_le _, H.out, Only.refl _ _, rfl⟩
  case round =>
    obtain ⟨j, s', rfl, hj, hat, hon, hmk⟩ := hrel
    have HAT := hide hat; have HON := hide hon; have HMK := hide hmk
    clear hat hon hmk
    by_cases hlt : j < m
    · obtain ⟨b, off, x, rfl, hb, _, hx, _, c0⟩ := at_str (HON.out.sl HT.out hS2) hlt
      have HD := hide (show markC (ts.drop (j + 1)) (if isC (.mk x) s' = true then popC s' else failC 7 s') = markC ts s by rw [← HMK.out, drop_at hx, markC_cons])
      have HI := hide (dIs HAT.out x)
      clear hx HMK
      obtain ⟨q, hq⟩ : ∃ q, isC (.mk x) s' = q := ⟨_, rfl⟩
      rw [hq] at HI HD
      clear hq
      cases q
      · go_wp2_with (first | (go_at_call 80; refine HI.out.mono ?_; rintro e w1 ⟨rfl, hat1, hon1⟩) | (go_at_call 85; refine (dFail hat1 7).mono ?_; rintro e w2 ⟨rfl, hat, hon⟩))
        go_roundw
        case rel => exact ⟨j + 1, _, by go_num, by omega, hat, (HON.out.trans hon1).trans hon, HD.out⟩
        case measure => simp [intOf]; omega
      · go_wp2_with (first | (go_at_call 80; refine HI.out.mono ?_; rintro e w1 ⟨rfl, hat1, hon1⟩))
        go_roundw
        case rel => exact ⟨j + 1, _, by go_num, by omega, hat1, HON.out.trans hon1, HD.out⟩
        case measure => simp [intOf]; omega
    · have HE := hide (show s' = markC ts s by rw [← HMK.out, drop_end HT.out.len hlt]; rfl)
      clear HMK
      go_wp2_with fail
      go_end0
      exact ⟨rfl, HE.out ▸ HAT.out, HON.out⟩
set_option maxRecDepth 100000 in
set_option maxHeartbeats 4000000 in
theorem dErr (h : DocAt w S c s) : Calls Tryd.prog 73 #[.pointer (some ⟨c, 0, none⟩)] w (RetX (errV s) w) := by
  have H := hide h
  have hlt := h.lt
  have hnx := h.next
  have k1 := h.at_.choose_spec.choose_spec.choose_spec.2.1
  clear h
  cases hnx with
  | bad he =>
    have k2 := H.out.at_.choose_spec.choose_spec.choose_spec.2.2.1
    have k3 := H.out.at_.choose_spec.choose_spec.choose_spec.2.2.2.1
    have hg : errV s = .tuple #[.int .i64 s.line, .int .i64 s.col, .int .i64 s.e] := by unfold errV errC; rw [if_pos (by simpa using he)]
    rw [hg]
    clear hg
    go_enter Tryd.func73, Tryd.ntmps73
    go_wp2_with fail
    refine wp_region_ext (by kernel_rfl) (by kernel_rfl) ?_
    repeat (any_goals (first | go_big_quiet_step ((fail)) | quiet_step ((fail))))
    refine wpQuiet_nil ?_
    rintro _ ⟨uq, rfl⟩
    go_wp2_with fail
    go_ret3
    exact ⟨rfl, _, rfl⟩
  | none he hw k A k0 =>
    rw [he] at k1
    have hg : errV s = .tuple #[.int .i64 0, .int .i64 0, .int .i64 0] := by unfold errV errC; rw [if_neg (by omega), hw]
    rw [hg]
    clear hg he hw
    go_enter Tryd.func73, Tryd.ntmps73
    go_wp2_with fail
    go_ret3
    exact ⟨rfl, ext_refl _⟩
  | some x l he hw n k b off k0 hn hnk hn9 hb hcb c0 c1 c2 c3 c4 =>
    rw [he] at k1
    have hg : errV s = .tuple #[.int .i64 x.line, .int .i64 x.col, .int .i64 7] := by unfold errV errC; rw [if_neg (by omega), hw]
    rw [hg]
    clear hg he hw
    go_enter Tryd.func73, Tryd.ntmps73
    go_wp2_with fail
    refine wp_region_ext (by kernel_rfl) (by kernel_rfl) ?_
    repeat (any_goals (first | go_big_quiet_step ((fail)) | quiet_step ((fail))))
    refine wpQuiet_nil ?_
    rintro _ ⟨uq, rfl⟩
    go_wp2_with fail
    go_ret3
    exact ⟨rfl, _, rfl⟩
end
end Go.Proofs.YtmlopggainkoiaaDoor
set_option linter.unusedSimpArgs false
set_option linter.unusedVariables false
namespace Go.Proofs.YtmlopggainkoiaaDoor
open Go.RowKit

theorem compK_last : ∀ (l : List Word) (b : Bool), lastE b l = (match (compK b l).getLast? with | some y => endW y | none => b)
  | [], _ => rfl
  | x :: l, b => by
    rw [compK_cons]
    show lastE (endW x) l = _
    by_cases h : b = true ∧ endW x = true
    · rw [if_pos h, h.2, compK_last l true, h.1]
    · rw [if_neg h, compK_last l (endW x)]
      cases hc : compK (endW x) l with
      | nil => rfl
      | cons y r =>
        rw [List.getLast?_cons_cons]
        cases hd : (y :: r).getLast? with
        | none => simp at hd
        | some z => rfl
theorem endW_kind {x : Word} (h : x.kind = 1 ∨ x.kind = 2 ∨ x.kind = 3 ∨ x.kind = 4) : endW x = (x.kind == 4) := by
  unfold endW hasW
  rcases h with h | h | h | h <;> rw [h] <;> rfl
def OverD (s : ByteArray) (w : World) (e : Ending) (w' : World) : Prop := ∃ c, e = .returned (.pointer (some ⟨c, 0, none⟩)) ∧ DocAt w' (fun b => w.heap.size ≤ b ∧ b < c) c (overT s) ∧ w.heap.size ≤ c ∧ Below w.heap.size w w'

set_option maxRecDepth 100000 in
set_option maxHeartbeats 40000000 in
theorem dOver1 (s : ByteArray) (w : World) (hs : s.size ≤ 17179869184) : Calls Tryd.prog 39 #[.string s] w (OverD s w) := by
  obtain ⟨i0, hi, hz, hz1, hz2⟩ := info_parts info_Word1
  have HI0 := hide hi; have HZ := hide hz; have HZ1 := hide hz1; have HZ2 := hide hz2
  clear hi hz hz1 hz2
  have hk := fun x hx => (read_kinds s) x hx
  have hcnt := read_count s (by omega)
  obtain ⟨R, hR⟩ : ∃ R, readR s = R := ⟨_, rfl⟩
  have HR := hide (show Calls Tryd.prog 15 #[.string s] w (RetRd w R) by rw [← hR, readR_ref]; exact read1_any s w hs)
  have HRR := hide hR
  have HK := hide (show ∀ x ∈ R.words, x.kind = 1 ∨ x.kind = 2 ∨ x.kind = 3 ∨ x.kind = 4 by rw [← hR]; exact hk)
  have HCNT := hide (show R.words.length ≤ 1099511627776 by rw [← hR]; exact hcnt)
  clear hR hk hcnt
  obtain ⟨ws, rl, rc, re⟩ := R
  simp only at HK HCNT
  go_enter Tryd.func39, Tryd.ntmps39
  go_wp2_with (first | (go_at_call 15; refine HR.out.mono ?_; rintro e _ ⟨A1, n, c1, rfl, hS1, u1, rfl⟩; dsimp only; refine Hd.out ?_))
  refine hide ?_
  obtain ⟨W1, hW1⟩ : ∃ W', w.ext u1 = W' := ⟨_, rfl⟩
  have HB1 := hide (show Below w.heap.size w W1 by rw [← hW1]; exact (Below.refl _ _).ext (Nat.le_refl _) u1)
  have HS1 := hide (show Sl W1 (fun b => b < W1.heap.size) A1 n c1 ws by rw [← hW1] at *; exact hS1.more fun b hb h => hb)
  have hsz1 : w.heap.size ≤ W1.heap.size := HB1.out.size
  rw [hW1]
  have hn := HS1.out.nle
  clear hW1 hS1 HR
  by_cases he : re = 0
  · subst he
    have HOV := hide (show overT s = ⟨dropEnd (compK true ws), 0, 0, 0⟩ by unfold overT; rw [HRR.out]; exact if_neg (by simp))
    go_wp2_with fail
    go_loopw [7, 8] (fun o i wr => ∃ (k na ca : Nat) (Ao : Option Addr), o = .slice Ao na ca ∧ i = .int .i64 k ∧ k ≤ n ∧ OwnL wr W1.heap.size 77 (fun _ => False) (.slice Ao na ca) (compK true (ws.take k)) ∧ (compK true (ws.take k)).length = na ∧ Below W1.heap.size W1 wr) (fun _ i _ => n - (intOf i).toNat)
    case atStart => exact ⟨0, 0, 0, none, rfl, rfl, Nat.zero_le _, OwnL.nil_ _ _ _ _, rfl, Below.refl _ _⟩
    case round =>
      obtain ⟨k, na, ca, Ao, rfl, rfl, hk, hown, hna, hb⟩ := hrel
      have HO := hide hown; have HNA := hide hna; have HB := hide hb
      have hszr : W1.heap.size ≤ wr.heap.size := hb.size
      have hna9 := (hown.sl (S' := fun _ => True) (fun _ _ _ => trivial)).nle
      clear hown hna hb
      by_cases hlt : k < n
      · obtain ⟨b, off, x, rfl, hbb, hx, j0, j1, j2, j3, j4, c0, c1', c2, c3, c4⟩ := at_Word (HS1.out.below HB.out (fun b h => h)) hlt
        have HX := hide hx
        have hxk := HK.out x (List.mem_of_getElem? hx)
        have HEX := hide (endW_kind hxk)
        have HST := hide (show compK true (ws.take (k + 1)) = compK true (ws.take k) ++ if lastE true (ws.take k) = true ∧ endW x = true then [] else [x] by rw [take_at hx, compK_snoc])
        have HLA := hide (compK_last (ws.take k) true)
        have HY := hide (show ∀ W, Rep.is W (fun _ => False) x [.int .i64 x.kind, .string x.text, .int .i64 x.n, .int .i64 x.line, .int .i64 x.col] from fun W => Word.mk_ j0 j1 j2 j3 j4)
        have HLEN := hide (show (compK true (ws.take k)).length ≤ 1099511627776 by have := compK_len (ws.take k) true; have := HCNT.out; rw [List.length_take] at *; omega)
        obtain ⟨kd, tx, nn, ln, cl⟩ := x
        simp only at c0 c1' c2 c3 c4 HEX HY
        clear hx hxk j0 j1 j2 j3 j4
        by_cases h4 : kd = 4
        · subst h4
          have hE : endW ⟨4, tx, nn, ln, cl⟩ = true := HEX.out
          rcases List.eq_nil_or_concat (compK true (ws.take k)) with hnil | ⟨l2, y, hcat⟩
          · have hL : lastE true (ws.take k) = true := by rw [HLA.out, hnil]; rfl
            have hna0 : na = 0 := by rw [← HNA.out, hnil]; rfl
            subst hna0
            have HC := hide (show lastE true (ws.take k) = true ∧ endW ⟨4, tx, nn, ln, cl⟩ = true from ⟨hL, hE⟩)
            clear hnil hE hL
            go_wp2_with fail
            go_roundw
            case rel =>
              have e := HST.out
              rw [if_pos HC.out, List.append_nil] at e
              exact ⟨k + 1, _, _, _, rfl, by go_num, by omega, by rw [e]; exact HO.out, by rw [e]; exact HNA.out, HB.out⟩
            case measure => simp [intOf]; omega
          · rw [List.concat_eq_append] at hcat
            have hna1 : na = l2.length + 1 := by rw [← HNA.out, hcat]; simp
            obtain ⟨b', off', y', rfl, hbb', hy', _, _, _, _, _, d0, _⟩ := at_Word (HO.out.sl (S' := fun _ => True) (fun _ _ _ => trivial)) (k := na - 1) (by omega)
            have hyy : y' = y := by rw [hcat, hna1] at hy'; simp at hy'; exact hy'.symm
            subst hyy
            have hyk := endW_kind (HK.out y' (List.mem_of_mem_take (compK_mem _ _ y' (by rw [hcat]; simp))))
            have HLL := hide (show lastE true (ws.take k) = endW y' by rw [HLA.out, hcat]; simp)
            have hpos : 0 < na := by omega
            have HN1 := hide hna1
            by_cases hy4 : y'.kind = 4
            · rw [hy4] at d0
              have HC := hide (show lastE true (ws.take k) = true ∧ endW ⟨4, tx, nn, ln, cl⟩ = true from ⟨by rw [HLL.out, hyk, hy4]; rfl, hE⟩)
              clear hcat hE hyk hy' hna1 hy4
              go_wp2_with fail
              go_roundw
              case rel =>
                have e := HST.out
                rw [if_pos HC.out, List.append_nil] at e
                exact ⟨k + 1, _, _, _, rfl, by go_num, by omega, by rw [e]; exact HO.out, by rw [e]; exact HNA.out, HB.out⟩
              case measure => simp [intOf]; omega
            · have HC := hide (show ¬ lastE true (ws.take k) = true by rw [HLL.out, hyk]; simp [hy4])
              clear hcat hE hyk hy' hna1
              go_wp2_with (at_builtin; refine wpList_push (α := Word) wr [.int .i64 4, .string tx, .int .i64 nn, .int .i64 ln, .int .i64 cl] 77 rfl (.tmp 50) (.tmp 55) 33 rfl W1.heap.size 77 i0 _ 48 Tryd.underlying33 HI0.out HZ.out HZ1.out HZ2.out rfl (by decide) (fun _ => False) (fun _ => False) (.slice (some ⟨b', off', none⟩) na ca) (compK true (ws.take k)) ⟨4, tx, nn, ln, cl⟩ rfl HO.out _ rfl rfl (HY.out _) (fun _ h => h) (fun _ _ h => h) (fun _ h => h.elim) (by have := HLEN.out; omega) (by have := HLEN.out; omega) hszr ?_)
              intro v' w1' hown' hg hrow
              have HBB := hide ((HB.out.alloc hszr (.cells #[.int .i64 4, .string tx, .int .i64 nn, .int .i64 ln, .int .i64 cl] 77)).grown hg (by simp; omega) (fun g e => (HO.out.below_ g e).1))
              have HOW := hide hown'
              obtain ⟨Av, cv, hv⟩ := hown'.form
              subst hv
              clear hown' hg hrow
              go_wp2_with fail
              go_roundw
              case rel =>
                have e := HST.out
                rw [if_neg (by exact fun c => HC.out c.1)] at e
                have hw := HOW.out
                rw [← e] at hw
                exact ⟨k + 1, _, cv, Av, rfl, by go_num, by omega, by rw [e] at hw ⊢; exact hw, by rw [e], HBB.out⟩
              case measure => simp [intOf]; omega
        · have HC := hide (show ¬ endW ⟨kd, tx, nn, ln, cl⟩ = true by rw [HEX.out]; simp [h4])
          go_wp2_with (at_builtin; refine wpList_push (α := Word) wr [.int .i64 kd, .string tx, .int .i64 nn, .int .i64 ln, .int .i64 cl] 77 rfl (.tmp 50) (.tmp 55) 33 rfl W1.heap.size 77 i0 _ 48 Tryd.underlying33 HI0.out HZ.out HZ1.out HZ2.out rfl (by decide) (fun _ => False) (fun _ => False) (.slice Ao na ca) (compK true (ws.take k)) ⟨kd, tx, nn, ln, cl⟩ rfl HO.out _ rfl rfl (HY.out _) (fun _ h => h) (fun _ _ h => h) (fun _ h => h.elim) (by have := HLEN.out; omega) (by have := HLEN.out; omega) hszr ?_)
          intro v' w1' hown' hg hrow
          have HBB := hide ((HB.out.alloc hszr (.cells #[.int .i64 kd, .string tx, .int .i64 nn, .int .i64 ln, .int .i64 cl] 77)).grown hg (by simp; omega) (fun g e => (HO.out.below_ g e).1))
          have HOW := hide hown'
          obtain ⟨Av, cv, hv⟩ := hown'.form
          subst hv
          clear hown' hg hrow
          go_wp2_with fail
          go_roundw
          case rel =>
            have e := HST.out
            rw [if_neg (by exact fun c => HC.out c.2)] at e
            have hw := HOW.out
            rw [← e] at hw
            exact ⟨k + 1, _, cv, Av, rfl, by go_num, by omega, by rw [e] at hw ⊢; exact hw, by rw [e], HBB.out⟩
          case measure => simp [intOf]; omega
      · have hk' : k = n := by omega
        have htk : ws.take k = ws := List.take_of_length_le (by have := HS1.out.len; omega)
        rw [htk] at HO HNA
        rcases List.eq_nil_or_concat (compK true ws) with hnil | ⟨l2, y, hcat⟩
        · have hna0 : na = 0 := by rw [← HNA.out, hnil]; rfl
          subst hna0
          have HF := hide (show dropEnd (compK true ws) = compK true ws by rw [hnil]; rfl)
          clear hnil htk hk'
          go_wp2_with fail
          go_ret
          refine ⟨wr.heap.size, rfl, ?_, by omega, HB1.out.trans (Below.trans ⟨HB.out.os, HB.out.tape, HB.out.output, HB.out.size, fun b hb => HB.out.block b (by omega)⟩ ((Below.refl _ _).alloc (by omega) _))⟩
          rw [HOV.out, HF.out]
          exact ⟨⟨Ao, 0, ca, heap_alloc_new wr _, ((HO.out.sl (S' := fun b => w.heap.size ≤ b ∧ b < wr.heap.size) (fun b hb h => by rcases h with h | h; exact h.elim; omega)).alloc _)⟩, ⟨fun x hx => HK.out x (compK_mem _ _ x hx), fun _ => ⟨rfl, rfl⟩⟩, by omega⟩
        · rw [List.concat_eq_append] at hcat
          have hna1 : na = l2.length + 1 := by rw [← HNA.out, hcat]; simp
          obtain ⟨b', off', y', rfl, hbb', hy', _, _, _, _, _, d0, _⟩ := at_Word (HO.out.sl (S' := fun _ => True) (fun _ _ _ => trivial)) (k := na - 1) (by omega)
          have hyy : y' = y := by rw [hcat, hna1] at hy'; simp at hy'; exact hy'.symm
          subst hyy
          have hyk := endW_kind (HK.out y' (compK_mem _ _ y' (by rw [hcat]; simp)))
          have hpos : 0 < na := by omega
          have hnac := (HO.out.sl (S' := fun _ => True) (fun _ _ _ => trivial)).2.1
          have HN1 := hide hna1
          by_cases hy4 : y'.kind = 4
          · have HF := hide (show dropEnd (compK true ws) = l2 by unfold dropEnd; rw [hcat]; simp [hyk, hy4])
            have HTK := hide (show (compK true ws).take (na - 1) = l2 by rw [hcat, hna1]; simp)
            rw [hy4] at d0
            clear hcat hyk hy' hna1 hy4 htk hk'
            go_wp2_with fail
            go_ret
            refine ⟨wr.heap.size, rfl, ?_, by omega, HB1.out.trans (Below.trans ⟨HB.out.os, HB.out.tape, HB.out.output, HB.out.size, fun b hb => HB.out.block b (by omega)⟩ ((Below.refl _ _).alloc (by omega) _))⟩
            rw [HOV.out, HF.out]
            have hsl := (HO.out.sl (S' := fun b => w.heap.size ≤ b ∧ b < wr.heap.size) (fun b hb h => by rcases h with h | h; exact h.elim; omega)).take_ (k := na - 1) (by omega)
            rw [HTK.out] at hsl
            exact ⟨⟨_, na - 1, ca, heap_alloc_new wr _, hsl.alloc _⟩, ⟨fun x hx => HK.out x (compK_mem _ _ x (List.mem_of_mem_take (HTK.out ▸ hx))), fun _ => ⟨rfl, rfl⟩⟩, by omega⟩
          · have HF := hide (show dropEnd (compK true ws) = compK true ws by unfold dropEnd; rw [hcat]; simp [hyk, hy4])
            clear hcat hyk hy' hna1 htk hk'
            go_wp2_with fail
            go_ret
            refine ⟨wr.heap.size, rfl, ?_, by omega, HB1.out.trans (Below.trans ⟨HB.out.os, HB.out.tape, HB.out.output, HB.out.size, fun b hb => HB.out.block b (by omega)⟩ ((Below.refl _ _).alloc (by omega) _))⟩
            rw [HOV.out, HF.out]
            exact ⟨⟨_, na, ca, heap_alloc_new wr _, ((HO.out.sl (S' := fun b => w.heap.size ≤ b ∧ b < wr.heap.size) (fun b hb h => by rcases h with h | h; exact h.elim; omega)).alloc _)⟩, ⟨fun x hx => HK.out x (compK_mem _ _ x hx), fun _ => ⟨rfl, rfl⟩⟩, by omega⟩
  · have HOV := hide (show overT s = ⟨[], re, rl, rc⟩ by unfold overT; rw [HRR.out]; exact if_pos he)
    have heb : (re == 0) = false := by simp [he]
    clear he
    go_wp2_with fail
    go_ret
    refine ⟨W1.heap.size, rfl, ?_, hsz1, HB1.out.alloc hsz1 _⟩
    rw [HOV.out]
    exact ⟨⟨none, 0, 0, heap_alloc_new W1 _, Sl.nil⟩, ⟨fun _ h => (by cases h), fun e => absurd e (by simpa using heb)⟩, by omega⟩
end Go.Proofs.YtmlopggainkoiaaDoor
