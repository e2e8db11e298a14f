/- Walks: tiles that are lent, lists of them, and that they are kept. Written by gen_k28.py. Walks: the kit's facts, rows of facts that are lent, and kept. -/
import Derived.Test.YtppkanniefignaaGreatDoorG21
import Derived.Test.YtppkanniefignaaGreatDoorG24
import Derived.Test.YtppkanniefignaaGreatDoorG38
set_option linter.unusedSimpArgs false
set_option linter.unusedVariables false
namespace Go.Proofs.YtppkanniefignaaGreatDoor
open Go.RowKit
def SmallTl (m : Nat) (t : Tile) : Prop := t.blocks.length ≤ m
theorem info_Tile : (Tryz.prog.info? 35).map (fun i => (i.zero, i.size, i.bytes)) = some (some (.agg #[.int .i64 0, .int .i64 0, .slice none 0 0]), 3, 40) := by kernel_rfl
theorem sameTile_any (w : World) (S S' : Nat → Prop) (A0 A0' : Option Addr) (n0 c0 c0' : Nat) (x : Tile) (h0 : Sl w S A0 n0 c0 x.blocks) (h0' : Sl w S' A0' n0 c0' x.blocks) :
  Calls Tryz.prog 96 #[.agg #[.int .i64 x.kind, .int .i64 x.parent, .slice A0 n0 c0], .agg #[.int .i64 x.kind, .int .i64 x.parent, .slice A0' n0 c0']] w (RetX (.bool true) w) := sameTile28_any w S S' A0 A0' n0 c0 c0' x h0 h0'
def OkTile (x : Tile) : Prop := InI x.kind ∧ InI x.parent
abbrev repLTile : Rep (L Tile) := Rep.via fun y => (y.val.kind, y.val.parent, (L.mk y.val.blocks : L (List Int)))
theorem LTile.open_ {w : World} {S : Nat → Prop} {x : Tile} {vs : List Value} (h : repLTile.is w S (L.mk x) vs) : ∃ A0 : Option Addr, ∃ n0 : Nat, ∃ c0 : Nat, vs = [.int .i64 x.kind, .int .i64 x.parent, .slice A0 n0 c0] ∧ InI x.kind ∧ InI x.parent ∧ (x.blocks.length = n0 ∧ Sl w S A0 (n0 + 12) c0 (row x.blocks)) := by
 obtain ⟨us0, ts0, e0, h0, r0⟩ := h
 obtain ⟨us1, ts1, e1, h1, r1⟩ := r0
 obtain ⟨v2, f2⟩ := h0
 obtain ⟨v3, f3⟩ := h1
 obtain ⟨A4, n4, c4, v4, l4, f4⟩ := r1
 refine ⟨A4, n4, c4, ?_, f2, f3, ⟨l4, f4⟩⟩
 subst_vars; simp
theorem LTile.mk_ {w : World} {S : Nat → Prop} {x : Tile} {A0 : Option Addr} {n0 : Nat} {c0 : Nat} (f0 : InI x.kind) (f1 : InI x.parent) (f2 : (x.blocks.length = n0 ∧ Sl w S A0 (n0 + 12) c0 (row x.blocks))) : repLTile.is w S (L.mk x) [.int .i64 x.kind, .int .i64 x.parent, .slice A0 n0 c0] := by
 exact ⟨_, _, rfl, ⟨rfl, f0⟩, ⟨_, _, rfl, ⟨rfl, f1⟩, ⟨_, _, _, rfl, f2⟩⟩⟩
theorem LTile.forget {w : World} {S : Nat → Prop} {x : Tile} {vs : List Value} (h : repLTile.is w S (L.mk x) vs) : Rep.is w S x vs := by
 obtain ⟨A0, n0, c0, rfl, q0, q1, ⟨l0, g0⟩⟩ := LTile.open_ h
 exact Tile.mk_ q0 q1 (g0.forget l0)
instance : Lend Tile where
 rep := repLTile
 size_eq := rfl
 marks := (List.range 12).map fun i => (⟨0, markI 1 (i : Nat), []⟩ : Tile)
 twelve := rfl
 forget h := LTile.forget h
def markTile (i : Nat) : Tile := ⟨0, markI 1 (i : Nat), []⟩
theorem marks_Tile {j : Nat} (h : j < 12) : (Lend.marks : List Tile)[j]? = some (markTile j) := by
 show ((List.range 12).map fun i => (⟨0, markI 1 (i : Nat), []⟩ : Tile))[j]? = _
 simp [h, markTile]
theorem at_lent_Tile {w : World} {S : Nat → Prop} {A : Option Addr} {n c : Nat} {xs : List Tile} (h : Sl w S A (n + 12) c (row xs)) (hn : xs.length = n) {k : Nat} (hk : k < n) :
  ∃ b off, ∃ x : Tile, ∃ A0 : Option Addr, ∃ n0 : Nat, ∃ c0 : Nat, A = some ⟨b, off, none⟩ ∧ b < w.heap.size ∧ xs[k]? = some x ∧ InI x.kind ∧ InI x.parent ∧ (x.blocks.length = n0 ∧ Sl w S A0 (n0 + 12) c0 (row x.blocks)) ∧ w.cell? ⟨b, off + k * 3, none⟩ = some (.int .i64 x.kind) ∧ w.cell? ⟨b, off + k * 3 + 1, none⟩ = some (.int .i64 x.parent) ∧ w.cell? ⟨b, off + k * 3 + 2, none⟩ = some (.slice A0 n0 c0) := by
 obtain ⟨b, off, x, us, e, hb, _, hx, hus, hc⟩ := h.at_lent hn hk
 obtain ⟨A0, n0, c0, rfl, g0, g1, g2⟩ := LTile.open_ hus
 refine ⟨b, off, x, A0, n0, c0, e, hb, hx, g0, g1, g2, ?_, ?_, ?_⟩
 ·have := hc 0 _ rfl; simpa [Rep.size, Nat.add_assoc] using this
 ·have := hc 1 _ rfl; simpa [Rep.size, Nat.add_assoc] using this
 ·have := hc 2 _ rfl; simpa [Rep.size, Nat.add_assoc] using this
theorem at_mark_Tile {w : World} {S : Nat → Prop} {A : Option Addr} {n c : Nat} {xs : List Tile} (h : Sl w S A (n + 12) c (row xs)) (hn : xs.length = n) {j : Nat} (hj : j < 12) :
  ∃ b off, ∃ A0 : Option Addr, ∃ c0 : Nat, A = some ⟨b, off, none⟩ ∧ b < w.heap.size ∧ Sl w S A0 0 c0 ([] : List Int) ∧ w.cell? ⟨b, off + (n + j) * 3, none⟩ = some (.int .i64 0) ∧ w.cell? ⟨b, off + (n + j) * 3 + 1, none⟩ = some (.int .i64 (markI 1 j)) ∧ w.cell? ⟨b, off + (n + j) * 3 + 2, none⟩ = some (.slice A0 0 c0) := by
 obtain ⟨b, off, us, e, hb, _, hus, hc⟩ := h.at_mark hn hj (marks_Tile hj)
 obtain ⟨A0, n0, c0, rfl, -, -, g0⟩ := Tile.open_ hus
 obtain rfl : n0 = 0 := g0.len.symm
 refine ⟨b, off, A0, c0, e, hb, g0, ?_, ?_, ?_⟩
 ·have := hc 0 _ rfl; simpa [Rep.size, Nat.add_assoc, markTile] using this
 ·have := hc 1 _ rfl; simpa [Rep.size, Nat.add_assoc, markTile] using this
 ·have := hc 2 _ rfl; simpa [Rep.size, Nat.add_assoc, markTile] using this
theorem markTile_any (k i : Int) (w : World) (hk : 0 ≤ k ∧ k ≤ 100000000) (hi : 0 ≤ i ∧ i ≤ 100000000) : Calls Tryz.prog 99 #[.int .i64 k, .int .i64 i] w (RetX (.agg #[.int .i64 0, .int .i64 (markI k i), .slice none 0 0]) w) := by
 go_enter Tryz.func99, Tryz.ntmps99
 go_wp2_with (go_at_call 43; refine (mark_any k i _ hk hi).mono ?_; rintro e w' ⟨rfl, rfl⟩)
 exact bodyPost_ret (v := .agg #[.int .i64 0, .int .i64 (markI k i), .slice none 0 0]) (by simp [results, Tryz.results99, go_sem]) rfl ⟨rfl, Below.to_ext (by repeat (first | exact Below.refl _ _ | assumption | refine Below.alloc ?_ (by simp [size_ext]; try omega) _ | refine Below.ext ?_ (by simp [size_ext]; try omega) _ | refine Below.drew ?_ | refine Below.setCell ?_ (by simp [size_ext]; try omega) _))⟩
theorem markTile_rep (i : Nat) (h : i < 12) (w : World) (S : Nat → Prop) : Rep.is w S (markTile i) [.int .i64 0, .int .i64 (markI 1 i), .slice none 0 0] := Tile.mk_ InI_zero (markI_in i h) Sl.nil
theorem lentTile_any (w : World) (S : Nat → Prop) (A0 : Option Addr) (n0 c0 : Nat) (x : Tile) (h0 : Sl w S A0 n0 c0 x.blocks) (hm0 : x.blocks.length ≤ 1048576) (hok : OkTile x) :
  Calls Tryz.prog 98 #[.agg #[.int .i64 x.kind, .int .i64 x.parent, .slice A0 n0 c0]] w (RetV (L.mk x) w) := by
 have H0 := hide h0; clear h0
 have HM0 := hide hm0; clear hm0
 have HOK := hide hok; clear hok
 go_enter Tryz.func98, Tryz.ntmps98
 go_wp2_with (go_at_call 143; refine (lentInts_any _ S A0 n0 c0 x.blocks (by repeat (first | assumption | exact Hd.out (by assumption) | apply Sl.alloc | apply Sl.ext | apply Sl.drew | apply Sl.drewN)) HM0.out).mono ?_; rintro e _ ⟨B0, m0, e0, rfl, hl0, hs0, ux, rfl⟩; have HS0 := hide hs0; have HL0 := hide hl0; clear hs0 hl0)
 refine bodyPost_ret (v := .agg #[.int .i64 x.kind, .int .i64 x.parent, .slice B0 m0 e0]) (by simp [results, Tryz.results98, go_sem]) rfl ⟨_, rfl, ?_, Below.to_ext (by repeat (first | exact Below.refl _ _ | assumption | refine Below.alloc ?_ (by simp [size_ext]; try omega) _ | refine Below.ext ?_ (by simp [size_ext]; try omega) _ | refine Below.drew ?_ | refine Below.setCell ?_ (by simp [size_ext]; try omega) _))⟩
 obtain ⟨j0, j1⟩ := HOK.out
 exact LTile.mk_ j0 j1 ⟨HL0.out, (HS0.out.ext_swap (by simp) (fun b hb => hb)).more (fun b _ hb => by simp at hb ⊢; omega)⟩
theorem lentTiles_close {w w1 : World} {S : Nat → Prop} {v : Value} {n : Nat} {xs : List Tile} (HL : Hd (xs.length = n)) (ho : OwnL w1 w.heap.size 35 S v (xs.map E.lent ++ (mks Tile 12).map E.plain)) (hS : ∀ b, S b → w.heap.size ≤ b) (hb : Below w.heap.size w w1) :
  ∃ g cap, v = .slice (some ⟨g, 0, none⟩) (n + 12) cap ∧ n + 12 ≤ cap ∧ cap ≤ 9223372036854775807 ∧ RetLent xs w (.returned (.slice (some ⟨g, 0, none⟩) n cap)) w1 := by
 rw [mks_all] at ho
 obtain ⟨g, cap, rfl, hc, hm⟩ := ho.form_pos (n := n + 12) (by have := row_len (xs := xs); unfold row at this; rw [this, HL.out]) (by omega)
 refine ⟨g, cap, rfl, hc, hm, some ⟨g, 0, none⟩, n, cap, rfl, HL.out, ?_, Below.to_ext hb⟩
 exact ho.sl (fun b _ h => by rcases h with h | h; exact hS b h; exact h)
set_option maxHeartbeats 1000000 in
theorem lentTiles_any (w : World) (S : Nat → Prop) (A : Option Addr) (n c : Nat) (xs : List Tile) (h : Sl w S A n c xs) (hm : xs.length ≤ 1048576 ∧ ∀ y ∈ xs, SmallTl 1048576 y) :
  Calls Tryz.prog 45 #[.slice A n c] w (RetLent xs w) := by
 have HL := hide h.len
 have hn : n ≤ 1048576 := by rw [← h.len]; exact hm.1
 have HS := hide h; clear h
 have HM := hide hm; clear hm
 obtain ⟨i0, hi, hz, hz1, hz2⟩ := info_parts info_Tile
 have HI0 := hide hi; have HZ := hide hz; have HZ1 := hide hz1; have HZ2 := hide hz2
 clear hi hz hz1 hz2
 obtain ⟨B, hB⟩ : ∃ B, B = w.heap.size := ⟨_, rfl⟩
 have HB := hide hB
 have hB1 : B ≤ w.heap.size := by omega
 have hB2 : w.heap.size ≤ B := by omega
 clear hB
 go_enter Tryz.func45, Tryz.ntmps45
 go_wp2_with (at_make; refine wpList_make_own _ rfl _ _ 23 rfl B 35 i0 _ 3 Tryz.underlying23 HI0.out HZ.out HZ1.out _ _ _ (n + 12) rfl rfl (by omega) (by rw [HZ2.out]; omega) (by unfold maxLen; omega) hB1 ?_; intro w1 hown hg; have HO0 := hide hown; have HG0 := hide hg; clear hown hg)
 have hs0 : B ≤ w1.heap.size := by have := HG0.out.size; omega
 have HB0 := hide (below_grown HG0.out hB1)
 clear HG0
 go_loopw [3, 4] (fun o i wr => ∃ k : Nat, ∃ So : Nat → Prop, k ≤ n ∧ i = .int .i64 k ∧ OwnL wr B 35 So o ((xs.take k).map E.lent) ∧ (∀ b, So b → B ≤ b ∧ b < wr.heap.size) ∧ Below B w wr ∧ B ≤ wr.heap.size) (fun _ i _ => n - (intOf i).toNat)
 case atStart => exact ⟨0, fun _ => False, Nat.zero_le _, rfl, ⟨[], HO0.out, rfl, fun _ _ h => h⟩, fun _ h => h.elim, HB0.out, hs0⟩
 case round =>
  obtain ⟨k, So, hk, rfl, hown, hSo, hbel, hsz⟩ := hrel
  have HO := hide hown; have HSo := hide hSo; have HBel := hide hbel
  clear hown hSo hbel HO0 HB0 hs0
  by_cases hlt : k < n
  ·obtain ⟨b, off, x, A0, n0, c0, rfl, hb, hx, q0, q1, hs0, d0, d1, d2⟩ := at_Tile HS.out hlt
   have hcell : ∀ o, wr.cell? ⟨b, o, none⟩ = w.cell? ⟨b, o, none⟩ := fun o => HBel.out.cell (by show b < B; omega)
   rw [← hcell] at d0 d1 d2
   clear hcell
   have HSm := hide (HM.out.2 x (mem_at hx))
   have HX := hide (take_at hx); clear hx
   have HOk : Hd (OkTile x) := hide ⟨q0, q1⟩
   clear q0 q1
   have HJ0 := hide ((hs0.more (S' := fun b => b < B) (fun b hb _ => by omega)).below HBel.out (fun _ h => h)); clear hs0
   go_wp2_with (first
    | (go_at_call 98; refine (lentTile_any _ _ A0 n0 c0 x HJ0.out HSm.out HOk.out).mono ?_; rintro e _ ⟨us, rfl, hus, ux, rfl⟩; obtain ⟨B0, m0, e0, rfl, -, -, ⟨hl0, ht0⟩⟩ := LTile.open_ hus; have HT0 := hide ht0; have HTL0 := hide hl0; clear ht0 hl0; clear hus)
    | (at_builtin; refine wpList_push (α := E Tile) ((wr.ext ux).alloc (.cells #[.int .i64 x.kind, .int .i64 x.parent, .slice B0 m0 e0] 35)) [.int .i64 x.kind, .int .i64 x.parent, .slice B0 m0 e0] 35 rfl (.tmp 22) (.tmp 24) 23 rfl B 35 i0 _ 40 Tryz.underlying23 HI0.out HZ.out HZ1.out HZ2.out rfl (by decide) So (fun b => So b ∨ (wr.heap.size ≤ b ∧ b < (wr.ext ux).heap.size)) u3 ((xs.take k).map E.lent) (.lent x) rfl ((HO.out.ext ux).alloc _) _ rfl ?hg ?hr (fun _ h => .inl h) ?hap ?hnew ?hl1 ?hl2 ?hl3 ?_; rotate_left 7; intro v' w1 hown' hg _; have HO' := hide hown'; have HG := hide hg; clear hown' hg))
   case hr =>
    obtain ⟨j0, j1⟩ := HOk.out
    exact LTile.mk_ j0 j1 ⟨HTL0.out, (HT0.out.more (fun b hb h => .inr ⟨h, hb⟩)).alloc _⟩
   case hg => simp [size_ext]
   case hap =>
    intro g hg hS
    rcases hS with hS | hS
    ·exact absurd (HO.out) (fun h => by obtain ⟨_, _, _, h3⟩ := h; exact h3 g hg hS)
    ·have := (HO.out.below_ g hg).2; omega
   case hnew =>
    intro b hS
    rcases hS with hS | hS
    ·have := (HSo.out b hS).2; simp [size_ext]; omega
    ·have := hS.2; simp [size_ext] at this ⊢; omega
   case hl1 => simp; omega
   case hl2 => simp; omega
   case hl3 => simp [size_ext]; omega
   go_wp2
   go_roundw
   case rel =>
    have hb1 : Below B w w1 := below_push (W := ((wr.ext ux).alloc (.cells #[.int .i64 x.kind, .int .i64 x.parent, .slice B0 m0 e0] 35))) (v := u3) ((HBel.out.ext hsz ux).alloc (by simp [size_ext]; omega) _) ((HO.out.ext ux).alloc _) (by simp [size_ext]; omega) HG.out
    have hs1 := HG.out.size
    refine ⟨k + 1, _, by omega, by go_num, by rw [HX.out, List.map_append]; exact HO'.out, fun b hS => ?_, hb1, Nat.le_trans hB1 hb1.size⟩
    simp [size_ext] at hs1
    rcases hS with hS | hS
    ·have := HSo.out b hS; omega
    ·have := hS.2; simp [size_ext] at this; omega
   case measure => simp [intOf]; omega
  ·have ho := HO.out
   rw [take_end HL.out hlt] at ho
   have HOE := hide ho
   clear ho HO
   go_wp2
   clear hlt hk
   go_loopw [3, 6] (fun o i w9 => ∃ j : Nat, ∃ Sp : Nat → Prop, j ≤ 12 ∧ i = .int .i64 j ∧ OwnL w9 B 35 Sp o (xs.map E.lent ++ (mks Tile j).map E.plain) ∧ (∀ b, Sp b → B ≤ b ∧ b < w9.heap.size) ∧ Below B w w9 ∧ B ≤ w9.heap.size) (fun _ i _ => 12 - (intOf i).toNat)
   case atStart => exact ⟨0, So, by omega, rfl, by rw [show mks Tile 0 = [] from rfl, List.map_nil, List.append_nil]; exact HOE.out, HSo.out, HBel.out, hsz⟩
   case round =>
    obtain ⟨j, Sp, hj, rfl, hown9, hSp, hbel9, hsz9⟩ := hrel
    have HO9 := hide hown9; have HSp := hide hSp; have HBel9 := hide hbel9
    clear hown9 hSp hbel9 HOE HSo HBel hsz
    by_cases hjt : j < 12
    ·go_wp2_with (first
      | (go_at_call 99; refine (markTile_any 1 j _ (by omega) (by omega)).mono ?_; rintro e _ ⟨rfl, ux, rfl⟩)
      | (at_builtin; refine wpList_push (α := E Tile) (wr.ext ux) [.int .i64 0, .int .i64 (markI 1 j), .slice none 0 0] 35 rfl (.tmp 30) (.tmp 33) 23 rfl B 35 i0 _ 40 Tryz.underlying23 HI0.out HZ.out HZ1.out HZ2.out rfl (by decide) Sp Sp u3 (xs.map E.lent ++ (mks Tile j).map E.plain) (.plain (markTile j)) rfl (HO9.out.ext ux) _ rfl ?hg9 (markTile_rep j hjt _ _) (fun _ h => h) ?hap9 ?hnewr ?hl19 ?hl29 ?hl39 ?_; rotate_left 6; intro v' w1 hown' hg _; have HO' := hide hown'; have HG := hide hg; clear hown' hg))
     case hg9 => simp [size_ext]
     case hap9 =>
      intro g hg hS
      exact absurd (HO9.out) (fun h => by obtain ⟨_, _, _, h3⟩ := h; exact h3 g hg hS)
     case hnewr => intro b hS; have := (HSp.out b hS).2; simp [size_ext]; omega
     case hl19 => rw [List.length_append, List.length_map, List.length_map, HL.out, mks_len (by omega)]; omega
     case hl29 => rw [List.length_append, List.length_map, List.length_map, HL.out, mks_len (by omega)]; omega
     case hl39 => simp [size_ext]; omega
     go_wp2
     go_roundw
     case rel =>
      have hb1 : Below B w w1 := below_push (W := wr.ext ux) (v := u3) (HBel9.out.ext hsz9 ux) (HO9.out.ext ux) (by simp [size_ext]; omega) HG.out
      have hs1 := HG.out.size
      refine ⟨j + 1, Sp, by omega, by go_num, by rw [mks_succ (marks_Tile hjt), List.map_append, ← List.append_assoc]; exact HO'.out, fun b hS => ?_, hb1, Nat.le_trans hB1 hb1.size⟩
      simp [size_ext] at hs1
      have := HSp.out b hS
      omega
     case measure => simp [intOf]; omega
    ·obtain rfl : j = 12 := by omega
     obtain ⟨g, cap, rfl, hc1, hc2, hret⟩ := lentTiles_close (w := w) HL (by rw [← HB.out]; exact HO9.out) (fun b hb => by have := (HSp.out b hb).1; omega) (by rw [← HB.out]; exact HBel9.out)
     have HR := hide hret; clear hret hjt
     go_wp2
     go_ret
     exact HR.out
theorem keptTile_any (w : World) (S S' : Nat → Prop) (A0 A0' : Option Addr) (n0 c0 c0' : Nat) (x : Tile) (h : Sl w S A0 (n0 + 12) c0 (row x.blocks)) (h' : Sl w S' A0' n0 c0' x.blocks) (hm0 : x.blocks.length ≤ 1048576) :
  Calls Tryz.prog 114 #[.agg #[.int .i64 x.kind, .int .i64 x.parent, .slice A0 n0 c0], .agg #[.int .i64 x.kind, .int .i64 x.parent, .slice A0' n0 c0']] w (RetX (.bool true) w) := by
 have H1 := hide (h.forget h'.len)
 have H := hide h; clear h
 have H' := hide h'; clear h'
 have HM := hide hm0; clear hm0
 go_enter Tryz.func114, Tryz.ntmps114
 go_wp2_with (first | (go_at_call 96; refine (sameTile_any _ S S' A0 A0' n0 c0 c0' x (by repeat (first | assumption | exact Hd.out (by assumption) | apply Sl.alloc | apply Sl.ext | apply Sl.drew | apply Sl.drewN)) (by repeat (first | assumption | exact Hd.out (by assumption) | apply Sl.alloc | apply Sl.ext | apply Sl.drew | apply Sl.drewN))).mono ?_; rintro e _ ⟨rfl, ux, rfl⟩) | (go_at_call 152; refine (keptInts_any _ S S' A0 A0' n0 c0 c0' x.blocks (by repeat (first | assumption | exact Hd.out (by assumption) | apply Sl.alloc | apply Sl.ext | apply Sl.drew | apply Sl.drewN)) (by repeat (first | assumption | exact Hd.out (by assumption) | apply Sl.alloc | apply Sl.ext | apply Sl.drew | apply Sl.drewN)) HM.out).mono ?_; rintro e _ ⟨rfl, ux, rfl⟩))
 go_ret
 exact RetX.b rfl (by repeat (first | exact Below.refl _ _ | assumption | refine Below.alloc ?_ (by simp [size_ext]; try omega) _ | refine Below.ext ?_ (by simp [size_ext]; try omega) _ | refine Below.drew ?_ | refine Below.setCell ?_ (by simp [size_ext]; try omega) _))
set_option maxHeartbeats 1000000 in
theorem keptTiles_any (w : World) (S S' : Nat → Prop) (A A' : Option Addr) (n c c' : Nat) (xs : List Tile) (h : Sl w S A (n + 12) c (row xs)) (h' : Sl w S' A' n c' xs) (hm : xs.length ≤ 1048576 ∧ ∀ y ∈ xs, SmallTl 1048576 y) :
  Calls Tryz.prog 52 #[.slice A n c, .slice A' n c'] w (RetX (.bool true) w) := by
 have hn : n ≤ 1048576 := by rw [← h'.len]; exact hm.1
 have hc : n + 12 ≤ c := h.2.1
 have hcm : c ≤ 9223372036854775807 := by have := h.2.2.1; unfold maxLen at this; omega
 have HL := hide h'.len
 obtain ⟨b, off, us, rfl, hb, -⟩ := h.at_mark h'.len (show 0 < 12 by omega) (marks_Tile (by omega))
 have HS := hide h; have HS' := hide h'; have HM := hide hm
 clear h h' hm
 go_enter Tryz.func52, Tryz.ntmps52
 go_wp2
 go_loopw [6] (fun i wr => ∃ k : Nat, k ≤ n + 12 ∧ i = .int .i64 k ∧ ∃ u, wr = w.ext u) (fun i _ => n + 12 - (intOf i).toNat)
 case atStart => exact ⟨0, Nat.zero_le _, rfl, ext_refl _⟩
 case round =>
  obtain ⟨k, hk, rfl, u, rfl⟩ := hrel
  by_cases hlt : k < n + 12
  ·by_cases hkn : k < n
   ·obtain ⟨b1, off1, x, A0, n0, c0, e1, -, hx, -, -, ⟨hl0, hs0⟩, d0, d1, d2⟩ := at_lent_Tile HS.out HL.out hkn
    simp only [Option.some.injEq, Addr.mk.injEq] at e1
    obtain ⟨rfl, rfl, -⟩ := e1
    obtain ⟨b', off', x', A0', n0', c0', rfl, hb', hx', -, -, hs'0, e0, e1, e2⟩ := at_Tile HS'.out hkn
    obtain rfl := some_eq hx hx'
    have HSm := hide (HM.out.2 x (mem_at hx))
    clear hx hx'
    obtain rfl : n0 = n0' := hl0.symm.trans hs'0.len
    have HI0 := hide hs0; have HI0' := hide hs'0
    clear hs0 hs'0
    have hd : decide (k < n) = true := by simpa using hkn
    have hd' : decide (n ≤ k) = false := by simp; omega
    go_wp2
    refine wp_region_ext (by kernel_rfl) (by kernel_rfl) ?_
    repeat (any_goals (first | go_big_quiet_step (((go_at_call 114; exact quiet_retx (keptTile_any _ S S' A0 A0' n0 c0 c0' x (by repeat (first | assumption | exact Hd.out (by assumption) | apply Sl.alloc | apply Sl.ext | apply Sl.drew | apply Sl.drewN)) (by repeat (first | assumption | exact Hd.out (by assumption) | apply Sl.alloc | apply Sl.ext | apply Sl.drew | apply Sl.drewN)) HSm.out)))) | quiet_step (((go_at_call 114; exact quiet_retx (keptTile_any _ S S' A0 A0' n0 c0 c0' x (by repeat (first | assumption | exact Hd.out (by assumption) | apply Sl.alloc | apply Sl.ext | apply Sl.drew | apply Sl.drewN)) (by repeat (first | assumption | exact Hd.out (by assumption) | apply Sl.alloc | apply Sl.ext | apply Sl.drew | apply Sl.drewN)) HSm.out))))))
    refine wpQuiet_nil ?_
    rintro _ ⟨uq, rfl⟩
    go_wp2
    go_roundw
    case rel => exact ⟨k + 1, by omega, by go_num, Below.to_ext (by repeat (first | exact Below.refl _ _ | assumption | refine Below.alloc ?_ (by simp [size_ext]; try omega) _ | refine Below.ext ?_ (by simp [size_ext]; try omega) _ | refine Below.drew ?_ | refine Below.setCell ?_ (by simp [size_ext]; try omega) _))⟩
    case measure => simp [intOf]; omega
   ·obtain ⟨j, hj⟩ : ∃ j, k = n + j := ⟨k - n, by omega⟩
    have hj1 : j < 12 := by omega
    obtain ⟨b1, off1, A0, c0, e1, -, hz0, d0, d1, d2⟩ := at_mark_Tile HS.out HL.out hj1
    simp only [Option.some.injEq, Addr.mk.injEq] at e1
    obtain ⟨rfl, rfl, -⟩ := e1
    rw [← hj] at d0 d1 d2
    have hs : IntKind.i64.wrap ((k : Int) - n) = (j : Int) := by rw [IntWalk.i64_in _ (by omega)]; omega
    have HJ := hide hj; clear hj
    have HZ0 := hide hz0; clear hz0
    have hd : decide (k < n) = false := by simp; omega
    have hd' : decide (n ≤ k) = true := by simp; omega
    have h1 : (0 : Int) ≤ (k : Int) := by omega
    have h2 : (k : Int) < (n : Int) + 12 := by omega
    go_wp2
    refine wp_region_ext (by kernel_rfl) (by kernel_rfl) ?_
    repeat (any_goals (first | go_big_quiet_step ((first | (go_at_call 99; exact quiet_retx (markTile_any 1 j _ (by omega) (by omega))) | (go_at_call 96; exact quiet_retx (sameTile_any _ S S' A0 none 0 c0 0 (markTile j) (by repeat (first | assumption | exact Hd.out (by assumption) | apply Sl.alloc | apply Sl.ext | apply Sl.drew | apply Sl.drewN)) Sl.nil)))) | quiet_step ((first | (go_at_call 99; exact quiet_retx (markTile_any 1 j _ (by omega) (by omega))) | (go_at_call 96; exact quiet_retx (sameTile_any _ S S' A0 none 0 c0 0 (markTile j) (by repeat (first | assumption | exact Hd.out (by assumption) | apply Sl.alloc | apply Sl.ext | apply Sl.drew | apply Sl.drewN)) Sl.nil))))))
    refine wpQuiet_nil ?_
    rintro _ ⟨uq, rfl⟩
    go_wp2
    go_roundw
    case rel => exact ⟨k + 1, by omega, by go_num, Below.to_ext (by repeat (first | exact Below.refl _ _ | assumption | refine Below.alloc ?_ (by simp [size_ext]; try omega) _ | refine Below.ext ?_ (by simp [size_ext]; try omega) _ | refine Below.drew ?_ | refine Below.setCell ?_ (by simp [size_ext]; try omega) _))⟩
    case measure => simp [intOf]; omega
  ·go_wp2
   go_ret
   exact RetX.b rfl (by repeat (first | exact Below.refl _ _ | assumption | refine Below.alloc ?_ (by simp [size_ext]; try omega) _ | refine Below.ext ?_ (by simp [size_ext]; try omega) _ | refine Below.drew ?_ | refine Below.setCell ?_ (by simp [size_ext]; try omega) _))
end Go.Proofs.YtppkanniefignaaGreatDoor
namespace Go.Proofs.YtppkanniefignaaGreatDoor
open Go.RowKit Go.Maps
instance : Lend Fact where
 rep := Rep.via L.val
 size_eq := rfl
 marks := (List.range 12).map fun i => (⟨markI 1 (i : Nat), ⟨false, 0⟩⟩ : Fact)
 twelve := rfl
 forget h := h
theorem marks_Fact28 {j : Nat} (h : j < 12) : (Lend.marks : List Fact)[j]? = some ⟨markI 1 j, ⟨false, 0⟩⟩ := by
 show ((List.range 12).map fun i => (⟨markI 1 (i : Nat), ⟨false, 0⟩⟩ : Fact))[j]? = _
 simp [h]
theorem RepL.facts_more28 {w : World} {S S' : Nat → Prop} : ∀ {xs : List Fact} {us : List Value}, RepL w S xs us → RepL w S' xs us
 | [], _, h => h
 | x :: xs, us, h => by
  obtain ⟨u0, u1, e, h1, h2⟩ := h
  refine ⟨u0, u1, e, ?_, RepL.facts_more28 h2⟩
  obtain ⟨rfl, a, b⟩ := Fact.open_ h1
  exact Fact.mk_ a b
theorem OwnL.facts28 {w : World} {base : Nat} {T : TypeId} {S : Nat → Prop} {v : Value} {xs : List Fact} (h : OwnL w base T S v xs) : OwnL w base T (fun _ => False) v xs := by
 obtain ⟨vals, h1, h2, _⟩ := h
 exact ⟨vals, h1, RepL.facts_more28 h2, fun _ _ h => h⟩
theorem lentFacts28_close {w w1 : World} {v : Value} {n : Nat} {xs : List Fact} (HL : Hd (xs.length = n)) (ho : OwnL w1 w.heap.size 42 (fun _ => False) v (xs ++ mks Fact 12)) (hb : Below w.heap.size w w1) :
  ∃ g cap, v = .slice (some ⟨g, 0, none⟩) (n + 12) cap ∧ n + 12 ≤ cap ∧ cap ≤ 9223372036854775807 ∧ RetLent xs w (.returned (.slice (some ⟨g, 0, none⟩) n cap)) w1 := by
 rw [mks_all] at ho
 obtain ⟨g, cap, rfl, hc, hm⟩ := ho.form_pos (n := n + 12) (by rw [List.length_append, HL.out]; rfl) (by omega)
 refine ⟨g, cap, rfl, hc, hm, some ⟨g, 0, none⟩, n, cap, rfl, HL.out, ?_, Below.to_ext hb⟩
 have hs := ho.sl (S' := fun b => w.heap.size ≤ b) (fun b _ h => by rcases h with h | h; exact h.elim; exact h)
 obtain ⟨q1, q2, q3, q4, q5⟩ := hs
 refine ⟨by rw [row_len, HL.out], q2, q3, q4, fun h0 => ?_⟩
 obtain ⟨b, off, e, hb, hS, hx⟩ := q5 h0
 refine ⟨b, off, e, hb, hS, fun i x hi => ?_⟩
 have hi' : (xs ++ (Lend.marks : List Fact))[i]? = some (match x with | .lent y => y | .plain y => y) := by
  unfold row at hi
  rw [List.getElem?_append] at hi ⊢
  rw [List.length_map] at hi
  split
  ·rename_i hlt
   rw [if_pos hlt, List.getElem?_map] at hi
   cases hq : xs[i]? with
   | none => rw [hq] at hi; simp at hi
   | some q => rw [hq] at hi; simp at hi; subst hi; rfl
  ·rename_i hlt
   rw [if_neg hlt, List.getElem?_map] at hi
   cases hq : (Lend.marks : List Fact)[i - xs.length]? with
   | none => rw [hq] at hi; simp at hi
   | some q => rw [hq] at hi; simp at hi; subst hi; rfl
 obtain ⟨us, hus, hc⟩ := hx i _ hi'
 refine ⟨us, ?_, hc⟩
 cases x with
 | lent y => exact hus
 | plain y => exact hus
set_option maxRecDepth 100000 in
set_option maxHeartbeats 4000000 in
theorem lentFacts28_any (w : World) (S : Nat → Prop) (A : Option Addr) (n c : Nat) (xs : List Fact) (h : Sl w S A n c xs) (hm : xs.length ≤ 1048576) :
  Calls Tryz.prog 100 #[.slice A n c] w (RetLent xs w) := by
 have HL := hide h.len
 have hn : n ≤ 1048576 := by rw [← h.len]; exact hm
 have HM := hide hm; clear hm
 obtain ⟨i0, hi, hz, hz1, hz2⟩ := info_parts info_Fact28
 have HI0 := hide hi; have HZ := hide hz; have HZ1 := hide hz1; have HZ2 := hide hz2
 clear hi hz hz1 hz2
 obtain ⟨B, hB⟩ : ∃ B, B = w.heap.size := ⟨_, rfl⟩
 have HB := hide hB
 have hB1 : B ≤ w.heap.size := by omega
 have hB2 : w.heap.size ≤ B := by omega
 clear hB
 have HSl := hide h; clear h
 go_enter Tryz.func100, Tryz.ntmps100
 go_wp2_with (first
  | (at_make; refine wpList_make_own _ rfl _ _ 37 rfl B 42 i0 _ 3 Tryz.underlying37 HI0.out HZ.out HZ1.out _ _ _ (n + 12) rfl rfl (by omega) (by rw [HZ2.out]; omega) (by unfold maxLen; omega) hB1 ?_; intro w1 hown hg; have HO := hide hown; have HG := hide hg; clear hown hg)
  | (at_builtin; refine wpList_push_sl (α := Fact) _ rfl (.tmp 9) (.tmp 10) 37 rfl B 42 i0 _ 24 Tryz.underlying37 HI0.out HZ.out HZ1.out HZ2.out rfl (by decide) (fun _ => False) (fun b => b < B) (fun b => b < B) (.slice (some ⟨w.heap.size, 0, none⟩) 0 (n + 12)) [] xs rfl ⟨[], HO.out, rfl, fun _ _ h => h⟩ A n c rfl ?hsl (fun _ h => h.elim) ?hS2 ?hap ?hnew ?h63 ?hby ?hba ?_; rotate_left 7; intro v2 w2 hown2 hg2 _; have HO2 := hide hown2; have HG2 := hide hg2; clear hown2 hg2))
 case hsl => exact (HSl.out.more (fun b hb _ => by omega)).belowAll (below_grown HG.out (Nat.le_refl _))
 case hS2 => exact fun b _ h => h
 case hap => intro g hg h; simp [Value.ownBlock] at hg; omega
 case hnew => intro b h; have := HG.out.size; omega
 case h63 => simp; omega
 case hby => simp; omega
 case hba => have := HG.out.size; omega
 have HO3 := hide (OwnL.facts28 HO2.out)
 clear HO2
 have hb2 : Below B w w2 := ((below_grown HG.out hB1).grown HG2.out (by have := HG.out.size; omega) (by intro k hk; simp [Value.ownBlock] at hk; omega))
 have HB2 := hide hb2
 have hs2 : B ≤ w2.heap.size := by have := hb2.size; omega
 clear hb2 HG HG2 HO
 go_loopw [3, 4] (fun o i wr => ∃ k : Nat, k ≤ 12 ∧ i = .int .i64 k ∧ OwnL wr B 42 (fun _ => False) o (xs ++ mks Fact k) ∧ Below B w wr ∧ B ≤ wr.heap.size) (fun _ i _ => 12 - (intOf i).toNat)
 case atStart => exact ⟨0, by omega, rfl, by have := HO3.out; rw [List.nil_append] at this; rw [show mks Fact 0 = [] from rfl, List.append_nil]; exact this, HB2.out, hs2⟩
 case round =>
  obtain ⟨k, hk, rfl, hown, hbel, hsz⟩ := hrel
  have HO := hide hown; have HBel := hide hbel
  clear hown hbel
  by_cases hlt : k < 12
  ·go_wp2_with (first
    | (go_at_call 44; (with_reducible refine (markFact28_any 1 k _ (by omega) (by omega)).mono ?_); rintro e _ ⟨rfl, ux, rfl⟩)
    | (at_builtin; refine wpList_push (α := Fact) (wr.ext ux) [.int .i64 (markI 1 k), .bool false, .int .i64 0] 42 rfl (.tmp 16) (.tmp 19) 37 rfl B 42 i0 _ 24 Tryz.underlying37 HI0.out HZ.out HZ1.out HZ2.out rfl (by decide) (fun _ => False) (fun _ => False) u3 _ (⟨markI 1 k, ⟨false, 0⟩⟩ : Fact) rfl (HO.out.ext ux) _ rfl ?hg (Fact.mk_ (x := ⟨markI 1 k, ⟨false, 0⟩⟩) (markI_in k hlt) InI_zero) (fun _ h => h) (fun _ _ h => h) (fun _ h => h.elim) ?hl1 ?hl2 ?hl3 ?_; rotate_left 4; intro v' w1 hown' hg _; have HO' := hide hown'; have HG := hide hg; clear hown' hg))
   case hl1 => rw [List.length_append, HL.out, mks_len (by omega)]; omega
   case hl2 => rw [List.length_append, HL.out, mks_len (by omega)]; omega
   case hl3 => rw [size_ext]; omega
   case hg => simp [size_ext]
   go_wp2
   go_roundw
   case rel =>
    have hb1 := below_push (HBel.out.ext hsz ux) (HO.out.ext ux) (by rw [size_ext]; omega) HG.out
    exact ⟨k + 1, by omega, by go_num, by rw [mks_succ (marks_Fact28 hlt), ← List.append_assoc]; exact HO'.out, hb1, Nat.le_trans hB1 hb1.size⟩
   case measure => simp [intOf]; omega
  ·obtain rfl : k = 12 := by omega
   obtain ⟨g, cap, rfl, hc1, hc2, hret⟩ := lentFacts28_close HL (by rw [← HB.out]; exact HO.out) (by rw [← HB.out]; exact HBel.out)
   have HR := hide hret; clear hret hlt
   go_wp2
   go_ret
   exact HR.out
theorem at_lent_fact28 {w : World} {S : Nat → Prop} {A : Option Addr} {n c : Nat} {xs : List Fact} (h : Sl w S A (n + 12) c (row xs)) (hn : xs.length = n) {k : Nat} (hk : k < n) :
  ∃ b off x, A = some ⟨b, off, none⟩ ∧ b < w.heap.size ∧ xs[k]? = some x ∧ w.cell? ⟨b, off + k * 3, none⟩ = some (.int .i64 x.var) ∧ w.cell? ⟨b, off + k * 3 + 1, none⟩ = some (.bool x.loc.slot) ∧ w.cell? ⟨b, off + k * 3 + 2, none⟩ = some (.int .i64 x.loc.n) := by
 obtain ⟨b, off, x, us, e, hb, _, hx, hus, hc⟩ := h.at_lent hn hk
 obtain ⟨rfl, -, -⟩ := Fact.open_ hus
 refine ⟨b, off, x, e, hb, hx, ?_, ?_, ?_⟩
 ·have := hc 0 _ rfl; simpa [Rep.size, Nat.add_assoc] using this
 ·have := hc 1 _ rfl; simpa [Rep.size, Nat.add_assoc] using this
 ·have := hc 2 _ rfl; simpa [Rep.size, Nat.add_assoc] using this
theorem at_mark_fact28 {w : World} {S : Nat → Prop} {A : Option Addr} {n c : Nat} {xs : List Fact} (h : Sl w S A (n + 12) c (row xs)) (hn : xs.length = n) {j : Nat} (hj : j < 12) :
  ∃ b off, A = some ⟨b, off, none⟩ ∧ b < w.heap.size ∧ w.cell? ⟨b, off + (n + j) * 3, none⟩ = some (.int .i64 (markI 1 j)) ∧ w.cell? ⟨b, off + (n + j) * 3 + 1, none⟩ = some (.bool false) ∧ w.cell? ⟨b, off + (n + j) * 3 + 2, none⟩ = some (.int .i64 0) := by
 obtain ⟨b, off, us, e, hb, _, hus, hc⟩ := h.at_mark hn hj (marks_Fact28 hj)
 obtain ⟨rfl, -, -⟩ := Fact.open_ hus
 refine ⟨b, off, e, hb, ?_, ?_, ?_⟩
 ·have := hc 0 _ rfl; simpa [Rep.size, Nat.add_assoc] using this
 ·have := hc 1 _ rfl; simpa [Rep.size, Nat.add_assoc] using this
 ·have := hc 2 _ rfl; simpa [Rep.size, Nat.add_assoc] using this
set_option maxRecDepth 100000 in
set_option maxHeartbeats 4000000 in
theorem keptFacts28_any (w : World) (S S' : Nat → Prop) (A A' : Option Addr) (n c c' : Nat) (xs : List Fact) (h : Sl w S A (n + 12) c (row xs)) (h' : Sl w S' A' n c' xs) (hm : xs.length ≤ 1048576) :
  Calls Tryz.prog 115 #[.slice A n c, .slice A' n c'] w (RetX (.bool true) w) := by
 have hn : n ≤ 1048576 := by rw [← h'.len]; exact hm
 have hc : n + 12 ≤ c := h.2.1
 have hcm : c ≤ 9223372036854775807 := by have := h.2.2.1; unfold maxLen at this; omega
 have HL := hide h'.len
 obtain ⟨b, off, rfl, hb, -, -, -⟩ := at_mark_fact28 h h'.len (show 0 < 12 by omega)
 have HS := hide h; have HS' := hide h'
 clear h h' hm
 go_enter Tryz.func115, Tryz.ntmps115
 go_wp2
 go_loopw [6] (fun i wr => ∃ k : Nat, k ≤ n + 12 ∧ i = .int .i64 k ∧ ∃ u, wr = w.ext u) (fun i _ => n + 12 - (intOf i).toNat)
 case atStart => exact ⟨0, Nat.zero_le _, rfl, ext_refl _⟩
 case round =>
  obtain ⟨k, hk, rfl, u, rfl⟩ := hrel
  by_cases hlt : k < n + 12
  ·by_cases hkn : k < n
   ·obtain ⟨b1, off1, x, e1, -, hx, c0, c1, c2⟩ := at_lent_fact28 HS.out HL.out hkn
    simp only [Option.some.injEq, Addr.mk.injEq] at e1
    obtain ⟨rfl, rfl, -⟩ := e1
    obtain ⟨b', off', x', rfl, hb', hx', -, -, d0, d1, d2⟩ := at_Fact HS'.out hkn
    obtain rfl := some_eq hx hx'
    clear hx hx'
    have EQ : ∀ w : World, (Op.equalIn 10000 42 (.agg #[.int .i64 x.var, .bool x.loc.slot, .int .i64 x.loc.n]) (.agg #[.int .i64 x.var, .bool x.loc.slot, .int .i64 x.loc.n])).run Tryz.prog w = .ok true w := fun w => by have h := eq_fact_run x x w; rw [decide_eq_true rfl] at h; exact h
    have hd : decide (k < n) = true := by simpa using hkn
    have hd' : decide (n ≤ k) = false := by simp; omega
    go_wp2
    refine wp_region_ext (by kernel_rfl) (by kernel_rfl) ?_
    repeat (any_goals (first | go_big_quiet_step ((fail)) | quiet_step ((fail))))
    refine wpQuiet_nil ?_
    rintro _ ⟨uq, rfl⟩
    go_wp2
    go_roundw
    case rel => exact ⟨k + 1, by omega, by go_num, Below.to_ext (by repeat (first | exact Below.refl _ _ | assumption | refine Below.alloc ?_ (by simp [size_ext]; try omega) _ | refine Below.ext ?_ (by simp [size_ext]; try omega) _ | refine Below.drew ?_ | refine Below.setCell ?_ (by simp [size_ext]; try omega) _))⟩
    case measure => simp [intOf]; omega
   ·obtain ⟨j, hj⟩ : ∃ j, k = n + j := ⟨k - n, by omega⟩
    have hj1 : j < 12 := by omega
    obtain ⟨b1, off1, e1, -, c0, c1, c2⟩ := at_mark_fact28 HS.out HL.out hj1
    simp only [Option.some.injEq, Addr.mk.injEq] at e1
    obtain ⟨rfl, rfl, -⟩ := e1
    rw [← hj] at c0 c1 c2
    have EQ : ∀ w : World, (Op.equalIn 10000 42 (.agg #[.int .i64 (markI 1 j), .bool false, .int .i64 0]) (.agg #[.int .i64 (markI 1 j), .bool false, .int .i64 0])).run Tryz.prog w = .ok true w := fun w => by have h := eq_fact_run ⟨markI 1 j, ⟨false, 0⟩⟩ ⟨markI 1 j, ⟨false, 0⟩⟩ w; rw [decide_eq_true rfl] at h; exact h
    have hs : IntKind.i64.wrap ((k : Int) - n) = (j : Int) := by rw [IntWalk.i64_in _ (by omega)]; omega
    have HJ := hide hj; clear hj
    have hd : decide (k < n) = false := by simp; omega
    have hd' : decide (n ≤ k) = true := by simp; omega
    have h1 : (0 : Int) ≤ (k : Int) := by omega
    have h2 : (k : Int) < (n : Int) + 12 := by omega
    go_wp2
    refine wp_region_ext (by kernel_rfl) (by kernel_rfl) ?_
    repeat (any_goals (first | go_big_quiet_step (((go_at_call 44; exact quiet_retx (markFact28_any 1 j _ (by omega) (by omega))))) | quiet_step (((go_at_call 44; exact quiet_retx (markFact28_any 1 j _ (by omega) (by omega)))))))
    refine wpQuiet_nil ?_
    rintro _ ⟨uq, rfl⟩
    go_wp2
    go_roundw
    case rel => exact ⟨k + 1, by omega, by go_num, Below.to_ext (by repeat (first | exact Below.refl _ _ | assumption | refine Below.alloc ?_ (by simp [size_ext]; try omega) _ | refine Below.ext ?_ (by simp [size_ext]; try omega) _ | refine Below.drew ?_ | refine Below.setCell ?_ (by simp [size_ext]; try omega) _))⟩
    case measure => simp [intOf]; omega
  ·go_wp2
   go_ret
   exact RetX.b rfl (by repeat (first | exact Below.refl _ _ | assumption | refine Below.alloc ?_ (by simp [size_ext]; try omega) _ | refine Below.ext ?_ (by simp [size_ext]; try omega) _ | refine Below.drew ?_ | refine Below.setCell ?_ (by simp [size_ext]; try omega) _))
end Go.Proofs.YtppkanniefignaaGreatDoor
