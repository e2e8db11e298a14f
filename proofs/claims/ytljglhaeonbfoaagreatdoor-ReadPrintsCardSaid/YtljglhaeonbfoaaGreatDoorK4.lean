/- Walks: structs that are lent, lists of them, and that they are kept. Written by gen_lend.py. -/
import Derived.Test.YtljglhaeonbfoaaGreatDoorG25
import Derived.Test.YtljglhaeonbfoaaGreatDoorG55
set_option linter.unusedSimpArgs false
set_option linter.unusedVariables false
namespace Go.Proofs.YtljglhaeonbfoaaGreatDoor
open Go.RowKit
abbrev repLIns : Rep (L Ins) := Rep.via fun y => (y.val.op, y.val.dst, y.val.a, y.val.b, y.val.imm, y.val.callee, (L.mk y.val.args : L (List Int)), y.val.many)
theorem LIns.open_ {w : World} {S : Nat → Prop} {x : Ins} {vs : List Value} (h : repLIns.is w S (L.mk x) vs) : ∃ A0 : Option Addr, ∃ n0 : Nat, ∃ c0 : Nat, vs = [.int .i64 x.op, .int .i64 x.dst, .int .i64 x.a, .int .i64 x.b, .int .i64 x.imm, .int .i64 x.callee, .slice A0 n0 c0, .int .i64 x.many] ∧ InI x.op ∧ InI x.dst ∧ InI x.a ∧ InI x.b ∧ InI x.imm ∧ InI x.callee ∧ (x.args.length = n0 ∧ Sl w S A0 (n0 + 12) c0 (row x.args)) ∧ InI x.many := by
 obtain ⟨us0, ts0, e0, h0, r0⟩ := h
 obtain ⟨us1, ts1, e1, h1, r1⟩ := r0
 obtain ⟨us2, ts2, e2, h2, r2⟩ := r1
 obtain ⟨us3, ts3, e3, h3, r3⟩ := r2
 obtain ⟨us4, ts4, e4, h4, r4⟩ := r3
 obtain ⟨us5, ts5, e5, h5, r5⟩ := r4
 obtain ⟨us6, ts6, e6, h6, r6⟩ := r5
 obtain ⟨v7, f7⟩ := h0
 obtain ⟨v8, f8⟩ := h1
 obtain ⟨v9, f9⟩ := h2
 obtain ⟨v10, f10⟩ := h3
 obtain ⟨v11, f11⟩ := h4
 obtain ⟨v12, f12⟩ := h5
 obtain ⟨A13, n13, c13, v13, l13, f13⟩ := h6
 obtain ⟨v14, f14⟩ := r6
 refine ⟨A13, n13, c13, ?_, f7, f8, f9, f10, f11, f12, ⟨l13, f13⟩, f14⟩
 subst_vars; simp
theorem LIns.mk_ {w : World} {S : Nat → Prop} {x : Ins} {A0 : Option Addr} {n0 : Nat} {c0 : Nat} (f0 : InI x.op) (f1 : InI x.dst) (f2 : InI x.a) (f3 : InI x.b) (f4 : InI x.imm) (f5 : InI x.callee) (f6 : (x.args.length = n0 ∧ Sl w S A0 (n0 + 12) c0 (row x.args))) (f7 : InI x.many) : repLIns.is w S (L.mk x) [.int .i64 x.op, .int .i64 x.dst, .int .i64 x.a, .int .i64 x.b, .int .i64 x.imm, .int .i64 x.callee, .slice A0 n0 c0, .int .i64 x.many] := by
 exact ⟨_, _, rfl, ⟨rfl, f0⟩, ⟨_, _, rfl, ⟨rfl, f1⟩, ⟨_, _, rfl, ⟨rfl, f2⟩, ⟨_, _, rfl, ⟨rfl, f3⟩, ⟨_, _, rfl, ⟨rfl, f4⟩, ⟨_, _, rfl, ⟨rfl, f5⟩, ⟨_, _, rfl, ⟨_, _, _, rfl, f6⟩, ⟨rfl, f7⟩⟩⟩⟩⟩⟩⟩⟩
theorem LIns.forget {w : World} {S : Nat → Prop} {x : Ins} {vs : List Value} (h : repLIns.is w S (L.mk x) vs) : Rep.is w S x vs := by
 obtain ⟨A0, n0, c0, rfl, q0, q1, q2, q3, q4, q5, ⟨l0, g0⟩, q6⟩ := LIns.open_ h
 exact Ins.mk_ q0 q1 q2 q3 q4 q5 (g0.forget l0) q6
instance : Lend Ins where
 rep := repLIns
 size_eq := rfl
 marks := (List.range 12).map fun i => (⟨0, 0, 0, 0, markI 1 (i : Nat), 0, [], 0⟩ : Ins)
 twelve := rfl
 forget h := LIns.forget h
def markIns (i : Nat) : Ins := ⟨0, 0, 0, 0, markI 1 (i : Nat), 0, [], 0⟩
theorem marks_Ins {j : Nat} (h : j < 12) : (Lend.marks : List Ins)[j]? = some (markIns j) := by
 show ((List.range 12).map fun i => (⟨0, 0, 0, 0, markI 1 (i : Nat), 0, [], 0⟩ : Ins))[j]? = _
 simp [h, markIns]
theorem at_lent_Ins {w : World} {S : Nat → Prop} {A : Option Addr} {n c : Nat} {xs : List Ins} (h : Sl w S A (n + 12) c (row xs)) (hn : xs.length = n) {k : Nat} (hk : k < n) :
  ∃ b off, ∃ x : Ins, ∃ A0 : Option Addr, ∃ n0 : Nat, ∃ c0 : Nat, A = some ⟨b, off, none⟩ ∧ b < w.heap.size ∧ xs[k]? = some x ∧ InI x.op ∧ InI x.dst ∧ InI x.a ∧ InI x.b ∧ InI x.imm ∧ InI x.callee ∧ (x.args.length = n0 ∧ Sl w S A0 (n0 + 12) c0 (row x.args)) ∧ InI x.many ∧ w.cell? ⟨b, off + k * 8, none⟩ = some (.int .i64 x.op) ∧ w.cell? ⟨b, off + k * 8 + 1, none⟩ = some (.int .i64 x.dst) ∧ w.cell? ⟨b, off + k * 8 + 2, none⟩ = some (.int .i64 x.a) ∧ w.cell? ⟨b, off + k * 8 + 3, none⟩ = some (.int .i64 x.b) ∧ w.cell? ⟨b, off + k * 8 + 4, none⟩ = some (.int .i64 x.imm) ∧ w.cell? ⟨b, off + k * 8 + 5, none⟩ = some (.int .i64 x.callee) ∧ w.cell? ⟨b, off + k * 8 + 6, none⟩ = some (.slice A0 n0 c0) ∧ w.cell? ⟨b, off + k * 8 + 7, none⟩ = some (.int .i64 x.many) := by
 obtain ⟨b, off, x, us, e, hb, _, hx, hus, hc⟩ := h.at_lent hn hk
 obtain ⟨A0, n0, c0, rfl, g0, g1, g2, g3, g4, g5, g6, g7⟩ := LIns.open_ hus
 refine ⟨b, off, x, A0, n0, c0, e, hb, hx, g0, g1, g2, g3, g4, g5, g6, g7, ?_, ?_, ?_, ?_, ?_, ?_, ?_, ?_⟩
 ·have := hc 0 _ rfl; simpa [Rep.size, Nat.add_assoc] using this
 ·have := hc 1 _ rfl; simpa [Rep.size, Nat.add_assoc] using this
 ·have := hc 2 _ rfl; simpa [Rep.size, Nat.add_assoc] using this
 ·have := hc 3 _ rfl; simpa [Rep.size, Nat.add_assoc] using this
 ·have := hc 4 _ rfl; simpa [Rep.size, Nat.add_assoc] using this
 ·have := hc 5 _ rfl; simpa [Rep.size, Nat.add_assoc] using this
 ·have := hc 6 _ rfl; simpa [Rep.size, Nat.add_assoc] using this
 ·have := hc 7 _ rfl; simpa [Rep.size, Nat.add_assoc] using this
theorem at_mark_Ins {w : World} {S : Nat → Prop} {A : Option Addr} {n c : Nat} {xs : List Ins} (h : Sl w S A (n + 12) c (row xs)) (hn : xs.length = n) {j : Nat} (hj : j < 12) :
  ∃ b off, ∃ A0 : Option Addr, ∃ c0 : Nat, A = some ⟨b, off, none⟩ ∧ b < w.heap.size ∧ Sl w S A0 0 c0 ([] : List Int) ∧ w.cell? ⟨b, off + (n + j) * 8, none⟩ = some (.int .i64 0) ∧ w.cell? ⟨b, off + (n + j) * 8 + 1, none⟩ = some (.int .i64 0) ∧ w.cell? ⟨b, off + (n + j) * 8 + 2, none⟩ = some (.int .i64 0) ∧ w.cell? ⟨b, off + (n + j) * 8 + 3, none⟩ = some (.int .i64 0) ∧ w.cell? ⟨b, off + (n + j) * 8 + 4, none⟩ = some (.int .i64 (markI 1 j)) ∧ w.cell? ⟨b, off + (n + j) * 8 + 5, none⟩ = some (.int .i64 0) ∧ w.cell? ⟨b, off + (n + j) * 8 + 6, none⟩ = some (.slice A0 0 c0) ∧ w.cell? ⟨b, off + (n + j) * 8 + 7, none⟩ = some (.int .i64 0) := by
 obtain ⟨b, off, us, e, hb, _, hus, hc⟩ := h.at_mark hn hj (marks_Ins hj)
 obtain ⟨A0, n0, c0, rfl, -, -, -, -, -, -, g0, -⟩ := Ins.open_ hus
 obtain rfl : n0 = 0 := g0.len.symm
 refine ⟨b, off, A0, c0, e, hb, g0, ?_, ?_, ?_, ?_, ?_, ?_, ?_, ?_⟩
 ·have := hc 0 _ rfl; simpa [Rep.size, Nat.add_assoc, markIns] using this
 ·have := hc 1 _ rfl; simpa [Rep.size, Nat.add_assoc, markIns] using this
 ·have := hc 2 _ rfl; simpa [Rep.size, Nat.add_assoc, markIns] using this
 ·have := hc 3 _ rfl; simpa [Rep.size, Nat.add_assoc, markIns] using this
 ·have := hc 4 _ rfl; simpa [Rep.size, Nat.add_assoc, markIns] using this
 ·have := hc 5 _ rfl; simpa [Rep.size, Nat.add_assoc, markIns] using this
 ·have := hc 6 _ rfl; simpa [Rep.size, Nat.add_assoc, markIns] using this
 ·have := hc 7 _ rfl; simpa [Rep.size, Nat.add_assoc, markIns] using this
theorem markIns_any (k i : Int) (w : World) (hk : 0 ≤ k ∧ k ≤ 100000000) (hi : 0 ≤ i ∧ i ≤ 100000000) : Calls Tryz.prog 161 #[.int .i64 k, .int .i64 i] w (RetX (.agg #[.int .i64 0, .int .i64 0, .int .i64 0, .int .i64 0, .int .i64 (markI k i), .int .i64 0, .slice none 0 0, .int .i64 0]) w) := by
 go_enter Tryz.func161, Tryz.ntmps161
 go_wp2_with (go_at_call 61; refine (mark_any k i _ hk hi).mono ?_; rintro e w' ⟨rfl, rfl⟩)
 exact bodyPost_ret (v := .agg #[.int .i64 0, .int .i64 0, .int .i64 0, .int .i64 0, .int .i64 (markI k i), .int .i64 0, .slice none 0 0, .int .i64 0]) (by simp [results, Tryz.results161, go_sem]) rfl ⟨rfl, Below.to_ext (by repeat (first | exact Below.refl _ _ | assumption | refine Below.alloc ?_ (by simp [size_ext]; try omega) _ | refine Below.ext ?_ (by simp [size_ext]; try omega) _ | refine Below.drew ?_ | refine Below.setCell ?_ (by simp [size_ext]; try omega) _))⟩
theorem markIns_rep (i : Nat) (h : i < 12) (w : World) (S : Nat → Prop) : Rep.is w S (markIns i) [.int .i64 0, .int .i64 0, .int .i64 0, .int .i64 0, .int .i64 (markI 1 i), .int .i64 0, .slice none 0 0, .int .i64 0] := Ins.mk_ InI_zero InI_zero InI_zero InI_zero (markI_in i h) InI_zero Sl.nil InI_zero
theorem lentIns_any (w : World) (S : Nat → Prop) (A0 : Option Addr) (n0 c0 : Nat) (x : Ins) (h0 : Sl w S A0 n0 c0 x.args) (hm0 : x.args.length ≤ 1048576) (hok : OkIns x) :
  Calls Tryz.prog 160 #[.agg #[.int .i64 x.op, .int .i64 x.dst, .int .i64 x.a, .int .i64 x.b, .int .i64 x.imm, .int .i64 x.callee, .slice A0 n0 c0, .int .i64 x.many]] w (RetV (L.mk x) w) := by
 have H0 := hide h0; clear h0
 have HM0 := hide hm0; clear hm0
 have HOK := hide hok; clear hok
 go_enter Tryz.func160, Tryz.ntmps160
 go_wp2_with (go_at_call 21; refine (lentInts_any _ S A0 n0 c0 x.args (by repeat (first | assumption | exact Hd.out (by assumption) | apply Sl.alloc | apply Sl.ext | apply Sl.drew | apply Sl.drewN)) HM0.out).mono ?_; rintro e _ ⟨B0, m0, e0, rfl, hl0, hs0, ux, rfl⟩; have HS0 := hide hs0; have HL0 := hide hl0; clear hs0 hl0)
 refine bodyPost_ret (v := .agg #[.int .i64 x.op, .int .i64 x.dst, .int .i64 x.a, .int .i64 x.b, .int .i64 x.imm, .int .i64 x.callee, .slice B0 m0 e0, .int .i64 x.many]) (by simp [results, Tryz.results160, go_sem]) rfl ⟨_, rfl, ?_, Below.to_ext (by repeat (first | exact Below.refl _ _ | assumption | refine Below.alloc ?_ (by simp [size_ext]; try omega) _ | refine Below.ext ?_ (by simp [size_ext]; try omega) _ | refine Below.drew ?_ | refine Below.setCell ?_ (by simp [size_ext]; try omega) _))⟩
 obtain ⟨j0, j1, j2, j3, j4, j5, j6⟩ := HOK.out
 exact LIns.mk_ j0 j1 j2 j3 j4 j5 ⟨HL0.out, (HS0.out.ext_swap (by simp) (fun b hb => hb)).more (fun b _ hb => by simp at hb ⊢; omega)⟩ j6
theorem lentRow_close {w w1 : World} {S : Nat → Prop} {v : Value} {n : Nat} {xs : List Ins} (HL : Hd (xs.length = n)) (ho : OwnL w1 w.heap.size 45 S v (xs.map E.lent ++ (mks Ins 12).map E.plain)) (hS : ∀ b, S b → w.heap.size ≤ b) (hb : Below w.heap.size w w1) :
  ∃ g cap, v = .slice (some ⟨g, 0, none⟩) (n + 12) cap ∧ n + 12 ≤ cap ∧ cap ≤ 9223372036854775807 ∧ RetLent xs w (.returned (.slice (some ⟨g, 0, none⟩) n cap)) w1 := by
 rw [mks_all] at ho
 obtain ⟨g, cap, rfl, hc, hm⟩ := ho.form_pos (n := n + 12) (by have := row_len (xs := xs); unfold row at this; rw [this, HL.out]) (by omega)
 refine ⟨g, cap, rfl, hc, hm, some ⟨g, 0, none⟩, n, cap, rfl, HL.out, ?_, Below.to_ext hb⟩
 exact ho.sl (fun b _ h => by rcases h with h | h; exact hS b h; exact h)
set_option maxHeartbeats 1000000 in
theorem lentRow_any (w : World) (S : Nat → Prop) (A : Option Addr) (n c : Nat) (xs : List Ins) (h : Sl w S A n c xs) (hm : xs.length ≤ 1048576 ∧ ∀ y ∈ xs, SmallI 1048576 y) :
  Calls Tryz.prog 115 #[.slice A n c] w (RetLent xs w) := by
 have HL := hide h.len
 have hn : n ≤ 1048576 := by rw [← h.len]; exact hm.1
 have HS := hide h; clear h
 have HM := hide hm; clear hm
 obtain ⟨i0, hi, hz, hz1, hz2⟩ := info_parts info_Ins
 have HI0 := hide hi; have HZ := hide hz; have HZ1 := hide hz1; have HZ2 := hide hz2
 clear hi hz hz1 hz2
 obtain ⟨B, hB⟩ : ∃ B, B = w.heap.size := ⟨_, rfl⟩
 have HB := hide hB
 have hB1 : B ≤ w.heap.size := by omega
 have hB2 : w.heap.size ≤ B := by omega
 clear hB
 go_enter Tryz.func115, Tryz.ntmps115
 go_wp2_with (at_make; refine wpList_make_own _ rfl _ _ 46 rfl B 45 i0 _ 8 Tryz.underlying46 HI0.out HZ.out HZ1.out _ _ _ (n + 12) rfl rfl (by omega) (by rw [HZ2.out]; omega) (by unfold maxLen; omega) hB1 ?_; intro w1 hown hg; have HO0 := hide hown; have HG0 := hide hg; clear hown hg)
 have hs0 : B ≤ w1.heap.size := by have := HG0.out.size; omega
 have HB0 := hide (below_grown HG0.out hB1)
 clear HG0
 go_loopw [3, 4] (fun o i wr => ∃ k : Nat, ∃ So : Nat → Prop, k ≤ n ∧ i = .int .i64 k ∧ OwnL wr B 45 So o ((xs.take k).map E.lent) ∧ (∀ b, So b → B ≤ b ∧ b < wr.heap.size) ∧ Below B w wr ∧ B ≤ wr.heap.size) (fun _ i _ => n - (intOf i).toNat)
 case atStart => exact ⟨0, fun _ => False, Nat.zero_le _, rfl, ⟨[], HO0.out, rfl, fun _ _ h => h⟩, fun _ h => h.elim, HB0.out, hs0⟩
 case round =>
  obtain ⟨k, So, hk, rfl, hown, hSo, hbel, hsz⟩ := hrel
  have HO := hide hown; have HSo := hide hSo; have HBel := hide hbel
  clear hown hSo hbel HO0 HB0 hs0
  by_cases hlt : k < n
  ·obtain ⟨b, off, x, A0, n0, c0, rfl, hb, hx, q0, q1, q2, q3, q4, q5, hs0, q6, d0, d1, d2, d3, d4, d5, d6, d7⟩ := at_Ins HS.out hlt
   have hcell : ∀ o, wr.cell? ⟨b, o, none⟩ = w.cell? ⟨b, o, none⟩ := fun o => HBel.out.cell (by show b < B; omega)
   rw [← hcell] at d0 d1 d2 d3 d4 d5 d6 d7
   clear hcell
   have HSm := hide (HM.out.2 x (mem_at hx))
   have HX := hide (take_at hx); clear hx
   have HOk : Hd (OkIns x) := hide ⟨q0, q1, q2, q3, q4, q5, q6⟩
   clear q0 q1 q2 q3 q4 q5 q6
   have HJ0 := hide ((hs0.more (S' := fun b => b < B) (fun b hb _ => by omega)).below HBel.out (fun _ h => h)); clear hs0
   go_wp2_with (first
    | (go_at_call 160; refine (lentIns_any _ _ A0 n0 c0 x HJ0.out HSm.out HOk.out).mono ?_; rintro e _ ⟨us, rfl, hus, ux, rfl⟩; obtain ⟨B0, m0, e0, rfl, -, -, -, -, -, -, ⟨hl0, ht0⟩, -⟩ := LIns.open_ hus; have HT0 := hide ht0; have HTL0 := hide hl0; clear ht0 hl0; clear hus)
    | (at_builtin; refine wpList_push (α := E Ins) ((wr.ext ux).alloc (.cells #[.int .i64 x.op, .int .i64 x.dst, .int .i64 x.a, .int .i64 x.b, .int .i64 x.imm, .int .i64 x.callee, .slice B0 m0 e0, .int .i64 x.many] 45)) [.int .i64 x.op, .int .i64 x.dst, .int .i64 x.a, .int .i64 x.b, .int .i64 x.imm, .int .i64 x.callee, .slice B0 m0 e0, .int .i64 x.many] 45 rfl (.tmp 22) (.tmp 24) 46 rfl B 45 i0 _ 80 Tryz.underlying46 HI0.out HZ.out HZ1.out HZ2.out rfl (by decide) So (fun b => So b ∨ (wr.heap.size ≤ b ∧ b < (wr.ext ux).heap.size)) u3 ((xs.take k).map E.lent) (.lent x) rfl ((HO.out.ext ux).alloc _) _ rfl ?hg ?hr (fun _ h => .inl h) ?hap ?hnew ?hl1 ?hl2 ?hl3 ?_; rotate_left 7; intro v' w1 hown' hg _; have HO' := hide hown'; have HG := hide hg; clear hown' hg))
   case hr =>
    obtain ⟨j0, j1, j2, j3, j4, j5, j6⟩ := HOk.out
    exact LIns.mk_ j0 j1 j2 j3 j4 j5 ⟨HTL0.out, (HT0.out.more (fun b hb h => .inr ⟨h, hb⟩)).alloc _⟩ j6
   case hg => simp [size_ext]
   case hap =>
    intro g hg hS
    rcases hS with hS | hS
    ·exact absurd (HO.out) (fun h => by obtain ⟨_, _, _, h3⟩ := h; exact h3 g hg hS)
    ·have := (HO.out.below_ g hg).2; omega
   case hnew =>
    intro b hS
    rcases hS with hS | hS
    ·have := (HSo.out b hS).2; simp [size_ext]; omega
    ·have := hS.2; simp [size_ext] at this ⊢; omega
   case hl1 => simp; omega
   case hl2 => simp; omega
   case hl3 => simp [size_ext]; omega
   go_wp2
   go_roundw
   case rel =>
    have hb1 : Below B w w1 := below_push (W := ((wr.ext ux).alloc (.cells #[.int .i64 x.op, .int .i64 x.dst, .int .i64 x.a, .int .i64 x.b, .int .i64 x.imm, .int .i64 x.callee, .slice B0 m0 e0, .int .i64 x.many] 45))) (v := u3) ((HBel.out.ext hsz ux).alloc (by simp [size_ext]; omega) _) ((HO.out.ext ux).alloc _) (by simp [size_ext]; omega) HG.out
    have hs1 := HG.out.size
    refine ⟨k + 1, _, by omega, by go_num, by rw [HX.out, List.map_append]; exact HO'.out, fun b hS => ?_, hb1, Nat.le_trans hB1 hb1.size⟩
    simp [size_ext] at hs1
    rcases hS with hS | hS
    ·have := HSo.out b hS; omega
    ·have := hS.2; simp [size_ext] at this; omega
   case measure => simp [intOf]; omega
  ·have ho := HO.out
   rw [take_end HL.out hlt] at ho
   have HOE := hide ho
   clear ho HO
   go_wp2
   clear hlt hk
   go_loopw [3, 6] (fun o i w9 => ∃ j : Nat, ∃ Sp : Nat → Prop, j ≤ 12 ∧ i = .int .i64 j ∧ OwnL w9 B 45 Sp o (xs.map E.lent ++ (mks Ins j).map E.plain) ∧ (∀ b, Sp b → B ≤ b ∧ b < w9.heap.size) ∧ Below B w w9 ∧ B ≤ w9.heap.size) (fun _ i _ => 12 - (intOf i).toNat)
   case atStart => exact ⟨0, So, by omega, rfl, by rw [show mks Ins 0 = [] from rfl, List.map_nil, List.append_nil]; exact HOE.out, HSo.out, HBel.out, hsz⟩
   case round =>
    obtain ⟨j, Sp, hj, rfl, hown9, hSp, hbel9, hsz9⟩ := hrel
    have HO9 := hide hown9; have HSp := hide hSp; have HBel9 := hide hbel9
    clear hown9 hSp hbel9 HOE HSo HBel hsz
    by_cases hjt : j < 12
    ·go_wp2_with (first
      | (go_at_call 161; refine (markIns_any 1 j _ (by omega) (by omega)).mono ?_; rintro e _ ⟨rfl, ux, rfl⟩)
      | (at_builtin; refine wpList_push (α := E Ins) (wr.ext ux) [.int .i64 0, .int .i64 0, .int .i64 0, .int .i64 0, .int .i64 (markI 1 j), .int .i64 0, .slice none 0 0, .int .i64 0] 45 rfl (.tmp 30) (.tmp 33) 46 rfl B 45 i0 _ 80 Tryz.underlying46 HI0.out HZ.out HZ1.out HZ2.out rfl (by decide) Sp Sp u3 (xs.map E.lent ++ (mks Ins j).map E.plain) (.plain (markIns j)) rfl (HO9.out.ext ux) _ rfl ?hg9 (markIns_rep j hjt _ _) (fun _ h => h) ?hap9 ?hnewr ?hl19 ?hl29 ?hl39 ?_; rotate_left 6; intro v' w1 hown' hg _; have HO' := hide hown'; have HG := hide hg; clear hown' hg))
     case hg9 => simp [size_ext]
     case hap9 =>
      intro g hg hS
      exact absurd (HO9.out) (fun h => by obtain ⟨_, _, _, h3⟩ := h; exact h3 g hg hS)
     case hnewr => intro b hS; have := (HSp.out b hS).2; simp [size_ext]; omega
     case hl19 => rw [List.length_append, List.length_map, List.length_map, HL.out, mks_len (by omega)]; omega
     case hl29 => rw [List.length_append, List.length_map, List.length_map, HL.out, mks_len (by omega)]; omega
     case hl39 => simp [size_ext]; omega
     go_wp2
     go_roundw
     case rel =>
      have hb1 : Below B w w1 := below_push (W := wr.ext ux) (v := u3) (HBel9.out.ext hsz9 ux) (HO9.out.ext ux) (by simp [size_ext]; omega) HG.out
      have hs1 := HG.out.size
      refine ⟨j + 1, Sp, by omega, by go_num, by rw [mks_succ (marks_Ins hjt), List.map_append, ← List.append_assoc]; exact HO'.out, fun b hS => ?_, hb1, Nat.le_trans hB1 hb1.size⟩
      simp [size_ext] at hs1
      have := HSp.out b hS
      omega
     case measure => simp [intOf]; omega
    ·obtain rfl : j = 12 := by omega
     obtain ⟨g, cap, rfl, hc1, hc2, hret⟩ := lentRow_close (w := w) HL (by rw [← HB.out]; exact HO9.out) (fun b hb => by have := (HSp.out b hb).1; omega) (by rw [← HB.out]; exact HBel9.out)
     have HR := hide hret; clear hret hjt
     go_wp2
     go_ret
     exact HR.out
theorem keptIns_any (w : World) (S S' : Nat → Prop) (A0 A0' : Option Addr) (n0 c0 c0' : Nat) (x : Ins) (h : Sl w S A0 (n0 + 12) c0 (row x.args)) (h' : Sl w S' A0' n0 c0' x.args) (hm0 : x.args.length ≤ 1048576) :
  Calls Tryz.prog 169 #[.agg #[.int .i64 x.op, .int .i64 x.dst, .int .i64 x.a, .int .i64 x.b, .int .i64 x.imm, .int .i64 x.callee, .slice A0 n0 c0, .int .i64 x.many], .agg #[.int .i64 x.op, .int .i64 x.dst, .int .i64 x.a, .int .i64 x.b, .int .i64 x.imm, .int .i64 x.callee, .slice A0' n0 c0', .int .i64 x.many]] w (RetX (.bool true) w) := by
 have H1 := hide (h.forget h'.len)
 have H := hide h; clear h
 have H' := hide h'; clear h'
 have HM := hide hm0; clear hm0
 go_enter Tryz.func169, Tryz.ntmps169
 go_wp2_with (first | (go_at_call 170; refine (sameIns_any _ S S' A0 A0' n0 c0 c0' x (by repeat (first | assumption | exact Hd.out (by assumption) | apply Sl.alloc | apply Sl.ext | apply Sl.drew | apply Sl.drewN)) (by repeat (first | assumption | exact Hd.out (by assumption) | apply Sl.alloc | apply Sl.ext | apply Sl.drew | apply Sl.drewN))).mono ?_; rintro e _ ⟨rfl, ux, rfl⟩) | (go_at_call 36; refine (keptInts_any _ S S' A0 A0' n0 c0 c0' x.args (by repeat (first | assumption | exact Hd.out (by assumption) | apply Sl.alloc | apply Sl.ext | apply Sl.drew | apply Sl.drewN)) (by repeat (first | assumption | exact Hd.out (by assumption) | apply Sl.alloc | apply Sl.ext | apply Sl.drew | apply Sl.drewN)) HM.out).mono ?_; rintro e _ ⟨rfl, ux, rfl⟩))
 go_ret
 exact RetX.b rfl (by repeat (first | exact Below.refl _ _ | assumption | refine Below.alloc ?_ (by simp [size_ext]; try omega) _ | refine Below.ext ?_ (by simp [size_ext]; try omega) _ | refine Below.drew ?_ | refine Below.setCell ?_ (by simp [size_ext]; try omega) _))
set_option maxHeartbeats 1000000 in
theorem keptRow_any (w : World) (S S' : Nat → Prop) (A A' : Option Addr) (n c c' : Nat) (xs : List Ins) (h : Sl w S A (n + 12) c (row xs)) (h' : Sl w S' A' n c' xs) (hm : xs.length ≤ 1048576 ∧ ∀ y ∈ xs, SmallI 1048576 y) :
  Calls Tryz.prog 128 #[.slice A n c, .slice A' n c'] w (RetX (.bool true) w) := by
 have hn : n ≤ 1048576 := by rw [← h'.len]; exact hm.1
 have hc : n + 12 ≤ c := h.2.1
 have hcm : c ≤ 9223372036854775807 := by have := h.2.2.1; unfold maxLen at this; omega
 have HL := hide h'.len
 obtain ⟨b, off, us, rfl, hb, -⟩ := h.at_mark h'.len (show 0 < 12 by omega) (marks_Ins (by omega))
 have HS := hide h; have HS' := hide h'; have HM := hide hm
 clear h h' hm
 go_enter Tryz.func128, Tryz.ntmps128
 go_wp2
 go_loopw [6] (fun i wr => ∃ k : Nat, k ≤ n + 12 ∧ i = .int .i64 k ∧ ∃ u, wr = w.ext u) (fun i _ => n + 12 - (intOf i).toNat)
 case atStart => exact ⟨0, Nat.zero_le _, rfl, ext_refl _⟩
 case round =>
  obtain ⟨k, hk, rfl, u, rfl⟩ := hrel
  by_cases hlt : k < n + 12
  ·by_cases hkn : k < n
   ·obtain ⟨b1, off1, x, A0, n0, c0, e1, -, hx, -, -, -, -, -, -, ⟨hl0, hs0⟩, -, d0, d1, d2, d3, d4, d5, d6, d7⟩ := at_lent_Ins HS.out HL.out hkn
    simp only [Option.some.injEq, Addr.mk.injEq] at e1
    obtain ⟨rfl, rfl, -⟩ := e1
    obtain ⟨b', off', x', A0', n0', c0', rfl, hb', hx', -, -, -, -, -, -, hs'0, -, e0, e1, e2, e3, e4, e5, e6, e7⟩ := at_Ins HS'.out hkn
    obtain rfl := some_eq hx hx'
    have HSm := hide (HM.out.2 x (mem_at hx))
    clear hx hx'
    obtain rfl : n0 = n0' := hl0.symm.trans hs'0.len
    have HI0 := hide hs0; have HI0' := hide hs'0
    clear hs0 hs'0
    have hd : decide (k < n) = true := by simpa using hkn
    have hd' : decide (n ≤ k) = false := by simp; omega
    go_wp2
    refine wp_region_ext (by kernel_rfl) (by kernel_rfl) ?_
    repeat (any_goals (first | go_big_quiet_step (((go_at_call 169; exact quiet_retx (keptIns_any _ S S' A0 A0' n0 c0 c0' x (by repeat (first | assumption | exact Hd.out (by assumption) | apply Sl.alloc | apply Sl.ext | apply Sl.drew | apply Sl.drewN)) (by repeat (first | assumption | exact Hd.out (by assumption) | apply Sl.alloc | apply Sl.ext | apply Sl.drew | apply Sl.drewN)) HSm.out)))) | quiet_step (((go_at_call 169; exact quiet_retx (keptIns_any _ S S' A0 A0' n0 c0 c0' x (by repeat (first | assumption | exact Hd.out (by assumption) | apply Sl.alloc | apply Sl.ext | apply Sl.drew | apply Sl.drewN)) (by repeat (first | assumption | exact Hd.out (by assumption) | apply Sl.alloc | apply Sl.ext | apply Sl.drew | apply Sl.drewN)) HSm.out))))))
    refine wpQuiet_nil ?_
    rintro _ ⟨uq, rfl⟩
    go_wp2
    go_roundw
    case rel => exact ⟨k + 1, by omega, by go_num, Below.to_ext (by repeat (first | exact Below.refl _ _ | assumption | refine Below.alloc ?_ (by simp [size_ext]; try omega) _ | refine Below.ext ?_ (by simp [size_ext]; try omega) _ | refine Below.drew ?_ | refine Below.setCell ?_ (by simp [size_ext]; try omega) _))⟩
    case measure => simp [intOf]; omega
   ·obtain ⟨j, hj⟩ : ∃ j, k = n + j := ⟨k - n, by omega⟩
    have hj1 : j < 12 := by omega
    obtain ⟨b1, off1, A0, c0, e1, -, hz0, d0, d1, d2, d3, d4, d5, d6, d7⟩ := at_mark_Ins HS.out HL.out hj1
    simp only [Option.some.injEq, Addr.mk.injEq] at e1
    obtain ⟨rfl, rfl, -⟩ := e1
    rw [← hj] at d0 d1 d2 d3 d4 d5 d6 d7
    have hs : IntKind.i64.wrap ((k : Int) - n) = (j : Int) := by rw [IntWalk.i64_in _ (by omega)]; omega
    have HJ := hide hj; clear hj
    have HZ0 := hide hz0; clear hz0
    have hd : decide (k < n) = false := by simp; omega
    have hd' : decide (n ≤ k) = true := by simp; omega
    have h1 : (0 : Int) ≤ (k : Int) := by omega
    have h2 : (k : Int) < (n : Int) + 12 := by omega
    go_wp2
    refine wp_region_ext (by kernel_rfl) (by kernel_rfl) ?_
    repeat (any_goals (first | go_big_quiet_step ((first | (go_at_call 161; exact quiet_retx (markIns_any 1 j _ (by omega) (by omega))) | (go_at_call 170; exact quiet_retx (sameIns_any _ S S' A0 none 0 c0 0 (markIns j) (by repeat (first | assumption | exact Hd.out (by assumption) | apply Sl.alloc | apply Sl.ext | apply Sl.drew | apply Sl.drewN)) Sl.nil)))) | quiet_step ((first | (go_at_call 161; exact quiet_retx (markIns_any 1 j _ (by omega) (by omega))) | (go_at_call 170; exact quiet_retx (sameIns_any _ S S' A0 none 0 c0 0 (markIns j) (by repeat (first | assumption | exact Hd.out (by assumption) | apply Sl.alloc | apply Sl.ext | apply Sl.drew | apply Sl.drewN)) Sl.nil))))))
    refine wpQuiet_nil ?_
    rintro _ ⟨uq, rfl⟩
    go_wp2
    go_roundw
    case rel => exact ⟨k + 1, by omega, by go_num, Below.to_ext (by repeat (first | exact Below.refl _ _ | assumption | refine Below.alloc ?_ (by simp [size_ext]; try omega) _ | refine Below.ext ?_ (by simp [size_ext]; try omega) _ | refine Below.drew ?_ | refine Below.setCell ?_ (by simp [size_ext]; try omega) _))⟩
    case measure => simp [intOf]; omega
  ·go_wp2
   go_ret
   exact RetX.b rfl (by repeat (first | exact Below.refl _ _ | assumption | refine Below.alloc ?_ (by simp [size_ext]; try omega) _ | refine Below.ext ?_ (by simp [size_ext]; try omega) _ | refine Below.drew ?_ | refine Below.setCell ?_ (by simp [size_ext]; try omega) _))
abbrev repLBlock : Rep (L Block) := Rep.via fun y => ((L.mk y.val.ins : L (List Ins)), y.val.term)
theorem LBlock.open_ {w : World} {S : Nat → Prop} {x : Block} {vs : List Value} (h : repLBlock.is w S (L.mk x) vs) : ∃ A0 : Option Addr, ∃ n0 : Nat, ∃ c0 : Nat, vs = [.slice A0 n0 c0, .int .i64 x.term.kind, .int .i64 x.term.a, .int .i64 x.term.to0, .int .i64 x.term.to1] ∧ (x.ins.length = n0 ∧ Sl w S A0 (n0 + 12) c0 (row x.ins)) ∧ InI x.term.kind ∧ InI x.term.a ∧ InI x.term.to0 ∧ InI x.term.to1 := by
 obtain ⟨us0, ts0, e0, h0, r0⟩ := h
 obtain ⟨A1, n1, c1, v1, l1, f1⟩ := h0
 obtain ⟨us2, ts2, e2, h2, r2⟩ := r0
 obtain ⟨us3, ts3, e3, h3, r3⟩ := r2
 obtain ⟨us4, ts4, e4, h4, r4⟩ := r3
 obtain ⟨v5, f5⟩ := h2
 obtain ⟨v6, f6⟩ := h3
 obtain ⟨v7, f7⟩ := h4
 obtain ⟨v8, f8⟩ := r4
 refine ⟨A1, n1, c1, ?_, ⟨l1, f1⟩, f5, f6, f7, f8⟩
 subst_vars; simp
theorem LBlock.mk_ {w : World} {S : Nat → Prop} {x : Block} {A0 : Option Addr} {n0 : Nat} {c0 : Nat} (f0 : (x.ins.length = n0 ∧ Sl w S A0 (n0 + 12) c0 (row x.ins))) (f1 : InI x.term.kind) (f2 : InI x.term.a) (f3 : InI x.term.to0) (f4 : InI x.term.to1) : repLBlock.is w S (L.mk x) [.slice A0 n0 c0, .int .i64 x.term.kind, .int .i64 x.term.a, .int .i64 x.term.to0, .int .i64 x.term.to1] := by
 exact ⟨_, _, rfl, ⟨_, _, _, rfl, f0⟩, ⟨_, _, rfl, ⟨rfl, f1⟩, ⟨_, _, rfl, ⟨rfl, f2⟩, ⟨_, _, rfl, ⟨rfl, f3⟩, ⟨rfl, f4⟩⟩⟩⟩⟩
theorem LBlock.forget {w : World} {S : Nat → Prop} {x : Block} {vs : List Value} (h : repLBlock.is w S (L.mk x) vs) : Rep.is w S x vs := by
 obtain ⟨A0, n0, c0, rfl, ⟨l0, g0⟩, q0, q1, q2, q3⟩ := LBlock.open_ h
 exact Block.mk_ (g0.forget l0) q0 q1 q2 q3
instance : Lend Block where
 rep := repLBlock
 size_eq := rfl
 marks := (List.range 12).map fun i => (⟨[], ⟨0, markI 1 (i : Nat), 0, 0⟩⟩ : Block)
 twelve := rfl
 forget h := LBlock.forget h
def markBlock (i : Nat) : Block := ⟨[], ⟨0, markI 1 (i : Nat), 0, 0⟩⟩
theorem marks_Block {j : Nat} (h : j < 12) : (Lend.marks : List Block)[j]? = some (markBlock j) := by
 show ((List.range 12).map fun i => (⟨[], ⟨0, markI 1 (i : Nat), 0, 0⟩⟩ : Block))[j]? = _
 simp [h, markBlock]
theorem at_lent_Block {w : World} {S : Nat → Prop} {A : Option Addr} {n c : Nat} {xs : List Block} (h : Sl w S A (n + 12) c (row xs)) (hn : xs.length = n) {k : Nat} (hk : k < n) :
  ∃ b off, ∃ x : Block, ∃ A0 : Option Addr, ∃ n0 : Nat, ∃ c0 : Nat, A = some ⟨b, off, none⟩ ∧ b < w.heap.size ∧ xs[k]? = some x ∧ (x.ins.length = n0 ∧ Sl w S A0 (n0 + 12) c0 (row x.ins)) ∧ InI x.term.kind ∧ InI x.term.a ∧ InI x.term.to0 ∧ InI x.term.to1 ∧ w.cell? ⟨b, off + k * 5, none⟩ = some (.slice A0 n0 c0) ∧ w.cell? ⟨b, off + k * 5 + 1, none⟩ = some (.int .i64 x.term.kind) ∧ w.cell? ⟨b, off + k * 5 + 2, none⟩ = some (.int .i64 x.term.a) ∧ w.cell? ⟨b, off + k * 5 + 3, none⟩ = some (.int .i64 x.term.to0) ∧ w.cell? ⟨b, off + k * 5 + 4, none⟩ = some (.int .i64 x.term.to1) := by
 obtain ⟨b, off, x, us, e, hb, _, hx, hus, hc⟩ := h.at_lent hn hk
 obtain ⟨A0, n0, c0, rfl, g0, g1, g2, g3, g4⟩ := LBlock.open_ hus
 refine ⟨b, off, x, A0, n0, c0, e, hb, hx, g0, g1, g2, g3, g4, ?_, ?_, ?_, ?_, ?_⟩
 ·have := hc 0 _ rfl; simpa [Rep.size, Nat.add_assoc] using this
 ·have := hc 1 _ rfl; simpa [Rep.size, Nat.add_assoc] using this
 ·have := hc 2 _ rfl; simpa [Rep.size, Nat.add_assoc] using this
 ·have := hc 3 _ rfl; simpa [Rep.size, Nat.add_assoc] using this
 ·have := hc 4 _ rfl; simpa [Rep.size, Nat.add_assoc] using this
theorem at_mark_Block {w : World} {S : Nat → Prop} {A : Option Addr} {n c : Nat} {xs : List Block} (h : Sl w S A (n + 12) c (row xs)) (hn : xs.length = n) {j : Nat} (hj : j < 12) :
  ∃ b off, ∃ A0 : Option Addr, ∃ c0 : Nat, A = some ⟨b, off, none⟩ ∧ b < w.heap.size ∧ Sl w S A0 0 c0 ([] : List Ins) ∧ w.cell? ⟨b, off + (n + j) * 5, none⟩ = some (.slice A0 0 c0) ∧ w.cell? ⟨b, off + (n + j) * 5 + 1, none⟩ = some (.int .i64 0) ∧ w.cell? ⟨b, off + (n + j) * 5 + 2, none⟩ = some (.int .i64 (markI 1 j)) ∧ w.cell? ⟨b, off + (n + j) * 5 + 3, none⟩ = some (.int .i64 0) ∧ w.cell? ⟨b, off + (n + j) * 5 + 4, none⟩ = some (.int .i64 0) := by
 obtain ⟨b, off, us, e, hb, _, hus, hc⟩ := h.at_mark hn hj (marks_Block hj)
 obtain ⟨A0, n0, c0, rfl, g0, -, -, -, -⟩ := Block.open_ hus
 obtain rfl : n0 = 0 := g0.len.symm
 refine ⟨b, off, A0, c0, e, hb, g0, ?_, ?_, ?_, ?_, ?_⟩
 ·have := hc 0 _ rfl; simpa [Rep.size, Nat.add_assoc, markBlock] using this
 ·have := hc 1 _ rfl; simpa [Rep.size, Nat.add_assoc, markBlock] using this
 ·have := hc 2 _ rfl; simpa [Rep.size, Nat.add_assoc, markBlock] using this
 ·have := hc 3 _ rfl; simpa [Rep.size, Nat.add_assoc, markBlock] using this
 ·have := hc 4 _ rfl; simpa [Rep.size, Nat.add_assoc, markBlock] using this
theorem markBlock_any (k i : Int) (w : World) (hk : 0 ≤ k ∧ k ≤ 100000000) (hi : 0 ≤ i ∧ i ≤ 100000000) : Calls Tryz.prog 63 #[.int .i64 k, .int .i64 i] w (RetX (.agg #[.slice none 0 0, .int .i64 0, .int .i64 (markI k i), .int .i64 0, .int .i64 0]) w) := by
 go_enter Tryz.func63, Tryz.ntmps63
 go_wp2_with (go_at_call 61; refine (mark_any k i _ hk hi).mono ?_; rintro e w' ⟨rfl, rfl⟩)
 exact bodyPost_ret (v := .agg #[.slice none 0 0, .int .i64 0, .int .i64 (markI k i), .int .i64 0, .int .i64 0]) (by simp [results, Tryz.results63, go_sem]) rfl ⟨rfl, Below.to_ext (by repeat (first | exact Below.refl _ _ | assumption | refine Below.alloc ?_ (by simp [size_ext]; try omega) _ | refine Below.ext ?_ (by simp [size_ext]; try omega) _ | refine Below.drew ?_ | refine Below.setCell ?_ (by simp [size_ext]; try omega) _))⟩
theorem markBlock_rep (i : Nat) (h : i < 12) (w : World) (S : Nat → Prop) : Rep.is w S (markBlock i) [.slice none 0 0, .int .i64 0, .int .i64 (markI 1 i), .int .i64 0, .int .i64 0] := Block.mk_ Sl.nil InI_zero (markI_in i h) InI_zero InI_zero
theorem lentBlock_any (w : World) (S : Nat → Prop) (A0 : Option Addr) (n0 c0 : Nat) (x : Block) (h0 : Sl w S A0 n0 c0 x.ins) (hm0 : x.ins.length ≤ 1048576 ∧ ∀ y ∈ x.ins, SmallI 1048576 y) (hok : OkBlock x) :
  Calls Tryz.prog 62 #[.agg #[.slice A0 n0 c0, .int .i64 x.term.kind, .int .i64 x.term.a, .int .i64 x.term.to0, .int .i64 x.term.to1]] w (RetV (L.mk x) w) := by
 have H0 := hide h0; clear h0
 have HM0 := hide hm0; clear hm0
 have HOK := hide hok; clear hok
 go_enter Tryz.func62, Tryz.ntmps62
 go_wp2_with (go_at_call 115; refine (lentRow_any _ S A0 n0 c0 x.ins (by repeat (first | assumption | exact Hd.out (by assumption) | apply Sl.alloc | apply Sl.ext | apply Sl.drew | apply Sl.drewN)) HM0.out).mono ?_; rintro e _ ⟨B0, m0, e0, rfl, hl0, hs0, ux, rfl⟩; have HS0 := hide hs0; have HL0 := hide hl0; clear hs0 hl0)
 refine bodyPost_ret (v := .agg #[.slice B0 m0 e0, .int .i64 x.term.kind, .int .i64 x.term.a, .int .i64 x.term.to0, .int .i64 x.term.to1]) (by simp [results, Tryz.results62, go_sem]) rfl ⟨_, rfl, ?_, Below.to_ext (by repeat (first | exact Below.refl _ _ | assumption | refine Below.alloc ?_ (by simp [size_ext]; try omega) _ | refine Below.ext ?_ (by simp [size_ext]; try omega) _ | refine Below.drew ?_ | refine Below.setCell ?_ (by simp [size_ext]; try omega) _))⟩
 obtain ⟨j0, j1, j2, j3⟩ := HOK.out
 exact LBlock.mk_ ⟨HL0.out, (HS0.out.ext_swap (by simp) (fun b hb => hb)).more (fun b _ hb => by simp at hb ⊢; omega)⟩ j0 j1 j2 j3
theorem lentBlocks_close {w w1 : World} {S : Nat → Prop} {v : Value} {n : Nat} {xs : List Block} (HL : Hd (xs.length = n)) (ho : OwnL w1 w.heap.size 52 S v (xs.map E.lent ++ (mks Block 12).map E.plain)) (hS : ∀ b, S b → w.heap.size ≤ b) (hb : Below w.heap.size w w1) :
  ∃ g cap, v = .slice (some ⟨g, 0, none⟩) (n + 12) cap ∧ n + 12 ≤ cap ∧ cap ≤ 9223372036854775807 ∧ RetLent xs w (.returned (.slice (some ⟨g, 0, none⟩) n cap)) w1 := by
 rw [mks_all] at ho
 obtain ⟨g, cap, rfl, hc, hm⟩ := ho.form_pos (n := n + 12) (by have := row_len (xs := xs); unfold row at this; rw [this, HL.out]) (by omega)
 refine ⟨g, cap, rfl, hc, hm, some ⟨g, 0, none⟩, n, cap, rfl, HL.out, ?_, Below.to_ext hb⟩
 exact ho.sl (fun b _ h => by rcases h with h | h; exact hS b h; exact h)
set_option maxHeartbeats 1000000 in
theorem lentBlocks_any (w : World) (S : Nat → Prop) (A : Option Addr) (n c : Nat) (xs : List Block) (h : Sl w S A n c xs) (hm : xs.length ≤ 1048576 ∧ ∀ y ∈ xs, SmallB 1048576 y) :
  Calls Tryz.prog 22 #[.slice A n c] w (RetLent xs w) := by
 have HL := hide h.len
 have hn : n ≤ 1048576 := by rw [← h.len]; exact hm.1
 have HS := hide h; clear h
 have HM := hide hm; clear hm
 obtain ⟨i0, hi, hz, hz1, hz2⟩ := info_parts info_Block
 have HI0 := hide hi; have HZ := hide hz; have HZ1 := hide hz1; have HZ2 := hide hz2
 clear hi hz hz1 hz2
 obtain ⟨B, hB⟩ : ∃ B, B = w.heap.size := ⟨_, rfl⟩
 have HB := hide hB
 have hB1 : B ≤ w.heap.size := by omega
 have hB2 : w.heap.size ≤ B := by omega
 clear hB
 go_enter Tryz.func22, Tryz.ntmps22
 go_wp2_with (at_make; refine wpList_make_own _ rfl _ _ 23 rfl B 52 i0 _ 5 Tryz.underlying23 HI0.out HZ.out HZ1.out _ _ _ (n + 12) rfl rfl (by omega) (by rw [HZ2.out]; omega) (by unfold maxLen; omega) hB1 ?_; intro w1 hown hg; have HO0 := hide hown; have HG0 := hide hg; clear hown hg)
 have hs0 : B ≤ w1.heap.size := by have := HG0.out.size; omega
 have HB0 := hide (below_grown HG0.out hB1)
 clear HG0
 go_loopw [3, 4] (fun o i wr => ∃ k : Nat, ∃ So : Nat → Prop, k ≤ n ∧ i = .int .i64 k ∧ OwnL wr B 52 So o ((xs.take k).map E.lent) ∧ (∀ b, So b → B ≤ b ∧ b < wr.heap.size) ∧ Below B w wr ∧ B ≤ wr.heap.size) (fun _ i _ => n - (intOf i).toNat)
 case atStart => exact ⟨0, fun _ => False, Nat.zero_le _, rfl, ⟨[], HO0.out, rfl, fun _ _ h => h⟩, fun _ h => h.elim, HB0.out, hs0⟩
 case round =>
  obtain ⟨k, So, hk, rfl, hown, hSo, hbel, hsz⟩ := hrel
  have HO := hide hown; have HSo := hide hSo; have HBel := hide hbel
  clear hown hSo hbel HO0 HB0 hs0
  by_cases hlt : k < n
  ·obtain ⟨b, off, x, A0, n0, c0, rfl, hb, hx, hs0, q0, q1, q2, q3, d0, d1, d2, d3, d4⟩ := at_Block HS.out hlt
   have hcell : ∀ o, wr.cell? ⟨b, o, none⟩ = w.cell? ⟨b, o, none⟩ := fun o => HBel.out.cell (by show b < B; omega)
   rw [← hcell] at d0 d1 d2 d3 d4
   clear hcell
   have HSm := hide (HM.out.2 x (mem_at hx))
   have HX := hide (take_at hx); clear hx
   have HOk : Hd (OkBlock x) := hide ⟨q0, q1, q2, q3⟩
   clear q0 q1 q2 q3
   have HJ0 := hide ((hs0.more (S' := fun b => b < B) (fun b hb _ => by omega)).below HBel.out (fun _ h => h)); clear hs0
   go_wp2_with (first
    | (go_at_call 62; refine (lentBlock_any _ _ A0 n0 c0 x HJ0.out HSm.out HOk.out).mono ?_; rintro e _ ⟨us, rfl, hus, ux, rfl⟩; obtain ⟨B0, m0, e0, rfl, ⟨hl0, ht0⟩, -, -, -, -⟩ := LBlock.open_ hus; have HT0 := hide ht0; have HTL0 := hide hl0; clear ht0 hl0; clear hus)
    | (at_builtin; refine wpList_push (α := E Block) ((wr.ext ux).alloc (.cells #[.slice B0 m0 e0, .int .i64 x.term.kind, .int .i64 x.term.a, .int .i64 x.term.to0, .int .i64 x.term.to1] 52)) [.slice B0 m0 e0, .int .i64 x.term.kind, .int .i64 x.term.a, .int .i64 x.term.to0, .int .i64 x.term.to1] 52 rfl (.tmp 22) (.tmp 24) 23 rfl B 52 i0 _ 56 Tryz.underlying23 HI0.out HZ.out HZ1.out HZ2.out rfl (by decide) So (fun b => So b ∨ (wr.heap.size ≤ b ∧ b < (wr.ext ux).heap.size)) u3 ((xs.take k).map E.lent) (.lent x) rfl ((HO.out.ext ux).alloc _) _ rfl ?hg ?hr (fun _ h => .inl h) ?hap ?hnew ?hl1 ?hl2 ?hl3 ?_; rotate_left 7; intro v' w1 hown' hg _; have HO' := hide hown'; have HG := hide hg; clear hown' hg))
   case hr =>
    obtain ⟨j0, j1, j2, j3⟩ := HOk.out
    exact LBlock.mk_ ⟨HTL0.out, (HT0.out.more (fun b hb h => .inr ⟨h, hb⟩)).alloc _⟩ j0 j1 j2 j3
   case hg => simp [size_ext]
   case hap =>
    intro g hg hS
    rcases hS with hS | hS
    ·exact absurd (HO.out) (fun h => by obtain ⟨_, _, _, h3⟩ := h; exact h3 g hg hS)
    ·have := (HO.out.below_ g hg).2; omega
   case hnew =>
    intro b hS
    rcases hS with hS | hS
    ·have := (HSo.out b hS).2; simp [size_ext]; omega
    ·have := hS.2; simp [size_ext] at this ⊢; omega
   case hl1 => simp; omega
   case hl2 => simp; omega
   case hl3 => simp [size_ext]; omega
   go_wp2
   go_roundw
   case rel =>
    have hb1 : Below B w w1 := below_push (W := ((wr.ext ux).alloc (.cells #[.slice B0 m0 e0, .int .i64 x.term.kind, .int .i64 x.term.a, .int .i64 x.term.to0, .int .i64 x.term.to1] 52))) (v := u3) ((HBel.out.ext hsz ux).alloc (by simp [size_ext]; omega) _) ((HO.out.ext ux).alloc _) (by simp [size_ext]; omega) HG.out
    have hs1 := HG.out.size
    refine ⟨k + 1, _, by omega, by go_num, by rw [HX.out, List.map_append]; exact HO'.out, fun b hS => ?_, hb1, Nat.le_trans hB1 hb1.size⟩
    simp [size_ext] at hs1
    rcases hS with hS | hS
    ·have := HSo.out b hS; omega
    ·have := hS.2; simp [size_ext] at this; omega
   case measure => simp [intOf]; omega
  ·have ho := HO.out
   rw [take_end HL.out hlt] at ho
   have HOE := hide ho
   clear ho HO
   go_wp2
   clear hlt hk
   go_loopw [3, 6] (fun o i w9 => ∃ j : Nat, ∃ Sp : Nat → Prop, j ≤ 12 ∧ i = .int .i64 j ∧ OwnL w9 B 52 Sp o (xs.map E.lent ++ (mks Block j).map E.plain) ∧ (∀ b, Sp b → B ≤ b ∧ b < w9.heap.size) ∧ Below B w w9 ∧ B ≤ w9.heap.size) (fun _ i _ => 12 - (intOf i).toNat)
   case atStart => exact ⟨0, So, by omega, rfl, by rw [show mks Block 0 = [] from rfl, List.map_nil, List.append_nil]; exact HOE.out, HSo.out, HBel.out, hsz⟩
   case round =>
    obtain ⟨j, Sp, hj, rfl, hown9, hSp, hbel9, hsz9⟩ := hrel
    have HO9 := hide hown9; have HSp := hide hSp; have HBel9 := hide hbel9
    clear hown9 hSp hbel9 HOE HSo HBel hsz
    by_cases hjt : j < 12
    ·go_wp2_with (first
      | (go_at_call 63; refine (markBlock_any 1 j _ (by omega) (by omega)).mono ?_; rintro e _ ⟨rfl, ux, rfl⟩)
      | (at_builtin; refine wpList_push (α := E Block) (wr.ext ux) [.slice none 0 0, .int .i64 0, .int .i64 (markI 1 j), .int .i64 0, .int .i64 0] 52 rfl (.tmp 30) (.tmp 33) 23 rfl B 52 i0 _ 56 Tryz.underlying23 HI0.out HZ.out HZ1.out HZ2.out rfl (by decide) Sp Sp u3 (xs.map E.lent ++ (mks Block j).map E.plain) (.plain (markBlock j)) rfl (HO9.out.ext ux) _ rfl ?hg9 (markBlock_rep j hjt _ _) (fun _ h => h) ?hap9 ?hnewr ?hl19 ?hl29 ?hl39 ?_; rotate_left 6; intro v' w1 hown' hg _; have HO' := hide hown'; have HG := hide hg; clear hown' hg))
     case hg9 => simp [size_ext]
     case hap9 =>
      intro g hg hS
      exact absurd (HO9.out) (fun h => by obtain ⟨_, _, _, h3⟩ := h; exact h3 g hg hS)
     case hnewr => intro b hS; have := (HSp.out b hS).2; simp [size_ext]; omega
     case hl19 => rw [List.length_append, List.length_map, List.length_map, HL.out, mks_len (by omega)]; omega
     case hl29 => rw [List.length_append, List.length_map, List.length_map, HL.out, mks_len (by omega)]; omega
     case hl39 => simp [size_ext]; omega
     go_wp2
     go_roundw
     case rel =>
      have hb1 : Below B w w1 := below_push (W := wr.ext ux) (v := u3) (HBel9.out.ext hsz9 ux) (HO9.out.ext ux) (by simp [size_ext]; omega) HG.out
      have hs1 := HG.out.size
      refine ⟨j + 1, Sp, by omega, by go_num, by rw [mks_succ (marks_Block hjt), List.map_append, ← List.append_assoc]; exact HO'.out, fun b hS => ?_, hb1, Nat.le_trans hB1 hb1.size⟩
      simp [size_ext] at hs1
      have := HSp.out b hS
      omega
     case measure => simp [intOf]; omega
    ·obtain rfl : j = 12 := by omega
     obtain ⟨g, cap, rfl, hc1, hc2, hret⟩ := lentBlocks_close (w := w) HL (by rw [← HB.out]; exact HO9.out) (fun b hb => by have := (HSp.out b hb).1; omega) (by rw [← HB.out]; exact HBel9.out)
     have HR := hide hret; clear hret hjt
     go_wp2
     go_ret
     exact HR.out
theorem keptBlock_any (w : World) (S S' : Nat → Prop) (A0 A0' : Option Addr) (n0 c0 c0' : Nat) (x : Block) (h : Sl w S A0 (n0 + 12) c0 (row x.ins)) (h' : Sl w S' A0' n0 c0' x.ins) (hm0 : x.ins.length ≤ 1048576 ∧ ∀ y ∈ x.ins, SmallI 1048576 y) :
  Calls Tryz.prog 81 #[.agg #[.slice A0 n0 c0, .int .i64 x.term.kind, .int .i64 x.term.a, .int .i64 x.term.to0, .int .i64 x.term.to1], .agg #[.slice A0' n0 c0', .int .i64 x.term.kind, .int .i64 x.term.a, .int .i64 x.term.to0, .int .i64 x.term.to1]] w (RetX (.bool true) w) := by
 have H1 := hide (h.forget h'.len)
 have H := hide h; clear h
 have H' := hide h'; clear h'
 have HM := hide hm0; clear hm0
 go_enter Tryz.func81, Tryz.ntmps81
 go_wp2_with (first | (go_at_call 82; refine (sameBlock_any _ S S' A0 A0' n0 c0 c0' x (by repeat (first | assumption | exact Hd.out (by assumption) | apply Sl.alloc | apply Sl.ext | apply Sl.drew | apply Sl.drewN)) (by repeat (first | assumption | exact Hd.out (by assumption) | apply Sl.alloc | apply Sl.ext | apply Sl.drew | apply Sl.drewN))).mono ?_; rintro e _ ⟨rfl, ux, rfl⟩) | (go_at_call 128; refine (keptRow_any _ S S' A0 A0' n0 c0 c0' x.ins (by repeat (first | assumption | exact Hd.out (by assumption) | apply Sl.alloc | apply Sl.ext | apply Sl.drew | apply Sl.drewN)) (by repeat (first | assumption | exact Hd.out (by assumption) | apply Sl.alloc | apply Sl.ext | apply Sl.drew | apply Sl.drewN)) HM.out).mono ?_; rintro e _ ⟨rfl, ux, rfl⟩))
 go_ret
 exact RetX.b rfl (by repeat (first | exact Below.refl _ _ | assumption | refine Below.alloc ?_ (by simp [size_ext]; try omega) _ | refine Below.ext ?_ (by simp [size_ext]; try omega) _ | refine Below.drew ?_ | refine Below.setCell ?_ (by simp [size_ext]; try omega) _))
set_option maxHeartbeats 1000000 in
theorem keptBlocks_any (w : World) (S S' : Nat → Prop) (A A' : Option Addr) (n c c' : Nat) (xs : List Block) (h : Sl w S A (n + 12) c (row xs)) (h' : Sl w S' A' n c' xs) (hm : xs.length ≤ 1048576 ∧ ∀ y ∈ xs, SmallB 1048576 y) :
  Calls Tryz.prog 37 #[.slice A n c, .slice A' n c'] w (RetX (.bool true) w) := by
 have hn : n ≤ 1048576 := by rw [← h'.len]; exact hm.1
 have hc : n + 12 ≤ c := h.2.1
 have hcm : c ≤ 9223372036854775807 := by have := h.2.2.1; unfold maxLen at this; omega
 have HL := hide h'.len
 obtain ⟨b, off, us, rfl, hb, -⟩ := h.at_mark h'.len (show 0 < 12 by omega) (marks_Block (by omega))
 have HS := hide h; have HS' := hide h'; have HM := hide hm
 clear h h' hm
 go_enter Tryz.func37, Tryz.ntmps37
 go_wp2
 go_loopw [6] (fun i wr => ∃ k : Nat, k ≤ n + 12 ∧ i = .int .i64 k ∧ ∃ u, wr = w.ext u) (fun i _ => n + 12 - (intOf i).toNat)
 case atStart => exact ⟨0, Nat.zero_le _, rfl, ext_refl _⟩
 case round =>
  obtain ⟨k, hk, rfl, u, rfl⟩ := hrel
  by_cases hlt : k < n + 12
  ·by_cases hkn : k < n
   ·obtain ⟨b1, off1, x, A0, n0, c0, e1, -, hx, ⟨hl0, hs0⟩, -, -, -, -, d0, d1, d2, d3, d4⟩ := at_lent_Block HS.out HL.out hkn
    simp only [Option.some.injEq, Addr.mk.injEq] at e1
    obtain ⟨rfl, rfl, -⟩ := e1
    obtain ⟨b', off', x', A0', n0', c0', rfl, hb', hx', hs'0, -, -, -, -, e0, e1, e2, e3, e4⟩ := at_Block HS'.out hkn
    obtain rfl := some_eq hx hx'
    have HSm := hide (HM.out.2 x (mem_at hx))
    clear hx hx'
    obtain rfl : n0 = n0' := hl0.symm.trans hs'0.len
    have HI0 := hide hs0; have HI0' := hide hs'0
    clear hs0 hs'0
    have hd : decide (k < n) = true := by simpa using hkn
    have hd' : decide (n ≤ k) = false := by simp; omega
    go_wp2
    refine wp_region_ext (by kernel_rfl) (by kernel_rfl) ?_
    repeat (any_goals (first | go_big_quiet_step (((go_at_call 81; exact quiet_retx (keptBlock_any _ S S' A0 A0' n0 c0 c0' x (by repeat (first | assumption | exact Hd.out (by assumption) | apply Sl.alloc | apply Sl.ext | apply Sl.drew | apply Sl.drewN)) (by repeat (first | assumption | exact Hd.out (by assumption) | apply Sl.alloc | apply Sl.ext | apply Sl.drew | apply Sl.drewN)) HSm.out)))) | quiet_step (((go_at_call 81; exact quiet_retx (keptBlock_any _ S S' A0 A0' n0 c0 c0' x (by repeat (first | assumption | exact Hd.out (by assumption) | apply Sl.alloc | apply Sl.ext | apply Sl.drew | apply Sl.drewN)) (by repeat (first | assumption | exact Hd.out (by assumption) | apply Sl.alloc | apply Sl.ext | apply Sl.drew | apply Sl.drewN)) HSm.out))))))
    refine wpQuiet_nil ?_
    rintro _ ⟨uq, rfl⟩
    go_wp2
    go_roundw
    case rel => exact ⟨k + 1, by omega, by go_num, Below.to_ext (by repeat (first | exact Below.refl _ _ | assumption | refine Below.alloc ?_ (by simp [size_ext]; try omega) _ | refine Below.ext ?_ (by simp [size_ext]; try omega) _ | refine Below.drew ?_ | refine Below.setCell ?_ (by simp [size_ext]; try omega) _))⟩
    case measure => simp [intOf]; omega
   ·obtain ⟨j, hj⟩ : ∃ j, k = n + j := ⟨k - n, by omega⟩
    have hj1 : j < 12 := by omega
    obtain ⟨b1, off1, A0, c0, e1, -, hz0, d0, d1, d2, d3, d4⟩ := at_mark_Block HS.out HL.out hj1
    simp only [Option.some.injEq, Addr.mk.injEq] at e1
    obtain ⟨rfl, rfl, -⟩ := e1
    rw [← hj] at d0 d1 d2 d3 d4
    have hs : IntKind.i64.wrap ((k : Int) - n) = (j : Int) := by rw [IntWalk.i64_in _ (by omega)]; omega
    have HJ := hide hj; clear hj
    have HZ0 := hide hz0; clear hz0
    have hd : decide (k < n) = false := by simp; omega
    have hd' : decide (n ≤ k) = true := by simp; omega
    have h1 : (0 : Int) ≤ (k : Int) := by omega
    have h2 : (k : Int) < (n : Int) + 12 := by omega
    go_wp2
    refine wp_region_ext (by kernel_rfl) (by kernel_rfl) ?_
    repeat (any_goals (first | go_big_quiet_step ((first | (go_at_call 63; exact quiet_retx (markBlock_any 1 j _ (by omega) (by omega))) | (go_at_call 82; exact quiet_retx (sameBlock_any _ S S' A0 none 0 c0 0 (markBlock j) (by repeat (first | assumption | exact Hd.out (by assumption) | apply Sl.alloc | apply Sl.ext | apply Sl.drew | apply Sl.drewN)) Sl.nil)))) | quiet_step ((first | (go_at_call 63; exact quiet_retx (markBlock_any 1 j _ (by omega) (by omega))) | (go_at_call 82; exact quiet_retx (sameBlock_any _ S S' A0 none 0 c0 0 (markBlock j) (by repeat (first | assumption | exact Hd.out (by assumption) | apply Sl.alloc | apply Sl.ext | apply Sl.drew | apply Sl.drewN)) Sl.nil))))))
    refine wpQuiet_nil ?_
    rintro _ ⟨uq, rfl⟩
    go_wp2
    go_roundw
    case rel => exact ⟨k + 1, by omega, by go_num, Below.to_ext (by repeat (first | exact Below.refl _ _ | assumption | refine Below.alloc ?_ (by simp [size_ext]; try omega) _ | refine Below.ext ?_ (by simp [size_ext]; try omega) _ | refine Below.drew ?_ | refine Below.setCell ?_ (by simp [size_ext]; try omega) _))⟩
    case measure => simp [intOf]; omega
  ·go_wp2
   go_ret
   exact RetX.b rfl (by repeat (first | exact Below.refl _ _ | assumption | refine Below.alloc ?_ (by simp [size_ext]; try omega) _ | refine Below.ext ?_ (by simp [size_ext]; try omega) _ | refine Below.drew ?_ | refine Below.setCell ?_ (by simp [size_ext]; try omega) _))
abbrev repLTarget : Rep (L Target) := Rep.via fun y => (y.val.frame, (L.mk y.val.blocks : L (List Block)))
instance : Rep (L Target) := repLTarget
end Go.Proofs.YtljglhaeonbfoaaGreatDoor
