/- Rows of instructions that lie apart: the bag, the kit's ApartRow. Printed by gen_ar5.py. -/
import Derived.Test.YtoghikagooegbaaAR4
set_option linter.unusedSimpArgs false
set_option linter.unusedVariables false
namespace Go.Proofs.Ytoghikagooegbaa
open Go.RowKit

attribute [local instance] repInsN
theorem at_InsN8 {w : World} {S : Nat → Prop} {n c : Nat} {A : Option Addr} {xs : List Ins} (h : Sl w S A n c xs) {k : Nat} (hk : k < n) :
    ∃ b off x, A = some ⟨b, off, none⟩ ∧ b < w.heap.size ∧ xs[k]? = some x ∧ w.cell? ⟨b, off + k * 8, none⟩ = some (.int .i64 x.op) ∧ w.cell? ⟨b, off + k * 8 + 1, none⟩ = some (.int .i64 x.dst) ∧ w.cell? ⟨b, off + k * 8 + 2, none⟩ = some (.int .i64 x.a) ∧ w.cell? ⟨b, off + k * 8 + 3, none⟩ = some (.int .i64 x.b) ∧ w.cell? ⟨b, off + k * 8 + 4, none⟩ = some (.int .i64 x.imm) ∧ w.cell? ⟨b, off + k * 8 + 5, none⟩ = some (.int .i64 x.callee) ∧ w.cell? ⟨b, off + k * 8 + 6, none⟩ = some (.slice none 0 0) ∧ w.cell? ⟨b, off + k * 8 + 7, none⟩ = some (.int .i64 x.many) := by
  obtain ⟨b, off, x, e, hb, hx, _, hc⟩ := at_InsN h hk
  refine ⟨b, off, x, e, hb, hx, ?_, ?_, ?_, ?_, ?_, ?_, ?_, ?_⟩
  · have := hc 0 _ rfl; simpa [Nat.add_assoc] using this
  · have := hc 1 _ rfl; simpa [Nat.add_assoc] using this
  · have := hc 2 _ rfl; simpa [Nat.add_assoc] using this
  · have := hc 3 _ rfl; simpa [Nat.add_assoc] using this
  · have := hc 4 _ rfl; simpa [Nat.add_assoc] using this
  · have := hc 5 _ rfl; simpa [Nat.add_assoc] using this
  · have := hc 6 _ rfl; simpa [Nat.add_assoc] using this
  · have := hc 7 _ rfl; simpa [Nat.add_assoc] using this
/-- A bag that holds rows, and lists of numbers. -/
def BagR (w : World) (g : Nat) (x y : Value) : Prop := w.heap[g]? = some (.cells #[.slice none 0 0, .slice none 0 0, x, .slice none 0 0, .slice none 0 0, .slice none 0 0, .slice none 0 0, y, .slice none 0 0, .slice none 0 0, .slice none 0 0, .slice none 0 0, .slice none 0 0, .slice none 0 0, .slice none 0 0, .slice none 0 0, .slice none 0 0] 94 (0, 0))
section
variable {w w' : World} {g : Nat} {x y : Value}
theorem BagR.lt (h : BagR w g x y) : g < w.heap.size := (Array.getElem?_eq_some_iff.1 h).1
theorem BagR.keep (h : BagR w g x y) (hb : w'.heap[g]? = w.heap[g]?) : BagR w' g x y := hb.trans h
theorem BagR.fz (h : BagR w g x y) (k : Nat) : w.frozen? ⟨g, k, none⟩ = false := by
  rw [World.frozen?, show w.heap[g]? = _ from h]; simp
theorem BagR.set2 (h : BagR w g x y) (z : Value) : BagR (w.setCell ⟨g, 2, none⟩ z) g z y := row_setA h 2 z
theorem BagR.set7 (h : BagR w g x y) (z : Value) : BagR (w.setCell ⟨g, 7, none⟩ z) g x z := row_setA h 7 z
theorem BagR.c0 (h : BagR w g x y) : w.cell? ⟨g, 0, none⟩ = some (.slice none 0 0) := cell_of_row w g _ _ _ (0, 0) h
theorem BagR.c1 (h : BagR w g x y) : w.cell? ⟨g, 1, none⟩ = some (.slice none 0 0) := cell_of_row w g _ _ _ (0, 0) h
theorem BagR.c2 (h : BagR w g x y) : w.cell? ⟨g, 2, none⟩ = some x := cell_of_row w g _ _ _ (0, 0) h
theorem BagR.c3 (h : BagR w g x y) : w.cell? ⟨g, 3, none⟩ = some (.slice none 0 0) := cell_of_row w g _ _ _ (0, 0) h
theorem BagR.c4 (h : BagR w g x y) : w.cell? ⟨g, 4, none⟩ = some (.slice none 0 0) := cell_of_row w g _ _ _ (0, 0) h
theorem BagR.c5 (h : BagR w g x y) : w.cell? ⟨g, 5, none⟩ = some (.slice none 0 0) := cell_of_row w g _ _ _ (0, 0) h
theorem BagR.c6 (h : BagR w g x y) : w.cell? ⟨g, 6, none⟩ = some (.slice none 0 0) := cell_of_row w g _ _ _ (0, 0) h
theorem BagR.c7 (h : BagR w g x y) : w.cell? ⟨g, 7, none⟩ = some y := cell_of_row w g _ _ _ (0, 0) h
theorem BagR.c8 (h : BagR w g x y) : w.cell? ⟨g, 8, none⟩ = some (.slice none 0 0) := cell_of_row w g _ _ _ (0, 0) h
theorem BagR.c9 (h : BagR w g x y) : w.cell? ⟨g, 9, none⟩ = some (.slice none 0 0) := cell_of_row w g _ _ _ (0, 0) h
theorem BagR.c10 (h : BagR w g x y) : w.cell? ⟨g, 10, none⟩ = some (.slice none 0 0) := cell_of_row w g _ _ _ (0, 0) h
theorem BagR.c11 (h : BagR w g x y) : w.cell? ⟨g, 11, none⟩ = some (.slice none 0 0) := cell_of_row w g _ _ _ (0, 0) h
theorem BagR.c12 (h : BagR w g x y) : w.cell? ⟨g, 12, none⟩ = some (.slice none 0 0) := cell_of_row w g _ _ _ (0, 0) h
theorem BagR.c13 (h : BagR w g x y) : w.cell? ⟨g, 13, none⟩ = some (.slice none 0 0) := cell_of_row w g _ _ _ (0, 0) h
theorem BagR.c14 (h : BagR w g x y) : w.cell? ⟨g, 14, none⟩ = some (.slice none 0 0) := cell_of_row w g _ _ _ (0, 0) h
theorem BagR.c15 (h : BagR w g x y) : w.cell? ⟨g, 15, none⟩ = some (.slice none 0 0) := cell_of_row w g _ _ _ (0, 0) h
theorem BagR.c16 (h : BagR w g x y) : w.cell? ⟨g, 16, none⟩ = some (.slice none 0 0) := cell_of_row w g _ _ _ (0, 0) h
end
/-- The bag, and its two lists, in memory of their own. -/
structure BagS (w : World) (gb : Nat) (bi br : Hdr) (hi hr : List Hdr) : Prop where
  bag : BagR w gb bi.v br.v
  oi : OwnL w (gb + 1) 52 (fun _ => False) bi.v hi
  or : OwnL w (gb + 1) 24 (fun _ => False) br.v hr
  ne : ∀ g, bi.v.ownBlock = some g → br.v.ownBlock ≠ some g
section
variable {w w' : World} {gb : Nat} {bi br : Hdr} {hi hr : List Hdr}
theorem BagS.keep (h : BagS w gb bi br hi hr) (hs : w.heap.size ≤ w'.heap.size) (hb : ∀ b, b < w.heap.size → w'.heap[b]? = w.heap[b]?) : BagS w' gb bi br hi hr :=
  ⟨h.bag.keep (hb gb h.bag.lt), h.oi.keep hs (fun _ hf => hf.elim) fun b e => hb b (h.oi.below_ b e).2, h.or.keep hs (fun _ hf => hf.elim) fun b e => hb b (h.or.below_ b e).2, h.ne⟩
theorem BagS.belowAll (h : BagS w gb bi br hi hr) (hb : Below w.heap.size w w') : BagS w' gb bi br hi hr := h.keep hb.size fun b hl => hb.block b hl
end
abbrev nilH : Hdr := ⟨none, 0, 0⟩
set_option maxRecDepth 100000 in
set_option maxHeartbeats 8000000 in
theorem putIntsS_any (w : World) (gb : Nat) (bi br x : Hdr) (hi hr : List Hdr) (hb : BagS w gb bi br hi hr) (hn : hi.length ≤ 1000) :
    Calls Try.prog 65 #[.pointer (some ⟨gb, 0, none⟩), .slice x.a x.n x.c] w (fun e w' => e = .returned (.tuple #[]) ∧ ∃ bi' : Hdr, BagS w' gb bi' br (hi ++ [x]) hr ∧ Below gb w w') := by
  obtain ⟨i0, hi0, hz, hz1, hz2⟩ := info_parts info_sInts
  have HI0 := hide hi0; have HZ := hide hz; have HZ1 := hide hz1; have HZ2 := hide hz2
  clear hi0 hz hz1 hz2
  have HB := hide hb
  have hc := hb.bag.c2
  have hlt := hb.bag.lt
  clear hb
  go_enter Try.func65, Try.ntmps65
  go_wp2_with (at_builtin; refine wpList_push (α := Hdr) w [.slice x.a x.n x.c] 52 rfl (.tmp 8) (.tmp 10) 79 rfl (gb + 1) 52 i0 _ 24 Try.underlying79 HI0.out HZ.out HZ1.out HZ2.out rfl (by decide) (fun _ => False) (fun _ => False) bi.v hi x rfl HB.out.oi w.heap.size rfl rfl rfl (fun _ h => h) (fun _ _ h => h) (fun _ h => h.elim) (by omega) (by omega) (by omega) ?_; intro v' w' ho1 hgr h5; obtain ⟨a', c', rfl⟩ := ho1.form; have hkb := (fun b (hl : b < w.heap.size) (hne : bi.v.ownBlock ≠ some b) => show w'.heap[b]? = w.heap[b]? from (hgr.block b (by simp; omega) (fun e => hne e.symm)).trans (Below.heap_alloc w _ b hl)); have hbg := HB.out.bag.keep (hkb gb hlt (fun e => by have := (HB.out.oi.below_ gb e).1; omega)); have hc2 := hbg.c2; have hf2 := hbg.fz 2; have hl2 := hbg.lt; have HBG := hide hbg; have HO1 := hide ho1; have HGR := hide hgr; have HKB := hide hkb; have H5 := hide h5; clear hbg ho1 hgr h5 hkb)
  have HO2 : OwnL w' (gb + 1) 52 (fun _ => False) (.slice a' (hi.length + 1) c') (hi ++ [x]) := by
    have h := HO1.out
    rw [List.length_append] at h
    exact h
  have hsz : w.heap.size ≤ w'.heap.size := by have := HGR.out.size; simp at this; omega
  go_end0
  refine ⟨rfl, ⟨a', _, c'⟩, ⟨HBG.out.set2 _, HO2.setCell (p := ⟨gb, 2, none⟩) (fun h => h) (fun e => by have := (HO2.below_ gb e).1; omega) _, ?_, ?_⟩, ?_⟩
  · exact (HB.out.or.keep hsz (fun _ hf => hf.elim) fun b e => HKB.out b (HB.out.or.below_ b e).2 (fun e2 => HB.out.ne b e2 e)).setCell (p := ⟨gb, 2, none⟩) (fun h => h) (fun e => by have := (HB.out.or.below_ gb e).1; omega) _
  · intro g hg e
    have h5 := H5.out
    have hl := (HB.out.or.below_ g e).2
    rw [List.length_append] at h5
    rcases h5 with h5 | h5
    · exact HB.out.ne g (h5.symm.trans hg) e
    · have h6 : some g = some (w.heap.size + 1) := (Eq.symm hg).trans h5
      injection h6 with h6
      omega
  have h1 : Below gb w (w.alloc (.cells #[.slice x.a x.n x.c] 52)) := (Below.refl _ _).alloc (by omega) _
  exact (h1.grown HGR.out (by simp; omega) (fun g e => by have := (HB.out.oi.below_ g e).1; omega)).setCell (Nat.le_refl _) _
set_option maxRecDepth 100000 in
set_option maxHeartbeats 8000000 in
theorem oneInsS_any (w : World) (gb : Nat) (bi br : Hdr) (hi hr : List Hdr) (hb : BagS w gb bi br hi hr) (hn : hi.length ≤ 1000) (v0 v1 v2 v3 v4 v5 v7 : Int) :
    Calls Try.prog 45 #[.pointer (some ⟨gb, 0, none⟩), .agg #[.int .i64 v0, .int .i64 v1, .int .i64 v2, .int .i64 v3, .int .i64 v4, .int .i64 v5, .slice none 0 0, .int .i64 v7]] w (fun e w' => e = .returned (.tuple #[]) ∧ ∃ bi' : Hdr, BagS w' gb bi' br (hi ++ [nilH]) hr ∧ Below gb w w') := by
  have hlt := hb.bag.lt
  have HPI := hide (fun o => putIntsS_any (w.alloc o) gb bi br nilH hi hr (hb.belowAll ((Below.refl _ _).alloc (Nat.le_refl _) _)) hn)
  clear hb
  go_enter Try.func45, Try.ntmps45
  go_wp2_with (go_at_call 65; (with_reducible refine (HPI.out _).mono ?_); rintro e w2 ⟨rfl, bi2, hb2, hbw2⟩; have H2 := hide hb2; have H3 := hide hbw2; clear hb2 hbw2)
  go_end0
  exact ⟨rfl, bi2, H2.out, ((Below.refl _ _).alloc (by omega) _).trans H3.out⟩
set_option maxRecDepth 100000 in
set_option maxHeartbeats 8000000 in
theorem putRowS_any (w : World) (gb : Nat) (bi br x : Hdr) (hi hr : List Hdr) (xs : List Ins) (hb : BagS w gb bi br hi hr) (hx : @Sl Ins repInsN w (fun b => b < gb) x.a x.n x.c xs) (hn : hi.length + x.n ≤ 1000) (hrn : hr.length ≤ 1000) :
    Calls Try.prog 35 #[.pointer (some ⟨gb, 0, none⟩), .slice x.a x.n x.c] w (fun e w' => e = .returned (.tuple #[]) ∧ ∃ bi' br' : Hdr, BagS w' gb bi' br' (hi ++ List.replicate x.n nilH) (hr ++ [x]) ∧ Below gb w w') := by
  obtain ⟨i0, hi0, hz, hz1, hz2⟩ := info_parts info_sRow
  have HI0 := hide hi0; have HZ := hide hz; have HZ1 := hide hz1; have HZ2 := hide hz2
  clear hi0 hz hz1 hz2
  have HB := hide hb; have HX := hide hx
  have hc := hb.bag.c7
  have hlt := hb.bag.lt
  clear hb hx
  obtain ⟨xa, xn, xc⟩ := x
  simp only at hn HX
  go_enter Try.func35, Try.ntmps35
  go_wp2_with (at_builtin; refine wpList_push (α := Hdr) w [.slice xa xn xc] 24 rfl (.tmp 9) (.tmp 11) 44 rfl (gb + 1) 24 i0 _ 24 Try.underlying44 HI0.out HZ.out HZ1.out HZ2.out rfl (by decide) (fun _ => False) (fun _ => False) br.v hr ⟨xa, xn, xc⟩ rfl HB.out.or w.heap.size rfl rfl rfl (fun _ h => h) (fun _ _ h => h) (fun _ h => h.elim) (by omega) (by omega) (by omega) ?_; intro v' w' ho1 hgr h5; obtain ⟨a', c', rfl⟩ := ho1.form; have hkb := (fun b (hl : b < w.heap.size) (hne : br.v.ownBlock ≠ some b) => show w'.heap[b]? = w.heap[b]? from (hgr.block b (by simp; omega) (fun e => hne e.symm)).trans (Below.heap_alloc w _ b hl)); have hbg := HB.out.bag.keep (hkb gb hlt (fun e => by have := (HB.out.or.below_ gb e).1; omega)); have hc2 := hbg.c7; have hf2 := hbg.fz 7; have hl2 := hbg.lt; have HBG := hide hbg; have HO1 := hide ho1; have HGR := hide hgr; have HKB := hide hkb; have H5 := hide h5; clear hbg ho1 hgr h5 hkb; refine Hd.out ?_)
  have HO2 : OwnL w' (gb + 1) 24 (fun _ => False) (.slice a' (hr.length + 1) c') (hr ++ [⟨xa, xn, xc⟩]) := by
    have h := HO1.out
    rw [List.length_append] at h
    exact h
  have hsz : w.heap.size ≤ w'.heap.size := by have := HGR.out.size; simp at this; omega
  obtain ⟨W, hW⟩ : ∃ W, w'.setCell ⟨gb, 7, none⟩ (.slice a' (hr.length + 1) c') = W := ⟨_, rfl⟩
  have HBS := hide (show BagS W gb bi ⟨a', hr.length + 1, c'⟩ (hi ++ List.replicate 0 nilH) (hr ++ [⟨xa, xn, xc⟩]) by
    rw [← hW, List.replicate_zero, List.append_nil]
    refine ⟨HBG.out.set7 _, (HB.out.oi.keep hsz (fun _ hf => hf.elim) fun b e => HKB.out b (HB.out.oi.below_ b e).2 (fun e2 => HB.out.ne b e e2)).setCell (p := ⟨gb, 7, none⟩) (fun h => h) (fun e => by have := (HB.out.oi.below_ gb e).1; omega) _, HO2.setCell (p := ⟨gb, 7, none⟩) (fun h => h) (fun e => by have := (HO2.below_ gb e).1; omega) _, ?_⟩
    intro g hg e
    have h5 := H5.out
    have hl := (HB.out.oi.below_ g hg).2
    rw [List.length_append] at h5
    rcases h5 with h5 | h5
    · exact HB.out.ne g hg (h5.symm.trans e)
    · have h6 : some g = some (w.heap.size + 1) := (Eq.symm e).trans h5
      injection h6 with h6
      omega)
  have HBW := hide (show Below gb w W by
    rw [← hW]
    have h1 : Below gb w (w.alloc (.cells #[.slice xa xn xc] 24)) := (Below.refl _ _).alloc (by omega) _
    exact (h1.grown HGR.out (by simp; omega) (fun g e => by have := (HB.out.or.below_ g e).1; omega)).setCell (Nat.le_refl _) _)
  have HXN := hide (show xs.length = xn from HX.out.len)
  clear HO2 HB hsz
  refine hide ?_
  go_wp2_with fail
  try rw [show w'.setCell ⟨gb, 7, none⟩ (.slice a' (List.length (hr ++ [⟨xa, xn, xc⟩])) c') = W by rw [List.length_append]; exact hW]
  try rw [hW]
  have HWQ := hide hW
  clear hW HBG HO1 HGR HKB H5 hc2 hf2 hl2 hc
  go_loopw [4] (fun i wr => ∃ (k : Nat) (bi : Hdr), k ≤ xn ∧ i = .int .i64 k ∧ BagS wr gb bi ⟨a', hr.length + 1, c'⟩ (hi ++ List.replicate k nilH) (hr ++ [⟨xa, xn, xc⟩]) ∧ Below gb w wr) (fun i _ => xn - (intOf i).toNat)
  case atStart => exact ⟨0, bi, Nat.zero_le _, rfl, HBS.out, HBW.out⟩
  case round =>
    obtain ⟨k, bi1, hk, rfl, hbs, hbw⟩ := hrel
    have HBS1 := hide hbs; have HBW1 := hide hbw
    have hsz := hbw.size
    by_cases hlt2 : k < xn
    · have hxw := (HX.out.keep hbw.size fun b hb _ => hbw.block b hb)
      obtain ⟨b, off, z, rfl, hb, hz, d0, d1, d2, d3, d4, d5, d6, d7⟩ := at_InsN8 hxw hlt2
      have HON := hide (oneInsS_any wr gb bi1 ⟨a', hr.length + 1, c'⟩ (hi ++ List.replicate k nilH) (hr ++ [⟨some ⟨b, off, none⟩, xn, xc⟩]) hbs (by rw [List.length_append, List.length_replicate]; omega))
      clear hbs hbw hxw hz
      have hki : (k : Int) < xn := by omega
      go_wp2_with (go_at_call 45; (with_reducible refine (HON.out _ _ _ _ _ _ _).mono ?_); rintro e w2 ⟨rfl, bi2, hb2, hbw2⟩; have H2 := hide hb2; have H3 := hide hbw2; clear hb2 hbw2 d0 d1 d2 d3 d4 d5 d6 d7)
      go_roundw
      case rel => exact ⟨k + 1, bi2, by omega, by go_num, by rw [List.replicate_succ', ← List.append_assoc]; exact H2.out, HBW1.out.trans H3.out⟩
      case measure => simp [intOf]; omega
    · have hkn : k = xn := by omega
      subst hkn
      clear hbs hbw
      go_wp2_with fail
      go_end0
      exact ⟨rfl, bi1, _, HBS1.out, HBW1.out⟩

/-- Lists of no numbers. -/
theorem flatInts_nils (w : World) (A : Option Addr) (m c : Nat) (h : Sl w (fun _ => True) A m c (List.replicate m nilH)) (hm : m ≤ 1000) :
    Calls Try.prog 48 #[.slice A m c] w (fun e w' => e = .returned (.bool true) ∧ Below w.heap.size w w') := by
  have hn : ∀ (k : Nat) (h : Hdr), (List.replicate m nilH)[k]? = some h → h = nilH := fun k h hk => by
    rw [List.getElem?_replicate] at hk
    split at hk
    · injection hk with hk; exact hk.symm
    · cases hk
  refine (flatInts_any w w.heap.size (fun b => b < w.heap.size) A m c (List.replicate m nilH) (fun _ => []) ⟨h.more fun b hb _ => hb, ⟨fun k h hk => by rw [hn k h hk]; exact OwnL.nil_ _ _ _ _, fun j k x y g hj _ _ hg => (by rw [hn j x hj] at hg; cases hg)⟩, fun k h g hk hg => (by rw [hn k h hk] at hg; cases hg), Below.refl _ _, fun b hb => hb, fun _ _ => rfl⟩ (Nat.le_refl _) hm (fun k h hk => by rw [hn k h hk]; exact Nat.zero_le _)).mono ?_
  rintro e w' ⟨h1, h2, _⟩
  exact ⟨h1, h2⟩

set_option maxRecDepth 100000 in
set_option maxHeartbeats 16000000 in
theorem apartS_any (w : World) (gb B : Nat) (S : Nat → Prop) (bi br : Hdr) (m : Nat) (hs : List Hdr) (f : Nat → List Ins) (hb : BagS w gb bi br (List.replicate m nilH) hs) (hS : S gb) (hF : @FlatR w w B S br.a br.n br.c hs f) (hB : B ≤ w.heap.size) (hmm : m ≤ 1000) (hn : br.n ≤ 1000) (hm : ∀ (k : Nat) (h : Hdr), hs[k]? = some h → h.n ≤ 1000000) :
    Calls Try.prog 36 #[.pointer (some ⟨gb, 0, none⟩)] w (fun e w' => e = .returned (.bool true) ∧ Below B w w') := by
  have hbi : bi.n = m := by
    obtain ⟨_, _, e⟩ := hb.oi.form
    injection e with _ e _
    rw [e, List.length_replicate]
  have HBG := hide hb.bag; have HSG := hide hS
  have hc0 := hb.bag.c0
  have hl0 := hb.bag.lt
  have HLT := hide hl0
  have HFI := hide (fun (W : World) (hw : Below w.heap.size w W) => show Calls Try.prog 48 #[.slice bi.a bi.n bi.c] W _ from flatInts_nils W bi.a bi.n bi.c (by
    have h := (hb.belowAll hw).oi
    rw [← hbi] at h
    exact h.sl fun _ _ _ => trivial) (by omega))
  have HFR := hide (fun (W : World) (hw : Below w.heap.size w W) => show Calls Try.prog 53 #[.slice br.a br.n br.c] W _ from flatRow_any W B S br.a br.n br.c hs f (by
    have h0 := hF.belowAll hB hw
    exact ⟨h0.ls, h0.rows, h0.nS, Below.refl _ _, fun b hb => by have := hF.Sb b hb; have := hw.size; omega, fun _ _ => rfl⟩) (by have := hw.size; omega) hn hm)
  have HBW := hide hB
  clear hb hS hF hn hm hbi hmm
  go_enter Try.func36, Try.ntmps36
  go_wp2_with (first
    | (go_at_call 46; (with_reducible refine (flatLimbs_nil _).mono ?_); rintro e X0 ⟨rfl, u0, hx0⟩; have hw0 : Below w.heap.size w X0 := (by rw [hx0]; exact Below.of_ext w u0 (Nat.le_refl _)); have hB0 := HBG.out.keep (hw0.block gb HLT.out); have hc1 := hB0.c1; have hl1 := hB0.lt; have HW0 := hide hw0; clear hB0 hw0 hx0 hc0 hl0)
    | (go_at_call 47; (with_reducible refine (flatWords_nil _).mono ?_); rintro e X1 ⟨rfl, u1, hx1⟩; have hw1 : Below w.heap.size w X1 := (by rw [hx1]; exact HW0.out.trans (Below.of_ext X0 u1 HW0.out.size)); have hB1 := HBG.out.keep (hw1.block gb HLT.out); have hc2 := hB1.c2; have hl2 := hB1.lt; have HW1 := hide hw1; clear hB1 hw1 hx1 hc1 hl1)
    | (go_at_call 48; (with_reducible refine (HFI.out _ HW1.out).mono ?_); rintro e X2 ⟨rfl, hx2⟩; have hw2 : Below w.heap.size w X2 := HW1.out.trans (hx2.mono HW1.out.size); have hB2 := HBG.out.keep (hw2.block gb HLT.out); have hc3 := hB2.c3; have hl3 := hB2.lt; have HW2 := hide hw2; clear hB2 hw2 hx2 hc2 hl2)
    | (go_at_call 49; (with_reducible refine (flatLongs_nil _).mono ?_); rintro e X3 ⟨rfl, u3, hx3⟩; have hw3 : Below w.heap.size w X3 := (by rw [hx3]; exact HW2.out.trans (Below.of_ext X2 u3 HW2.out.size)); have hB3 := HBG.out.keep (hw3.block gb HLT.out); have hc4 := hB3.c4; have hl4 := hB3.lt; have HW3 := hide hw3; clear hB3 hw3 hx3 hc3 hl3)
    | (go_at_call 50; (with_reducible refine (flatTexts_nil _).mono ?_); rintro e X4 ⟨rfl, u4, hx4⟩; have hw4 : Below w.heap.size w X4 := (by rw [hx4]; exact HW3.out.trans (Below.of_ext X3 u4 HW3.out.size)); have hB4 := HBG.out.keep (hw4.block gb HLT.out); have hc5 := hB4.c5; have hl5 := hB4.lt; have HW4 := hide hw4; clear hB4 hw4 hx4 hc4 hl4)
    | (go_at_call 51; (with_reducible refine (flatBytes_nil _).mono ?_); rintro e X5 ⟨rfl, u5, hx5⟩; have hw5 : Below w.heap.size w X5 := (by rw [hx5]; exact HW4.out.trans (Below.of_ext X4 u5 HW4.out.size)); have hB5 := HBG.out.keep (hw5.block gb HLT.out); have hc6 := hB5.c6; have hl6 := hB5.lt; have HW5 := hide hw5; clear hB5 hw5 hx5 hc5 hl5)
    | (go_at_call 52; (with_reducible refine (flatTruths_nil _).mono ?_); rintro e X6 ⟨rfl, u6, hx6⟩; have hw6 : Below w.heap.size w X6 := (by rw [hx6]; exact HW5.out.trans (Below.of_ext X5 u6 HW5.out.size)); have hB6 := HBG.out.keep (hw6.block gb HLT.out); have hc7 := hB6.c7; have hl7 := hB6.lt; have HW6 := hide hw6; clear hB6 hw6 hx6 hc6 hl6)
    | (go_at_call 53; (with_reducible refine (HFR.out _ HW6.out).mono ?_); rintro e X7 ⟨rfl, hx7, hk7⟩; have hw7 : Below B w X7 := (HW6.out.mono HBW.out).trans hx7; have hB7 : BagR X7 gb bi.v br.v := (HBG.out.keep (HW6.out.block gb HLT.out)).keep (hk7 gb HSG.out); have HBG7 := hide hB7; have hc8 := hB7.c8; have hl8 := hB7.lt; have HW7 := hide hw7; clear hB7 hw7 hx7 hk7 hc7 hl7)
    | (go_at_call 54; (with_reducible refine (flatBlocks_nil _).mono ?_); rintro e X8 ⟨rfl, u8, hx8⟩; have hw8 : Below B w X8 := (by rw [hx8]; exact HW7.out.trans (Below.of_ext X7 u8 (Nat.le_trans HBW.out HW7.out.size))); have hB8 : BagR X8 gb bi.v br.v := (by rw [hx8]; exact HBG7.out.keep ((Below.of_ext X7 u8 (Nat.le_refl _)).block gb HBG7.out.lt)); have HBG8 := hide hB8; have hc9 := hB8.c9; have hl9 := hB8.lt; have HW8 := hide hw8; clear hB8 hw8 hx8 hc8 hl8)
    | (go_at_call 55; (with_reducible refine (flatFuncs_nil _).mono ?_); rintro e X9 ⟨rfl, u9, hx9⟩; have hw9 : Below B w X9 := (by rw [hx9]; exact HW8.out.trans (Below.of_ext X8 u9 (Nat.le_trans HBW.out HW8.out.size))); have hB9 : BagR X9 gb bi.v br.v := (by rw [hx9]; exact HBG8.out.keep ((Below.of_ext X8 u9 (Nat.le_refl _)).block gb HBG8.out.lt)); have HBG9 := hide hB9; have hc10 := hB9.c10; have hl10 := hB9.lt; have HW9 := hide hw9; clear hB9 hw9 hx9 hc9 hl9)
    | (go_at_call 56; (with_reducible refine (flatTargets_nil _).mono ?_); rintro e X10 ⟨rfl, u10, hx10⟩; have hw10 : Below B w X10 := (by rw [hx10]; exact HW9.out.trans (Below.of_ext X9 u10 (Nat.le_trans HBW.out HW9.out.size))); have hB10 : BagR X10 gb bi.v br.v := (by rw [hx10]; exact HBG9.out.keep ((Below.of_ext X9 u10 (Nat.le_refl _)).block gb HBG9.out.lt)); have HBG10 := hide hB10; have hc11 := hB10.c11; have hl11 := hB10.lt; have HW10 := hide hw10; clear hB10 hw10 hx10 hc10 hl10)
    | (go_at_call 57; (with_reducible refine (flatMachines_nil _).mono ?_); rintro e X11 ⟨rfl, u11, hx11⟩; have hw11 : Below B w X11 := (by rw [hx11]; exact HW10.out.trans (Below.of_ext X10 u11 (Nat.le_trans HBW.out HW10.out.size))); have hB11 : BagR X11 gb bi.v br.v := (by rw [hx11]; exact HBG10.out.keep ((Below.of_ext X10 u11 (Nat.le_refl _)).block gb HBG10.out.lt)); have HBG11 := hide hB11; have hc12 := hB11.c12; have hl12 := hB11.lt; have HW11 := hide hw11; clear hB11 hw11 hx11 hc11 hl11)
    | (go_at_call 58; (with_reducible refine (flatLocs_nil _).mono ?_); rintro e X12 ⟨rfl, u12, hx12⟩; have hw12 : Below B w X12 := (by rw [hx12]; exact HW11.out.trans (Below.of_ext X11 u12 (Nat.le_trans HBW.out HW11.out.size))); have hB12 : BagR X12 gb bi.v br.v := (by rw [hx12]; exact HBG11.out.keep ((Below.of_ext X11 u12 (Nat.le_refl _)).block gb HBG11.out.lt)); have HBG12 := hide hB12; have hc13 := hB12.c13; have hl13 := hB12.lt; have HW12 := hide hw12; clear hB12 hw12 hx12 hc12 hl12)
    | (go_at_call 59; (with_reducible refine (flatFacts_nil _).mono ?_); rintro e X13 ⟨rfl, u13, hx13⟩; have hw13 : Below B w X13 := (by rw [hx13]; exact HW12.out.trans (Below.of_ext X12 u13 (Nat.le_trans HBW.out HW12.out.size))); have hB13 : BagR X13 gb bi.v br.v := (by rw [hx13]; exact HBG12.out.keep ((Below.of_ext X12 u13 (Nat.le_refl _)).block gb HBG12.out.lt)); have HBG13 := hide hB13; have hc14 := hB13.c14; have hl14 := hB13.lt; have HW13 := hide hw13; clear hB13 hw13 hx13 hc13 hl13)
    | (go_at_call 60; (with_reducible refine (flatEdges_nil _).mono ?_); rintro e X14 ⟨rfl, u14, hx14⟩; have hw14 : Below B w X14 := (by rw [hx14]; exact HW13.out.trans (Below.of_ext X13 u14 (Nat.le_trans HBW.out HW13.out.size))); have hB14 : BagR X14 gb bi.v br.v := (by rw [hx14]; exact HBG13.out.keep ((Below.of_ext X13 u14 (Nat.le_refl _)).block gb HBG13.out.lt)); have HBG14 := hide hB14; have hc15 := hB14.c15; have hl15 := hB14.lt; have HW14 := hide hw14; clear hB14 hw14 hx14 hc14 hl14)
    | (go_at_call 61; (with_reducible refine (flatTiles_nil _).mono ?_); rintro e X15 ⟨rfl, u15, hx15⟩; have hw15 : Below B w X15 := (by rw [hx15]; exact HW14.out.trans (Below.of_ext X14 u15 (Nat.le_trans HBW.out HW14.out.size))); have hB15 : BagR X15 gb bi.v br.v := (by rw [hx15]; exact HBG14.out.keep ((Below.of_ext X14 u15 (Nat.le_refl _)).block gb HBG14.out.lt)); have HBG15 := hide hB15; have hc16 := hB15.c16; have hl16 := hB15.lt; have HW15 := hide hw15; clear hB15 hw15 hx15 hc15 hl15)
    | (go_at_call 62; (with_reducible refine (flatCalls_nil _).mono ?_); rintro e X16 ⟨rfl, u16, hx16⟩))
  go_ret
  refine ⟨rfl, ?_⟩
  rw [← hx16]
  rw [hx16]
  exact HW15.out.trans (Below.of_ext X15 u16 (Nat.le_trans HBW.out HW15.out.size))
set_option maxRecDepth 100000 in
set_option maxHeartbeats 800000 in
theorem apartRow_any (w : World) (B : Nat) (S : Nat → Prop) (A : Option Addr) (n c : Nat) (hs : List Hdr) (f : Nat → List Ins) (hF : @FlatR w w B S A n c hs f) (hB : B ≤ w.heap.size) (hn : n ≤ 2) (hm : ∀ (k : Nat) (h : Hdr), hs[k]? = some h → h.n ≤ 400) :
    Calls Try.prog 19 #[.slice A n c] w (fun e w' => e = .returned (.bool true) ∧ Below B w w') := by
  have HF := hide hF; have HM := hide hm
  have HL := hide hF.ls.len
  clear hm hF
  obtain ⟨gb, hgb⟩ : ∃ gb, w.heap.size = gb := ⟨_, rfl⟩
  obtain ⟨X, hX⟩ : ∃ X, w.alloc (.cells #[.slice none 0 0, .slice none 0 0, .slice none 0 0, .slice none 0 0, .slice none 0 0, .slice none 0 0, .slice none 0 0, .slice none 0 0, .slice none 0 0, .slice none 0 0, .slice none 0 0, .slice none 0 0, .slice none 0 0, .slice none 0 0, .slice none 0 0, .slice none 0 0, .slice none 0 0] 94) = X := ⟨_, rfl⟩
  have HBX := hide (show Below gb w X by rw [← hX, ← hgb]; exact (Below.refl _ _).alloc (Nat.le_refl _) _)
  have HSX := hide (show X.heap.size = gb + 1 by rw [← hX, ← hgb]; simp)
  have HGB := hide hgb
  have HBG := hide (show BagS X gb nilH nilH (List.replicate 0 nilH) (hs.take 0) from ⟨by rw [← hX, ← hgb]; exact heap_alloc_new w _, OwnL.nil_ X (gb + 1) 52 (fun _ => False), OwnL.nil_ X (gb + 1) 24 (fun _ => False), fun g hg => by cases hg⟩)
  go_enter Try.func19, Try.ntmps19
  go_wp2_with fail
  clear hgb
  have HXQ := hide hX
  clear hX
  go_loopw [4] (fun a wr => ∃ (k m : Nat) (bi br : Hdr), a = .int .i64 k ∧ k ≤ n ∧ m ≤ k * 400 ∧ BagS wr gb bi br (List.replicate m nilH) (hs.take k) ∧ Below gb w wr) (fun a _ => n - (intOf a).toNat)
  case atStart => exact ⟨0, 0, nilH, nilH, rfl, Nat.zero_le _, Nat.zero_le _, HBG.out, HBX.out⟩
  case round =>
    obtain ⟨k, m, bi, br, rfl, hk, hmk, hbs, hbw⟩ := hrel
    have hFw : FlatR w wr B S A n c hs f := HF.out.belowAll hB (HGB.out.symm ▸ hbw)
    have hlb : gb < wr.heap.size := hbs.bag.lt
    by_cases hlt : k < n
    · obtain ⟨b, off, h, hA, hb, hSb, hh, hc⟩ := at_hdr hFw.ls hlt
      subst hA
      have HH := hide hh
      have hhm := HM.out k h hh
      have HPI := hide (putRowS_any wr gb bi br h (List.replicate m nilH) (hs.take k) (f k) hbs (by
        have hs0 : Sl w (fun b => b < gb) h.a h.n h.c (f k) := (HF.out.rows.own k h hh).sl (fun b hb _ => by have := HGB.out; omega)
        exact hs0.keep (by have := hbw.size; omega) (fun b hb _ => hbw.block b hb)) (by rw [List.length_replicate]; omega) (by rw [List.length_take]; omega))
      have HBW := hide hbw
      clear hFw hbs hbw hh hhm
      go_wp2_with (go_at_call 35; (with_reducible refine HPI.out.mono ?_); rintro e w2 ⟨rfl, bi2, br2, hbs2, hbw2⟩; have H2 := hide (show BagS w2 gb bi2 br2 (List.replicate (m + h.n) nilH) (hs.take (k + 1)) by rw [List.take_add_one, HH.out, ← List.replicate_append_replicate]; exact hbs2); have H3 := hide (HBW.out.trans hbw2); clear hbs2 hbw2)
      clear hc hb hlb
      go_roundw
      case rel => exact ⟨k + 1, m + h.n, bi2, br2, by go_num, by omega, by have := HM.out k h HH.out; omega, H2.out, H3.out⟩
      case measure => simp [intOf]; omega
    · have hkn : k = n := by omega
      subst hkn
      have hlm : (hs.take k) = hs := List.take_of_length_le (by rw [HL.out]; exact Nat.le_refl _)
      rw [hlm] at hbs
      have hbrn : br.n = k := by
        obtain ⟨_, _, e⟩ := hbs.or.form
        injection e with _ e _
        rw [e, HL.out]
      have HAP := hide (apartS_any wr gb B (fun b => gb ≤ b ∧ b < wr.heap.size) bi br m hs f hbs ⟨Nat.le_refl _, hlb⟩ ⟨by
          have h := hbs.or
          rw [← hbrn.trans HL.out.symm] at *
          exact h.sl (fun b hb h => by rcases h with h | h; exact h.elim; exact ⟨by omega, hb⟩), hFw.rows, fun j x g hj hg hs => by have := (HF.out.rows.lt hj hg).2; have := HGB.out; omega, Below.refl _ _, fun b h => h.2, fun _ _ => rfl⟩ (by have := HGB.out; omega) (by omega) (by omega) (fun k h hk => by have := HM.out k h hk; omega))
      have HBW := hide (hbw.mono (show B ≤ gb by have := HGB.out; omega))
      clear hFw hbs hbw hlm hbrn
      go_wp2_with (go_at_call 36; (with_reducible refine HAP.out.mono ?_); rintro e w2 ⟨rfl, hb2⟩)
      go_ret
      exact ⟨rfl, HBW.out.trans hb2⟩
end Go.Proofs.Ytoghikagooegbaa
