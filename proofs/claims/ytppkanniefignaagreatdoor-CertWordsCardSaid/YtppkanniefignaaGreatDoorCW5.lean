/- law28: walks: CertWords. -/
import Derived.Test.YtppkanniefignaaGreatDoorG41
import Derived.Test.YtppkanniefignaaGreatDoorG42
import Derived.Test.YtppkanniefignaaGreatDoorG39
import Derived.Test.YtppkanniefignaaGreatDoorP28z
import Derived.BigQuiet
set_option linter.unusedSimpArgs false
set_option linter.unusedVariables false
namespace Go.Proofs.YtppkanniefignaaGreatDoor
open Go.RowKit Go.Maps
theorem ends_at {W : World} {g p : Nat} (h : W.heap[g]? = some (.cells #[.int .i64 (-65), .int .i64 (-64), .int .i64 (-1), .int .i64 0, .int .i64 1, .int .i64 63, .int .i64 64, .int .i64 199, .int .i64 200, .int .i64 201, .int .i64 399, .int .i64 400] 3 (0, 0))) (hp : p < 12) : ∃ a : Int, W.cell? ⟨g, p, none⟩ = some (.int .i64 a) ∧ -65 ≤ a ∧ a ≤ 400 := by
 have hc := fun v (h1 : (#[Value.int .i64 (-65), .int .i64 (-64), .int .i64 (-1), .int .i64 0, .int .i64 1, .int .i64 63, .int .i64 64, .int .i64 199, .int .i64 200, .int .i64 201, .int .i64 399, .int .i64 400] : Array Value)[p]? = some v) => (cell_of_row W g p _ _ (0, 0) h).trans h1
 match p, hp with
 | 0, _ => exact ⟨_, hc _ rfl, by decide, by decide⟩
 | 1, _ => exact ⟨_, hc _ rfl, by decide, by decide⟩
 | 2, _ => exact ⟨_, hc _ rfl, by decide, by decide⟩
 | 3, _ => exact ⟨_, hc _ rfl, by decide, by decide⟩
 | 4, _ => exact ⟨_, hc _ rfl, by decide, by decide⟩
 | 5, _ => exact ⟨_, hc _ rfl, by decide, by decide⟩
 | 6, _ => exact ⟨_, hc _ rfl, by decide, by decide⟩
 | 7, _ => exact ⟨_, hc _ rfl, by decide, by decide⟩
 | 8, _ => exact ⟨_, hc _ rfl, by decide, by decide⟩
 | 9, _ => exact ⟨_, hc _ rfl, by decide, by decide⟩
 | 10, _ => exact ⟨_, hc _ rfl, by decide, by decide⟩
 | 11, _ => exact ⟨_, hc _ rfl, by decide, by decide⟩
def lits28 : List ByteArray := [⟨#[118, 48]⟩, ⟨#[118, 50, 48, 49]⟩, ⟨#[118, 48, 49]⟩, ⟨#[104, 54, 52]⟩, ⟨#[104, 45, 49]⟩, ⟨#[114, 54, 52]⟩, ⟨#[115, 52, 48, 48]⟩, ⟨#[114, 48]⟩, ⟨#[115, 48]⟩, ⟨#[118, 49]⟩, ⟨#[104, 48]⟩, ⟨#[108, 111, 111, 112]⟩, ⟨#[116, 105, 108, 101]⟩, ⟨#[101, 100, 103, 101]⟩, ⟨#[61]⟩, ⟨#[44]⟩, ⟨#[58]⟩, ⟨#[50, 48, 48]⟩, ⟨#[45, 50]⟩, ⟨#[48, 48, 55]⟩, ⟨#[10]⟩, ⟨#[59, 32, 120, 32, 10]⟩]
theorem lits_at (W : World) {p : Nat} (hp : p < 22) : ∃ s : ByteArray, s.size ≤ 16 ∧ (W.alloc (.cells #[.string ⟨#[118, 48]⟩, .string ⟨#[118, 50, 48, 49]⟩, .string ⟨#[118, 48, 49]⟩, .string ⟨#[104, 54, 52]⟩, .string ⟨#[104, 45, 49]⟩, .string ⟨#[114, 54, 52]⟩, .string ⟨#[115, 52, 48, 48]⟩, .string ⟨#[114, 48]⟩, .string ⟨#[115, 48]⟩, .string ⟨#[118, 49]⟩, .string ⟨#[104, 48]⟩, .string ⟨#[108, 111, 111, 112]⟩, .string ⟨#[116, 105, 108, 101]⟩, .string ⟨#[101, 100, 103, 101]⟩, .string ⟨#[61]⟩, .string ⟨#[44]⟩, .string ⟨#[58]⟩, .string ⟨#[50, 48, 48]⟩, .string ⟨#[45, 50]⟩, .string ⟨#[48, 48, 55]⟩, .string ⟨#[10]⟩, .string ⟨#[59, 32, 120, 32, 10]⟩] 9)).cell? ⟨W.heap.size, p, none⟩ = some (.string s) := by
 have hl : ∀ x ∈ lits28, x.size ≤ 16 := by decide
 have hlen : lits28.length = 22 := rfl
 refine ⟨lits28[p]'(by omega), hl _ (List.getElem_mem _), ?_⟩
 have h := World.cell?_alloc_new W (lits28.map Value.string).toArray 9 p
 refine h.trans ?_
 simp [hlen, hp]
def CeP (x : Cert) : Post := fun v w => ∃ (A : Option Addr) (n a : Nat) (B : Option Addr) (m b : Nat), v = .agg #[.slice A n a, .slice B m b] ∧ Sl w (fun _ => True) A n a x.tiles ∧ Sl w (fun _ => True) B m b x.facts
theorem CeP.stable_ {F : World → Prop} {x : Cert} {mem : Bool} (hm : mem = true) : stable F mem (CeP x) :=
 stable_mem hm fun _ _ u ⟨A, n, a, B, m, b, hv, h1, h2⟩ => ⟨A, n, a, B, m, b, hv, h1.ext u, h2.ext u⟩
def TiP (t : Tile) : Post := fun v w => ∃ (A : Option Addr) (n a : Nat), v = .agg #[.int .i64 t.kind, .int .i64 t.parent, .slice A n a] ∧ Sl w (fun _ => True) A n a t.blocks
theorem TiP.stable_ {F : World → Prop} {t : Tile} {mem : Bool} (hm : mem = true) : stable F mem (TiP t) :=
 stable_mem hm fun _ _ u ⟨A, n, a, hv, h1⟩ => ⟨A, n, a, hv, h1.ext u⟩
set_option maxRecDepth 100000 in
set_option maxHeartbeats 32000000 in
theorem certWords_of (w : World) (hv : VarsQ w) (hmany : ∀ W, VarsP W → Calls Tryz.prog 27 #[] W (RetX (.bool true) W)) : Calls Tryz.prog 6 #[] w (RetX (.bool true) w) := by
 obtain ⟨ge, hge⟩ : ∃ g, w.heap.size = g := ⟨_, rfl⟩
 obtain ⟨W0, hW0⟩ : ∃ W, w.alloc (.cells #[.int .i64 (-65), .int .i64 (-64), .int .i64 (-1), .int .i64 0, .int .i64 1, .int .i64 63, .int .i64 64, .int .i64 199, .int .i64 200, .int .i64 201, .int .i64 399, .int .i64 400] 3) = W := ⟨_, rfl⟩
 have HB0 := hide (show Below w.heap.size w W0 by rw [← hW0]; exact (Below.refl _ _).alloc (Nat.le_refl _) _)
 have hr0 : W0.heap[ge]? = some (.cells #[.int .i64 (-65), .int .i64 (-64), .int .i64 (-1), .int .i64 0, .int .i64 1, .int .i64 63, .int .i64 64, .int .i64 199, .int .i64 200, .int .i64 201, .int .i64 399, .int .i64 400] 3 (0, 0)) := by rw [← hW0, ← hge]; exact heap_alloc_new w _
 have HR0 := hide hr0
 have HL0 := hide (Array.getElem?_eq_some_iff.1 hr0).1
 have HV0 := hide (show VarsQ W0 from hv.below HB0.out hv.p.v.sz)
 have HM := hide hmany
 have HSA := hide (fun (W : World) (n : Nat) (hn : n < 144) => sample28_any W n hn)
 clear hv hmany hr0
 go_enter Tryz.func6, Tryz.ntmps6
 go_wp2_with fail
 go_loopw [2] (fun i wr => ∃ k : Nat, k ≤ 144 ∧ i = .int .i64 k ∧ Below W0.heap.size W0 wr) (fun i _ => 144 - (intOf i).toNat)
 case atStart => exact ⟨0, by omega, rfl, Below.refl _ _⟩
 case round =>
  obtain ⟨k, hk, rfl, hbw⟩ := hrel
  have HBw := hide hbw
  have HVw := hide (show VarsQ wr from HV0.out.below hbw HV0.out.p.v.sz)
  by_cases hlt : k < 144
  ·have hki : (k : Int) < 144 := by omega
   have md : ∀ j : Nat, (k : Int).tmod (j : Int) = ((k % j : Nat) : Int) := fun j => by rw [Int.tmod_eq_emod_of_nonneg (by omega)]; rfl
   obtain ⟨p, hp⟩ : ∃ q, k % 12 = q := ⟨_, rfl⟩
   have ep : (k : Int).tmod 12 = (p : Int) := by rw [← hp]; exact md 12
   have lp : p < 12 := by omega
   have lpi : (p : Int) < 12 := by omega
   obtain ⟨q, hq⟩ : ∃ q, k / 12 = q := ⟨_, rfl⟩
   have eq : (k : Int).tdiv 12 = (q : Int) := by rw [← hq]; exact Int.tdiv_eq_ediv_of_nonneg (by omega)
   have lq : q < 12 := by omega
   have lqi : (q : Int) < 12 := by omega
   have wq : IntKind.i64.wrap (q : Int) = (q : Int) := IntWalk.i64_in _ (by omega)
   have hr1 := (hbw.block ge HL0.out).trans HR0.out
   have hge1 : ge < wr.heap.size := (Array.getElem?_eq_some_iff.1 hr1).1
   obtain ⟨a, c1, a1, a2⟩ := ends_at hr1 lp
   obtain ⟨b, c2, b1, b2⟩ := ends_at hr1 lq
   have HA := hide (And.intro a1 a2); have HBB := hide (And.intro b1 b2)
   obtain ⟨r2, hr2⟩ : ∃ q, k % 2 = q := ⟨_, rfl⟩
   have e2 : (k : Int).tmod 2 = (r2 : Int) := by rw [← hr2]; exact md 2
   obtain ⟨r3, hr3⟩ : ∃ q, k % 3 = q := ⟨_, rfl⟩
   have e3 : (k : Int).tmod 3 = (r3 : Int) := by rw [← hr3]; exact md 3
   obtain ⟨z2, hz2⟩ : ∃ z, ((r2 : Int) == 0) = z := ⟨_, rfl⟩
   obtain ⟨z3, hz3⟩ : ∃ z, ((r3 : Int) == 0) = z := ⟨_, rfl⟩
   clear hp hq hr1 a1 a2 b1 b2 hbw hr2 hr3
   go_wp2_with fail
   go_region
   obtain ⟨W1, hW1⟩ : ∃ W, wr.drew = W := ⟨_, rfl⟩
   have HB1 := hide (show Below wr.heap.size wr W1 by rw [← hW1]; exact (Below.refl _ _).drew)
   have HSW := hide (HSA.out W1 k hlt)
   rw [hW1]
   clear hW1
   go_wp2_with (go_at_call 23; (with_reducible refine HSW.out.mono ?_); rintro e V ⟨x, A, n, nc, B, m, mc, rfl, s1, s2, z1, z5, u1, hV⟩; have HBV := hide (show Below W1.heap.size W1 V by rw [hV]; exact Below.of_ext W1 u1 (Nat.le_refl _)); clear hV u1; refine Hd.out ?_)
   obtain ⟨gc, hgc⟩ : ∃ g, V.heap.size = g := ⟨_, rfl⟩
   obtain ⟨W2, hW2⟩ : ∃ W, V.alloc (.cells #[.slice A n nc, .slice B m mc] 26) = W := ⟨_, rfl⟩
   have hb12 : Below W1.heap.size W1 W2 := by rw [← hW2]; exact HBV.out.alloc HBV.out.size _
   have HB2 := hide (show Below wr.heap.size wr W2 from HB1.out.trans (hb12.mono HB1.out.size))
   have HV2 := hide (show VarsQ W2 from HVw.out.below HB2.out HVw.out.p.v.sz)
   have HS1 := hide (show Sl W2 (fun _ => True) A n nc x.tiles from by rw [← hW2]; exact s1.alloc _)
   have HS2 := hide (show Sl W2 (fun _ => True) B m mc x.facts from by rw [← hW2]; exact s2.alloc _)
   have hrc : W2.heap[gc]? = some (.cells #[.slice A n nc, .slice B m mc] 26 (0, 0)) := by rw [← hW2, ← hgc]; exact heap_alloc_new V _
   have HRC := hide hrc; have HLC := hide (Array.getElem?_eq_some_iff.1 hrc).1
   have HZ1 := hide (show ∀ t ∈ x.tiles, t.blocks.length ≤ 140737488355328 from fun t ht => by have := z1 t ht; omega)
   have HZ2 := hide (show ∀ l ∈ x.facts, l.length ≤ 140737488355328 from fun t ht => by have := z5 t ht; omega)
   have HW2 := hide hW2; have HGC := hide hgc
   clear s1 s2 z1 z5 hrc hgc hW2 hb12 HSW HBV
   have ia : InI a := by unfold InI; have := HA.out; omega
   have ib : InI b := by unfold InI; have := HBB.out; omega
   have HIA := hide ia; have HIB := hide ib
   have i1 : InI 1 ∧ InI 2 := by unfold InI; omega
   have HI1 := hide i1
   clear ia ib i1
   refine hide ?_
   go_upto_region 7 with fail
   rw [HW2.out]
   try rw [HGC.out]
   have cc0 : W2.cell? ⟨gc, 0, none⟩ = some (.slice A n nc) := cell_of_row W2 _ _ _ _ (0, 0) HRC.out
   have cc1 : W2.cell? ⟨gc, 1, none⟩ = some (.slice B m mc) := cell_of_row W2 _ _ _ _ (0, 0) HRC.out
   have ccl : gc < W2.heap.size := HLC.out
   have HC1 := hide (fun u : Ext => show Calls Tryz.prog 4 #[.agg #[.slice A n nc, .slice B m mc], .agg #[.int .i64 a, .bool z2, .int .i64 b], .agg #[.int .i64 b, .bool z3, .int .i64 a]] (W2.ext u) (RetX (.bool true) (W2.ext u)) from certPrints_any (W2.ext u) _ _ A B n nc m mc x ⟨a, ⟨z2, b⟩⟩ ⟨b, ⟨z3, a⟩⟩ (HS1.out.ext u) (HS2.out.ext u) HZ1.out HZ2.out ⟨HIA.out, HIB.out⟩ ⟨HIB.out, HIA.out⟩ (HV2.out.p.ext u))
   refine wp_region_flow_ext [] [22, 23, 24, 38, 39, 42, 43, 44, 45] (by kernel_rfl) rfl (by kernel_rfl) ?_
   repeat (refine flow_known (by kernel_rfl) (fun K hK => ?_); go_simp; (first | (refine hK _ ?_; clear hK K) | (apply Exists.intro; refine ⟨fun _ => ?_, hK _ ?_⟩; (first | (go_at_call 24; with_reducible exact fact28_mk _ _ _ _) | (go_at_call 4; with_reducible exact HC1.out _)); clear hK K)))
   refine flow_keep0 (FullP 1 [(⟨a, ⟨z2, b⟩⟩ : Fact)]) (by kernel_rfl) (FullP.stable_ rfl) ?_ ?_
   ·intro u
    go_simp
    exact ⟨FullP.lit (S := fun _ => True) rfl (by rw [size_ext]) (RepL.single (Fact.mk_ (x := ⟨a, ⟨z2, b⟩⟩) HIA.out HIB.out)) rfl (by decide), onW_alloc rfl ⟨_, rfl⟩⟩
   refine flow_keep [true] (FullP 1 [[(⟨a, ⟨z2, b⟩⟩ : Fact)]]) (by kernel_rfl) (FullP.stable_ rfl) ?_ ?_
   ·intro u
    try simp only [List.nil_append, List.cons_append, useH_f, useH_t, useH_nil]
    rintro _ ⟨S1, b1, rfl, hs1⟩
    go_simp
    exact ⟨FullP.lit (S := fun _ => True) rfl (by rw [size_ext]) (RepL.single ⟨_, _, _, rfl, hs1.more fun _ _ _ => trivial⟩) rfl (by decide), onW_alloc rfl ⟨_, rfl⟩⟩
   refine flow_keep [false, true] (CeP ⟨[], [[⟨a, ⟨z2, b⟩⟩]]⟩) (by kernel_rfl) (CeP.stable_ rfl) ?_ ?_
   ·intro u
    try simp only [List.nil_append, List.cons_append, useH_f, useH_t, useH_nil]
    rintro _ ⟨S1, b1, rfl, hs1⟩
    go_simp
    exact ⟨⟨_, _, _, _, _, _, rfl, Sl.nil, hs1.more fun _ _ _ => trivial⟩, onW_same ⟨_, rfl⟩⟩
   repeat (refine flow_known (by kernel_rfl) (fun K hK => ?_); go_simp; (first | (refine hK _ ?_; clear hK K) | (apply Exists.intro; refine ⟨fun _ => ?_, hK _ ?_⟩; ((go_at_call 24; with_reducible exact fact28_mk _ _ _ _)); clear hK K)))
   refine flow_out [false, false, true] (.bool true) (by kernel_rfl) ?_ ?_
   ·intro u
    try simp only [List.nil_append, List.cons_append, useH_f, useH_t, useH_nil]
    rintro _ ⟨A1, n1, c1, B1, m1, d1, rfl, h1, h2⟩
    go_simp
    exact certPrints_any (W2.ext u) _ _ A1 B1 n1 c1 m1 d1 ⟨[], [[⟨a, ⟨z2, b⟩⟩]]⟩ ⟨a, ⟨true, a⟩⟩ ⟨a, ⟨false, b⟩⟩ h1 h2 (fun _ h => by cases h) (fun l hl => by rw [List.mem_singleton.1 hl]; simp) ⟨HIA.out, HIA.out⟩ ⟨HIA.out, HIB.out⟩ (HV2.out.p.ext u)
   repeat (refine flow_known (by kernel_rfl) (fun K hK => ?_); go_simp; (first | (refine hK _ ?_; clear hK K) | (apply Exists.intro; refine ⟨fun _ => ?_, hK _ ?_⟩; (fail); clear hK K)))
   refine flow_keep0 (FullP 1 [b]) (by kernel_rfl) (FullP.stable_ rfl) ?_ ?_
   ·intro u
    go_simp
    exact ⟨FullP.lit (S := fun _ => True) rfl (by rw [size_ext]) (RepL.ints [b] (by intro y hy; rw [List.mem_singleton.1 hy]; exact HIB.out)) rfl (by decide), onW_alloc rfl ⟨_, rfl⟩⟩
   refine flow_keep [false, false, false, true] (TiP (⟨a, b, [b]⟩ : Tile)) (by kernel_rfl) (TiP.stable_ rfl) ?_ ?_
   ·intro u
    try simp only [List.nil_append, List.cons_append, useH_f, useH_t, useH_nil]
    rintro _ ⟨S1, b1, rfl, hs1⟩
    go_simp
    exact ⟨⟨_, _, _, rfl, hs1.more fun _ _ _ => trivial⟩, onW_same ⟨_, rfl⟩⟩
   repeat (refine flow_known (by kernel_rfl) (fun K hK => ?_); go_simp; (first | (refine hK _ ?_; clear hK K) | (apply Exists.intro; refine ⟨fun _ => ?_, hK _ ?_⟩; (fail); clear hK K)))
   refine flow_keep0 (FullP 1 [a]) (by kernel_rfl) (FullP.stable_ rfl) ?_ ?_
   ·intro u
    go_simp
    exact ⟨FullP.lit (S := fun _ => True) rfl (by rw [size_ext]) (RepL.ints [a] (by intro y hy; rw [List.mem_singleton.1 hy]; exact HIA.out)) rfl (by decide), onW_alloc rfl ⟨_, rfl⟩⟩
   refine flow_keep [false, false, false, false, false, true] (TiP (⟨2, a, [a]⟩ : Tile)) (by kernel_rfl) (TiP.stable_ rfl) ?_ ?_
   ·intro u
    try simp only [List.nil_append, List.cons_append, useH_f, useH_t, useH_nil]
    rintro _ ⟨S1, b1, rfl, hs1⟩
    go_simp
    exact ⟨⟨_, _, _, rfl, hs1.more fun _ _ _ => trivial⟩, onW_same ⟨_, rfl⟩⟩
   refine flow_keep [false, false, false, false, true, false, true] (FullP 2 [(⟨a, b, [b]⟩ : Tile), ⟨2, a, [a]⟩]) (by kernel_rfl) (FullP.stable_ rfl) ?_ ?_
   ·intro u
    try simp only [List.nil_append, List.cons_append, useH_f, useH_t, useH_nil]
    rintro _ ⟨A1, n1, c1, rfl, t1⟩ _ ⟨A2, n2, c2, rfl, t2⟩
    go_simp
    exact ⟨FullP.lit (S := fun _ => True) rfl (by rw [size_ext]) ⟨_, _, rfl, Tile.mk_ (x := ⟨a, b, [b]⟩) HIA.out HIB.out t1, RepL.single (Tile.mk_ (x := ⟨2, a, [a]⟩) HI1.out.2 HIA.out t2)⟩ rfl (by decide), onW_alloc rfl ⟨_, rfl⟩⟩
   refine flow_keep [false, false, false, false, false, false, false, true] (CeP ⟨[⟨a, b, [b]⟩, ⟨2, a, [a]⟩], []⟩) (by kernel_rfl) (CeP.stable_ rfl) ?_ ?_
   ·intro u
    try simp only [List.nil_append, List.cons_append, useH_f, useH_t, useH_nil]
    rintro _ ⟨S1, b1, rfl, hs1⟩
    go_simp
    exact ⟨⟨_, _, _, _, _, _, rfl, hs1.more fun _ _ _ => trivial, Sl.nil⟩, onW_same ⟨_, rfl⟩⟩
   repeat (refine flow_known (by kernel_rfl) (fun K hK => ?_); go_simp; (first | (refine hK _ ?_; clear hK K) | (apply Exists.intro; refine ⟨fun _ => ?_, hK _ ?_⟩; ((go_at_call 24; with_reducible exact fact28_mk _ _ _ _)); clear hK K)))
   refine flow_out [false, false, false, false, false, false, false, false, true] (.bool true) (by kernel_rfl) ?_ ?_
   ·intro u
    try simp only [List.nil_append, List.cons_append, useH_f, useH_t, useH_nil]
    rintro _ ⟨A1, n1, c1, B1, m1, d1, rfl, h1, h2⟩
    go_simp
    exact certPrints_any (W2.ext u) _ _ A1 B1 n1 c1 m1 d1 ⟨[⟨a, b, [b]⟩, ⟨2, a, [a]⟩], []⟩ ⟨1, ⟨true, 1⟩⟩ ⟨1, ⟨true, 2⟩⟩ h1 h2 (fun t ht => by
     simp only [List.mem_cons, List.not_mem_nil, or_false] at ht
     rcases ht with rfl | rfl <;> simp) (fun _ h => by cases h) ⟨HI1.out.1, HI1.out.1⟩ ⟨HI1.out.1, HI1.out.2⟩ (HV2.out.p.ext u)
   repeat (refine flow_known (by kernel_rfl) (fun K hK => ?_); go_simp; (first | (refine hK _ ?_; clear hK K) | (apply Exists.intro; refine ⟨fun _ => ?_, hK _ ?_⟩; (fail); clear hK K)))
   refine flow_done [true, true, true, true, true, true, true, true, true] (by kernel_rfl) ?_
   intro u
   simp only [List.nil_append, List.cons_append, endH_f, endH_t, endH_nil]
   rintro _ - _ - _ - _ - _ - _ - _ - _ - _ -
   go_simp
   obtain ⟨W3, hW3⟩ : ∃ W, W2.ext u = W := ⟨_, rfl⟩
   have hb23 : Below W2.heap.size W2 W3 := by rw [← hW3]; exact Below.of_ext W2 u (Nat.le_refl _)
   have HB3 := hide (show Below wr.heap.size wr W3 from HB2.out.trans (hb23.mono HB2.out.size))
   have HV3 := hide (show VarsQ W3 from HV2.out.below hb23 HV2.out.p.v.sz)
   have HS13 := hide (HS1.out.belowAll hb23)
   have HS23 := hide (HS2.out.belowAll hb23)
   have hr3 : W3.heap[gc]? = some (.cells #[.slice A n nc, .slice B m mc] 26 (0, 0)) := (hb23.block gc HLC.out).trans HRC.out
   rw [hW3]
   clear cc0 cc1 ccl HC1 hW3 hb23 HS1 HS2 HRC HLC HB2 HV2 HW2 HGC HA HBB HIA HIB HI1 c1 c2 HSA
   have cc0 : W3.cell? ⟨gc, 0, none⟩ = some (.slice A n nc) := cell_of_row W3 _ _ _ _ (0, 0) hr3
   have cc1 : W3.cell? ⟨gc, 1, none⟩ = some (.slice B m mc) := cell_of_row W3 _ _ _ _ (0, 0) hr3
   have ccl : gc < W3.heap.size := (Array.getElem?_eq_some_iff.1 hr3).1
   clear hr3
   have HDP := hide (dprint28_any W3 _ _ A B n nc m mc x HS13.out HS23.out HV3.out.p)
   obtain ⟨⟨tx, te⟩, hpt⟩ : ∃ p, printB28 x = p := ⟨_, rfl⟩
   have htz : tx.size ≤ 262144 := by
    unfold printB28 at hpt
    split at hpt
    ·rename_i hr
     injection hpt with h1 h2
     unfold rightB at hr
     rw [Bool.and_eq_true, decide_eq_true_eq] at hr
     rw [← h1]; exact hr.2
    ·injection hpt with h1 h2
     rw [← h1]; exact Nat.zero_le _
   rw [hpt] at HDP
   dsimp only at HDP
   clear hpt
   go_upto_region 10 with (go_at_call 16; (with_reducible refine HDP.out.mono ?_); rintro e V ⟨rfl, u2, hV⟩; have HBV := hide (show Below W3.heap.size W3 V by rw [hV]; exact Below.of_ext W3 u2 (Nat.le_refl _)); clear hV u2)
   have HB4 := hide (show Below wr.heap.size wr V from HB3.out.trans (HBV.out.mono HB3.out.size))
   have HV4 := hide (show VarsQ V from HVw.out.below HB4.out HVw.out.p.v.sz)
   have HRP := hide (show Calls Tryz.prog 22 #[.string tx, .string ⟨#[10]⟩, .string ⟨#[32, 10, 32]⟩] V (RetS 1048576 V) from (replS_any tx 10 [32, 10, 32] (by decide) V (by omega) HV4.out).mono fun e w' ⟨t, ht, h⟩ => ⟨t, by simp only [List.length_cons, List.length_nil] at ht; omega, h⟩)
   have HSP := hide (fun (W : World) (hW : VarsQ W) (t : ByteArray) (ht : t.size ≤ 1048576) => split_any t W ht hW)
   clear HBV HS13 HS23 cc0 cc1 ccl HDP HB3 HV3
   go_upto_region 11 with (first
    | (go_at_call 22; (with_reducible refine HRP.out.mono ?_); rintro e W5 ⟨tr, htr, rfl, u3, hW5⟩; have HB45 := hide (show Below V.heap.size V W5 by rw [hW5]; exact Below.of_ext V u3 (Nat.le_refl _)); have HV5 := hide (show VarsQ W5 by rw [hW5]; exact HV4.out.ext u3); clear hW5 u3)
    | (go_at_call 25; (with_reducible refine (HSP.out W5 HV5.out _ htr).mono ?_); rintro e W6 ⟨L, hL1, hL2, rfl, hW6⟩; have HW6 := hide hW6; clear hW6))
   obtain ⟨N, hN⟩ : ∃ n, L.length = n := ⟨_, rfl⟩
   obtain ⟨gw, hgw⟩ : ∃ g, W5.heap.size = g := ⟨_, rfl⟩
   rw [hN, hgw]
   have hN1 : N ≤ 1048577 := by omega
   have HL6 := hide (show Sl W6 (fun b => b = gw) (some ⟨gw, 0, none⟩) N N L from by
    rw [HW6.out]
    exact Sl.lit (S := fun _ => False) hgw.symm (RepL.strs L fun x hx => by have := hL2 x hx; unfold maxLen; omega) hN (by omega) (fun _ h => h.elim) rfl)
   have hb56 : Below W5.heap.size W5 W6 := by rw [HW6.out]; exact (Below.refl _ _).alloc (Nat.le_refl _) _
   have HG6 := hide (show gw < W6.heap.size by rw [HW6.out, ← hgw]; simp)
   have hb46 : Below V.heap.size V W6 := HB45.out.trans (hb56.mono HB45.out.size)
   have HB6 := hide (show Below wr.heap.size wr W6 from HB4.out.trans (hb46.mono HB4.out.size))
   have HV6 := hide (show VarsQ W6 from HVw.out.below HB6.out HVw.out.p.v.sz)
   have HLZ := hide hL2
   have HLN := hide hN
   obtain ⟨r7, hr7⟩ : ∃ q, k % 7 = q := ⟨_, rfl⟩
   have e7 : (k : Int).tmod 7 = (r7 : Int) := by rw [← hr7]; exact md 7
   obtain ⟨z7, hz7⟩ : ∃ z, ((r7 : Int) == 0) = z := ⟨_, rfl⟩
   obtain ⟨i0, hi, hiz, his, hib⟩ := info_parts28 info_str28
   have HI0 := hide hi; have HIZ := hide hiz; have HIS := hide his; have HIB := hide hib
   have HPS := hide (fun (W : World) (hW : VarsP W) (t : ByteArray) (ht : t.size ≤ 140737488355328) => certParses_any W hW t ht)
   clear hb56 hb46 hgw hr7 hL1 hL2 hN HRP HSP HB45 HV5 HB4 HV4 HW6 hi hiz his hib
   obtain ⟨wo, rfl⟩ : ∃ V, V = wr := ⟨_, rfl⟩
   go_wp2_with fail
   go_loopw [9] (fun i wx => ∃ j : Nat, j ≤ N ∧ i = .int .i64 j ∧ Below W6.heap.size W6 wx) (fun i _ => N - (intOf i).toNat)
   case atStart => exact ⟨0, by omega, rfl, Below.refl _ _⟩
   case round =>
    obtain ⟨j, hj, rfl, hbx⟩ := hrel
    obtain ⟨wx, rfl⟩ : ∃ V, V = wr := ⟨_, rfl⟩
    have HBx := hide hbx
    clear hbx
    by_cases hgo : j < N ∧ z7 = true
    ·obtain ⟨hjn, rfl⟩ := hgo
     have hji : (j : Int) < N := by omega
     have h7t : (r7 : Int) = 0 := by simpa using hz7
     have HLx := hide (HL6.out.below HBx.out fun b hb => by have hb : b = gw := hb; have := HG6.out; omega)
     have HGx := hide (show gw < wx.heap.size by have := HG6.out; have := HBx.out.size; omega)
     have HVx := hide (HV6.out.below HBx.out HV6.out.p.v.sz)
     obtain ⟨tk, htk⟩ : ∃ l, L.take j = l := ⟨_, rfl⟩
     obtain ⟨dr, hdr0⟩ : ∃ l, L.drop (j + 1) = l := ⟨_, rfl⟩
     obtain ⟨lessL, hlL⟩ : ∃ l, tk ++ dr = l := ⟨_, rfl⟩
     obtain ⟨tk1, htk1⟩ : ∃ l, L.take (j + 1) = l := ⟨_, rfl⟩
     obtain ⟨dr0, hdr1⟩ : ∃ l, L.drop j = l := ⟨_, rfl⟩
     obtain ⟨moreL, hmL⟩ : ∃ l, tk1 ++ dr0 = l := ⟨_, rfl⟩
     have HLLZ := hide (show (∀ x ∈ lessL, x.size ≤ 1048576) ∧ lessL.length ≤ 2097152 from by
      rw [← hlL, ← htk, ← hdr0]
      refine ⟨fun x hx => ?_, ?_⟩
      ·rcases List.mem_append.1 hx with hx | hx
       ·exact HLZ.out x (List.mem_of_mem_take hx)
       ·exact HLZ.out x (List.mem_of_mem_drop hx)
      ·simp only [List.length_append, List.length_take, List.length_drop]
       have := HLN.out
       omega)
     have HMLZ := hide (show (∀ x ∈ moreL, x.size ≤ 1048576) ∧ moreL.length ≤ 2097152 from by
      rw [← hmL, ← htk1, ← hdr1]
      refine ⟨fun x hx => ?_, ?_⟩
      ·rcases List.mem_append.1 hx with hx | hx
       ·exact HLZ.out x (List.mem_of_mem_take hx)
       ·exact HLZ.out x (List.mem_of_mem_drop hx)
      ·simp only [List.length_append, List.length_take, List.length_drop]
       have := HLN.out
       omega)
     have ltk : tk.length ≤ N := by rw [← htk, List.length_take]; have := HLN.out; omega
     have ltk1 : tk1.length ≤ N := by rw [← htk1, List.length_take]; have := HLN.out; omega
     have HSTK := hide (fun (W : World) (h : Sl W (fun b => b = gw) (some ⟨gw, 0, none⟩) N N L) => show Sl W (fun b => b = gw) (some ⟨gw, 0, none⟩) j N tk from htk ▸ h.take_ hj)
     have hdrop : (∃ j1 : Nat, IntKind.i64.wrap ((j : Int) + 1) = (j1 : Int) ∧ j1 ≤ N ∧ ¬ N = j1 ∧ (∀ W, Sl W (fun b => b = gw) (some ⟨gw, 0, none⟩) N N L → Sl W (fun b => b = gw) (some ⟨gw, j1, none⟩) (N - j1) (N - j1) dr) ∧ (∀ W, Sl W (fun b => b = gw) (some ⟨gw, 0, none⟩) N N L → Sl W (fun b => b = gw) (some ⟨gw, 0, none⟩) j1 N tk1)) ∨ (IntKind.i64.wrap ((j : Int) + 1) = (N : Int) ∧ (∀ W, Sl W (fun b => b = gw) (some ⟨gw, 0, none⟩) N N L → Sl W (fun b => b = gw) (some ⟨gw, 0, none⟩) 0 0 dr) ∧ (∀ W, Sl W (fun b => b = gw) (some ⟨gw, 0, none⟩) N N L → Sl W (fun b => b = gw) (some ⟨gw, 0, none⟩) N N tk1)) := by
      have hw : IntKind.i64.wrap ((j : Int) + 1) = ((j + 1 : Nat) : Int) := by rw [IntWalk.i64_in _ (by omega)]; omega
      rcases Nat.lt_or_ge (j + 1) N with hje | hje
      ·refine .inl ⟨j + 1, hw, by omega, by omega, fun W h => ?_, fun W h => htk1 ▸ h.take_ (by omega)⟩
       have := h.drop_ (j := j + 1) (by omega)
       rw [if_neg (by omega), hdr0] at this
       have e : 0 + (j + 1) * Rep.size ByteArray = j + 1 := by rw [Nat.zero_add]; exact Nat.mul_one _
       rw [e] at this
       exact this
      ·have hNj : N = j + 1 := by omega
       refine .inr ⟨by rw [hw, hNj], fun W h => ?_, fun W h => ?_⟩
       ·have := h.drop_ (j := j + 1) (by omega)
        rw [if_pos (by omega), hNj, Nat.sub_self, hdr0] at this
        exact this
       ·have := h.take_ (k := N) (Nat.le_refl _)
        rw [← htk1, ← hNj]
        exact this
     have HSD0 := hide (fun (W : World) (h : Sl W (fun b => b = gw) (some ⟨gw, 0, none⟩) N N L) => show Sl W (fun b => b = gw) (some ⟨gw, j, none⟩) (N - j) (N - j) dr0 from by
      have := h.drop_ (j := j) (by omega)
      rw [if_neg (by omega), hdr1] at this
      have e : 0 + j * Rep.size ByteArray = j := by rw [Nat.zero_add]; exact Nat.mul_one _
      rw [e] at this
      exact this)
     have hNj0 : ¬ N = j := by omega
     have HLL := hide hlL; have HML := hide hmL
     clear htk hdr0 hlL htk1 hdr1 hmL
     go_wp2_with fail
     rcases hdrop with ⟨j1, hw1, hj1, hj2, hdr, hts⟩ | ⟨hw1, hdr, hts⟩
     all_goals
      have HDR := hide hdr; have HTS := hide hts
      clear hdr hts
      refine wp_region_flow_ext [4, 9] [0, 4, 9, 10] (by kernel_rfl) rfl (by kernel_rfl) ?_
      refine flow_keep0 (OwnNE (α := ByteArray) wx.heap.size 9 (fun b => b = gw) []) (by kernel_rfl) (OwnNE.stable_ rfl) ?_ ?_
      ·intro u
       go_simp
       exact ⟨⟨_, _, rfl, OwnL.lit (wx.ext u) wx.heap.size _ _ ([] : List ByteArray) [] 0 _ rfl rfl (by decide) (by rw [size_ext]; omega) (by rw [size_ext]) (by have := HGx.out; show ¬ (_ = gw); omega)⟩, onW_alloc rfl ⟨_, rfl⟩⟩
      repeat (refine flow_known (by kernel_rfl) (fun K hK => ?_); go_simp; (first | (refine hK _ ?_; clear hK K) | (apply Exists.intro; refine ⟨fun _ => ?_, hK _ ?_⟩; (fail); clear hK K)))
      refine flow_keep [true] (OwnNE (α := ByteArray) wx.heap.size 9 (fun b => b = gw) tk) (by kernel_rfl) (OwnNE.stable_ rfl) ?_ ?_
      ·intro u
       try simp only [List.nil_append, List.cons_append, useH_f, useH_t, useH_nil]
       rintro _ ⟨g1, c1, rfl, h1⟩
       exact HeldAt.push_ext (α := ByteArray) (by rfl) (.tmp 100) (.tmp 103) 54 rfl wx.heap.size 9 i0 _ 16 Tryz.underlying54 HI0.out HIZ.out HIS.out HIB.out rfl (by decide) (fun b => b = gw) (fun b => b = gw) (fun b => b = gw) g1 c1 [] tk tk rfl rfl h1 _ _ _ rfl (HSTK.out _ (HLx.out.ext u)) (fun _ h => h) (fun _ _ h => h) (by have := (h1.below_ g1 rfl).1; have := HGx.out; show ¬ (g1 = gw); omega) (fun b hb => by have hb : b = gw := hb; have := HGx.out; rw [size_ext]; omega) (by rw [List.length_nil]; omega) (by rw [List.length_nil]; omega) (by rw [size_ext]; omega) (Nat.le_refl _) ⟨_, rfl⟩
      repeat (refine flow_known (by kernel_rfl) (fun K hK => ?_); go_simp; (first | (refine hK _ ?_; clear hK K) | (apply Exists.intro; refine ⟨fun _ => ?_, hK _ ?_⟩; (fail); clear hK K)))
      refine flow_keep [false, true] (OwnNE (α := ByteArray) wx.heap.size 9 (fun b => b = gw) lessL) (by kernel_rfl) (OwnNE.stable_ rfl) ?_ ?_
      ·intro u
       try simp only [List.nil_append, List.cons_append, useH_f, useH_t, useH_nil]
       rintro _ ⟨g1, c1, rfl, h1⟩
       exact HeldAt.push_ext (α := ByteArray) (by rfl) (.tmp 104) (.tmp 108) 54 rfl wx.heap.size 9 i0 _ 16 Tryz.underlying54 HI0.out HIZ.out HIS.out HIB.out rfl (by decide) (fun b => b = gw) (fun b => b = gw) (fun b => b = gw) g1 c1 tk dr lessL HLL.out rfl h1 _ _ _ rfl (HDR.out _ (HLx.out.ext u)) (fun _ h => h) (fun _ _ h => h) (by have := (h1.below_ g1 rfl).1; have := HGx.out; show ¬ (g1 = gw); omega) (fun b hb => by have hb : b = gw := hb; have := HGx.out; rw [size_ext]; omega) (by omega) (by omega) (by rw [size_ext]; omega) (Nat.le_refl _) ⟨_, rfl⟩
      refine flow_keep [false, false, true] (OwnNE (α := ByteArray) wx.heap.size 9 (fun b => b = gw) lessL) (by kernel_rfl) (OwnNE.stable_ rfl) ?_ ?_
      ·intro u
       try simp only [List.nil_append, List.cons_append, useH_f, useH_t, useH_nil]
       rintro _ ⟨g1, c1, rfl, h1⟩
       go_simp
       exact ⟨⟨_, _, rfl, h1⟩, onW_same ⟨_, rfl⟩⟩
      refine flow_done [false, false, true, true] (by kernel_rfl) ?_
      intro ua
      simp only [List.nil_append, List.cons_append, endH_f, endH_t, endH_nil]
      intro _ _
      rintro _ - _ ⟨gl, cl, rfl, hless⟩
      go_simp
      obtain ⟨Wa, hWa⟩ : ∃ W, wx.ext ua = W := ⟨_, rfl⟩
      have HBa := hide (show Below wx.heap.size wx Wa by rw [← hWa]; exact Below.of_ext wx ua (Nat.le_refl _))
      rw [hWa] at hless ⊢
      have HLESS := hide hless
      clear hless hWa
      have HLa := hide (HLx.out.belowAll HBa.out)
      have HGa := hide (show gw < Wa.heap.size by have := HGx.out; have := HBa.out.size; omega)
      go_wp2_with fail
      refine wp_region_flow_ext [5, 9] [0, 5, 9, 10] (by kernel_rfl) rfl (by kernel_rfl) ?_
      refine flow_keep0 (OwnNE (α := ByteArray) Wa.heap.size 9 (fun b => b = gw) []) (by kernel_rfl) (OwnNE.stable_ rfl) ?_ ?_
      ·intro u
       go_simp
       exact ⟨⟨_, _, rfl, OwnL.lit (Wa.ext u) Wa.heap.size _ _ ([] : List ByteArray) [] 0 _ rfl rfl (by decide) (by rw [size_ext]; omega) (by rw [size_ext]) (by have := HGa.out; show ¬ (_ = gw); omega)⟩, onW_alloc rfl ⟨_, rfl⟩⟩
      repeat (refine flow_known (by kernel_rfl) (fun K hK => ?_); go_simp; (first | (refine hK _ ?_; clear hK K) | (apply Exists.intro; refine ⟨fun _ => ?_, hK _ ?_⟩; (fail); clear hK K)))
      refine flow_keep [true] (OwnNE (α := ByteArray) Wa.heap.size 9 (fun b => b = gw) tk1) (by kernel_rfl) (OwnNE.stable_ rfl) ?_ ?_
      ·intro u
       try simp only [List.nil_append, List.cons_append, useH_f, useH_t, useH_nil]
       rintro _ ⟨g1, c1, rfl, h1⟩
       exact HeldAt.push_ext (α := ByteArray) (by rfl) (.tmp 110) (.tmp 114) 54 rfl Wa.heap.size 9 i0 _ 16 Tryz.underlying54 HI0.out HIZ.out HIS.out HIB.out rfl (by decide) (fun b => b = gw) (fun b => b = gw) (fun b => b = gw) g1 c1 [] tk1 tk1 rfl rfl h1 _ _ _ rfl (HTS.out _ (HLa.out.ext u)) (fun _ h => h) (fun _ _ h => h) (by have := (h1.below_ g1 rfl).1; have := HGa.out; show ¬ (g1 = gw); omega) (fun b hb => by have hb : b = gw := hb; have := HGa.out; rw [size_ext]; omega) (by rw [List.length_nil]; omega) (by rw [List.length_nil]; omega) (by rw [size_ext]; omega) (Nat.le_refl _) ⟨_, rfl⟩
      repeat (refine flow_known (by kernel_rfl) (fun K hK => ?_); go_simp; (first | (refine hK _ ?_; clear hK K) | (apply Exists.intro; refine ⟨fun _ => ?_, hK _ ?_⟩; (fail); clear hK K)))
      refine flow_keep [false, true] (OwnNE (α := ByteArray) Wa.heap.size 9 (fun b => b = gw) moreL) (by kernel_rfl) (OwnNE.stable_ rfl) ?_ ?_
      ·intro u
       try simp only [List.nil_append, List.cons_append, useH_f, useH_t, useH_nil]
       rintro _ ⟨g1, c1, rfl, h1⟩
       exact HeldAt.push_ext (α := ByteArray) (by rfl) (.tmp 115) (.tmp 118) 54 rfl Wa.heap.size 9 i0 _ 16 Tryz.underlying54 HI0.out HIZ.out HIS.out HIB.out rfl (by decide) (fun b => b = gw) (fun b => b = gw) (fun b => b = gw) g1 c1 tk1 dr0 moreL HML.out rfl h1 _ _ _ rfl (HSD0.out _ (HLa.out.ext u)) (fun _ h => h) (fun _ _ h => h) (by have := (h1.below_ g1 rfl).1; have := HGa.out; show ¬ (g1 = gw); omega) (fun b hb => by have hb : b = gw := hb; have := HGa.out; rw [size_ext]; omega) (by omega) (by omega) (by rw [size_ext]; omega) (Nat.le_refl _) ⟨_, rfl⟩
      refine flow_keep [false, false, true] (OwnNE (α := ByteArray) Wa.heap.size 9 (fun b => b = gw) moreL) (by kernel_rfl) (OwnNE.stable_ rfl) ?_ ?_
      ·intro u
       try simp only [List.nil_append, List.cons_append, useH_f, useH_t, useH_nil]
       rintro _ ⟨g1, c1, rfl, h1⟩
       go_simp
       exact ⟨⟨_, _, rfl, h1⟩, onW_same ⟨_, rfl⟩⟩
      refine flow_done [false, false, true, true] (by kernel_rfl) ?_
      intro ub
      simp only [List.nil_append, List.cons_append, endH_f, endH_t, endH_nil]
      intro _ _
      rintro _ - _ ⟨gm, cm, rfl, hmore⟩
      go_simp
      obtain ⟨Wb, hWb⟩ : ∃ W, Wa.ext ub = W := ⟨_, rfl⟩
      have HBb := hide (show Below Wa.heap.size Wa Wb by rw [← hWb]; exact Below.of_ext Wa ub (Nat.le_refl _))
      rw [hWb] at hmore ⊢
      have HMORE := hide hmore
      clear hmore hWb
      have HLb := hide (HLa.out.belowAll HBb.out)
      have HGb := hide (show gw < Wb.heap.size by have := HGa.out; have := HBb.out.size; omega)
      clear HDR HTS HSD0 HSTK HLx HLa HGx HGa hw1
      have HBxb := hide (show Below wx.heap.size wx Wb from HBa.out.trans (HBb.out.mono HBa.out.size))
      have HVb := hide (show VarsP Wb from HVx.out.p.below HBxb.out HVx.out.p.v.sz)
      have HLESSb := hide (HLESS.out.belowAll28 HBb.out)
      have HNL := hide (show L.length = N from HLN.out)
      have HAPO := hide (show ∀ g, (Value.slice (some ⟨Wb.heap.size, 0, none⟩) 0 0).ownBlock = some g → ¬ g = gw from fun g hg h => by
       have hg : some Wb.heap.size = some g := hg
       injection hg with hg
       have := HGb.out
       omega)
      have HNWS := hide (show ∀ b, b = gw → b < (Wb.alloc (.cells #[] 9)).heap.size from fun b hb => by have := HGb.out; simp; omega)
      have HOW := hide (OwnL.lit (α := ByteArray) Wb Wb.heap.size 9 (fun b => b = gw) [] [] 0 Wb.heap.size rfl rfl (by decide) (Nat.le_refl _) rfl (by have := HGb.out; show ¬ (_ = gw); omega))
      go_wp2_with (at_builtin; refine wpList_push_sl (α := ByteArray) (Wb.alloc (.cells #[] 9)) rfl (.tmp 120) (.tmp 121) 54 rfl Wb.heap.size 9 i0 _ 16 Tryz.underlying54 HI0.out HIZ.out HIS.out HIB.out rfl (by decide) (fun b => b = gw) (fun b => b = gw) (fun b => b = gw) (.slice (some ⟨Wb.heap.size, 0, none⟩) 0 0) [] L rfl HOW.out (some ⟨gw, 0, none⟩) N N rfl (HLb.out.alloc _) (fun _ h => h) (fun _ _ h => h) HAPO.out HNWS.out (by rw [List.length_nil]; omega) (by rw [List.length_nil]; omega) (by simp) ?_; intro v' Wc hodd hgr h5; have HODD := hide hodd; have HGR := hide hgr; have H5 := hide h5; clear hodd hgr h5; refine Hd.out ?_)
      obtain ⟨go, hgo'⟩ : ∃ g, v'.ownBlock = some g := by
       rcases H5.out with h | h
       ·exact ⟨_, h⟩
       ·exact ⟨_, h⟩
      obtain ⟨co, rfl⟩ := HODD.out.own_some hgo' (n := N) (by rw [List.nil_append]; exact HNL.out)
      have HBc := hide (show Below Wb.heap.size Wb Wc from ((Below.refl Wb.heap.size Wb).alloc (Nat.le_refl _) (.cells #[] 9)).grown HGR.out (by simp) fun q hq => by
       have hq' : some Wb.heap.size = some q := hq
       injection hq' with hq'
       omega)
      have hgob : Wb.heap.size ≤ go := (HODD.out.below_ go rfl).1
      have HGO := hide hgob
      clear hgo' hgob HOW HAPO HNWS HGR H5 HLb
      rw [List.nil_append] at HODD
      obtain ⟨kj, hkj⟩ : ∃ q, k + j = q := ⟨_, rfl⟩
      have wkj : IntKind.i64.wrap ((k : Int) + (j : Int)) = (kj : Int) := by rw [IntWalk.i64_in _ (by omega)]; omega
      obtain ⟨r22, hr22⟩ : ∃ q, kj % 22 = q := ⟨_, rfl⟩
      have e22 : (kj : Int).tmod 22 = (r22 : Int) := by rw [← hr22]; exact Int.tmod_eq_emod_of_nonneg (by omega)
      have l22 : r22 < 22 := by omega
      have l22i : (r22 : Int) < 22 := by omega
      clear hkj hr22
      obtain ⟨s22, hs22, hcell⟩ := lits_at Wc l22
      obtain ⟨old, hold⟩ : ∃ x, L[j]? = some x := ⟨L[j]'(by have := HNL.out; omega), List.getElem?_eq_getElem _⟩
      have hodl := HODD.out.alloc (.cells #[.string ⟨#[118, 48]⟩, .string ⟨#[118, 50, 48, 49]⟩, .string ⟨#[118, 48, 49]⟩, .string ⟨#[104, 54, 52]⟩, .string ⟨#[104, 45, 49]⟩, .string ⟨#[114, 54, 52]⟩, .string ⟨#[115, 52, 48, 48]⟩, .string ⟨#[114, 48]⟩, .string ⟨#[115, 48]⟩, .string ⟨#[118, 49]⟩, .string ⟨#[104, 48]⟩, .string ⟨#[108, 111, 111, 112]⟩, .string ⟨#[116, 105, 108, 101]⟩, .string ⟨#[101, 100, 103, 101]⟩, .string ⟨#[61]⟩, .string ⟨#[44]⟩, .string ⟨#[58]⟩, .string ⟨#[50, 48, 48]⟩, .string ⟨#[45, 50]⟩, .string ⟨#[48, 48, 55]⟩, .string ⟨#[10]⟩, .string ⟨#[59, 32, 120, 32, 10]⟩] 9)
      obtain ⟨us, hus, hcs, hfz⟩ := hodl.cell_at hold
      obtain ⟨rfl, hom⟩ := hus
      have hoc : (Wc.alloc (.cells #[.string ⟨#[118, 48]⟩, .string ⟨#[118, 50, 48, 49]⟩, .string ⟨#[118, 48, 49]⟩, .string ⟨#[104, 54, 52]⟩, .string ⟨#[104, 45, 49]⟩, .string ⟨#[114, 54, 52]⟩, .string ⟨#[115, 52, 48, 48]⟩, .string ⟨#[114, 48]⟩, .string ⟨#[115, 48]⟩, .string ⟨#[118, 49]⟩, .string ⟨#[104, 48]⟩, .string ⟨#[108, 111, 111, 112]⟩, .string ⟨#[116, 105, 108, 101]⟩, .string ⟨#[101, 100, 103, 101]⟩, .string ⟨#[61]⟩, .string ⟨#[44]⟩, .string ⟨#[58]⟩, .string ⟨#[50, 48, 48]⟩, .string ⟨#[45, 50]⟩, .string ⟨#[48, 48, 55]⟩, .string ⟨#[10]⟩, .string ⟨#[59, 32, 120, 32, 10]⟩] 9)).cell? ⟨go, j, none⟩ = some (.string old) := by
       have := hcs 0 _ rfl
       simpa [Rep.size] using this
      have hof := hfz j
      have hol : go < (Wc.alloc (.cells #[.string ⟨#[118, 48]⟩, .string ⟨#[118, 50, 48, 49]⟩, .string ⟨#[118, 48, 49]⟩, .string ⟨#[104, 54, 52]⟩, .string ⟨#[104, 45, 49]⟩, .string ⟨#[114, 54, 52]⟩, .string ⟨#[115, 52, 48, 48]⟩, .string ⟨#[114, 48]⟩, .string ⟨#[115, 48]⟩, .string ⟨#[118, 49]⟩, .string ⟨#[104, 48]⟩, .string ⟨#[108, 111, 111, 112]⟩, .string ⟨#[116, 105, 108, 101]⟩, .string ⟨#[101, 100, 103, 101]⟩, .string ⟨#[61]⟩, .string ⟨#[44]⟩, .string ⟨#[58]⟩, .string ⟨#[50, 48, 48]⟩, .string ⟨#[45, 50]⟩, .string ⟨#[48, 48, 55]⟩, .string ⟨#[10]⟩, .string ⟨#[59, 32, 120, 32, 10]⟩] 9)).heap.size := (hodl.below_ go rfl).2
      have hgco : go < Wc.heap.size := (HODD.out.below_ go rfl).2
      have HOD2 := hide (show OwnL ((Wc.setCell ⟨go, j, none⟩ (.string s22)).alloc (.cells #[.string ⟨#[118, 48]⟩, .string ⟨#[118, 50, 48, 49]⟩, .string ⟨#[118, 48, 49]⟩, .string ⟨#[104, 54, 52]⟩, .string ⟨#[104, 45, 49]⟩, .string ⟨#[114, 54, 52]⟩, .string ⟨#[115, 52, 48, 48]⟩, .string ⟨#[114, 48]⟩, .string ⟨#[115, 48]⟩, .string ⟨#[118, 49]⟩, .string ⟨#[104, 48]⟩, .string ⟨#[108, 111, 111, 112]⟩, .string ⟨#[116, 105, 108, 101]⟩, .string ⟨#[101, 100, 103, 101]⟩, .string ⟨#[61]⟩, .string ⟨#[44]⟩, .string ⟨#[58]⟩, .string ⟨#[50, 48, 48]⟩, .string ⟨#[45, 50]⟩, .string ⟨#[48, 48, 55]⟩, .string ⟨#[10]⟩, .string ⟨#[59, 32, 120, 32, 10]⟩] 9)) Wb.heap.size 9 (fun b => b = gw) (.slice (some ⟨go, 0, none⟩) N co) (L.set j s22) from by
       have := HODD.out.set (j := 0) (y := s22) (v := .string s22) hold (by decide) (fun us hus => by obtain ⟨rfl, _⟩ := hus; exact ⟨rfl, by unfold maxLen; omega⟩)
       have e : j * Rep.size ByteArray + 0 = j := Nat.mul_one _
       rw [e] at this
       exact this.alloc _)
      have HBe := hide (show Below Wb.heap.size Wb ((Wc.setCell ⟨go, j, none⟩ (.string s22)).alloc (.cells #[.string ⟨#[118, 48]⟩, .string ⟨#[118, 50, 48, 49]⟩, .string ⟨#[118, 48, 49]⟩, .string ⟨#[104, 54, 52]⟩, .string ⟨#[104, 45, 49]⟩, .string ⟨#[114, 54, 52]⟩, .string ⟨#[115, 52, 48, 48]⟩, .string ⟨#[114, 48]⟩, .string ⟨#[115, 48]⟩, .string ⟨#[118, 49]⟩, .string ⟨#[104, 48]⟩, .string ⟨#[108, 111, 111, 112]⟩, .string ⟨#[116, 105, 108, 101]⟩, .string ⟨#[101, 100, 103, 101]⟩, .string ⟨#[61]⟩, .string ⟨#[44]⟩, .string ⟨#[58]⟩, .string ⟨#[50, 48, 48]⟩, .string ⟨#[45, 50]⟩, .string ⟨#[48, 48, 55]⟩, .string ⟨#[10]⟩, .string ⟨#[59, 32, 120, 32, 10]⟩] 9)) from (HBc.out.setCell (by exact HGO.out) _).alloc (by simp; exact HBc.out.size) _)
      have HOLZ := hide (show (∀ x ∈ L.set j s22, x.size ≤ 1048576) ∧ (L.set j s22).length ≤ 2097152 from by
       refine ⟨fun x hx => ?_, ?_⟩
       ·rcases List.mem_or_eq_of_mem_set hx with hx | rfl
        ·exact HLZ.out x hx
        ·omega
       ·rw [List.length_set]; have := HNL.out; omega)
      have HODC := hide hodl
      clear hodl hcs hfz hom hold
      refine hide ?_
      go_upto_region 18 with fail
      obtain ⟨We, hWe⟩ : ∃ W, (Wc.setCell ⟨go, j, none⟩ (.string s22)).alloc (.cells #[.string ⟨#[118, 48]⟩, .string ⟨#[118, 50, 48, 49]⟩, .string ⟨#[118, 48, 49]⟩, .string ⟨#[104, 54, 52]⟩, .string ⟨#[104, 45, 49]⟩, .string ⟨#[114, 54, 52]⟩, .string ⟨#[115, 52, 48, 48]⟩, .string ⟨#[114, 48]⟩, .string ⟨#[115, 48]⟩, .string ⟨#[118, 49]⟩, .string ⟨#[104, 48]⟩, .string ⟨#[108, 111, 111, 112]⟩, .string ⟨#[116, 105, 108, 101]⟩, .string ⟨#[101, 100, 103, 101]⟩, .string ⟨#[61]⟩, .string ⟨#[44]⟩, .string ⟨#[58]⟩, .string ⟨#[50, 48, 48]⟩, .string ⟨#[45, 50]⟩, .string ⟨#[48, 48, 55]⟩, .string ⟨#[10]⟩, .string ⟨#[59, 32, 120, 32, 10]⟩] 9) = W := ⟨_, rfl⟩
      rw [hWe] at HOD2 HBe ⊢
      clear hWe hoc hof hol hcell HODC
      obtain ⟨oddL, hoL⟩ : ∃ l, L.set j s22 = l := ⟨_, rfl⟩
      rw [hoL] at HOD2 HOLZ
      clear hoL
      have HLe := hide (HLESSb.out.belowAll28 HBe.out)
      have HMe := hide (HMORE.out.belowAll28 HBe.out)
      have HVe := hide (show VarsP We from HVb.out.below HBe.out HVb.out.v.sz)
      have HBj := hide (Below.refl We.heap.size We)
      have HJ1 := hide (fun (W : World) (hb : Below We.heap.size We W) => join_any W _ _ _ gl _ cl lessL ⟨#[32]⟩ (HLe.out.belowAll28 hb) HLLZ.out.2 HLLZ.out.1 (by decide))
      have HJ2 := hide (fun (W : World) (hb : Below We.heap.size We W) => join_any W _ _ _ gm _ cm moreL ⟨#[32, 32]⟩ (HMe.out.belowAll28 hb) HMLZ.out.2 HMLZ.out.1 (by decide))
      have HJ3 := hide (fun (W : World) (hb : Below We.heap.size We W) => join_any W _ _ _ go _ co oddL ⟨#[32]⟩ (HOD2.out.belowAll28 hb) HOLZ.out.2 HOLZ.out.1 (by decide))
      have HPE := hide (fun (W : World) (hb : Below We.heap.size We W) (t : ByteArray) (ht : t.size ≤ 17592186044416) => HPS.out W (HVe.out.below hb HVe.out.v.sz) t (by omega))
      have HB6e := hide (show Below W6.heap.size W6 We from by
       have h1 := HBx.out.trans (HBxb.out.mono HBx.out.size)
       exact h1.trans (HBe.out.mono h1.size))
      clear HBc
      go_wp2_with (first
       | (go_at_call 26; (with_reducible refine (HJ1.out _ HBj.out).mono ?_); rintro e V ⟨t1, ht1, rfl, u, hV⟩; replace HBj := hide (show Below We.heap.size We V by rw [hV]; exact HBj.out.ext HBj.out.size u); clear hV u)
       | (go_at_call 26; (with_reducible refine (HJ2.out _ HBj.out).mono ?_); rintro e V ⟨t2, ht2, rfl, u, hV⟩; replace HBj := hide (show Below We.heap.size We V by rw [hV]; exact HBj.out.ext HBj.out.size u); clear hV u)
       | (go_at_call 26; (with_reducible refine (HJ3.out _ HBj.out).mono ?_); rintro e V ⟨t3, ht3, rfl, u, hV⟩; replace HBj := hide (show Below We.heap.size We V by rw [hV]; exact HBj.out.ext HBj.out.size u); clear hV u)
       | (go_at_call 3; (with_reducible refine (HPE.out _ HBj.out _ ht1).mono ?_); rintro e V ⟨rfl, u, hV⟩; replace HBj := hide (show Below We.heap.size We V by rw [hV]; exact HBj.out.ext HBj.out.size u); clear hV u)
       | (go_at_call 3; (with_reducible refine (HPE.out _ HBj.out _ ht2).mono ?_); rintro e V ⟨rfl, u, hV⟩; replace HBj := hide (show Below We.heap.size We V by rw [hV]; exact HBj.out.ext HBj.out.size u); clear hV u)
       | (go_at_call 3; (with_reducible refine (HPE.out _ HBj.out _ ht3).mono ?_); rintro e V ⟨rfl, u, hV⟩; replace HBj := hide (show Below We.heap.size We V by rw [hV]; exact HBj.out.ext HBj.out.size u); clear hV u))
      go_roundw
      case rel => exact ⟨j + 1, by omega, by go_num, HB6e.out.trans (HBj.out.mono HB6e.out.size)⟩
      case measure => simp [intOf]; omega
    ·obtain ⟨zl, hzl⟩ : ∃ z, decide ((j : Int) < N) = z := ⟨_, rfl⟩
     have hzz : zl = false ∨ (zl = true ∧ z7 = false) := by
      cases zl with
      | false => exact .inl rfl
      | true =>
       refine .inr ⟨rfl, ?_⟩
       cases z7 with
       | false => rfl
       | true => exact absurd ⟨by have := of_decide_eq_true hzl; omega, rfl⟩ hgo
     obtain ⟨r, hr⟩ : ∃ r, k * 3 % (tx.size + 1) = r := ⟨_, rfl⟩
     have er : ((k : Int) * 3).tmod ((tx.size : Int) + 1) = (r : Int) := by
      rw [← hr]
      have := Int.tmod_eq_emod_of_nonneg (a := (k : Int) * 3) (b := (tx.size : Int) + 1) (by omega)
      rw [this]
      norm_cast
     have lr : r ≤ tx.size := by have := Nat.mod_lt (k * 3) (show 0 < tx.size + 1 by omega); omega
     obtain ⟨pc, hpc⟩ : ∃ t, tx.extract 0 r = t := ⟨_, rfl⟩
     have hpz : pc.size ≤ 140737488355328 := by rw [← hpc, ByteArray.size_extract]; omega
     have HVX := hide (show VarsP wx from HV6.out.p.below HBx.out HV6.out.p.v.sz)
     have HPX := hide (HPS.out wx HVX.out pc hpz)
     have hbx := HB6.out.trans (HBx.out.mono HB6.out.size)
     have HBX := hide (HBw.out.trans (hbx.mono HBw.out.size))
     clear hbx hgo hr hpz HVX
     rcases hzz with rfl | ⟨rfl, rfl⟩
     ·have hjf : ¬ ((j : Int) < N) := of_decide_eq_false hzl
      go_wp2_with (go_at_call 3; (with_reducible refine HPX.out.mono ?_); rintro e _ ⟨rfl, u5, rfl⟩)
      go_roundw
      case rel => exact ⟨k + 1, by omega, by go_num, HBX.out.ext HBX.out.size u5⟩
      case measure => simp [intOf]; omega
     ·have hjf : ((j : Int) < N) := of_decide_eq_true hzl
      have h7f : ¬ ((r7 : Int) = 0) := by simpa using hz7
      go_wp2_with (go_at_call 3; (with_reducible refine HPX.out.mono ?_); rintro e _ ⟨rfl, u5, rfl⟩)
      go_roundw
      case rel => exact ⟨k + 1, by omega, by go_num, HBX.out.ext HBX.out.size u5⟩
      case measure => simp [intOf]; omega
  ·have hki : decide ((k : Int) < 144) = false := by simp; omega
   have HBy := hide (show Below w.heap.size w wr from HB0.out.trans (HBw.out.mono HB0.out.size))
   have HBc := hide (Below.refl wr.heap.size wr)
   have HVy := hide (show VarsP wr from HVw.out.p)
   have HPS := hide (fun (W : World) (hb : Below wr.heap.size wr W) (t : ByteArray) (ht : t.size ≤ 140737488355328) => certParses_any W (HVy.out.below hb HVy.out.v.sz) t ht)
   have HMS := hide (fun (W : World) (hb : Below wr.heap.size wr W) => HM.out W (HVy.out.below hb HVy.out.v.sz))
   have HAS := hide (fun (W : World) (hb : Below wr.heap.size wr W) => awake28_any W (HVy.out.below hb HVy.out.v.sz))
   clear hlt hk HVw HBw
   go_wp2_with (first
    | (go_at_call 3; (with_reducible refine (HPS.out _ HBc.out _ (by decide)).mono ?_); rintro e V ⟨rfl, u, hV⟩; replace HBc := hide (show Below wr.heap.size wr V by rw [hV]; exact HBc.out.ext HBc.out.size u); clear hV u)
    | (go_at_call 27; (with_reducible refine (HMS.out _ HBc.out).mono ?_); rintro e V ⟨rfl, u, hV⟩; replace HBc := hide (show Below wr.heap.size wr V by rw [hV]; exact HBc.out.ext HBc.out.size u); clear hV u)
    | (go_at_call 7; (with_reducible refine (HAS.out _ HBc.out).mono ?_); rintro e V ⟨rfl, u, hV⟩; replace HBc := hide (show Below wr.heap.size wr V by rw [hV]; exact HBc.out.ext HBc.out.size u); clear hV u))
   go_ret
   exact RetX.b rfl (HBy.out.trans (HBc.out.mono HBy.out.size))
end Go.Proofs.YtppkanniefignaaGreatDoor
