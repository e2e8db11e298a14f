/- Walks: the chapter's example. -/
import Derived.Test.YtahblhiolkdnnaaW2
import Derived.Test.YtahblhiolkdnnaaW4
import Derived.Test.YtahblhiolkdnnaaW6
import Derived.Test.YtahblhiolkdnnaaW13
import Derived.Test.YtahblhiolkdnnaaFlow3
set_option linter.unusedSimpArgs false
set_option linter.unusedVariables false
namespace Go.Proofs.Ytahblhiolkdnnaa
open Go.RowKit
def RepP {α : Type} [Rep α] (x : α) : Post := fun v w => ∃ (S : Nat → Prop) (us : List Value), v = .agg us.toArray ∧ Rep.is w S x us
theorem RepP.stable_ {α : Type} [Rep α] {x : α} {F : World → Prop} {mem : Bool} (hm : mem = true) : stable F mem (RepP x) :=
  stable_mem hm fun _ w u ⟨S, us, h, h'⟩ => ⟨S, us, h, Rep.keep h' (by rw [size_ext]; omega) fun b _ hb => ext_block w u b hb⟩
theorem targetOf_any (w : World) (S : Nat → Prop) (t : Target) (most : Int) (A : Option Addr) (n c : Nat) (h : Sl w S A n c t.blocks) (hm : SmallT 1048576 t.blocks) (hmost : 0 ≤ most ∧ most ≤ 1048576) :
    Calls Try.prog 9 #[.agg #[.int .i64 t.frame, .slice A n c], .int .i64 most] w (RetX (.int .i64 (blocksOf most 0 t.blocks)) w) := by
  have HS := hide h; have HM := hide hm
  clear h hm
  go_enter Try.func9, Try.ntmps9
  go_wp2_with (go_at_call 33; refine (blocksOf_any _ S t.blocks most A n c (by repeat (first | assumption | exact Hd.out (by assumption) | apply Sl.alloc | apply Sl.ext | apply Sl.drew | apply Sl.drewN)) HM.out hmost).mono ?_; rintro e w' ⟨rfl, rfl⟩)
  go_ret; exact RetX.i rfl (by repeat (first | exact Below.refl _ _ | assumption | refine Below.alloc ?_ (by simp [size_ext]; try omega) _ | refine Below.ext ?_ (by simp [size_ext]; try omega) _ | refine Below.drew ?_ | refine Below.setCell ?_ (by simp [size_ext]; try omega) _))
def blkB : Block := ⟨[⟨16, 0, 1, 0, 0, 0, [], 0⟩, ⟨17, 0, 0, 0, 0, 0, [], 0⟩], ⟨4, 0, 0, 0⟩⟩
def blkC : Block := ⟨[⟨17, 0, 0, 0, 1, 0, [], 0⟩], ⟨4, 0, 0, 0⟩⟩
theorem right_val {e : Int} (w : World) (S S1 S2 : Nat → Prop) (m : Machine) (A1 A2 : Option Addr) (n1 c1 n2 c2 : Nat) (h1 : Sl w S1 A1 n1 c1 m.args) (h2 : Sl w S2 A2 n2 c2 m.saved) (hi : InI m.ret)
    (t : Target) (A : Option Addr) (n c : Nat) (h : Sl w S A n c t.blocks) (he : rightT m t = e) :
    Calls Try.prog 11 #[.agg #[.int .i64 m.regs, .slice A1 n1 c1, .int .i64 m.ret, .slice A2 n2 c2], .agg #[.int .i64 t.frame, .slice A n c]] w (RetX (.int .i64 e) w) := he ▸ right_any w S S1 S2 m A1 A2 n1 c1 n2 c2 h1 h2 hi t A n c h
def twoM : Machine := ⟨2, [1], 0, []⟩
theorem rightT_B : rightT twoM ⟨1, [blkB]⟩ = 0 := by decide
theorem rightT_C : rightT twoM ⟨1, [blkC]⟩ = 11 := by decide
theorem rep_blk {w : World} {x : Block} {A : Option Addr} {n c : Nat} {S : Nat → Prop} (h : Sl w S A n c x.ins) (h1 : InI x.term.kind) (h2 : InI x.term.a) (h3 : InI x.term.to0) (h4 : InI x.term.to1) : RepL w S [x] [.slice A n c, .int .i64 x.term.kind, .int .i64 x.term.a, .int .i64 x.term.to0, .int .i64 x.term.to1] :=
  RepL.single (Block.mk_ h h1 h2 h3 h4)
theorem int_ok {x : Int} (h : x = 0 ∨ x = 1 ∨ x = 4 ∨ x = 16 ∨ x = 17) : InI x := by unfold InI; omega
set_option maxHeartbeats 2000000 in
set_option maxRecDepth 8000 in
theorem awake_any (w : World) : Calls Try.prog 8 #[] w (RetX (.bool true) w) := by
  go_enter Try.func8, Try.ntmps8
  go_wp2_with fail
  have rb : RepL w (fun _ => True) blkB.ins [.int .i64 16, .int .i64 0, .int .i64 1, .int .i64 0, .int .i64 0, .int .i64 0, .slice none 0 0, .int .i64 0, .int .i64 17, .int .i64 0, .int .i64 0, .int .i64 0, .int .i64 0, .int .i64 0, .slice none 0 0, .int .i64 0] :=
    ⟨_, _, rfl, Ins.mk_ (x := ⟨16, 0, 1, 0, 0, 0, [], 0⟩) (int_ok (by decide)) (int_ok (by decide)) (int_ok (by decide)) (int_ok (by decide)) (int_ok (by decide)) (int_ok (by decide)) Sl.nil (int_ok (by decide)),
      RepL.single (Ins.mk_ (x := ⟨17, 0, 0, 0, 0, 0, [], 0⟩) (int_ok (by decide)) (int_ok (by decide)) (int_ok (by decide)) (int_ok (by decide)) (int_ok (by decide)) (int_ok (by decide)) Sl.nil (int_ok (by decide)))⟩
  have rc : ∀ w : World, RepL w (fun _ => True) blkC.ins [.int .i64 17, .int .i64 0, .int .i64 0, .int .i64 0, .int .i64 1, .int .i64 0, .slice none 0 0, .int .i64 0] := fun w =>
    RepL.single (Ins.mk_ (x := ⟨17, 0, 0, 0, 1, 0, [], 0⟩) (int_ok (by decide)) (int_ok (by decide)) (int_ok (by decide)) (int_ok (by decide)) (int_ok (by decide)) (int_ok (by decide)) Sl.nil (int_ok (by decide)))
  obtain ⟨W, hW⟩ : ∃ W, W = ((((w.alloc (.cells #[.int .i64 16, .int .i64 0, .int .i64 1, .int .i64 0, .int .i64 0, .int .i64 0, .slice none 0 0, .int .i64 0, .int .i64 17, .int .i64 0, .int .i64 0, .int .i64 0, .int .i64 0, .int .i64 0, .slice none 0 0, .int .i64 0] 30)).alloc
      (.cells #[.slice (some ⟨w.heap.size, 0, none⟩) 2 2, .int .i64 4, .int .i64 0, .int .i64 0, .int .i64 0] 42)).alloc (.cells #[.int .i64 17, .int .i64 0, .int .i64 0, .int .i64 0, .int .i64 1, .int .i64 0, .slice none 0 0, .int .i64 0] 30)).alloc
      (.cells #[.slice (some ⟨w.heap.size + 1 + 1, 0, none⟩) 1 1, .int .i64 4, .int .i64 0, .int .i64 0, .int .i64 0] 42)) := ⟨_, rfl⟩
  have FB := hide (show Below w.heap.size w W by subst hW; exact (by repeat (first | exact Below.refl _ _ | assumption | refine Below.alloc ?_ (by simp [size_ext]; try omega) _ | refine Below.ext ?_ (by simp [size_ext]; try omega) _ | refine Below.drew ?_ | refine Below.setCell ?_ (by simp [size_ext]; try omega) _)))
  have FS := hide (show W.heap.size = w.heap.size + 1 + 1 + 1 + 1 by subst hW; simp)
  have b0 : W.cell? ⟨w.heap.size + 1, 0, none⟩ = some (.slice (some ⟨w.heap.size, 0, none⟩) 2 2) := by subst hW; go_simp
  have b1 : W.cell? ⟨w.heap.size + 1, 1, none⟩ = some (.int .i64 4) := by subst hW; go_simp
  have b2 : W.cell? ⟨w.heap.size + 1, 2, none⟩ = some (.int .i64 0) := by subst hW; go_simp
  have b3 : W.cell? ⟨w.heap.size + 1, 3, none⟩ = some (.int .i64 0) := by subst hW; go_simp
  have b4 : W.cell? ⟨w.heap.size + 1, 4, none⟩ = some (.int .i64 0) := by subst hW; go_simp
  have e0 : W.cell? ⟨w.heap.size + 1 + 1 + 1, 0, none⟩ = some (.slice (some ⟨w.heap.size + 1 + 1, 0, none⟩) 1 1) := by subst hW; go_simp
  have e1 : W.cell? ⟨w.heap.size + 1 + 1 + 1, 1, none⟩ = some (.int .i64 4) := by subst hW; go_simp
  have e2 : W.cell? ⟨w.heap.size + 1 + 1 + 1, 2, none⟩ = some (.int .i64 0) := by subst hW; go_simp
  have e3 : W.cell? ⟨w.heap.size + 1 + 1 + 1, 3, none⟩ = some (.int .i64 0) := by subst hW; go_simp
  have e4 : W.cell? ⟨w.heap.size + 1 + 1 + 1, 4, none⟩ = some (.int .i64 0) := by subst hW; go_simp
  have SB : Hd (Sl W (fun _ => True) (some ⟨w.heap.size, 0, none⟩) 2 2 blkB.ins) := hide (by subst hW; exact (((Sl.lit rfl rb rfl (by decide) (fun _ _ => trivial) trivial).alloc _).alloc _).alloc _)
  have SC : Hd (Sl W (fun _ => True) (some ⟨w.heap.size + 1 + 1, 0, none⟩) 1 1 blkC.ins) := hide (by subst hW; exact (Sl.lit (by simp) (rc _) rfl (by decide) (fun _ _ => trivial) trivial).alloc _)
  have f1 : w.heap.size + 1 < W.heap.size := by have := FS.out; omega
  have f3 : w.heap.size + 1 + 1 + 1 < W.heap.size := by have := FS.out; omega
  have fle : w.heap.size ≤ W.heap.size := by omega
  rw [← hW]
  clear hW rb rc
  refine wp_region_flow_ext [] [0, 2, 3, 7, 9, 10] (by kernel_rfl) rfl (by kernel_rfl) ?_
  refine flow_keep0 (RepP twoM) (by kernel_rfl) (RepP.stable_ rfl) ?_ ?_
  · intro u
    go_simp
    refine (two_any _).mono ?_
    rintro e _ ⟨vs, rfl, hv, x, rfl⟩
    exact ⟨_, rfl, ⟨_, vs, rfl, hv⟩, onW_ext ⟨_, rfl⟩ ⟨x, rfl⟩⟩
  repeat (refine flow_known (by kernel_rfl) (fun K hK => ?_); go_simp; (first | (refine hK _ ?_; clear hK K) | (apply Exists.intro; refine ⟨fun _ => ?_, hK _ ?_⟩; (fail); clear hK K)))
  refine flow_keep0 (FullP 1 [blkB]) (by kernel_rfl) (FullP.stable_ rfl) ?_ ?_
  · intro u
    go_simp
    exact ⟨FullP.lit (S := fun _ => True) rfl (by rw [size_ext]) (rep_blk (x := blkB) (SB.out.ext u) (int_ok (by decide)) (int_ok (by decide)) (int_ok (by decide)) (int_ok (by decide))) rfl (by decide), onW_alloc rfl ⟨_, rfl⟩⟩
  refine flow_keep [false, true] (RepP (⟨1, [blkB]⟩ : Target)) (by kernel_rfl) (RepP.stable_ rfl) ?_ ?_
  · intro u
    try simp only [List.nil_append, List.cons_append, useH_f, useH_t, useH_nil]
    rintro _ ⟨S, b, rfl, hs⟩
    go_simp
    exact ⟨⟨S, _, rfl, Target.mk_ (x := ⟨1, [blkB]⟩) (int_ok (by decide)) hs⟩, onW_same ⟨_, rfl⟩⟩
  refine flow_out [true, false, true] (.int .i64 0) (by kernel_rfl) ?_ ?_
  · intro u
    try simp only [List.nil_append, List.cons_append, useH_f, useH_t, useH_nil]
    rintro _ ⟨S1, us1, rfl, h1⟩
    try simp only [List.nil_append, List.cons_append, useH_f, useH_t, useH_nil]
    rintro _ ⟨S2, us2, rfl, h2⟩
    obtain ⟨A1, n1, c1, A2, n2, c2, rfl, i1, s1, i2, s2⟩ := Machine.open_ h1
    obtain ⟨A, n, c, rfl, i3, s3⟩ := Target.open_ h2
    go_simp
    exact right_val _ S2 S1 S1 twoM A1 A2 n1 c1 n2 c2 s1 s2 i2 ⟨1, [blkB]⟩ A n c s3 rightT_B
  repeat (refine flow_known (by kernel_rfl) (fun K hK => ?_); go_simp; (first | (refine hK _ ?_; clear hK K) | (apply Exists.intro; refine ⟨fun _ => ?_, hK _ ?_⟩; (fail); clear hK K)))
  refine flow_keep0 (RepP twoM) (by kernel_rfl) (RepP.stable_ rfl) ?_ ?_
  · intro u
    go_simp
    refine (two_any _).mono ?_
    rintro e _ ⟨vs, rfl, hv, x, rfl⟩
    exact ⟨_, rfl, ⟨_, vs, rfl, hv⟩, onW_ext ⟨_, rfl⟩ ⟨x, rfl⟩⟩
  repeat (refine flow_known (by kernel_rfl) (fun K hK => ?_); go_simp; (first | (refine hK _ ?_; clear hK K) | (apply Exists.intro; refine ⟨fun _ => ?_, hK _ ?_⟩; (fail); clear hK K)))
  refine flow_keep0 (FullP 1 [blkC]) (by kernel_rfl) (FullP.stable_ rfl) ?_ ?_
  · intro u
    go_simp
    exact ⟨FullP.lit (S := fun _ => True) rfl (by rw [size_ext]) (rep_blk (x := blkC) (SC.out.ext u) (int_ok (by decide)) (int_ok (by decide)) (int_ok (by decide)) (int_ok (by decide))) rfl (by decide), onW_alloc rfl ⟨_, rfl⟩⟩
  refine flow_keep [false, false, false, false, true] (RepP (⟨1, [blkC]⟩ : Target)) (by kernel_rfl) (RepP.stable_ rfl) ?_ ?_
  · intro u
    try simp only [List.nil_append, List.cons_append, useH_f, useH_t, useH_nil]
    rintro _ ⟨S, b, rfl, hs⟩
    go_simp
    exact ⟨⟨S, _, rfl, Target.mk_ (x := ⟨1, [blkC]⟩) (int_ok (by decide)) hs⟩, onW_same ⟨_, rfl⟩⟩
  refine flow_out [false, false, false, true, false, true] (.int .i64 11) (by kernel_rfl) ?_ ?_
  · intro u
    try simp only [List.nil_append, List.cons_append, useH_f, useH_t, useH_nil]
    rintro _ ⟨S1, us1, rfl, h1⟩
    try simp only [List.nil_append, List.cons_append, useH_f, useH_t, useH_nil]
    rintro _ ⟨S2, us2, rfl, h2⟩
    obtain ⟨A1, n1, c1, A2, n2, c2, rfl, i1, s1, i2, s2⟩ := Machine.open_ h1
    obtain ⟨A, n, c, rfl, i3, s3⟩ := Target.open_ h2
    go_simp
    exact right_val _ S2 S1 S1 twoM A1 A2 n1 c1 n2 c2 s1 s2 i2 ⟨1, [blkC]⟩ A n c s3 rightT_C
  repeat (refine flow_known (by kernel_rfl) (fun K hK => ?_); go_simp; (first | (refine hK _ ?_; clear hK K) | (apply Exists.intro; refine ⟨fun _ => ?_, hK _ ?_⟩; ((go_at_call 28; exact Ret.retX (inserted_any _ _))); clear hK K)))
  refine flow_done [true, true, true, true, true, true] (by kernel_rfl) ?_
  intro uq
  simp only [List.nil_append, List.cons_append, endH_f, endH_t, endH_nil]
  rintro v1 _ v2 _ v3 _ v4 _ v5 _ v6 _
  go_wp2
  go_ret
  exact RetX.b rfl (by repeat (first | exact Below.refl _ _ | assumption | exact Hd.out (by assumption) | refine Below.alloc ?_ (by first | omega | (simp [size_ext]; try omega)) _ | refine Below.ext ?_ (by first | omega | (simp [size_ext]; try omega)) _ | refine Below.drew ?_ | refine Below.setCell ?_ (by first | omega | (simp [size_ext]; try omega)) _))
end Go.Proofs.Ytahblhiolkdnnaa
