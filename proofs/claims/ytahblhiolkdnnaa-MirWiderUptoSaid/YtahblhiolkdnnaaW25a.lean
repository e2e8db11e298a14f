/- Walk: MirEnds: what a round's targets read as. -/
import Derived.Test.YtahblhiolkdnnaaW22
import Derived.Test.YtahblhiolkdnnaaW18
import Derived.Test.YtahblhiolkdnnaaName
set_option linter.unusedSimpArgs false
set_option linter.unusedVariables false
namespace Go.Proofs.Ytahblhiolkdnnaa
open Go.RowKit
theorem z0_ : InI 0 := int_ok (by decide)
theorem z4_ : InI 4 := int_ok (by decide)
def trapT : Term := ⟨4, 0, 0, 0⟩
def constI : Ins := ⟨1, 0, 0, 0, 0, 0, [], 0⟩
theorem small_blk {xs : List Block} (h1 : xs.length ≤ 3) (h2 : ∀ b ∈ xs, b.ins.length ≤ 3 ∧ ∀ i ∈ b.ins, i.args.length ≤ 3) : SmallT 1048576 xs :=
  ⟨by omega, fun b hb => ⟨by have := (h2 b hb).1; omega, fun i hi => by have := (h2 b hb).2 i hi; show _ ≤ _; omega⟩⟩
theorem ins_const {w : World} {S : Nat → Prop} : Rep.is w S constI [.int .i64 1, .int .i64 0, .int .i64 0, .int .i64 0, .int .i64 0, .int .i64 0, .slice none 0 0, .int .i64 0] :=
  Ins.mk_ (x := constI) (int_ok (by decide)) (int_ok (by decide)) (int_ok (by decide)) (int_ok (by decide)) (int_ok (by decide)) (int_ok (by decide)) Sl.nil (int_ok (by decide))
theorem blk_trap {w : World} {S : Nat → Prop} {A : Option Addr} {n c : Nat} {is : List Ins} (h : Sl w S A n c is) : Rep.is w S (⟨is, trapT⟩ : Block) [.slice A n c, .int .i64 4, .int .i64 0, .int .i64 0, .int .i64 0] :=
  Block.mk_ (x := ⟨is, trapT⟩) h z4_ z0_ z0_ z0_
def blksA (x : Ins) (t : Term) : List Block := [⟨[x], t⟩, ⟨[], trapT⟩]
def blksB (x : Ins) (t : Term) : List Block := [⟨[], t⟩, ⟨[constI, x], trapT⟩]
structure EndsW (Wc We : World) (x : Ins) (kk v1 v2 v3 k4 k5 : Int) : Prop where
  sA : Sl We (fun _ => True) (some ⟨Wc.heap.size + 1 + 1 + 1, 0, none⟩) 2 2 (blksA x ⟨kk, v1, v2, v3⟩)
  sB : Sl We (fun _ => True) (some ⟨Wc.heap.size + 1 + 1 + 1 + 1 + 1 + 1, 0, none⟩) 2 2 (blksB x ⟨kk, k4, 0, 0⟩)
  a0 : We.cell? ⟨Wc.heap.size, 0, none⟩ = some (.int .i64 kk)
  a1 : We.cell? ⟨Wc.heap.size, 1, none⟩ = some (.int .i64 v1)
  a2 : We.cell? ⟨Wc.heap.size, 2, none⟩ = some (.int .i64 v2)
  a3 : We.cell? ⟨Wc.heap.size, 3, none⟩ = some (.int .i64 v3)
  b0 : We.cell? ⟨Wc.heap.size + 1, 0, none⟩ = some (.int .i64 kk)
  b1 : We.cell? ⟨Wc.heap.size + 1, 1, none⟩ = some (.int .i64 k4)
  b2 : We.cell? ⟨Wc.heap.size + 1, 2, none⟩ = some (.int .i64 0)
  b3 : We.cell? ⟨Wc.heap.size + 1, 3, none⟩ = some (.int .i64 0)
  d0 : We.cell? ⟨Wc.heap.size + 1 + 1 + 1 + 1, 0, none⟩ = some (.int .i64 400)
  d1 : We.cell? ⟨Wc.heap.size + 1 + 1 + 1 + 1, 1, none⟩ = some (.slice (some ⟨Wc.heap.size + 1 + 1 + 1, 0, none⟩) 2 2)
  f0 : We.cell? ⟨Wc.heap.size + 1 + 1 + 1 + 1 + 1 + 1 + 1, 0, none⟩ = some (.int .i64 k5)
  f1 : We.cell? ⟨Wc.heap.size + 1 + 1 + 1 + 1 + 1 + 1 + 1, 1, none⟩ = some (.slice (some ⟨Wc.heap.size + 1 + 1 + 1 + 1 + 1 + 1, 0, none⟩) 2 2)
set_option maxHeartbeats 2000000 in
theorem endsW_mk {Wc We : World} {x : Ins} {A : Option Addr} {n c : Nat} {kk v1 v2 v3 k4 k5 : Int} (hx : Sl Wc (fun _ => True) A n c x.args) (i0 : InI x.op) (i1 : InI x.dst) (i2 : InI x.a) (i3 : InI x.b) (i4 : InI x.imm) (i5 : InI x.callee) (i7 : InI x.many)
    (hk : InI kk) (h1 : InI v1) (h2 : InI v2) (h3 : InI v3) (h4 : InI k4)
    (hWe : We = ((((((((Wc.alloc (.cells #[.int .i64 kk, .int .i64 v1, .int .i64 v2, .int .i64 v3] 40)).alloc (.cells #[.int .i64 kk, .int .i64 k4, .int .i64 0, .int .i64 0] 40)).alloc
      (.cells #[.int .i64 x.op, .int .i64 x.dst, .int .i64 x.a, .int .i64 x.b, .int .i64 x.imm, .int .i64 x.callee, .slice A n c, .int .i64 x.many] 30)).alloc
      (.cells #[.slice (some ⟨Wc.heap.size + 1 + 1, 0, none⟩) 1 1, .int .i64 kk, .int .i64 v1, .int .i64 v2, .int .i64 v3, .slice none 0 0, .int .i64 4, .int .i64 0, .int .i64 0, .int .i64 0] 42)).alloc
      (.cells #[.int .i64 400, .slice (some ⟨Wc.heap.size + 1 + 1 + 1, 0, none⟩) 2 2] 27)).alloc
      (.cells #[.int .i64 1, .int .i64 0, .int .i64 0, .int .i64 0, .int .i64 0, .int .i64 0, .slice none 0 0, .int .i64 0, .int .i64 x.op, .int .i64 x.dst, .int .i64 x.a, .int .i64 x.b, .int .i64 x.imm, .int .i64 x.callee, .slice A n c, .int .i64 x.many] 30)).alloc
      (.cells #[.slice none 0 0, .int .i64 kk, .int .i64 k4, .int .i64 0, .int .i64 0, .slice (some ⟨Wc.heap.size + 1 + 1 + 1 + 1 + 1, 0, none⟩) 2 2, .int .i64 4, .int .i64 0, .int .i64 0, .int .i64 0] 42)).alloc
      (.cells #[.int .i64 k5, .slice (some ⟨Wc.heap.size + 1 + 1 + 1 + 1 + 1 + 1, 0, none⟩) 2 2] 27)).drew) : EndsW Wc We x kk v1 v2 v3 k4 k5 := by
  have rx : ∀ {w : World}, Sl w (fun _ => True) A n c x.args → Rep.is w (fun _ => True) x [.int .i64 x.op, .int .i64 x.dst, .int .i64 x.a, .int .i64 x.b, .int .i64 x.imm, .int .i64 x.callee, .slice A n c, .int .i64 x.many] :=
    fun h => Ins.mk_ i0 i1 i2 i3 i4 i5 h i7
  obtain ⟨W2, hW2⟩ : ∃ W2, W2 = (Wc.alloc (.cells #[.int .i64 kk, .int .i64 v1, .int .i64 v2, .int .i64 v3] 40)).alloc (.cells #[.int .i64 kk, .int .i64 k4, .int .i64 0, .int .i64 0] 40) := ⟨_, rfl⟩
  have sz2 : W2.heap.size = Wc.heap.size + 1 + 1 := by subst hW2; simp
  have sx2 : Sl W2 (fun _ => True) A n c x.args := by subst hW2; exact (hx.alloc _).alloc _
  have s1 : Sl (W2.alloc (.cells #[.int .i64 x.op, .int .i64 x.dst, .int .i64 x.a, .int .i64 x.b, .int .i64 x.imm, .int .i64 x.callee, .slice A n c, .int .i64 x.many] 30)) (fun _ => True) (some ⟨Wc.heap.size + 1 + 1, 0, none⟩) 1 1 [x] :=
    Sl.lit sz2.symm (RepL.single (rx sx2)) rfl (by decide) (fun _ _ => trivial) trivial
  obtain ⟨W3, hW3⟩ : ∃ W3, W3 = W2.alloc (.cells #[.int .i64 x.op, .int .i64 x.dst, .int .i64 x.a, .int .i64 x.b, .int .i64 x.imm, .int .i64 x.callee, .slice A n c, .int .i64 x.many] 30) := ⟨_, rfl⟩
  have sz3 : W3.heap.size = Wc.heap.size + 1 + 1 + 1 := by subst hW3; simp [sz2]
  have sx3 : Sl W3 (fun _ => True) A n c x.args := by subst hW3; exact sx2.alloc _
  rw [← hW3] at s1
  have s2 : Sl (W3.alloc (.cells #[.slice (some ⟨Wc.heap.size + 1 + 1, 0, none⟩) 1 1, .int .i64 kk, .int .i64 v1, .int .i64 v2, .int .i64 v3, .slice none 0 0, .int .i64 4, .int .i64 0, .int .i64 0, .int .i64 0] 42)) (fun _ => True) (some ⟨Wc.heap.size + 1 + 1 + 1, 0, none⟩) 2 2 (blksA x ⟨kk, v1, v2, v3⟩) :=
    Sl.lit sz3.symm (show RepL W3 _ (blksA x ⟨kk, v1, v2, v3⟩) _ from ⟨_, _, rfl, Block.mk_ (x := ⟨[x], ⟨kk, v1, v2, v3⟩⟩) s1 hk h1 h2 h3, RepL.single (blk_trap Sl.nil)⟩) rfl (by decide) (fun _ _ => trivial) trivial
  obtain ⟨W5, hW5⟩ : ∃ W5, W5 = (W3.alloc (.cells #[.slice (some ⟨Wc.heap.size + 1 + 1, 0, none⟩) 1 1, .int .i64 kk, .int .i64 v1, .int .i64 v2, .int .i64 v3, .slice none 0 0, .int .i64 4, .int .i64 0, .int .i64 0, .int .i64 0] 42)).alloc (.cells #[.int .i64 400, .slice (some ⟨Wc.heap.size + 1 + 1 + 1, 0, none⟩) 2 2] 27) := ⟨_, rfl⟩
  have sz5 : W5.heap.size = Wc.heap.size + 1 + 1 + 1 + 1 + 1 := by subst hW5; simp [sz3]
  have sx5 : Sl W5 (fun _ => True) A n c x.args := by subst hW5; exact (sx3.alloc _).alloc _
  have s25 : Sl W5 (fun _ => True) (some ⟨Wc.heap.size + 1 + 1 + 1, 0, none⟩) 2 2 (blksA x ⟨kk, v1, v2, v3⟩) := by subst hW5; exact s2.alloc _
  have s3 : Sl (W5.alloc (.cells #[.int .i64 1, .int .i64 0, .int .i64 0, .int .i64 0, .int .i64 0, .int .i64 0, .slice none 0 0, .int .i64 0, .int .i64 x.op, .int .i64 x.dst, .int .i64 x.a, .int .i64 x.b, .int .i64 x.imm, .int .i64 x.callee, .slice A n c, .int .i64 x.many] 30)) (fun _ => True) (some ⟨Wc.heap.size + 1 + 1 + 1 + 1 + 1, 0, none⟩) 2 2 [constI, x] :=
    Sl.lit sz5.symm (show RepL W5 _ [constI, x] _ from ⟨_, _, rfl, ins_const, RepL.single (rx sx5)⟩) rfl (by decide) (fun _ _ => trivial) trivial
  obtain ⟨W6, hW6⟩ : ∃ W6, W6 = W5.alloc (.cells #[.int .i64 1, .int .i64 0, .int .i64 0, .int .i64 0, .int .i64 0, .int .i64 0, .slice none 0 0, .int .i64 0, .int .i64 x.op, .int .i64 x.dst, .int .i64 x.a, .int .i64 x.b, .int .i64 x.imm, .int .i64 x.callee, .slice A n c, .int .i64 x.many] 30) := ⟨_, rfl⟩
  have sz6 : W6.heap.size = Wc.heap.size + 1 + 1 + 1 + 1 + 1 + 1 := by subst hW6; simp [sz5]
  rw [← hW6] at s3
  have s26 : Sl W6 (fun _ => True) (some ⟨Wc.heap.size + 1 + 1 + 1, 0, none⟩) 2 2 (blksA x ⟨kk, v1, v2, v3⟩) := by subst hW6; exact s25.alloc _
  have s4 : Sl (W6.alloc (.cells #[.slice none 0 0, .int .i64 kk, .int .i64 k4, .int .i64 0, .int .i64 0, .slice (some ⟨Wc.heap.size + 1 + 1 + 1 + 1 + 1, 0, none⟩) 2 2, .int .i64 4, .int .i64 0, .int .i64 0, .int .i64 0] 42)) (fun _ => True) (some ⟨Wc.heap.size + 1 + 1 + 1 + 1 + 1 + 1, 0, none⟩) 2 2 (blksB x ⟨kk, k4, 0, 0⟩) :=
    Sl.lit sz6.symm (show RepL W6 _ (blksB x ⟨kk, k4, 0, 0⟩) _ from ⟨_, _, rfl, Block.mk_ (x := ⟨[], ⟨kk, k4, 0, 0⟩⟩) Sl.nil hk h4 z0_ z0_, RepL.single (blk_trap s3)⟩) rfl (by decide) (fun _ _ => trivial) trivial
  refine ⟨?_, ?_, ?_, ?_, ?_, ?_, ?_, ?_, ?_, ?_, ?_, ?_, ?_, ?_⟩
  · rw [hWe, ← hW2, ← hW3, ← hW5, ← hW6]; exact ((s26.alloc _).alloc _).drew
  · rw [hWe, ← hW2, ← hW3, ← hW5, ← hW6]; exact (s4.alloc _).drew
  all_goals (subst hWe; go_simp)
/-- What the round's calls answer. -/
theorem parts_ends (W : World) (x : Ins) (A : Option Addr) (n c : Nat) (tk ta tp tq : Int) (ea ev : Nat) (h1 : Sl W (fun _ => True) (some ⟨ea, 0, none⟩) 2 2 [(2 : Int), 0]) (h2 : Sl W (fun _ => True) (some ⟨ev, 0, none⟩) 1 1 [(2 : Int)]) (hx : Sl W (fun _ => True) A n c x.args) (hn : n ≤ 3)
    (ia : InI x.a) (ib : InI x.b) (ii : InI x.imm) (idd : InI x.dst) (ita : InI ta) (u : Ext) :
    Calls Try.prog 5 #[.agg #[.int .i64 3, .slice (some ⟨ea, 0, none⟩) 2 2, .int .i64 1, .slice (some ⟨ev, 0, none⟩) 1 1], .agg #[.int .i64 x.op, .int .i64 x.dst, .int .i64 x.a, .int .i64 x.b, .int .i64 x.imm, .int .i64 x.callee, .slice A n c, .int .i64 x.many],
      .agg #[.int .i64 tk, .int .i64 ta, .int .i64 tp, .int .i64 tq]] (W.ext u) (RetX (.bool true) (W.ext u)) :=
  parts_any (W.ext u) _ _ _ ⟨3, [2, 0], 1, [2]⟩ _ _ _ _ _ _ (h1.ext u) (h2.ext u) (int_ok (by decide)) x A n c (hx.ext u) ia ib ii idd ⟨tk, ta, tp, tq⟩ ita (by omega)
theorem tells_ends (W : World) (ea ev : Nat) (h1 : Sl W (fun _ => True) (some ⟨ea, 0, none⟩) 2 2 [(2 : Int), 0]) (h2 : Sl W (fun _ => True) (some ⟨ev, 0, none⟩) 1 1 [(2 : Int)]) (xs : List Block) (A : Option Addr) (n c : Nat) (fr : Int) (hx : Sl W (fun _ => True) A n c xs) (hf : InI fr) (hm : SmallT 1048576 xs) (u : Ext) :
    Calls Try.prog 4 #[.agg #[.int .i64 3, .slice (some ⟨ea, 0, none⟩) 2 2, .int .i64 1, .slice (some ⟨ev, 0, none⟩) 1 1], .agg #[.int .i64 fr, .slice A n c]] (W.ext u) (RetX (.bool true) (W.ext u)) :=
  tells_any (W.ext u) _ _ _ ⟨3, [2, 0], 1, [2]⟩ _ _ _ _ _ _ (h1.ext u) (h2.ext u) (int_ok (by decide)) ⟨fr, xs⟩ A n c (hx.ext u) hf hm (by omega)
theorem small_A {x : Ins} {t : Term} (h : x.args.length ≤ 3) : SmallT 1048576 (blksA x t) := small_blk (by simp [blksA]) (by simp [blksA]; exact h)
theorem small_B {x : Ins} {t : Term} (h : x.args.length ≤ 3) : SmallT 1048576 (blksB x t) := small_blk (by simp [blksB]) (by simp [blksB, constI]; exact h)
end Go.Proofs.Ytahblhiolkdnnaa
