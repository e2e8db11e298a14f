/- The program's structs, and what they read as. Written by gen_types.py. -/
import Derived.Test.YtbppamjogdjfkaaBase
set_option linter.unusedSimpArgs false
set_option linter.unusedVariables false
namespace Go.Proofs.Ytbppamjogdjfkaa
open Go.RowKit

structure Loc where
  slot : Bool
  n : Int
  deriving DecidableEq, Inhabited
instance : Rep Loc := Rep.via fun x => (x.slot, x.n)
theorem Loc.open_ {w : World} {S : Nat → Prop} {x : Loc} {vs : List Value} (h : Rep.is w S x vs) : vs = [.bool x.slot, .int .i64 x.n] ∧ InI x.n := by
  obtain ⟨us0, ts0, e0, h0, r0⟩ := h
  have v1 := h0
  obtain ⟨v2, f2⟩ := r0
  refine ⟨?_, f2⟩
  subst_vars; simp
theorem Loc.mk_ {w : World} {S : Nat → Prop} {x : Loc} (f0 : InI x.n) : Rep.is w S x [.bool x.slot, .int .i64 x.n] := by
  exact ⟨_, _, rfl, rfl, ⟨rfl, f0⟩⟩
theorem at_Loc {w : World} {S : Nat → Prop} {A : Option Addr} {n c : Nat} {xs : List Loc} (h : Sl w S A n c xs) {k : Nat} (hk : k < n) :
    ∃ b off, ∃ x : Loc, A = some ⟨b, off, none⟩ ∧ b < w.heap.size ∧ xs[k]? = some x ∧ InI x.n ∧ w.cell? ⟨b, off + k * 2, none⟩ = some (.bool x.slot) ∧ w.cell? ⟨b, off + k * 2 + 1, none⟩ = some (.int .i64 x.n) := by
  obtain ⟨b, off, x, us, e, hb, _, hx, hus, hc⟩ := h.at_ hk
  obtain ⟨rfl, g0⟩ := Loc.open_ hus
  refine ⟨b, off, x, e, hb, hx, g0, ?_, ?_⟩
  · have := hc 0 _ rfl; simpa [Rep.size, Nat.add_assoc] using this
  · have := hc 1 _ rfl; simpa [Rep.size, Nat.add_assoc] using this

structure Ins where
  op : Int
  dst : Int
  a : Int
  b : Int
  imm : Int
  callee : Int
  args : List Int
  many : Int
  deriving DecidableEq, Inhabited
instance : Rep Ins := Rep.via fun x => (x.op, x.dst, x.a, x.b, x.imm, x.callee, x.args, x.many)
theorem Ins.open_ {w : World} {S : Nat → Prop} {x : Ins} {vs : List Value} (h : Rep.is w S x vs) : ∃ Aargs : Option Addr, ∃ nargs : Nat, ∃ cargs : Nat, vs = [.int .i64 x.op, .int .i64 x.dst, .int .i64 x.a, .int .i64 x.b, .int .i64 x.imm, .int .i64 x.callee, .slice Aargs nargs cargs, .int .i64 x.many] ∧ InI x.op ∧ InI x.dst ∧ InI x.a ∧ InI x.b ∧ InI x.imm ∧ InI x.callee ∧ Sl w S Aargs nargs cargs x.args ∧ InI x.many := by
  obtain ⟨us0, ts0, e0, h0, r0⟩ := h
  obtain ⟨us1, ts1, e1, h1, r1⟩ := r0
  obtain ⟨us2, ts2, e2, h2, r2⟩ := r1
  obtain ⟨us3, ts3, e3, h3, r3⟩ := r2
  obtain ⟨us4, ts4, e4, h4, r4⟩ := r3
  obtain ⟨us5, ts5, e5, h5, r5⟩ := r4
  obtain ⟨us6, ts6, e6, h6, r6⟩ := r5
  obtain ⟨v7, f7⟩ := h0
  obtain ⟨v8, f8⟩ := h1
  obtain ⟨v9, f9⟩ := h2
  obtain ⟨v10, f10⟩ := h3
  obtain ⟨v11, f11⟩ := h4
  obtain ⟨v12, f12⟩ := h5
  obtain ⟨A13, n13, c13, v13, f13⟩ := h6
  obtain ⟨v14, f14⟩ := r6
  refine ⟨A13, n13, c13, ?_, f7, f8, f9, f10, f11, f12, f13, f14⟩
  subst_vars; simp
theorem Ins.mk_ {w : World} {S : Nat → Prop} {x : Ins} {Aargs : Option Addr} {nargs : Nat} {cargs : Nat} (f0 : InI x.op) (f1 : InI x.dst) (f2 : InI x.a) (f3 : InI x.b) (f4 : InI x.imm) (f5 : InI x.callee) (f6 : Sl w S Aargs nargs cargs x.args) (f7 : InI x.many) : Rep.is w S x [.int .i64 x.op, .int .i64 x.dst, .int .i64 x.a, .int .i64 x.b, .int .i64 x.imm, .int .i64 x.callee, .slice Aargs nargs cargs, .int .i64 x.many] := by
  exact ⟨_, _, rfl, ⟨rfl, f0⟩, ⟨_, _, rfl, ⟨rfl, f1⟩, ⟨_, _, rfl, ⟨rfl, f2⟩, ⟨_, _, rfl, ⟨rfl, f3⟩, ⟨_, _, rfl, ⟨rfl, f4⟩, ⟨_, _, rfl, ⟨rfl, f5⟩, ⟨_, _, rfl, ⟨_, _, _, rfl, f6⟩, ⟨rfl, f7⟩⟩⟩⟩⟩⟩⟩⟩
theorem at_Ins {w : World} {S : Nat → Prop} {A : Option Addr} {n c : Nat} {xs : List Ins} (h : Sl w S A n c xs) {k : Nat} (hk : k < n) :
    ∃ b off, ∃ x : Ins, ∃ Aargs : Option Addr, ∃ nargs : Nat, ∃ cargs : Nat, A = some ⟨b, off, none⟩ ∧ b < w.heap.size ∧ xs[k]? = some x ∧ InI x.op ∧ InI x.dst ∧ InI x.a ∧ InI x.b ∧ InI x.imm ∧ InI x.callee ∧ Sl w S Aargs nargs cargs x.args ∧ InI x.many ∧ w.cell? ⟨b, off + k * 8, none⟩ = some (.int .i64 x.op) ∧ w.cell? ⟨b, off + k * 8 + 1, none⟩ = some (.int .i64 x.dst) ∧ w.cell? ⟨b, off + k * 8 + 2, none⟩ = some (.int .i64 x.a) ∧ w.cell? ⟨b, off + k * 8 + 3, none⟩ = some (.int .i64 x.b) ∧ w.cell? ⟨b, off + k * 8 + 4, none⟩ = some (.int .i64 x.imm) ∧ w.cell? ⟨b, off + k * 8 + 5, none⟩ = some (.int .i64 x.callee) ∧ w.cell? ⟨b, off + k * 8 + 6, none⟩ = some (.slice Aargs nargs cargs) ∧ w.cell? ⟨b, off + k * 8 + 7, none⟩ = some (.int .i64 x.many) := by
  obtain ⟨b, off, x, us, e, hb, _, hx, hus, hc⟩ := h.at_ hk
  obtain ⟨Aargs, nargs, cargs, rfl, g0, g1, g2, g3, g4, g5, g6, g7⟩ := Ins.open_ hus
  refine ⟨b, off, x, Aargs, nargs, cargs, e, hb, hx, g0, g1, g2, g3, g4, g5, g6, g7, ?_, ?_, ?_, ?_, ?_, ?_, ?_, ?_⟩
  · have := hc 0 _ rfl; simpa [Rep.size, Nat.add_assoc] using this
  · have := hc 1 _ rfl; simpa [Rep.size, Nat.add_assoc] using this
  · have := hc 2 _ rfl; simpa [Rep.size, Nat.add_assoc] using this
  · have := hc 3 _ rfl; simpa [Rep.size, Nat.add_assoc] using this
  · have := hc 4 _ rfl; simpa [Rep.size, Nat.add_assoc] using this
  · have := hc 5 _ rfl; simpa [Rep.size, Nat.add_assoc] using this
  · have := hc 6 _ rfl; simpa [Rep.size, Nat.add_assoc] using this
  · have := hc 7 _ rfl; simpa [Rep.size, Nat.add_assoc] using this

structure Term where
  kind : Int
  a : Int
  to0 : Int
  to1 : Int
  deriving DecidableEq, Inhabited
instance : Rep Term := Rep.via fun x => (x.kind, x.a, x.to0, x.to1)
theorem Term.open_ {w : World} {S : Nat → Prop} {x : Term} {vs : List Value} (h : Rep.is w S x vs) : vs = [.int .i64 x.kind, .int .i64 x.a, .int .i64 x.to0, .int .i64 x.to1] ∧ InI x.kind ∧ InI x.a ∧ InI x.to0 ∧ InI x.to1 := by
  obtain ⟨us0, ts0, e0, h0, r0⟩ := h
  obtain ⟨us1, ts1, e1, h1, r1⟩ := r0
  obtain ⟨us2, ts2, e2, h2, r2⟩ := r1
  obtain ⟨v3, f3⟩ := h0
  obtain ⟨v4, f4⟩ := h1
  obtain ⟨v5, f5⟩ := h2
  obtain ⟨v6, f6⟩ := r2
  refine ⟨?_, f3, f4, f5, f6⟩
  subst_vars; simp
theorem Term.mk_ {w : World} {S : Nat → Prop} {x : Term} (f0 : InI x.kind) (f1 : InI x.a) (f2 : InI x.to0) (f3 : InI x.to1) : Rep.is w S x [.int .i64 x.kind, .int .i64 x.a, .int .i64 x.to0, .int .i64 x.to1] := by
  exact ⟨_, _, rfl, ⟨rfl, f0⟩, ⟨_, _, rfl, ⟨rfl, f1⟩, ⟨_, _, rfl, ⟨rfl, f2⟩, ⟨rfl, f3⟩⟩⟩⟩
theorem at_Term {w : World} {S : Nat → Prop} {A : Option Addr} {n c : Nat} {xs : List Term} (h : Sl w S A n c xs) {k : Nat} (hk : k < n) :
    ∃ b off, ∃ x : Term, A = some ⟨b, off, none⟩ ∧ b < w.heap.size ∧ xs[k]? = some x ∧ InI x.kind ∧ InI x.a ∧ InI x.to0 ∧ InI x.to1 ∧ w.cell? ⟨b, off + k * 4, none⟩ = some (.int .i64 x.kind) ∧ w.cell? ⟨b, off + k * 4 + 1, none⟩ = some (.int .i64 x.a) ∧ w.cell? ⟨b, off + k * 4 + 2, none⟩ = some (.int .i64 x.to0) ∧ w.cell? ⟨b, off + k * 4 + 3, none⟩ = some (.int .i64 x.to1) := by
  obtain ⟨b, off, x, us, e, hb, _, hx, hus, hc⟩ := h.at_ hk
  obtain ⟨rfl, g0, g1, g2, g3⟩ := Term.open_ hus
  refine ⟨b, off, x, e, hb, hx, g0, g1, g2, g3, ?_, ?_, ?_, ?_⟩
  · have := hc 0 _ rfl; simpa [Rep.size, Nat.add_assoc] using this
  · have := hc 1 _ rfl; simpa [Rep.size, Nat.add_assoc] using this
  · have := hc 2 _ rfl; simpa [Rep.size, Nat.add_assoc] using this
  · have := hc 3 _ rfl; simpa [Rep.size, Nat.add_assoc] using this

structure Block where
  ins : List Ins
  term : Term
  deriving DecidableEq, Inhabited
instance : Rep Block := Rep.via fun x => (x.ins, x.term)
theorem Block.open_ {w : World} {S : Nat → Prop} {x : Block} {vs : List Value} (h : Rep.is w S x vs) : ∃ Ains : Option Addr, ∃ nins : Nat, ∃ cins : Nat, vs = [.slice Ains nins cins, .int .i64 x.term.kind, .int .i64 x.term.a, .int .i64 x.term.to0, .int .i64 x.term.to1] ∧ Sl w S Ains nins cins x.ins ∧ InI x.term.kind ∧ InI x.term.a ∧ InI x.term.to0 ∧ InI x.term.to1 := by
  obtain ⟨us0, ts0, e0, h0, r0⟩ := h
  obtain ⟨A1, n1, c1, v1, f1⟩ := h0
  obtain ⟨us2, ts2, e2, h2, r2⟩ := r0
  obtain ⟨us3, ts3, e3, h3, r3⟩ := r2
  obtain ⟨us4, ts4, e4, h4, r4⟩ := r3
  obtain ⟨v5, f5⟩ := h2
  obtain ⟨v6, f6⟩ := h3
  obtain ⟨v7, f7⟩ := h4
  obtain ⟨v8, f8⟩ := r4
  refine ⟨A1, n1, c1, ?_, f1, f5, f6, f7, f8⟩
  subst_vars; simp
theorem Block.mk_ {w : World} {S : Nat → Prop} {x : Block} {Ains : Option Addr} {nins : Nat} {cins : Nat} (f0 : Sl w S Ains nins cins x.ins) (f1 : InI x.term.kind) (f2 : InI x.term.a) (f3 : InI x.term.to0) (f4 : InI x.term.to1) : Rep.is w S x [.slice Ains nins cins, .int .i64 x.term.kind, .int .i64 x.term.a, .int .i64 x.term.to0, .int .i64 x.term.to1] := by
  exact ⟨_, _, rfl, ⟨_, _, _, rfl, f0⟩, ⟨_, _, rfl, ⟨rfl, f1⟩, ⟨_, _, rfl, ⟨rfl, f2⟩, ⟨_, _, rfl, ⟨rfl, f3⟩, ⟨rfl, f4⟩⟩⟩⟩⟩
theorem at_Block {w : World} {S : Nat → Prop} {A : Option Addr} {n c : Nat} {xs : List Block} (h : Sl w S A n c xs) {k : Nat} (hk : k < n) :
    ∃ b off, ∃ x : Block, ∃ Ains : Option Addr, ∃ nins : Nat, ∃ cins : Nat, A = some ⟨b, off, none⟩ ∧ b < w.heap.size ∧ xs[k]? = some x ∧ Sl w S Ains nins cins x.ins ∧ InI x.term.kind ∧ InI x.term.a ∧ InI x.term.to0 ∧ InI x.term.to1 ∧ w.cell? ⟨b, off + k * 5, none⟩ = some (.slice Ains nins cins) ∧ w.cell? ⟨b, off + k * 5 + 1, none⟩ = some (.int .i64 x.term.kind) ∧ w.cell? ⟨b, off + k * 5 + 2, none⟩ = some (.int .i64 x.term.a) ∧ w.cell? ⟨b, off + k * 5 + 3, none⟩ = some (.int .i64 x.term.to0) ∧ w.cell? ⟨b, off + k * 5 + 4, none⟩ = some (.int .i64 x.term.to1) := by
  obtain ⟨b, off, x, us, e, hb, _, hx, hus, hc⟩ := h.at_ hk
  obtain ⟨Ains, nins, cins, rfl, g0, g1, g2, g3, g4⟩ := Block.open_ hus
  refine ⟨b, off, x, Ains, nins, cins, e, hb, hx, g0, g1, g2, g3, g4, ?_, ?_, ?_, ?_, ?_⟩
  · have := hc 0 _ rfl; simpa [Rep.size, Nat.add_assoc] using this
  · have := hc 1 _ rfl; simpa [Rep.size, Nat.add_assoc] using this
  · have := hc 2 _ rfl; simpa [Rep.size, Nat.add_assoc] using this
  · have := hc 3 _ rfl; simpa [Rep.size, Nat.add_assoc] using this
  · have := hc 4 _ rfl; simpa [Rep.size, Nat.add_assoc] using this

structure Target where
  frame : Int
  blocks : List Block
  deriving DecidableEq, Inhabited
instance : Rep Target := Rep.via fun x => (x.frame, x.blocks)
theorem Target.open_ {w : World} {S : Nat → Prop} {x : Target} {vs : List Value} (h : Rep.is w S x vs) : ∃ Ablocks : Option Addr, ∃ nblocks : Nat, ∃ cblocks : Nat, vs = [.int .i64 x.frame, .slice Ablocks nblocks cblocks] ∧ InI x.frame ∧ Sl w S Ablocks nblocks cblocks x.blocks := by
  obtain ⟨us0, ts0, e0, h0, r0⟩ := h
  obtain ⟨v1, f1⟩ := h0
  obtain ⟨A2, n2, c2, v2, f2⟩ := r0
  refine ⟨A2, n2, c2, ?_, f1, f2⟩
  subst_vars; simp
theorem Target.mk_ {w : World} {S : Nat → Prop} {x : Target} {Ablocks : Option Addr} {nblocks : Nat} {cblocks : Nat} (f0 : InI x.frame) (f1 : Sl w S Ablocks nblocks cblocks x.blocks) : Rep.is w S x [.int .i64 x.frame, .slice Ablocks nblocks cblocks] := by
  exact ⟨_, _, rfl, ⟨rfl, f0⟩, ⟨_, _, _, rfl, f1⟩⟩
theorem at_Target {w : World} {S : Nat → Prop} {A : Option Addr} {n c : Nat} {xs : List Target} (h : Sl w S A n c xs) {k : Nat} (hk : k < n) :
    ∃ b off, ∃ x : Target, ∃ Ablocks : Option Addr, ∃ nblocks : Nat, ∃ cblocks : Nat, A = some ⟨b, off, none⟩ ∧ b < w.heap.size ∧ xs[k]? = some x ∧ InI x.frame ∧ Sl w S Ablocks nblocks cblocks x.blocks ∧ w.cell? ⟨b, off + k * 2, none⟩ = some (.int .i64 x.frame) ∧ w.cell? ⟨b, off + k * 2 + 1, none⟩ = some (.slice Ablocks nblocks cblocks) := by
  obtain ⟨b, off, x, us, e, hb, _, hx, hus, hc⟩ := h.at_ hk
  obtain ⟨Ablocks, nblocks, cblocks, rfl, g0, g1⟩ := Target.open_ hus
  refine ⟨b, off, x, Ablocks, nblocks, cblocks, e, hb, hx, g0, g1, ?_, ?_⟩
  · have := hc 0 _ rfl; simpa [Rep.size, Nat.add_assoc] using this
  · have := hc 1 _ rfl; simpa [Rep.size, Nat.add_assoc] using this

structure Machine where
  regs : Int
  args : List Int
  ret : Int
  saved : List Int
  deriving DecidableEq, Inhabited
instance : Rep Machine := Rep.via fun x => (x.regs, x.args, x.ret, x.saved)
theorem Machine.open_ {w : World} {S : Nat → Prop} {x : Machine} {vs : List Value} (h : Rep.is w S x vs) : ∃ Aargs : Option Addr, ∃ nargs : Nat, ∃ cargs : Nat, ∃ Asaved : Option Addr, ∃ nsaved : Nat, ∃ csaved : Nat, vs = [.int .i64 x.regs, .slice Aargs nargs cargs, .int .i64 x.ret, .slice Asaved nsaved csaved] ∧ InI x.regs ∧ Sl w S Aargs nargs cargs x.args ∧ InI x.ret ∧ Sl w S Asaved nsaved csaved x.saved := by
  obtain ⟨us0, ts0, e0, h0, r0⟩ := h
  obtain ⟨us1, ts1, e1, h1, r1⟩ := r0
  obtain ⟨us2, ts2, e2, h2, r2⟩ := r1
  obtain ⟨v3, f3⟩ := h0
  obtain ⟨A4, n4, c4, v4, f4⟩ := h1
  obtain ⟨v5, f5⟩ := h2
  obtain ⟨A6, n6, c6, v6, f6⟩ := r2
  refine ⟨A4, n4, c4, A6, n6, c6, ?_, f3, f4, f5, f6⟩
  subst_vars; simp
theorem Machine.mk_ {w : World} {S : Nat → Prop} {x : Machine} {Aargs : Option Addr} {nargs : Nat} {cargs : Nat} {Asaved : Option Addr} {nsaved : Nat} {csaved : Nat} (f0 : InI x.regs) (f1 : Sl w S Aargs nargs cargs x.args) (f2 : InI x.ret) (f3 : Sl w S Asaved nsaved csaved x.saved) : Rep.is w S x [.int .i64 x.regs, .slice Aargs nargs cargs, .int .i64 x.ret, .slice Asaved nsaved csaved] := by
  exact ⟨_, _, rfl, ⟨rfl, f0⟩, ⟨_, _, rfl, ⟨_, _, _, rfl, f1⟩, ⟨_, _, rfl, ⟨rfl, f2⟩, ⟨_, _, _, rfl, f3⟩⟩⟩⟩
theorem at_Machine {w : World} {S : Nat → Prop} {A : Option Addr} {n c : Nat} {xs : List Machine} (h : Sl w S A n c xs) {k : Nat} (hk : k < n) :
    ∃ b off, ∃ x : Machine, ∃ Aargs : Option Addr, ∃ nargs : Nat, ∃ cargs : Nat, ∃ Asaved : Option Addr, ∃ nsaved : Nat, ∃ csaved : Nat, A = some ⟨b, off, none⟩ ∧ b < w.heap.size ∧ xs[k]? = some x ∧ InI x.regs ∧ Sl w S Aargs nargs cargs x.args ∧ InI x.ret ∧ Sl w S Asaved nsaved csaved x.saved ∧ w.cell? ⟨b, off + k * 4, none⟩ = some (.int .i64 x.regs) ∧ w.cell? ⟨b, off + k * 4 + 1, none⟩ = some (.slice Aargs nargs cargs) ∧ w.cell? ⟨b, off + k * 4 + 2, none⟩ = some (.int .i64 x.ret) ∧ w.cell? ⟨b, off + k * 4 + 3, none⟩ = some (.slice Asaved nsaved csaved) := by
  obtain ⟨b, off, x, us, e, hb, _, hx, hus, hc⟩ := h.at_ hk
  obtain ⟨Aargs, nargs, cargs, Asaved, nsaved, csaved, rfl, g0, g1, g2, g3⟩ := Machine.open_ hus
  refine ⟨b, off, x, Aargs, nargs, cargs, Asaved, nsaved, csaved, e, hb, hx, g0, g1, g2, g3, ?_, ?_, ?_, ?_⟩
  · have := hc 0 _ rfl; simpa [Rep.size, Nat.add_assoc] using this
  · have := hc 1 _ rfl; simpa [Rep.size, Nat.add_assoc] using this
  · have := hc 2 _ rfl; simpa [Rep.size, Nat.add_assoc] using this
  · have := hc 3 _ rfl; simpa [Rep.size, Nat.add_assoc] using this

end Go.Proofs.Ytbppamjogdjfkaa
