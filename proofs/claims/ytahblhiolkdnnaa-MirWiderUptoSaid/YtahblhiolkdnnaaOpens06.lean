/- The structs of chapters 5 and 6, as arguments. -/
import Derived.Test.YtahblhiolkdnnaaOpens
import Derived.Test.YtahblhiolkdnnaaS06
set_option linter.unusedSimpArgs false
set_option linter.unusedVariables false
namespace Go.Proofs.Ytahblhiolkdnnaa
open Go.RowKit Go.ChangeShapes Go.WideShapes Go.ChangeAt
instance : Wt Loc := Wt.via fun x => (x.slot, x.n)
instance : Wt Ins := Wt.via fun x => (x.op, x.dst, x.a, x.b, x.imm, x.callee, x.args, x.many)
instance : Wt Term := Wt.via fun x => (x.kind, x.a, x.to0, x.to1)
instance : Wt Block := Wt.via fun x => (x.ins, x.term)
instance : Wt Target := Wt.via fun x => (x.frame, x.blocks)
instance : Wt Machine := Wt.via fun x => (x.regs, x.args, x.ret, x.saved)
theorem o_int : Opens Try.prog Int 3 := opens_int (by kernel_rfl)
theorem o_ints : Opens Try.prog (List Int) 22 := opens_slice (e := 3) (by kernel_rfl) o_int (by kernel_rfl) (by decide)
theorem o_Term : Opens Try.prog Term 40 := fun H enc w fuel cs x h => by
  obtain ⟨⟨a0, a1, a2, a3⟩, hy, hw⟩ := opens_struct (P := Try.prog) (α := Int × Int × Int × Int) (t := 40) Try.underlying40
    (fs_cons (opens_int (by kernel_rfl)) rfl (by kernel_rfl) (fs_cons (o_int) rfl (by kernel_rfl) (fs_one (α := Int × Int) (opens_arr2 (e := 3) (by kernel_rfl) (by kernel_rfl) (by kernel_rfl) (by kernel_rfl)) rfl (by kernel_rfl)))) (by kernel_rfl) H enc w fuel cs x h
  exact ⟨⟨a0, a1, a2, a3⟩, hy, hw⟩
theorem o_Ins : Opens Try.prog Ins 30 := fun H enc w fuel cs x h => by
  obtain ⟨⟨a0, a1, a2, a3, a4, a5, a6, a7⟩, hy, hw⟩ := opens_struct (P := Try.prog) (α := Int × Int × Int × Int × Int × Int × List Int × Int) (t := 30) Try.underlying30
    (fs_cons (opens_int (by kernel_rfl)) rfl (by kernel_rfl) (fs_cons o_int rfl (by kernel_rfl) (fs_cons o_int rfl (by kernel_rfl) (fs_cons o_int rfl (by kernel_rfl) (fs_cons o_int rfl (by kernel_rfl) (fs_cons o_int rfl (by kernel_rfl) (fs_cons o_ints rfl (by kernel_rfl) (fs_one o_int rfl (by kernel_rfl))))))))) (by kernel_rfl) H enc w fuel cs x h
  exact ⟨⟨a0, a1, a2, a3, a4, a5, a6, a7⟩, hy, hw⟩
theorem o_Block : Opens Try.prog Block 42 := fun H enc w fuel cs x h => by
  obtain ⟨⟨a0, a1⟩, hy, hw⟩ := opens_struct (P := Try.prog) (α := List Ins × Term) (t := 42) Try.underlying42
    (fs_cons (opens_slice (e := 30) (by kernel_rfl) o_Ins (by kernel_rfl) (by decide)) rfl (by kernel_rfl) (fs_one o_Term rfl (by kernel_rfl))) (by kernel_rfl) H enc w fuel cs x h
  exact ⟨⟨a0, a1⟩, hy, hw⟩
theorem o_Target : Opens Try.prog Target 27 := fun H enc w fuel cs x h => by
  obtain ⟨⟨a0, a1⟩, hy, hw⟩ := opens_struct (P := Try.prog) (α := Int × List Block) (t := 27) Try.underlying27
    (fs_cons o_int rfl (by kernel_rfl) (fs_one (opens_slice (e := 42) (by kernel_rfl) o_Block (by kernel_rfl) (by decide)) rfl (by kernel_rfl))) (by kernel_rfl) H enc w fuel cs x h
  exact ⟨⟨a0, a1⟩, hy, hw⟩
theorem o_Machine : Opens Try.prog Machine 24 := fun H enc w fuel cs x h => by
  obtain ⟨⟨a0, a1, a2, a3⟩, hy, hw⟩ := opens_struct (P := Try.prog) (α := Int × List Int × Int × List Int) (t := 24) Try.underlying24
    (fs_cons o_int rfl (by kernel_rfl) (fs_cons o_ints rfl (by kernel_rfl) (fs_cons o_int rfl (by kernel_rfl) (fs_one o_ints rfl (by kernel_rfl))))) (by kernel_rfl) H enc w fuel cs x h
  exact ⟨⟨a0, a1, a2, a3⟩, hy, hw⟩
theorem wt_int (x : Int) : 1 ≤ Wt.wt x := Nat.le_refl _
theorem wt_ints (l : List Int) : l.length ≤ Wt.wt l := by have := wt_len wt_int l; show _ ≤ wtL l + 1; omega
theorem Ins.wt_pos (x : Ins) : 1 ≤ Wt.wt x := by show 1 ≤ 1 + _; omega
theorem Ins.wt_args (x : Ins) : x.args.length ≤ Wt.wt x := by
  have := wt_ints x.args
  show _ ≤ 1 + (1 + (1 + (1 + (1 + (1 + (Wt.wt x.args + 1))))))
  omega
theorem Block.wt_ins (x : Block) : wtL x.ins + 1 ≤ Wt.wt x := by show _ ≤ (wtL x.ins + 1) + _; omega
theorem small_of {M : Nat} {t : Target} (h : Wt.wt t ≤ M) : SmallT M t.blocks := by
  have h0 : wtL t.blocks + 1 ≤ Wt.wt t := by show _ ≤ 1 + (wtL t.blocks + 1); omega
  refine ⟨?_, fun b hb => ?_⟩
  · have := wt_len (fun x : Block => by have := Block.wt_ins x; omega) t.blocks; omega
  · have h1 := wt_mem hb
    have h2 := Block.wt_ins b
    refine ⟨?_, fun i hi => ?_⟩
    · have := wt_len Ins.wt_pos b.ins; omega
    · have := wt_mem hi
      have := Ins.wt_args i
      show _ ≤ _
      omega
theorem Machine.wt_args (m : Machine) : m.args.length + m.saved.length ≤ Wt.wt m := by
  have := wt_ints m.args
  have := wt_ints m.saved
  show _ ≤ 1 + (Wt.wt m.args + (1 + Wt.wt m.saved))
  omega
theorem laid_out : laidOutB Try.prog = true := by kernel_rfl
theorem own_knob : ownKnob Try.prog.godebug = none := by kernel_rfl
end Go.Proofs.Ytahblhiolkdnnaa
