/- law26: moves, as arguments. -/
import Derived.Test.YtoghikagooegbaaOpens
import Derived.Test.YtoghikagooegbaaTypes26
set_option linter.unusedSimpArgs false
set_option linter.unusedVariables false
namespace Go.Proofs.Ytoghikagooegbaa
open Go.RowKit Go.ChangeShapes Go.WideShapes Go.ChangeAt
theorem laid_out : laidOutB Try.prog = true := by kernel_rfl
theorem own_knob : ownKnob Try.prog.godebug = none := by kernel_rfl
theorem o26_int : Opens Try.prog Int 3 := opens_int (by kernel_rfl)
theorem o26_bool : Opens Try.prog Bool 4 := opens_bool (by kernel_rfl)
instance : Wt Loc := Wt.via fun x => (x.slot, x.n)
theorem o26_Loc : Opens Try.prog Loc 40 := fun H enc w fuel cs x h => by
  obtain ⟨⟨a0, a1⟩, hy, hw⟩ := opens_struct (P := Try.prog) (α := Bool × Int) (t := 40) Try.underlying40
    (fs_cons o26_bool rfl (by kernel_rfl) (fs_one o26_int rfl (by kernel_rfl))) (by kernel_rfl) H enc w fuel cs x h
  exact ⟨⟨a0, a1⟩, hy, hw⟩
instance : Wt Move := Wt.via fun x => (x.src, x.dst)
theorem o26_Move : Opens Try.prog Move 42 := fun H enc w fuel cs x h => by
  obtain ⟨⟨a0, a1⟩, hy, hw⟩ := opens_struct (P := Try.prog) (α := Loc × Loc) (t := 42) Try.underlying42
    (fs_cons o26_Loc rfl (by kernel_rfl) (fs_one o26_Loc rfl (by kernel_rfl))) (by kernel_rfl) H enc w fuel cs x h
  exact ⟨⟨a0, a1⟩, hy, hw⟩
theorem o_Moves : Opens Try.prog (List Move) 22 := opens_slice (e := 42) (by kernel_rfl) o26_Move (by kernel_rfl) (by decide)
/-- An argument that is a slice. -/
theorem Opens.slice_arg {P : Program} {α : Type} [Rep α] [Wt α] {t e : TypeId} (ho : Opens P (List α) t) (ht : P.underlying t = some (.slice e)) {H : Type} {enc : TypeId × Value → H} {w : World} {base : Nat} {v : Value} {d : DataW H} {p : List MemPlace}
    (hv : Value.okWide P w .any base t v) (h : DataW.Trod enc P w 0 (fun _ => true) true t v d p) : ∃ (y : List α) (A : Option Addr) (n c : Nat), v = .slice A n c ∧ Sl w (fun _ => True) A n c y ∧ Wt.wt y ≤ Rows.uptoBulk d := by
  obtain ⟨k, hk⟩ := h
  have hc : v.cells.toList = [v] := by
    unfold Value.okWide at hv
    rw [ht] at hv
    cases v <;> first | rfl | (simp [Cell.okWide, Cell.ok, ht] at hv; done) | (simp only [Cell.okWide, ht] at hv; unfold Cell.ok at hv; simp [ht] at hv)
  rw [hc] at hk
  obtain ⟨y, hy, hw⟩ := ho H enc w k _ _ hk
  obtain ⟨A, n, c, e, hs⟩ := hy
  injection e with e
  exact ⟨y, A, n, c, e, hs, hw⟩
end Go.Proofs.Ytoghikagooegbaa
