/- law23: briefs, lists, as arguments. -/
import Derived.Test.YthmglmmafgdmhaaGreatOpens
import Derived.Test.YthmglmmafgdmhaaGreatTypes23
set_option linter.unusedSimpArgs false
set_option linter.unusedVariables false
namespace Go.Proofs.YthmglmmafgdmhaaGreat
open Go.RowKit Go.ChangeShapes Go.WideShapes Go.ChangeAt
theorem laid_out : laidOutB Tryz.prog = true := by kernel_rfl
theorem own_knob : ownKnob Tryz.prog.godebug = none := by kernel_rfl
theorem o23_int : Opens Tryz.prog Int 3 := opens_int (by kernel_rfl)
theorem o23_ints : Opens Tryz.prog (List Int) 22 := opens_slice (e := 3) (by kernel_rfl) o23_int (by kernel_rfl) (by decide)
theorem o_Ints23 : Opens Tryz.prog (List Int) 22 := o23_ints
instance : Wt Brief := Wt.via fun x => (x.vars, x.colors, x.edge)
theorem o_Brief : Opens Tryz.prog Brief 43 := fun H enc w fuel cs x h => by
  obtain ⟨⟨a0, a1, a2⟩, hy, hw⟩ := opens_struct (P := Tryz.prog) (α := List Int × List Int × List Int) (t := 43) Tryz.underlying43
    (fs_cons o23_ints rfl (by kernel_rfl) (fs_cons o23_ints rfl (by kernel_rfl) (fs_one o23_ints rfl (by kernel_rfl)))) (by kernel_rfl) H enc w fuel cs x h
  exact ⟨⟨a0, a1, a2⟩, hy, hw⟩
theorem o_Briefs : Opens Tryz.prog (List Brief) 23 := opens_slice (e := 43) (by kernel_rfl) o_Brief (by kernel_rfl) (by decide)
theorem wt23_ints (l : List Int) : l.length + 1 ≤ Wt.wt l := by have := wt_len (fun _ : Int => Nat.le_refl 1) l; show _ ≤ wtL l + 1; omega
theorem wt_brief (b : Brief) : b.vars.length + b.colors.length + b.edge.length + 3 ≤ Wt.wt b := by
  have := wt23_ints b.vars; have := wt23_ints b.colors; have := wt23_ints b.edge
  show _ ≤ Wt.wt b.vars + (Wt.wt b.colors + Wt.wt b.edge)
  omega
theorem wt_briefs (l : List Brief) : l.length ≤ Wt.wt l ∧ ∀ b ∈ l, b.vars.length + b.colors.length + b.edge.length ≤ Wt.wt l := by
  have h := wt_len (fun b : Brief => by have := wt_brief b; omega) l
  refine ⟨by show _ ≤ wtL l + 1; omega, fun b hb => ?_⟩
  have h1 := wt_mem hb
  have h2 := wt_brief b
  show _ ≤ wtL l + 1
  omega
/-- An argument that is a slice. -/
theorem Opens.slice_arg {P : Program} {α : Type} [Rep α] [Wt α] {t e : TypeId} (ho : Opens P (List α) t) (ht : P.underlying t = some (.slice e)) {H : Type} {enc : TypeId × Value → H} {w : World} {base : Nat} {v : Value} {d : DataW H} {p : List MemPlace}
    (hv : Value.okWide P w .any base t v) (h : DataW.Trod enc P w 0 (fun _ => true) true t v d p) : ∃ (y : List α) (A : Option Addr) (n c : Nat), v = .slice A n c ∧ Sl w (fun _ => True) A n c y ∧ Wt.wt y ≤ Rows.uptoBulk d := by
  obtain ⟨k, hk⟩ := h
  have hc : v.cells.toList = [v] := by
    unfold Value.okWide at hv
    rw [ht] at hv
    cases v <;> first | rfl | (simp [Cell.okWide, Cell.ok, ht] at hv; done) | (simp only [Cell.okWide, ht] at hv; unfold Cell.ok at hv; simp [ht] at hv)
  rw [hc] at hk
  obtain ⟨y, hy, hw⟩ := ho H enc w k _ _ hk
  obtain ⟨A, n, c, e, hs⟩ := hy
  injection e with e
  exact ⟨y, A, n, c, e, hs, hw⟩
end Go.Proofs.YthmglmmafgdmhaaGreat
