/- MirPlaces: what a right target reads and writes are registers of the machine, slots of its frame; each instruction writes one place at most; edges go to blocks; where what it reads is of bulk at most 1048576. -/
import Derived.Test.YtahblhiolkdnnaaOpens06
import Derived.Test.YtahblhiolkdnnaaW24
set_option linter.unusedSimpArgs false
set_option linter.unusedVariables false
namespace Go.Proofs.Ytahblhiolkdnnaa.mirPlaces
open Go.RowKit Go.ChangeShapes Go.WideShapes Go.ChangeAt

set_option maxRecDepth 100000 in
theorem contract (H : Type) (enc : TypeId × Value → H) (W : World) (base : Nat) (args : Array Value) (ds gs : List (DataW H)) (before : List MemPlace)
    (hval : ∀ (j : Nat) t v, Try.f7.params[j]? = some t → args[j]? = some v → Value.okWide Try.prog W .any base t v)
    (hW : DataW.Whole enc Try.prog Try.f7.params.toList Rows.mirPlacesSpec.vars false W args.toList ds gs before) (hk : Rows.uptoSmall H (ds ++ gs) = true) :
    Calls Try.prog 7 args W fun e W' => ∃ v, e = .returned v ∧ Rows.mirPlacesSpec.post enc Try.prog Try.f7 false true false false W args v W' := by
  have hW' := hW
  obtain ⟨p, q, hA0, hV, rfl, hfz, hnd⟩ := hW
  have hA : DataW.TrodAll enc Try.prog W 0 (fun _ => true) true Try.f7.params.toList args.toList ds p := hA0
  rw [Try.params7] at hA hval
  obtain ⟨v0, vs0, d0, ds0, p0, q0, hargs, rfl, rfl, h0, r0⟩ := trodAll_cons hA
  obtain ⟨v1, vs1, d1, ds1, p1, q1, rfl, rfl, rfl, h1, r1⟩ := trodAll_cons r0
  obtain ⟨rfl, rfl, rfl⟩ := trodAll_nil r1
  obtain rfl : args = #[v0, v1] := by cases args; simp_all
  obtain ⟨rfl, rfl⟩ := trodVars_none hV
  have hb := bulk_small hk
  obtain ⟨x0, us0, rfl, hx0, w0⟩ := o_Machine.agg Try.underlying24 (hval 0 24 v0 rfl rfl) h0
  obtain ⟨x1, us1, rfl, hx1, w1⟩ := o_Target.agg Try.underlying27 (hval 1 27 v1 rfl rfl) h1
  simp only [Rows.uptoBulkAll, List.append_nil] at hb
  obtain ⟨A1, n1, c1, A2, n2, c2, rfl, i0, s1, i1, s2⟩ := Machine.open_ hx0
  obtain ⟨A, n, c, rfl, i2, s⟩ := Target.open_ hx1
  have hs := small_of (M := 1048576) (t := x1) (by omega)
  have hma := Machine.wt_args x0
  have l1 := s1.len; have l2 := s2.len
  clear hA0 hx0 hx1
  refine (placesL_any W _ _ _ x0 A1 A2 n1 c1 n2 c2 s1 s2 i1 x1 A n c s i2 hs (by omega)).mono fun e W' ⟨he, u, hu⟩ => ?_
  exact ⟨_, he, post_law laid_out (by kernel_rfl) (tb := 4) (by kernel_rfl) (by kernel_rfl) rfl hW' rfl rfl rfl (by rw [hu]; exact Below.of_ext W u (Nat.le_refl _))⟩

set_option maxRecDepth 100000 in
theorem lifted (os : Os) (started : os.Started) (H : Type) (enc : TypeId × Value → H) (F : Stop.Interp) :
    ReturnsInHanded {} Try.checked os 7 .any ((Rows.OpenSpec.upto Rows.mirPlacesSpec).pre6 enc Try.prog Try.f7 Rows.mirPlacesUptoRow.domain false) (((Rows.OpenSpec.upto Rows.mirPlacesSpec).at F).post enc Try.prog Try.f7 false true false false) := by
  refine returnsInHanded_of_cond (C := Try.checked) (s := Rows.OpenSpec.upto Rows.mirPlacesSpec) (k := Rows.uptoSmall) rfl own_knob started (by kernel_rfl) Try.func7
    (OpenSpec.witness (enc := enc) (C := Try.checked) (s := Rows.OpenSpec.upto Rows.mirPlacesSpec) (k := Rows.uptoSmall) rfl false ⟨#[], #[.agg #[.int .i64 0, .slice none 0 0, .int .i64 0, .slice none 0 0], .agg #[.int .i64 0, .slice none 0 0]], []⟩ 8 (by kernel_rfl) (by kernel_rfl) (by kernel_rfl)
      (x := ([.agg [.lit (.int .i64 0), .nil, .lit (.int .i64 0), .nil], .agg [.lit (.int .i64 0), .nil]], [], [])) (by kernel_rfl) rfl (by kernel_rfl)) ?_
  intro W base args ds gs before hval hW _ hk _
  exact contract H enc W base args ds gs before hval hW hk

theorem proved : Rows.MirPlacesUptoSaid :=
  OpenClaim.holds_of_cond 7 Try.f7 rfl rfl rfl rfl rfl rfl rfl ⟨rfl, rfl, rfl, rfl, rfl⟩ rfl rfl rfl rfl rfl (by kernel_rfl) Try.func7 (by kernel_rfl)
    (of_decide_eq_true (by kernel_rfl)) (by unfold Func.isWrapper; first | (rw [if_pos (by decide +kernel)]; kernel_rfl) | (rw [if_neg (by decide +kernel)]; exact ⟨rfl, rfl⟩))
    (fun os started H enc _ F => lifted os started H enc F)
end Go.Proofs.Ytahblhiolkdnnaa.mirPlaces
