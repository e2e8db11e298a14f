/- MrunSafe: at each step that does not break a run, all that is read there had a value; only what is written there changes, and, behind a call, registers that are not saved; what is inserted changes no word, calls nobody; a return that does not break leaves each saved register as it was; where what it reads is of bulk at most 1048576. -/
import Derived.Test.YtkjipgelbjaggaaM03
import Derived.Test.YtkjipgelbjaggaaS05
set_option linter.unusedSimpArgs false
set_option linter.unusedVariables false
namespace Go.Proofs.Ytkjipgelbjaggaa.mrunSafe
open Go.RowKit Go.ChangeShapes Go.WideShapes Go.ChangeAt

set_option maxRecDepth 100000 in
theorem contract (H : Type) (enc : TypeId × Value → H) (W : World) (base : Nat) (args : Array Value) (ds gs : List (DataW H)) (before : List MemPlace)
    (hval : ∀ (j : Nat) t v, Try.f4.params[j]? = some t → args[j]? = some v → Value.okWide Try.prog W .any base t v)
    (hW : DataW.Whole enc Try.prog Try.f4.params.toList Rows.mrunSafeSpec.vars false W args.toList ds gs before) (hk : Rows.uptoSmall H (ds ++ gs) = true) :
    Calls Try.prog 4 args W fun e W' => ∃ v, e = .returned v ∧ Rows.mrunSafeSpec.post enc Try.prog Try.f4 false true false false W args v W' := by
  have hW' := hW
  obtain ⟨p, q, hA0, hV, rfl, hfz, hnd⟩ := hW
  have hA : DataW.TrodAll enc Try.prog W 0 (fun _ => true) true Try.f4.params.toList args.toList ds p := hA0
  rw [Try.params4] at hA hval
  obtain ⟨v0, vs0, d0, ds0, p0, q0, hargs, rfl, rfl, h0, r0⟩ := trodAll_cons hA
  obtain ⟨v1, vs1, d1, ds1, p1, q1, rfl, rfl, rfl, h1, r1⟩ := trodAll_cons r0
  obtain ⟨v2, vs2, d2, ds2, p2, q2, rfl, rfl, rfl, h2, r2⟩ := trodAll_cons r1
  obtain ⟨v3, vs3, d3, ds3, p3, q3, rfl, rfl, rfl, h3, r3⟩ := trodAll_cons r2
  obtain ⟨rfl, rfl, rfl⟩ := trodAll_nil r3
  obtain rfl : args = #[v0, v1, v2, v3] := by cases args; simp_all
  obtain ⟨rfl, rfl⟩ := trodVars_none hV
  have hb := bulk_small hk
  obtain ⟨x0, us0, rfl, hx0, w0⟩ := o_Machine.agg Try.underlying24 (hval 0 24 v0 rfl rfl) h0
  obtain ⟨x1, us1, rfl, hx1, w1⟩ := o_Target.agg Try.underlying27 (hval 1 27 v1 rfl rfl) h1
  obtain ⟨x2, us2, rfl, hx2, w2⟩ := o_Start.agg Try.underlying29 (hval 2 29 v2 rfl rfl) h2
  obtain ⟨x3, rfl, rfl, rfl, w3⟩ := open_int Try.underlying3 (hval 3 3 v3 rfl rfl) h3
  simp only [Rows.uptoBulkAll, List.append_nil] at hb
  obtain ⟨A1, n1, c1, A2, n2, c2, rfl, i0, s1, i1, s2⟩ := Machine.open_ hx0
  obtain ⟨A, n, c, rfl, i2, s⟩ := Target.open_ hx1
  obtain ⟨A3, n3, c3, A4, n4, c4, A5, n5, c5, A6, n6, c6, rfl, s3, s4, s5, s6⟩ := Start.open_ hx2
  have hs := small_of (M := 1048576) (t := x1) (by omega)
  have hma := Machine.wt_args x0
  have hia := Start.wt_all x2
  have l1 := s1.len; have l2 := s2.len; have l3 := s3.len; have l4 := s4.len; have l5 := s5.len; have l6 := s6.len
  clear hA0 hx0 hx1 hx2
  refine (mrunSafe_any W _ _ _ _ _ _ _ x0 A1 A2 n1 c1 n2 c2 s1 s2 i1 x1 A n c s A3 A4 A5 A6 n3 c3 n4 c4 n5 c5 n6 c6 x2.args x2.mem x2.answers x2.first s3 s4 s5 s6 hs (by omega) (by omega) x3 (inI_of w3) i2).mono fun e W' ⟨he, u, hu⟩ => ?_
  exact ⟨_, he, post_law laid_out (by kernel_rfl) (tb := 4) (by kernel_rfl) (by kernel_rfl) rfl hW' rfl rfl rfl (by rw [hu]; exact Below.of_ext W u (Nat.le_refl _))⟩

set_option maxRecDepth 100000 in
theorem lifted (os : Os) (started : os.Started) (H : Type) (enc : TypeId × Value → H) (F : Stop.Interp) :
    ReturnsInHanded {} Try.checked os 4 .any ((Rows.OpenSpec.upto Rows.mrunSafeSpec).pre6 enc Try.prog Try.f4 Rows.mrunSafeUptoRow.domain false) (((Rows.OpenSpec.upto Rows.mrunSafeSpec).at F).post enc Try.prog Try.f4 false true false false) := by
  refine returnsInHanded_of_cond (C := Try.checked) (s := Rows.OpenSpec.upto Rows.mrunSafeSpec) (k := Rows.uptoSmall) rfl own_knob started (by kernel_rfl) Try.func4
    (OpenSpec.witness (enc := enc) (C := Try.checked) (s := Rows.OpenSpec.upto Rows.mrunSafeSpec) (k := Rows.uptoSmall) rfl false ⟨#[], #[.agg #[.int .i64 0, .slice none 0 0, .int .i64 0, .slice none 0 0], .agg #[.int .i64 0, .slice none 0 0], .agg #[.slice none 0 0, .slice none 0 0, .slice none 0 0, .slice none 0 0], .int .i64 0], []⟩ 8 (by kernel_rfl) (by kernel_rfl) (by kernel_rfl)
      (x := ([.agg [.lit (.int .i64 0), .nil, .lit (.int .i64 0), .nil], .agg [.lit (.int .i64 0), .nil], .agg [.nil, .nil, .nil, .nil], .lit (.int .i64 0)], [], [])) (by kernel_rfl) rfl (by kernel_rfl)) ?_
  intro W base args ds gs before hval hW _ hk _
  exact contract H enc W base args ds gs before hval hW hk

theorem proved : Rows.MrunSafeUptoSaid :=
  OpenClaim.holds_of_cond 4 Try.f4 rfl rfl rfl rfl rfl rfl rfl ⟨rfl, rfl, rfl, rfl, rfl⟩ rfl rfl rfl rfl rfl (by kernel_rfl) Try.func4 (by kernel_rfl)
    (of_decide_eq_true (by kernel_rfl)) (by unfold Func.isWrapper; first | (rw [if_pos (by decide +kernel)]; kernel_rfl) | (rw [if_neg (by decide +kernel)]; exact ⟨rfl, rfl⟩))
    (fun os started H enc _ F => lifted os started H enc F)
end Go.Proofs.Ytkjipgelbjaggaa.mrunSafe
