/- CertPrints: whether any certificate can be written, its text, or the error, and which of two facts is ahead, are what the document tells; all stays. -/
import Derived.Test.YtppkanniefignaaGreatDoorG11
import Derived.Test.YtppkanniefignaaGreatDoorP28z
import Derived.Test.YtppkanniefignaaGreatDoorCards
import Derived.Test.YtppkanniefignaaGreatDoorTie
import Derived.ChangeMaps5
import Derived.RowKit3
set_option linter.unusedSimpArgs false
set_option linter.unusedVariables false
namespace Go.Proofs.YtppkanniefignaaGreatDoor.certPrints
open Go.RowKit Go.ChangeShapes Go.WideShapes Go.ChangeAt
open Go.ChangeMaps (open_string shut_string)

set_option maxRecDepth 100000 in
theorem contract (H : Type) (enc : TypeId × Value → H) (W : World) (base : Nat) (args : Array Value) (ds gs : List (DataW H)) (before : List MemPlace)
    (hval : ∀ (j : Nat) t v, Tryz.f4.params[j]? = some t → args[j]? = some v → Value.okWide Tryz.prog W .any base t v)
    (hW : DataW.Whole enc Tryz.prog Tryz.f4.params.toList Rows.certPrintsSpec.vars false W args.toList ds gs before) {us : List TypeId} (hz : (DataW.weightsEach Tryz.prog (Tryz.f4.params.toList ++ us) (ds ++ gs)).all (· ≤ reachBytes) = true) (hL : laidMetH Tryz.prog Rows.certPrintsRow.laid W) (hsh : W.ShapedOpen Tryz.prog) :
    Calls Tryz.prog 4 args W fun e W' => ∃ v, e = .returned v ∧ Rows.certPrintsSpec.post enc Tryz.prog Tryz.f4 false true false false W args v W' := by
  have hW' := hW
  obtain ⟨p, q, hA0, hV, rfl, hfz, hnd⟩ := hW
  have hA : DataW.TrodAll enc Tryz.prog W 0 (fun _ => true) true Tryz.f4.params.toList args.toList ds p := hA0
  rw [Tryz.params4] at hA hval
  obtain ⟨v0, vs0, d0, ds0, p0, q0, hargs, rfl, rfl, h0, r0⟩ := trodAll_cons hA
  obtain ⟨v1, vs1, d1, ds1, p1, q1, rfl, rfl, rfl, h1, r1⟩ := trodAll_cons r0
  obtain ⟨v2, vs2, d2, ds2, p2, q2, rfl, rfl, rfl, h2, r2⟩ := trodAll_cons r1
  obtain ⟨rfl, rfl, rfl⟩ := trodAll_nil r2
  obtain rfl : args = #[v0, v1, v2] := by cases args; simp_all
  obtain ⟨rfl, rfl⟩ := trodVars_none hV
  obtain ⟨x, usx, rfl, hrx, lx⟩ := om_Cert.agg Tryz.underlying26 (hval 0 26 v0 rfl rfl) h0 (leAll_each hz (j := 0) (by rw [Tryz.params4]; rfl) rfl)
  obtain ⟨Ax1, nx1, cx1, Ax2, nx2, cx2, rfl, hx1, hx2⟩ := Cert.open_ hrx
  obtain ⟨a, usa, rfl, hra, la⟩ := om_Fact.agg Tryz.underlying42 (hval 1 42 v1 rfl rfl) h1 (leAll_each hz (j := 1) (by rw [Tryz.params4]; rfl) rfl)
  obtain ⟨rfl, ia1, ia2⟩ := Fact.open_ hra
  obtain ⟨b, usb, rfl, hrb, lb⟩ := om_Fact.agg Tryz.underlying42 (hval 2 42 v2 rfl rfl) h2 (leAll_each hz (j := 2) (by rw [Tryz.params4]; rfl) rfl)
  obtain ⟨rfl, ib1, ib2⟩ := Fact.open_ hrb
  clear hA0
  refine (certPrints_any W _ _ Ax1 Ax2 nx1 cx1 nx2 cx2 x a b hx1 hx2 (sm_cert lx).1 (sm_cert lx).2 ⟨ia1, ia2⟩ ⟨ib1, ib2⟩ (varsP_of hL hsh)).mono fun e W' ⟨he, u, hu⟩ => ?_
  exact ⟨_, he, post_law laid_out (by kernel_rfl) (tb := 4) (by kernel_rfl) (by kernel_rfl) rfl hW' rfl rfl rfl (by rw [hu]; exact Below.of_ext W u (Nat.le_refl _))⟩

set_option maxRecDepth 1000000 in
theorem reads (os : Os) {H : Type} (enc : TypeId × Value → H) : ∃ places, DataW.whole enc Tryz.prog ((laidWorld os).forCall (fun _ _ => 0) ⟨#[], #[.agg #[.slice none 0 0, .slice none 0 0], .agg #[.int .i64 0, .bool false, .int .i64 0], .agg #[.int .i64 0, .bool false, .int .i64 0]], []⟩).memory Tryz.f4.params.toList Rows.certPrintsSpec.vars false (#[.agg #[.slice none 0 0, .slice none 0 0], .agg #[.int .i64 0, .bool false, .int .i64 0], .agg #[.int .i64 0, .bool false, .int .i64 0]] : Array Value).toList 8 = some ([.agg [.nil, .nil], .agg [.lit (.int .i64 0), .agg [.lit (.bool false), .lit (.int .i64 0)]], .agg [.lit (.int .i64 0), .agg [.lit (.bool false), .lit (.int .i64 0)]]], [], places) :=
  ⟨[], by kernel_rfl⟩

set_option maxRecDepth 1000000 in
theorem lifted (os : Os) (started : os.Started) (H : Type) (enc : TypeId × Value → H) (F : Stop.Interp) :
    ReturnsInHanded {} Tryz.checked os 4 .any ((OpenSpec.ofChange Rows.certPrintsSpec).preRow enc Tryz.prog Tryz.f4 Rows.certPrintsRow.domain false Rows.certPrintsRow.laid) (((OpenSpec.ofChange Rows.certPrintsSpec).at F).post enc Tryz.prog Tryz.f4 false true false false) := by
  obtain ⟨places, hx⟩ := reads os enc
  refine returnsInHanded_of_row (C := Tryz.checked) (s := OpenSpec.ofChange Rows.certPrintsSpec) own_knob started (by kernel_rfl) Tryz.func4
    (witness_row_atRef (enc := enc) (C := Tryz.checked) false (laidWorld os) #[.agg #[.slice none 0 0, .slice none 0 0], .agg #[.int .i64 0, .bool false, .int .i64 0], .agg #[.int .i64 0, .bool false, .int .i64 0]] rfl (by kernel_rfl) (by kernel_rfl) (by kernel_rfl)
      (OpenSpec.preRow_of_cond 8 hx (by kernel_rfl) (fun k hk => by cases hk) (by kernel_rfl) (laidWorld_met os _))) ?_
  intro W base args ds gs before hval hW _ _ hz hL hsh _
  exact contract H enc W base args ds gs before hval hW hz hL hsh

theorem said : Rows.CertPrintsSaid :=
  OpenClaim.holds_of_cond 4 Tryz.f4 rfl rfl rfl rfl rfl rfl rfl ⟨rfl, rfl, rfl, rfl, rfl⟩ rfl rfl rfl rfl rfl (by kernel_rfl) Tryz.func4 (by kernel_rfl)
    (of_decide_eq_true (by kernel_rfl)) (by unfold Func.isWrapper; first | (rw [if_pos (by decide +kernel)]; kernel_rfl) | (rw [if_neg (by decide +kernel)]; exact ⟨rfl, rfl⟩))
    (fun os started H enc _ F => by rw [OpenClaim.pre_eq_preRow]; exact lifted os started H enc F)

theorem plain (f : FuncId) (fn : Func) (hf : Tryz.pinned.checked.prog.funcNamed "intarsia/intarsialaw28.CertPrints" = some f) (hfn : Tryz.pinned.checked.prog.funcs[f]? = some fn) :
    true = Tryz.pinned.checked.prog.looks [] ∧ ∀ (j : Nat) t, fn.params[j]? = some t → Tryz.pinned.checked.prog.wantsStandIn t = false := by
  obtain rfl : f = 4 := Option.some.inj ((show Tryz.prog.funcNamed "intarsia/intarsialaw28.CertPrints" = some 4 by kernel_rfl).symm.trans hf) |>.symm
  obtain rfl : fn = Tryz.f4 := (Option.some.inj (Tryz.func4.symm.trans hfn)).symm
  refine ⟨by kernel_rfl, fun j t ht => ?_⟩
  rw [Tryz.params4] at ht
  have hm : t ∈ ([26, 42, 42] : List TypeId) := by simpa using Array.mem_of_getElem? ht
  have hall : (([26, 42, 42] : List TypeId).all fun u => !Tryz.prog.wantsStandIn u) = true := by kernel_rfl
  exact (show Tryz.prog.wantsStandIn t = false by simpa using List.all_eq_true.1 hall t hm)

theorem proved : Rows.CertPrintsCardSaid :=
  Claim7.holds_tied_plain_at .later [] _ _ _ _ said (fun _ h => by cases h) (by kernel_rfl) (fun _ h => by cases h) certPrints_row_tie rfl ⟨rfl, rfl⟩ (by kernel_rfl) rfl plain (by kernel_rfl)
end Go.Proofs.YtppkanniefignaaGreatDoor.certPrints
