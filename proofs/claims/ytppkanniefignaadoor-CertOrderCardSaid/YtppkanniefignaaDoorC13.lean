/- law28: CertOrder: its walk. -/
import Derived.Test.YtppkanniefignaaDoorC12
import Derived.Test.YtppkanniefignaaDoorC2p
set_option linter.unusedSimpArgs false
set_option linter.unusedVariables false
namespace Go.Proofs.YtppkanniefignaaDoor
open Go.RowKit Go.Maps
theorem eq_fact_run (a b : Fact) (w : World) : (Op.equalIn 10000 25 (facV a) (facV b)).run Tryd.prog w = .ok (decide (a = b)) w := by
  have he : decide (a = b) = (a.var == b.var && (a.loc.slot == b.loc.slot && a.loc.n == b.loc.n)) := by
    obtain ⟨va, ⟨sa, na⟩⟩ := a
    obtain ⟨vb, ⟨sb, nb⟩⟩ := b
    rw [Bool.eq_iff_iff]
    simp
  rw [he]
  obtain ⟨va, ⟨sa, na⟩⟩ := a
  obtain ⟨vb, ⟨sb, nb⟩⟩ := b
  dsimp only
  go_simp
  by_cases h1 : va = vb <;> by_cases h2 : sa = sb <;> by_cases h3 : na = nb <;> simp_all
set_option maxRecDepth 100000 in
set_option maxHeartbeats 8000000 in
theorem certOrder_any (w : World) (hv : VarsP w) (a b c : Fact) (ha : InI a.var ∧ InI a.loc.n) (hb : InI b.var ∧ InI b.loc.n) (hc : InI c.var ∧ InI c.loc.n) : Calls Tryd.prog 3 #[facV a, facV b, facV c] w (RetX (.bool true) w) := by
  have HV := hide hv
  have HAW := hide (fun (W : World) (hb : Below w.heap.size w W) => awake28_any W (hv.below hb hv.v.sz))
  obtain ⟨q, hq⟩ : ∃ q, decide (a = b) = q := ⟨_, rfl⟩
  have EQ := fun w => eq_fact_run a b w
  rw [hq] at EQ
  have htot := ahead_tot a b
  rw [hq] at htot
  have hasy := ahead_asym a b
  have htr := ahead_trans a b c
  have H0 := hide (fun (W : World) => show Calls Tryd.prog 5 #[facV a, facV a] W (RetX (.bool false) W) from ahead_irr a ▸ ahead28_any W a a ha ha)
  obtain ⟨x1, h1⟩ : ∃ x, aheadF a b = x := ⟨_, rfl⟩
  obtain ⟨x2, h2⟩ : ∃ x, aheadF b a = x := ⟨_, rfl⟩
  obtain ⟨x3, h3⟩ : ∃ x, aheadF b c = x := ⟨_, rfl⟩
  obtain ⟨x4, h4⟩ : ∃ x, aheadF a c = x := ⟨_, rfl⟩
  have H1 := hide (fun (W : World) => show Calls Tryd.prog 5 #[facV a, facV b] W (RetX (.bool x1) W) from h1 ▸ ahead28_any W a b ha hb)
  have H2 := hide (fun (W : World) => show Calls Tryd.prog 5 #[facV b, facV a] W (RetX (.bool x2) W) from h2 ▸ ahead28_any W b a hb ha)
  have H3 := hide (fun (W : World) => show Calls Tryd.prog 5 #[facV b, facV c] W (RetX (.bool x3) W) from h3 ▸ ahead28_any W b c hb hc)
  have H4 := hide (fun (W : World) => show Calls Tryd.prog 5 #[facV a, facV c] W (RetX (.bool x4) W) from h4 ▸ ahead28_any W a c ha hc)
  rw [h1, h2] at htot hasy
  rw [h1, h3, h4] at htr
  clear hq h1 h2 h3 h4 hv ha hb hc
  obtain ⟨va, ⟨sa, na⟩⟩ := a
  obtain ⟨vb, ⟨sb, nb⟩⟩ := b
  obtain ⟨vc, ⟨sc, nc⟩⟩ := c
  replace EQ : ∀ w : World, (Op.equalIn 10000 25 (.agg #[.int .i64 va, .bool sa, .int .i64 na]) (.agg #[.int .i64 vb, .bool sb, .int .i64 nb])).run Tryd.prog w = .ok q w := EQ
  replace H0 := hide (show ∀ W : World, Calls Tryd.prog 5 #[.agg #[.int .i64 va, .bool sa, .int .i64 na], .agg #[.int .i64 va, .bool sa, .int .i64 na]] W (RetX (.bool false) W) from H0.out)
  replace H1 := hide (show ∀ W : World, Calls Tryd.prog 5 #[.agg #[.int .i64 va, .bool sa, .int .i64 na], .agg #[.int .i64 vb, .bool sb, .int .i64 nb]] W (RetX (.bool x1) W) from H1.out)
  replace H2 := hide (show ∀ W : World, Calls Tryd.prog 5 #[.agg #[.int .i64 vb, .bool sb, .int .i64 nb], .agg #[.int .i64 va, .bool sa, .int .i64 na]] W (RetX (.bool x2) W) from H2.out)
  replace H3 := hide (show ∀ W : World, Calls Tryd.prog 5 #[.agg #[.int .i64 vb, .bool sb, .int .i64 nb], .agg #[.int .i64 vc, .bool sc, .int .i64 nc]] W (RetX (.bool x3) W) from H3.out)
  replace H4 := hide (show ∀ W : World, Calls Tryd.prog 5 #[.agg #[.int .i64 va, .bool sa, .int .i64 na], .agg #[.int .i64 vc, .bool sc, .int .i64 nc]] W (RetX (.bool x4) W) from H4.out)
  obtain ⟨W1, hW1⟩ : ∃ W1, ((w.alloc (.cells #[.int .i64 va, .bool sa, .int .i64 na] 25)).alloc (.cells #[.int .i64 vb, .bool sb, .int .i64 nb] 25)).alloc (.cells #[.int .i64 vc, .bool sc, .int .i64 nc] 25) = W1 := ⟨_, rfl⟩
  obtain ⟨g0, hg0⟩ : ∃ g, w.heap.size = g := ⟨_, rfl⟩
  obtain ⟨g1, hg1⟩ : ∃ g, g0 + 1 = g := ⟨_, rfl⟩
  obtain ⟨g2, hg2⟩ : ∃ g, g1 + 1 = g := ⟨_, rfl⟩
  have HBW := hide (show Below w.heap.size w W1 by rw [← hW1]; exact (((Below.refl _ _).alloc (Nat.le_refl _) _).alloc (by simp) _).alloc (by simp; omega) _)
  have hsz : W1.heap.size = g0 + 3 := by rw [← hW1, ← hg0]; simp
  have r0 : W1.heap[g0]? = some (.cells #[.int .i64 va, .bool sa, .int .i64 na] 25 (0, 0)) := by
    rw [← hW1, Below.heap_alloc _ _ _ (by simp; omega), Below.heap_alloc _ _ _ (by simp; omega), ← hg0]; exact heap_alloc_new w _
  have r1 : W1.heap[g1]? = some (.cells #[.int .i64 vb, .bool sb, .int .i64 nb] 25 (0, 0)) := by
    have h := heap_alloc_new (w.alloc (.cells #[.int .i64 va, .bool sa, .int .i64 na] 25)) (.cells #[.int .i64 vb, .bool sb, .int .i64 nb] 25 (0, 0))
    rw [← hW1, Below.heap_alloc _ _ _ (by simp; omega), ← hg1, ← hg0]; simpa using h
  have r2 : W1.heap[g2]? = some (.cells #[.int .i64 vc, .bool sc, .int .i64 nc] 25 (0, 0)) := by
    have h := heap_alloc_new ((w.alloc (.cells #[.int .i64 va, .bool sa, .int .i64 na] 25)).alloc (.cells #[.int .i64 vb, .bool sb, .int .i64 nb] 25)) (.cells #[.int .i64 vc, .bool sc, .int .i64 nc] 25 (0, 0))
    rw [← hW1, ← hg2, ← hg1, ← hg0]; simpa using h
  obtain ⟨a0, a1, a2⟩ := cells3 r0
  obtain ⟨b0, b1, b2⟩ := cells3 r1
  obtain ⟨d0, d1, d2⟩ := cells3 r2
  have l0 : g0 < W1.heap.size := by omega
  have l1 : g1 < W1.heap.size := by omega
  have l2 : g2 < W1.heap.size := by omega
  have HWQ := hide hW1
  have HG0 := hide hg0; have HG1 := hide hg1; have HG2 := hide hg2
  clear hW1 hg0 hg1 hg2 hsz r0 r1 r2
  have HAW1 := hide (HAW.out W1 HBW.out)
  have hend : ∀ (u : Ext), RetX (.bool true) w (.returned (.bool true)) (W1.ext u) := fun u => RetX.b rfl (HBW.out.ext HBW.out.size u)
  have HEND := hide hend
  clear hend HAW
  have hx : ∀ {A : Array Value} {b : Bool}, (∀ W : World, Calls Tryd.prog 5 A W (RetX (.bool b) W)) → ∀ v : Ext, Calls Tryd.prog 5 A (W1.ext v) (fun e w' => e = .returned (.bool b) ∧ ∃ u : Ext, w' = W1.ext u) := fun h v => (h (W1.ext v)).mono fun e w' ⟨he, u, hu⟩ => ⟨he, by rw [hu]; exact ext_ext W1 v u⟩
  have G0 := hide (hx H0.out); have G1 := hide (hx H1.out); have G2 := hide (hx H2.out); have G3 := hide (hx H3.out); have G4 := hide (hx H4.out)
  clear hx
  cases x1 <;> cases x2 <;> simp at hasy htot htr <;> subst htot
  case false.false =>
    go_enter Tryd.func3, Tryd.ntmps3
    go_wp2_with (first | (go_at_call 4; refine Hd.out ?_))
    rw [HWQ.out, HG0.out, HG1.out, HG2.out]
    refine hide ?_
    refine HAW1.out.mono ?_
    rintro e _ ⟨rfl, u0, rfl⟩
    go_wp2_with (first | (go_at_call 5; (with_reducible refine (G0.out _).mono ?_); rintro e _ ⟨rfl, uz, rfl⟩) | (go_at_call 5; (with_reducible refine (G1.out _).mono ?_); rintro e _ ⟨rfl, uz, rfl⟩) | (go_at_call 5; (with_reducible refine (G2.out _).mono ?_); rintro e _ ⟨rfl, uz, rfl⟩) | (go_at_call 5; (with_reducible refine (G3.out _).mono ?_); rintro e _ ⟨rfl, uz, rfl⟩) | (go_at_call 5; (with_reducible refine (G4.out _).mono ?_); rintro e _ ⟨rfl, uz, rfl⟩))
    refine wp_region_flow_ext [] [] (by kernel_rfl) rfl (by kernel_rfl) ?_
    repeat (refine flow_known (by kernel_rfl) (fun K hK => ?_); go_simp; (first | (refine hK _ ?_; clear hK K) | (refine ⟨undef, (by intros; rw [if_neg (by decide)]), hK _ ?_⟩; clear hK K) | (apply Exists.intro; refine ⟨fun _ => ?_, hK _ ?_⟩; (first | (go_at_call 5; with_reducible exact H1.out _) | (go_at_call 5; with_reducible exact H2.out _)); clear hK K)))
    refine flow_done [] (by kernel_rfl) ?_
    intro uf
    simp only [List.nil_append, List.cons_append, endH_f, endH_t, endH_nil]
    go_simp
    obtain ⟨ug, hug⟩ := ext_ext W1 uz uf
    rw [hug]
    clear hug
    go_wp2_with (first | (go_at_call 5; (with_reducible refine (G0.out _).mono ?_); rintro e _ ⟨rfl, uz, rfl⟩) | (go_at_call 5; (with_reducible refine (G1.out _).mono ?_); rintro e _ ⟨rfl, uz, rfl⟩) | (go_at_call 5; (with_reducible refine (G2.out _).mono ?_); rintro e _ ⟨rfl, uz, rfl⟩) | (go_at_call 5; (with_reducible refine (G3.out _).mono ?_); rintro e _ ⟨rfl, uz, rfl⟩) | (go_at_call 5; (with_reducible refine (G4.out _).mono ?_); rintro e _ ⟨rfl, uz, rfl⟩))
    go_ret
    have hB := HBW.out
    have hwl := hB.size
    exact RetX.b rfl (by repeat (first | exact hB.ext hwl _ | refine Below.ext ?_ (by simp only [size_ext]; omega) _))
  case false.true =>
    go_enter Tryd.func3, Tryd.ntmps3
    go_wp2_with (first | (go_at_call 4; refine Hd.out ?_))
    rw [HWQ.out, HG0.out, HG1.out, HG2.out]
    refine hide ?_
    refine HAW1.out.mono ?_
    rintro e _ ⟨rfl, u0, rfl⟩
    go_wp2_with (first | (go_at_call 5; (with_reducible refine (G0.out _).mono ?_); rintro e _ ⟨rfl, uz, rfl⟩) | (go_at_call 5; (with_reducible refine (G1.out _).mono ?_); rintro e _ ⟨rfl, uz, rfl⟩) | (go_at_call 5; (with_reducible refine (G2.out _).mono ?_); rintro e _ ⟨rfl, uz, rfl⟩) | (go_at_call 5; (with_reducible refine (G3.out _).mono ?_); rintro e _ ⟨rfl, uz, rfl⟩) | (go_at_call 5; (with_reducible refine (G4.out _).mono ?_); rintro e _ ⟨rfl, uz, rfl⟩))
    refine wp_region_flow_ext [] [] (by kernel_rfl) rfl (by kernel_rfl) ?_
    repeat (refine flow_known (by kernel_rfl) (fun K hK => ?_); go_simp; (first | (refine hK _ ?_; clear hK K) | (refine ⟨undef, (by intros; rw [if_neg (by decide)]), hK _ ?_⟩; clear hK K) | (apply Exists.intro; refine ⟨fun _ => ?_, hK _ ?_⟩; (first | (go_at_call 5; with_reducible exact H1.out _) | (go_at_call 5; with_reducible exact H2.out _)); clear hK K)))
    refine flow_done [] (by kernel_rfl) ?_
    intro uf
    simp only [List.nil_append, List.cons_append, endH_f, endH_t, endH_nil]
    go_simp
    obtain ⟨ug, hug⟩ := ext_ext W1 uz uf
    rw [hug]
    clear hug
    go_wp2_with (first | (go_at_call 5; (with_reducible refine (G0.out _).mono ?_); rintro e _ ⟨rfl, uz, rfl⟩) | (go_at_call 5; (with_reducible refine (G1.out _).mono ?_); rintro e _ ⟨rfl, uz, rfl⟩) | (go_at_call 5; (with_reducible refine (G2.out _).mono ?_); rintro e _ ⟨rfl, uz, rfl⟩) | (go_at_call 5; (with_reducible refine (G3.out _).mono ?_); rintro e _ ⟨rfl, uz, rfl⟩) | (go_at_call 5; (with_reducible refine (G4.out _).mono ?_); rintro e _ ⟨rfl, uz, rfl⟩))
    go_ret
    have hB := HBW.out
    have hwl := hB.size
    exact RetX.b rfl (by repeat (first | exact hB.ext hwl _ | refine Below.ext ?_ (by simp only [size_ext]; omega) _))
  case true.false =>
    cases x3 <;> cases x4 <;> simp at htr
    all_goals
      go_enter Tryd.func3, Tryd.ntmps3
      go_wp2_with (first | (go_at_call 4; refine Hd.out ?_))
      rw [HWQ.out, HG0.out, HG1.out, HG2.out]
      refine hide ?_
      refine HAW1.out.mono ?_
      rintro e _ ⟨rfl, u0, rfl⟩
      go_wp2_with (first | (go_at_call 5; (with_reducible refine (G0.out _).mono ?_); rintro e _ ⟨rfl, uz, rfl⟩) | (go_at_call 5; (with_reducible refine (G1.out _).mono ?_); rintro e _ ⟨rfl, uz, rfl⟩) | (go_at_call 5; (with_reducible refine (G2.out _).mono ?_); rintro e _ ⟨rfl, uz, rfl⟩) | (go_at_call 5; (with_reducible refine (G3.out _).mono ?_); rintro e _ ⟨rfl, uz, rfl⟩) | (go_at_call 5; (with_reducible refine (G4.out _).mono ?_); rintro e _ ⟨rfl, uz, rfl⟩))
      refine wp_region_flow_ext [] [] (by kernel_rfl) rfl (by kernel_rfl) ?_
      repeat (refine flow_known (by kernel_rfl) (fun K hK => ?_); go_simp; (first | (refine hK _ ?_; clear hK K) | (refine ⟨undef, (by intros; rw [if_neg (by decide)]), hK _ ?_⟩; clear hK K) | (apply Exists.intro; refine ⟨fun _ => ?_, hK _ ?_⟩; (first | (go_at_call 5; with_reducible exact H1.out _) | (go_at_call 5; with_reducible exact H2.out _)); clear hK K)))
      refine flow_done [] (by kernel_rfl) ?_
      intro uf
      simp only [List.nil_append, List.cons_append, endH_f, endH_t, endH_nil]
      go_simp
      obtain ⟨ug, hug⟩ := ext_ext W1 uz uf
      rw [hug]
      clear hug
      go_wp2_with (first | (go_at_call 5; (with_reducible refine (G0.out _).mono ?_); rintro e _ ⟨rfl, uz, rfl⟩) | (go_at_call 5; (with_reducible refine (G1.out _).mono ?_); rintro e _ ⟨rfl, uz, rfl⟩) | (go_at_call 5; (with_reducible refine (G2.out _).mono ?_); rintro e _ ⟨rfl, uz, rfl⟩) | (go_at_call 5; (with_reducible refine (G3.out _).mono ?_); rintro e _ ⟨rfl, uz, rfl⟩) | (go_at_call 5; (with_reducible refine (G4.out _).mono ?_); rintro e _ ⟨rfl, uz, rfl⟩))
      go_ret
      have hB := HBW.out
      have hwl := hB.size
      exact RetX.b rfl (by repeat (first | exact hB.ext hwl _ | refine Below.ext ?_ (by simp only [size_ext]; omega) _))
end Go.Proofs.YtppkanniefignaaDoor
