/- Walks: a brief is right, or wrong; no brief is wrong. -/
import Derived.Test.YthmglmmafgdmhaaGreatTB1
set_option linter.unusedSimpArgs false
set_option linter.unusedVariables false
namespace Go.Proofs.YthmglmmafgdmhaaGreat
open Go.RowKit

theorem rightB_any (w : World) (S : Nat → Prop) (b : Brief) (A1 A2 A3 : Option Addr) (n1 c1 n2 c2 n3 c3 : Nat) (h1 : Sl w S A1 n1 c1 b.vars) (h2 : Sl w S A2 n2 c2 b.colors) (h3 : Sl w S A3 n3 c3 b.edge) :
    Calls Tryz.prog 20 #[.agg #[.slice A1 n1 c1, .slice A2 n2 c2, .slice A3 n3 c3]] w (RetX (.bool (rightB b)) w) := by
  have L1 := h1.len; have L2 := h2.len; have L3 := h3.len
  have hn1 := h1.nle; have hn2 := h2.nle; have hn3 := h3.nle
  obtain ⟨W0, hW0⟩ : ∃ W0, w.alloc (.cells #[.slice A1 n1 c1, .slice A2 n2 c2, .slice A3 n3 c3] 43) = W0 := ⟨_, rfl⟩
  obtain ⟨g, hg⟩ : ∃ g, w.heap.size = g := ⟨_, rfl⟩
  have hrow : W0.heap[g]? = some (.cells #[.slice A1 n1 c1, .slice A2 n2 c2, .slice A3 n3 c3] 43 (0, 0)) := by rw [← hW0, ← hg]; exact heap_alloc_new w _
  have k0 : W0.cell? ⟨g, 0, none⟩ = some (.slice A1 n1 c1) := cell_of_row W0 g _ _ _ (0, 0) hrow
  have k1 : W0.cell? ⟨g, 1, none⟩ = some (.slice A2 n2 c2) := cell_of_row W0 g _ _ _ (0, 0) hrow
  have k2 : W0.cell? ⟨g, 2, none⟩ = some (.slice A3 n3 c3) := cell_of_row W0 g _ _ _ (0, 0) hrow
  have hgl : g < W0.heap.size := by rw [← hW0, ← hg]; simp
  have HB0 := hide (show Below w.heap.size w W0 by rw [← hW0]; exact (Below.refl _ _).alloc (Nat.le_refl _) _)
  have s1 : Sl W0 S A1 n1 c1 b.vars := by rw [← hW0]; exact h1.alloc _
  have s2 : Sl W0 S A2 n2 c2 b.colors := by rw [← hW0]; exact h2.alloc _
  have s3 : Sl W0 S A3 n3 c3 b.edge := by rw [← hW0]; exact h3.alloc _
  obtain ⟨r, hr⟩ : ∃ r, risingF 0 b.vars = r := ⟨_, rfl⟩
  obtain ⟨oc, hoc⟩ : ∃ r, anyF (outF (-1) 63) b.colors = r := ⟨_, rfl⟩
  obtain ⟨oe, hoe⟩ : ∃ r, anyF (outF 0 1099511627776) b.edge = r := ⟨_, rfl⟩
  have HR := hide (show Calls Tryz.prog 28 #[.slice A1 n1 c1] W0 (Ret (.bool r) W0) from hr ▸ rising_any W0 S A1 n1 c1 b.vars s1)
  have HC := hide (fun (u : Ext) (v : Value) (hv : OutP (-1) 63 v (W0.ext u)) => show Calls Tryz.prog 29 #[.slice A2 n2 c2, v] (W0.ext u) (RetX (.bool oc) (W0.ext u)) from hoc ▸ outInts_any _ S A2 n2 c2 b.colors _ _ v (s2.ext u) hv)
  have HE := hide (fun (u : Ext) (v : Value) (hv : OutP 0 1099511627776 v (W0.ext u)) => show Calls Tryz.prog 29 #[.slice A3 n3 c3, v] (W0.ext u) (RetX (.bool oe) (W0.ext u)) from hoe ▸ outInts_any _ S A3 n3 c3 b.edge _ _ v (s3.ext u) hv)
  have HV := hide (show rightB b = (r && (decide (n2 = n1) && (decide (n3 = n1) && (!oc && !oe)))) by unfold rightB; rw [hr, hoc, hoe, L1, L2, L3])
  clear hr hoc hoe s1 s2 s3 hrow h1 h2 h3 L1 L2 L3
  go_enter Tryz.func20, Tryz.ntmps20
  cases r
  · go_wp2_with (go_at_call 28; (with_reducible refine (HR.out).mono ?_); rintro e w' ⟨rfl, rfl⟩)
    go_ret
    exact RetX.b (by rw [HV.out]; rfl) HB0.out
  by_cases e2 : n2 = n1
  · subst e2
    by_cases e3 : n3 = n2
    · subst e3
      go_wp2_with (go_at_call 28; (with_reducible refine (HR.out).mono ?_); rintro e w' ⟨rfl, rfl⟩)
      clear hW0 hg
      have e1 : rightB b = (!oc && !oe) := by rw [HV.out]; simp
      refine wp_region_flow_ext [] [2, 8] (by kernel_rfl) rfl (by kernel_rfl) ?_
      repeat (refine flow_known (by kernel_rfl) (fun K hK => ?_); go_simp; (first | (refine hK _ ?_; clear hK K) | (apply Exists.intro; refine ⟨fun _ => ?_, hK _ ?_⟩; (fail); clear hK K)))
      refine flow_keep0 (OutP (-1) 63) (by kernel_rfl) (OutP.stable_ rfl) ?_ ?_
      · intro u
        go_simp
        refine (outside_any _ _ _).mono ?_
        rintro e w' ⟨v, rfl, hp, u', rfl⟩
        exact ⟨_, rfl, hp, onW_ext ⟨_, rfl⟩ ⟨u', rfl⟩⟩
      refine flow_out [true] (.bool oc) (by kernel_rfl) ?_ ?_
      · intro u
        try simp only [List.nil_append, List.cons_append, useH_f, useH_t, useH_nil]
        intro v hp
        go_simp
        exact HC.out u v hp
      cases oc
      · repeat (refine flow_known (by kernel_rfl) (fun K hK => ?_); go_simp; (first | (refine hK _ ?_; clear hK K) | (apply Exists.intro; refine ⟨fun _ => ?_, hK _ ?_⟩; (fail); clear hK K)))
        refine flow_keep [false] (OutP 0 1099511627776) (by kernel_rfl) (OutP.stable_ rfl) ?_ ?_
        · intro u
          try simp only [List.nil_append, List.cons_append, useH_f, useH_t, useH_nil]
          go_simp
          refine (outside_any _ _ _).mono ?_
          rintro e w' ⟨v, rfl, hp, u', rfl⟩
          exact ⟨_, rfl, hp, onW_ext ⟨_, rfl⟩ ⟨u', rfl⟩⟩
        refine flow_out [false, true] (.bool oe) (by kernel_rfl) ?_ ?_
        · intro u
          try simp only [List.nil_append, List.cons_append, useH_f, useH_t, useH_nil]
          intro v hp
          go_simp
          exact HE.out u v hp
        repeat (refine flow_known (by kernel_rfl) (fun K hK => ?_); go_simp; (first | (refine hK _ ?_; clear hK K) | (apply Exists.intro; refine ⟨fun _ => ?_, hK _ ?_⟩; (fail); clear hK K)))
        refine flow_done [true, true] (by kernel_rfl) ?_
        intro u
        simp only [List.nil_append, List.cons_append, endH_f, endH_t, endH_nil]
        intro v1 _ v2 _
        go_simp
        go_wp2_with fail
        go_ret
        exact RetX.b (by rw [e1]; cases oe <;> rfl) (HB0.out.ext HB0.out.size _)
      · repeat (refine flow_known (by kernel_rfl) (fun K hK => ?_); go_simp; (first | (refine hK _ ?_; clear hK K) | (apply Exists.intro; refine ⟨fun _ => ?_, hK _ ?_⟩; (fail); clear hK K)))
        refine flow_done [true] (by kernel_rfl) ?_
        intro u
        simp only [List.nil_append, List.cons_append, endH_f, endH_t, endH_nil]
        intro v1 _
        go_simp
        go_wp2_with fail
        go_ret
        exact RetX.b (by rw [e1]; cases oe <;> rfl) (HB0.out.ext HB0.out.size _)
    · go_wp2_with (go_at_call 28; (with_reducible refine (HR.out).mono ?_); rintro e w' ⟨rfl, rfl⟩)
      go_ret
      exact RetX.b (by rw [HV.out]; simp [e3]) HB0.out
  · go_wp2_with (go_at_call 28; (with_reducible refine (HR.out).mono ?_); rintro e w' ⟨rfl, rfl⟩)
    go_ret
    exact RetX.b (by rw [HV.out]; simp [e2]) HB0.out
theorem wrongB_any (w : World) (S : Nat → Prop) (b : Brief) (A1 A2 A3 : Option Addr) (n1 c1 n2 c2 n3 c3 : Nat) (h1 : Sl w S A1 n1 c1 b.vars) (h2 : Sl w S A2 n2 c2 b.colors) (h3 : Sl w S A3 n3 c3 b.edge) :
    Calls Tryz.prog 32 #[.agg #[.slice A1 n1 c1, .slice A2 n2 c2, .slice A3 n3 c3]] w (RetX (.bool (!rightB b)) w) := by
  obtain ⟨W0, hW0⟩ : ∃ W0, w.alloc (.cells #[.slice A1 n1 c1, .slice A2 n2 c2, .slice A3 n3 c3] 43) = W0 := ⟨_, rfl⟩
  obtain ⟨g, hg⟩ : ∃ g, w.heap.size = g := ⟨_, rfl⟩
  have hrow : W0.heap[g]? = some (.cells #[.slice A1 n1 c1, .slice A2 n2 c2, .slice A3 n3 c3] 43 (0, 0)) := by rw [← hW0, ← hg]; exact heap_alloc_new w _
  have k0 : W0.cell? ⟨g, 0, none⟩ = some (.slice A1 n1 c1) := cell_of_row W0 g _ _ _ (0, 0) hrow
  have k1 : W0.cell? ⟨g, 1, none⟩ = some (.slice A2 n2 c2) := cell_of_row W0 g _ _ _ (0, 0) hrow
  have k2 : W0.cell? ⟨g, 2, none⟩ = some (.slice A3 n3 c3) := cell_of_row W0 g _ _ _ (0, 0) hrow
  have hgl : g < W0.heap.size := by rw [← hW0, ← hg]; simp
  have HB0 := hide (show Below w.heap.size w W0 by rw [← hW0]; exact (Below.refl _ _).alloc (Nat.le_refl _) _)
  have HR := hide (rightB_any W0 S b A1 A2 A3 n1 c1 n2 c2 n3 c3 (by rw [← hW0]; exact h1.alloc _) (by rw [← hW0]; exact h2.alloc _) (by rw [← hW0]; exact h3.alloc _))
  clear h1 h2 h3 hrow
  go_enter Tryz.func32, Tryz.ntmps32
  go_wp2_with (go_at_call 20; (with_reducible refine (HR.out).mono ?_); rintro e _ ⟨rfl, ux, rfl⟩)
  go_ret
  exact RetX.b rfl (HB0.out.ext HB0.out.size _)
theorem indexBriefs_any (w : World) (S : Nat → Prop) (A : Option Addr) (n c : Nat) (xs : List Brief) (h : Sl w S A n c xs) :
    Calls Tryz.prog 46 #[.slice A n c, .func (.func 32) #[] #[]] w (RetX (.int .i64 (idxF (fun b => !rightB b) 0 xs)) w) := by
  have hn := h.nle
  have HL := hide h.len
  have HS := hide h
  clear h
  go_enter Tryz.func46, Tryz.ntmps46
  go_wp2
  go_loopw [8] (fun i wr => ∃ k : Nat, k ≤ n ∧ i = .int .i64 k ∧ idxF (fun b => !rightB b) 0 xs = idxF (fun b => !rightB b) k (xs.drop k) ∧ ∃ u, wr = w.ext u) (fun i _ => n - (intOf i).toNat)
  case atStart => exact ⟨0, Nat.zero_le _, rfl, rfl, ext_refl _⟩
  case round =>
    obtain ⟨k, hk, rfl, hr, u, rfl⟩ := hrel
    have HR := hide hr; clear hr
    by_cases hlt : k < n
    · obtain ⟨b, off, x, A1, n1, c1, A2, n2, c2, A3, n3, c3, rfl, hb, hx, s1, s2, s3, k0, k1, k2⟩ := at_Brief HS.out hlt
      have HX := hide (drop_at hx); clear hx
      obtain ⟨r, hr⟩ : ∃ r, rightB x = r := ⟨_, rfl⟩
      have HW := hide (show Calls Tryz.prog 32 #[.agg #[.slice A1 n1 c1, .slice A2 n2 c2, .slice A3 n3 c3]] (w.ext u) (RetX (.bool (!r)) (w.ext u)) from hr ▸ wrongB_any (w.ext u) S x A1 A2 A3 n1 c1 n2 c2 n3 c3 (s1.ext u) (s2.ext u) (s3.ext u))
      have HV := hide hr
      clear hr s1 s2 s3
      cases r
      · go_wp2_with (go_at_call 32; (with_reducible refine (HW.out).mono ?_); rintro e _ ⟨rfl, ux, rfl⟩)
        go_ret
        exact RetX.i (by rw [HR.out, HX.out]; simp [idxF, HV.out]) (by repeat (first | exact Below.refl _ _ | assumption | refine Below.alloc ?_ (by simp [size_ext]; try omega) _ | refine Below.ext ?_ (by simp [size_ext]; try omega) _ | refine Below.drew ?_ | refine Below.setCell ?_ (by simp [size_ext]; try omega) _))
      · go_wp2_with (go_at_call 32; (with_reducible refine (HW.out).mono ?_); rintro e _ ⟨rfl, ux, rfl⟩)
        go_roundw
        case rel => exact ⟨k + 1, by omega, by go_num, by rw [HR.out, HX.out]; simp [idxF, HV.out], Below.to_ext (by repeat (first | exact Below.refl _ _ | assumption | refine Below.alloc ?_ (by simp [size_ext]; try omega) _ | refine Below.ext ?_ (by simp [size_ext]; try omega) _ | refine Below.drew ?_ | refine Below.setCell ?_ (by simp [size_ext]; try omega) _))⟩
        case measure => simp [intOf]; omega
    · go_wp2
      go_ret
      exact RetX.i (by rw [HR.out, drop_end HL.out hlt]; rfl) (by repeat (first | exact Below.refl _ _ | assumption | refine Below.alloc ?_ (by simp [size_ext]; try omega) _ | refine Below.ext ?_ (by simp [size_ext]; try omega) _ | refine Below.drew ?_ | refine Below.setCell ?_ (by simp [size_ext]; try omega) _))
theorem wrongs_any (w : World) (S : Nat → Prop) (A : Option Addr) (n c : Nat) (xs : List Brief) (h : Sl w S A n c xs) :
    Calls Tryz.prog 31 #[.slice A n c, .func (.func 32) #[] #[]] w (RetX (.bool (anyF (fun b => !rightB b) xs)) w) := by
  have HS := hide h
  clear h
  go_enter Tryz.func31, Tryz.ntmps31
  go_wp2_with (go_at_call 46; refine (indexBriefs_any _ S _ _ _ xs HS.out).mono ?_; rintro e _ ⟨rfl, ux, rfl⟩)
  go_ret
  exact RetX.b (idxF_ge _ xs 0) (by repeat (first | exact Below.refl _ _ | assumption | refine Below.alloc ?_ (by simp [size_ext]; try omega) _ | refine Below.ext ?_ (by simp [size_ext]; try omega) _ | refine Below.drew ?_ | refine Below.setCell ?_ (by simp [size_ext]; try omega) _))
end Go.Proofs.YthmglmmafgdmhaaGreat
