/- Walks: the document's: a brief is right; all are. -/
import Derived.Test.YthmglmmafgdmhaaGreatTD1
set_option linter.unusedSimpArgs false
set_option linter.unusedVariables false
namespace Go.Proofs.YthmglmmafgdmhaaGreat
open Go.RowKit Go.Maps

set_option maxRecDepth 100000 in
set_option maxHeartbeats 4000000 in
theorem dright_any (w : World) (S : Nat → Prop) (b : Brief) (A1 A2 A3 : Option Addr) (n1 c1 n2 c2 n3 c3 : Nat) (h1 : Sl w S A1 n1 c1 b.vars) (h2 : Sl w S A2 n2 c2 b.colors) (h3 : Sl w S A3 n3 c3 b.edge) :
    Calls Tryz.prog 21 #[.agg #[.slice A1 n1 c1, .slice A2 n2 c2, .slice A3 n3 c3]] w (RetX (.bool (rightB b)) w) := by
  have L1 := h1.len; have L2 := h2.len; have L3 := h3.len
  obtain ⟨W0, hW0⟩ : ∃ W0, w.alloc (.cells #[.slice A1 n1 c1, .slice A2 n2 c2, .slice A3 n3 c3] 46) = W0 := ⟨_, rfl⟩
  obtain ⟨g, hg⟩ : ∃ g, w.heap.size = g := ⟨_, rfl⟩
  have hrow : W0.heap[g]? = some (.cells #[.slice A1 n1 c1, .slice A2 n2 c2, .slice A3 n3 c3] 46 (0, 0)) := by rw [← hW0, ← hg]; exact heap_alloc_new w _
  have k0 : W0.cell? ⟨g, 0, none⟩ = some (.slice A1 n1 c1) := cell_of_row W0 g _ _ _ (0, 0) hrow
  have k1 : W0.cell? ⟨g, 1, none⟩ = some (.slice A2 n2 c2) := cell_of_row W0 g _ _ _ (0, 0) hrow
  have k2 : W0.cell? ⟨g, 2, none⟩ = some (.slice A3 n3 c3) := cell_of_row W0 g _ _ _ (0, 0) hrow
  have hgl : g < W0.heap.size := by rw [← hW0, ← hg]; simp
  have HB0 := hide (show Below w.heap.size w W0 by rw [← hW0]; exact (Below.refl _ _).alloc (Nat.le_refl _) _)
  have s1 : Sl W0 S A1 n1 c1 b.vars := by rw [← hW0]; exact h1.alloc _
  have s2 : Sl W0 S A2 n2 c2 b.colors := by rw [← hW0]; exact h2.alloc _
  have s3 : Sl W0 S A3 n3 c3 b.edge := by rw [← hW0]; exact h3.alloc _
  obtain ⟨r, hr⟩ : ∃ r, risingF 0 b.vars = r := ⟨_, rfl⟩
  obtain ⟨oc, hoc⟩ : ∃ r, anyF (outF (-1) 63) b.colors = r := ⟨_, rfl⟩
  obtain ⟨oe, hoe⟩ : ∃ r, anyF (outF 0 1099511627776) b.edge = r := ⟨_, rfl⟩
  have HR := hide (show Calls Tryz.prog 34 #[.slice A1 n1 c1] W0 (RetX (.bool r) W0) from hr ▸ drising_any W0 S A1 n1 c1 b.vars s1)
  have HC := hide (fun (u : Ext) => show Calls Tryz.prog 35 #[.slice A2 n2 c2, .int .i64 (-1), .int .i64 63] (W0.ext u) (Ret (.bool (!oc)) (W0.ext u)) from hoc ▸ dwithin_any _ S A2 n2 c2 b.colors (s2.ext u) _ _)
  have HE := hide (fun (u : Ext) => show Calls Tryz.prog 35 #[.slice A3 n3 c3, .int .i64 0, .int .i64 1099511627776] (W0.ext u) (Ret (.bool (!oe)) (W0.ext u)) from hoe ▸ dwithin_any _ S A3 n3 c3 b.edge (s3.ext u) _ _)
  have HV := hide (show rightB b = (r && (decide (n2 = n1) && (decide (n3 = n1) && (!oc && !oe)))) by unfold rightB; rw [hr, hoc, hoe, L1, L2, L3])
  clear hr hoc hoe s1 s2 s3 hrow h1 h2 h3 L1 L2 L3
  go_enter Tryz.func21, Tryz.ntmps21
  cases r
  · go_wp2_with (go_at_call 34; (with_reducible refine (HR.out).mono ?_); rintro e _ ⟨rfl, ux, rfl⟩)
    go_ret
    exact RetX.b (by rw [HV.out]; rfl) (HB0.out.ext HB0.out.size _)
  by_cases e2 : n2 = n1
  case neg =>
    have hd1 : (n2 == n1) = false := by simpa using e2
    have hd2 : decide (n2 = n1) = false := decide_eq_false e2
    have hd3 : ((n2 : Int) == n1) = false := by simp; omega
    have hd4 : decide ((n2 : Int) = n1) = false := decide_eq_false (by omega)
    go_wp2_with (go_at_call 34; (with_reducible refine (HR.out).mono ?_); rintro e _ ⟨rfl, ux, rfl⟩)
    go_ret
    exact RetX.b (by rw [HV.out]; simp [e2]) (HB0.out.ext HB0.out.size _)
  subst e2
  by_cases e3 : n3 = n2
  case neg =>
    have hd1 : (n3 == n2) = false := by simpa using e3
    have hd2 : decide (n3 = n2) = false := decide_eq_false e3
    have hd3 : ((n3 : Int) == n2) = false := by simp; omega
    have hd4 : decide ((n3 : Int) = n2) = false := decide_eq_false (by omega)
    go_wp2_with (go_at_call 34; (with_reducible refine (HR.out).mono ?_); rintro e _ ⟨rfl, ux, rfl⟩)
    go_ret
    exact RetX.b (by rw [HV.out]; simp [e3]) (HB0.out.ext HB0.out.size _)
  subst e3
  cases oc <;> cases oe
  all_goals
    go_wp2_with (first
      | (go_at_call 34; (with_reducible refine (HR.out).mono ?_); rintro e _ ⟨rfl, ux, rfl⟩)
      | (go_at_call 35; (with_reducible refine (HC.out _).mono ?_); rintro e w' ⟨rfl, rfl⟩)
      | (go_at_call 35; (with_reducible refine (HE.out _).mono ?_); rintro e w' ⟨rfl, rfl⟩))
    go_ret
    exact RetX.b (by rw [HV.out]; simp) (HB0.out.ext HB0.out.size _)
theorem dall_any (w : World) (S : Nat → Prop) (A : Option Addr) (n c : Nat) (xs : List Brief) (h : Sl w S A n c xs) (hn200 : n ≤ 200) : Calls Tryz.prog 36 #[.slice A n c] w (RetX (.bool (!anyF (fun b => !rightB b) xs)) w) := by
  have HL := hide h.len
  have HS := hide h
  clear h
  go_enter Tryz.func36, Tryz.ntmps36
  go_wp2
  go_loopw [3] (fun i wr => ∃ k : Nat, k ≤ n ∧ i = .int .i64 k ∧ anyF (fun b => !rightB b) xs = anyF (fun b => !rightB b) (xs.drop k) ∧ ∃ u, wr = w.ext u) (fun i _ => n - (intOf i).toNat)
  case atStart => exact ⟨0, Nat.zero_le _, rfl, rfl, ext_refl _⟩
  case round =>
    obtain ⟨k, hk, rfl, hr, u, rfl⟩ := hrel
    have HR := hide hr; clear hr
    by_cases hlt : k < n
    · obtain ⟨b, off, x, A1, n1, c1, A2, n2, c2, A3, n3, c3, rfl, hb, hx, s1, s2, s3, k0, k1, k2⟩ := at_Brief (HS.out.ext u) hlt
      have HX := hide (drop_at hx)
      obtain ⟨r, hr⟩ : ∃ r, rightB x = r := ⟨_, rfl⟩
      have HW := hide (show Calls Tryz.prog 21 #[.agg #[.slice A1 n1 c1, .slice A2 n2 c2, .slice A3 n3 c3]] (w.ext u) (RetX (.bool r) (w.ext u)) from hr ▸ dright_any (w.ext u) S x A1 A2 A3 n1 c1 n2 c2 n3 c3 s1 s2 s3)
      have HV := hide hr
      have hk200 : (k : Int) ≤ 200 := by omega
      have hk2 : k ≤ 200 := by omega
      have hd2 : decide (k ≤ 200) = true := decide_eq_true hk2
      clear hx hr s1 s2 s3
      cases r
      · go_wp2_with (go_at_call 21; (with_reducible refine (HW.out).mono ?_); rintro e _ ⟨rfl, ux, rfl⟩)
        go_ret
        exact RetX.b (by rw [HR.out, HX.out]; simp [anyF, HV.out]) (by repeat (first | exact Below.refl _ _ | assumption | refine Below.alloc ?_ (by simp [size_ext]; try omega) _ | refine Below.ext ?_ (by simp [size_ext]; try omega) _ | refine Below.drew ?_ | refine Below.setCell ?_ (by simp [size_ext]; try omega) _))
      · go_wp2_with (go_at_call 21; (with_reducible refine (HW.out).mono ?_); rintro e _ ⟨rfl, ux, rfl⟩)
        go_roundw
        case rel => exact ⟨k + 1, by omega, by go_num, by rw [HR.out, HX.out]; simp [anyF, HV.out], Below.to_ext (by repeat (first | exact Below.refl _ _ | assumption | refine Below.alloc ?_ (by simp [size_ext]; try omega) _ | refine Below.ext ?_ (by simp [size_ext]; try omega) _ | refine Below.drew ?_ | refine Below.setCell ?_ (by simp [size_ext]; try omega) _))⟩
        case measure => simp [intOf]; omega
    · go_wp2_with fail
      go_ret
      exact RetX.b (by rw [HR.out, drop_end HL.out hlt]; rfl) (by repeat (first | exact Below.refl _ _ | assumption | refine Below.alloc ?_ (by simp [size_ext]; try omega) _ | refine Below.ext ?_ (by simp [size_ext]; try omega) _ | refine Below.drew ?_ | refine Below.setCell ?_ (by simp [size_ext]; try omega) _))
end Go.Proofs.YthmglmmafgdmhaaGreat
