/- Walks: the document's: where a number is; rising; within; a brief is right; all are. Walks: the document's: a brief is right; all are. -/
import Derived.Test.YthmglmmafgdmhaaGreatTB8
import Derived.BigQuiet
import Derived.BigGuardPart
set_option linter.unusedSimpArgs false
set_option linter.unusedVariables false
namespace Go.Proofs.YthmglmmafgdmhaaGreat
open Go.RowKit Go.Maps

theorem dat_any (w : World) (S : Nat → Prop) (A : Option Addr) (n c : Nat) (xs : List Int) (h : Sl w S A n c xs) (v : Int) : Calls Tryz.prog 37 #[.slice A n c, .int .i64 v] w (Ret (.int .i64 (idxF (fun x => x == v) 0 xs)) w) := by
  have hn := h.nle
  have HL := hide h.len
  have HS := hide h
  clear h
  go_enter Tryz.func37, Tryz.ntmps37
  go_wp2
  go_loopw [5] (fun i wr => ∃ k : Nat, k ≤ n ∧ i = .int .i64 k ∧ idxF (fun x => x == v) 0 xs = idxF (fun x => x == v) k (xs.drop k) ∧ wr = w) (fun i _ => n - (intOf i).toNat)
  case atStart => exact ⟨0, Nat.zero_le _, rfl, rfl, rfl⟩
  case round =>
    obtain ⟨k, hk, rfl, hr, rfl⟩ := hrel
    have HR := hide hr; clear hr
    by_cases hlt : k < n
    · obtain ⟨b, off, x, rfl, hb, hx, hxi, c0⟩ := at_int HS.out hlt
      have HX := hide (drop_at hx); clear hx
      by_cases hv : x = v
      · subst hv
        go_wp2_with fail
        go_ret
        exact Ret.i (by rw [HR.out, HX.out]; simp [idxF])
      · have HV := hide hv
        go_wp2_with fail
        go_roundw
        case rel => exact ⟨k + 1, by omega, by go_num, by rw [HR.out, HX.out]; simp [idxF, HV.out], trivial⟩
        case measure => simp [intOf]; omega
    · go_wp2_with fail
      go_ret
      exact Ret.i (by rw [HR.out, drop_end HL.out hlt]; rfl)
theorem dwithin_any (w : World) (S : Nat → Prop) (A : Option Addr) (n c : Nat) (xs : List Int) (h : Sl w S A n c xs) (a b : Int) : Calls Tryz.prog 35 #[.slice A n c, .int .i64 a, .int .i64 b] w (Ret (.bool (!anyF (outF a b) xs)) w) := by
  have hn := h.nle
  have HL := hide h.len
  have HS := hide h
  clear h
  go_enter Tryz.func35, Tryz.ntmps35
  go_wp2
  go_loopw [7] (fun i wr => ∃ k : Nat, k ≤ n ∧ i = .int .i64 k ∧ anyF (outF a b) xs = anyF (outF a b) (xs.drop k) ∧ wr = w) (fun i _ => n - (intOf i).toNat)
  case atStart => exact ⟨0, Nat.zero_le _, rfl, rfl, rfl⟩
  case round =>
    obtain ⟨k, hk, rfl, hr, rfl⟩ := hrel
    have HR := hide hr; clear hr
    by_cases hlt : k < n
    · obtain ⟨g, off, x, rfl, hb, hx, hxi, c0⟩ := at_int HS.out hlt
      have HX := hide (drop_at hx); clear hx
      by_cases h1 : x < a
      · go_wp2_with fail
        go_ret
        exact Ret.b (by rw [HR.out, HX.out]; simp [anyF, outF, h1])
      · by_cases h2 : b < x
        · go_wp2_with fail
          go_ret
          exact Ret.b (by rw [HR.out, HX.out]; simp [anyF, outF, h2])
        · have HV := hide (show outF a b x = false by simp [outF]; omega)
          go_wp2_with fail
          go_roundw
          case rel => exact ⟨k + 1, by omega, by go_num, by rw [HR.out, HX.out]; simp [anyF, HV.out], trivial⟩
          case measure => simp [intOf]; omega
    · go_wp2_with fail
      go_ret
      exact Ret.b (by rw [HR.out, drop_end HL.out hlt]; rfl)
theorem drising_any (w : World) (S : Nat → Prop) (A : Option Addr) (n c : Nat) (xs : List Int) (h : Sl w S A n c xs) : Calls Tryz.prog 34 #[.slice A n c] w (RetX (.bool (risingF 0 xs)) w) := by
  have hn := h.nle
  have HL := hide h.len
  have HS := hide h
  clear h
  go_enter Tryz.func34, Tryz.ntmps34
  go_wp2
  go_loopw [3] (fun i wr => ∃ (k : Nat) (p : Int), k ≤ n ∧ i = .int .i64 k ∧ risingF 0 xs = risingF p (xs.drop k) ∧ 0 ≤ p ∧ (k = 0 ∨ ∃ j, k = j + 1 ∧ xs[j]? = some p) ∧ (k = 0 → p = 0) ∧ ∃ u, wr = w.ext u) (fun i _ => n - (intOf i).toNat)
  case atStart => exact ⟨0, 0, Nat.zero_le _, rfl, rfl, Int.le_refl _, .inl rfl, fun _ => rfl, ext_refl _⟩
  case round =>
    obtain ⟨k, p, hk, rfl, hr, hp0, hkp, hz, hu⟩ := hrel
    have hsl : Sl wr S A n c xs := by obtain ⟨u, rfl⟩ := hu; exact HS.out.ext u
    have HR := hide hr; have HU := hide hu
    clear hr hu
    by_cases hlt : k < n
    · obtain ⟨g, off, x, rfl, hb, hx, hxi, c0⟩ := at_int hsl hlt
      have HX := hide (drop_at hx)
      have HX0 := hide hx
      have hki : (k : Int) < n := by omega
      clear hx hxi
      rcases hkp with hk0 | ⟨j, hj, hpj⟩
      · have hp : p = 0 := hz hk0
        subst hp
        have hkz : decide (0 < k) = false := decide_eq_false (by omega)
        have HK0 := hide hk0
        clear hsl hz hk0
        by_cases h1 : x < 1
        · go_wp2_with fail
          refine wp_region_ext (by kernel_rfl) (by kernel_rfl) ?_
          repeat (any_goals (first | go_big_quiet_step ((fail)) | quiet_step ((fail))))
          refine wpQuiet_nil ?_
          rintro _ ⟨uq, rfl⟩
          go_wp2_with fail
          go_ret
          exact RetX.b (by rw [HR.out, HX.out]; simp [risingF]; omega) (by obtain ⟨u, hu⟩ := HU.out; rw [hu]; exact ((Below.of_ext w u (Nat.le_refl _)).ext (by rw [size_ext]; omega) _))
        · have hd1 : decide (x < 1) = false := decide_eq_false h1
          by_cases h2 : 200 < x
          · go_wp2_with fail
            refine wp_region_ext (by kernel_rfl) (by kernel_rfl) ?_
            repeat (any_goals (first | go_big_quiet_step ((fail)) | quiet_step ((fail))))
            refine wpQuiet_nil ?_
            rintro _ ⟨uq, rfl⟩
            go_wp2_with fail
            go_ret
            exact RetX.b (by rw [HR.out, HX.out]; simp [risingF]; omega) (by obtain ⟨u, hu⟩ := HU.out; rw [hu]; exact ((Below.of_ext w u (Nat.le_refl _)).ext (by rw [size_ext]; omega) _))
          · have hd2 : decide (200 < x) = false := decide_eq_false h2
            go_wp2_with fail
            refine wp_region_ext (by kernel_rfl) (by kernel_rfl) ?_
            repeat (any_goals (first | go_big_quiet_step ((fail)) | quiet_step ((fail))))
            refine wpQuiet_nil ?_
            rintro _ ⟨uq, rfl⟩
            go_wp2_with fail
            go_roundw
            case rel => exact ⟨k + 1, x, by omega, by go_num, by rw [HR.out, HX.out]; show (decide ((0 : Int) < x) && (decide (x ≤ 200) && _)) = _; rw [decide_eq_true (by omega), decide_eq_true (by omega)]; rfl, by omega, .inr ⟨k, rfl, HX0.out⟩, fun h => by omega, by obtain ⟨u, hu⟩ := HU.out; rw [hu]; exact ext_ext _ _ _⟩
            case measure => simp [intOf]; omega
      · obtain ⟨_, _, p', q1, hbj, hp', _, c1⟩ := at_int hsl (show j < n by omega)
        injection q1 with q1; injection q1 with q1 q2
        subst q1 q2
        rw [hpj] at hp'
        injection hp' with hp'
        subst hp'
        have hji : (j : Int) < n := by omega
        have hj1 : (k : Int) - 1 = j := by omega
        have hj0 : decide (0 < k) = true := decide_eq_true (by omega)
        have hjp : 0 < k := by omega
        clear hsl hz hpj hj
        by_cases h1 : x < 1
        · go_wp2_with fail
          refine wp_region_ext (by kernel_rfl) (by kernel_rfl) ?_
          repeat (any_goals (first | go_big_quiet_step ((fail)) | quiet_step ((fail))))
          refine wpQuiet_nil ?_
          rintro _ ⟨uq, rfl⟩
          go_wp2_with fail
          go_ret
          exact RetX.b (by rw [HR.out, HX.out]; simp [risingF]; omega) (by obtain ⟨u, hu⟩ := HU.out; rw [hu]; exact ((Below.of_ext w u (Nat.le_refl _)).ext (by rw [size_ext]; omega) _))
        · have hd1 : decide (x < 1) = false := decide_eq_false h1
          by_cases h2 : 200 < x
          · go_wp2_with fail
            refine wp_region_ext (by kernel_rfl) (by kernel_rfl) ?_
            repeat (any_goals (first | go_big_quiet_step ((fail)) | quiet_step ((fail))))
            refine wpQuiet_nil ?_
            rintro _ ⟨uq, rfl⟩
            go_wp2_with fail
            go_ret
            exact RetX.b (by rw [HR.out, HX.out]; simp [risingF]; omega) (by obtain ⟨u, hu⟩ := HU.out; rw [hu]; exact ((Below.of_ext w u (Nat.le_refl _)).ext (by rw [size_ext]; omega) _))
          · have hd2 : decide (200 < x) = false := decide_eq_false h2
            by_cases h3 : x ≤ p
            · go_wp2_with fail
              refine wp_region_ext (by kernel_rfl) (by kernel_rfl) ?_
              repeat (any_goals (first | go_big_quiet_step ((fail)) | quiet_step ((fail))))
              refine wpQuiet_nil ?_
              rintro _ ⟨uq, rfl⟩
              go_wp2_with fail
              go_ret
              exact RetX.b (by rw [HR.out, HX.out]; simp [risingF]; omega) (by obtain ⟨u, hu⟩ := HU.out; rw [hu]; exact ((Below.of_ext w u (Nat.le_refl _)).ext (by rw [size_ext]; omega) _))
            · have hd3 : decide (x ≤ p) = false := decide_eq_false h3
              go_wp2_with fail
              refine wp_region_ext (by kernel_rfl) (by kernel_rfl) ?_
              repeat (any_goals (first | go_big_quiet_step ((fail)) | quiet_step ((fail))))
              refine wpQuiet_nil ?_
              rintro _ ⟨uq, rfl⟩
              go_wp2_with fail
              go_roundw
              case rel => exact ⟨k + 1, x, by omega, by go_num, by rw [HR.out, HX.out]; show (decide (p < x) && (decide (x ≤ 200) && _)) = _; rw [decide_eq_true (by omega), decide_eq_true (by omega)]; rfl, by omega, .inr ⟨k, rfl, HX0.out⟩, fun h => by omega, by obtain ⟨u, hu⟩ := HU.out; rw [hu]; exact ext_ext _ _ _⟩
              case measure => simp [intOf]; omega
    · clear hsl
      go_wp2_with fail
      go_ret
      exact RetX.b (by rw [HR.out, drop_end HL.out hlt]; rfl) (by obtain ⟨u, hu⟩ := HU.out; rw [hu]; exact Below.of_ext w u (Nat.le_refl _))
end Go.Proofs.YthmglmmafgdmhaaGreat
set_option linter.unusedSimpArgs false
set_option linter.unusedVariables false
namespace Go.Proofs.YthmglmmafgdmhaaGreat
open Go.RowKit Go.Maps

set_option maxRecDepth 100000 in
set_option maxHeartbeats 4000000 in
theorem dright_any (w : World) (S : Nat → Prop) (b : Brief) (A1 A2 A3 : Option Addr) (n1 c1 n2 c2 n3 c3 : Nat) (h1 : Sl w S A1 n1 c1 b.vars) (h2 : Sl w S A2 n2 c2 b.colors) (h3 : Sl w S A3 n3 c3 b.edge) :
    Calls Tryz.prog 21 #[.agg #[.slice A1 n1 c1, .slice A2 n2 c2, .slice A3 n3 c3]] w (RetX (.bool (rightB b)) w) := by
  have L1 := h1.len; have L2 := h2.len; have L3 := h3.len
  obtain ⟨W0, hW0⟩ : ∃ W0, w.alloc (.cells #[.slice A1 n1 c1, .slice A2 n2 c2, .slice A3 n3 c3] 46) = W0 := ⟨_, rfl⟩
  obtain ⟨g, hg⟩ : ∃ g, w.heap.size = g := ⟨_, rfl⟩
  have hrow : W0.heap[g]? = some (.cells #[.slice A1 n1 c1, .slice A2 n2 c2, .slice A3 n3 c3] 46 (0, 0)) := by rw [← hW0, ← hg]; exact heap_alloc_new w _
  have k0 : W0.cell? ⟨g, 0, none⟩ = some (.slice A1 n1 c1) := cell_of_row W0 g _ _ _ (0, 0) hrow
  have k1 : W0.cell? ⟨g, 1, none⟩ = some (.slice A2 n2 c2) := cell_of_row W0 g _ _ _ (0, 0) hrow
  have k2 : W0.cell? ⟨g, 2, none⟩ = some (.slice A3 n3 c3) := cell_of_row W0 g _ _ _ (0, 0) hrow
  have hgl : g < W0.heap.size := by rw [← hW0, ← hg]; simp
  have HB0 := hide (show Below w.heap.size w W0 by rw [← hW0]; exact (Below.refl _ _).alloc (Nat.le_refl _) _)
  have s1 : Sl W0 S A1 n1 c1 b.vars := by rw [← hW0]; exact h1.alloc _
  have s2 : Sl W0 S A2 n2 c2 b.colors := by rw [← hW0]; exact h2.alloc _
  have s3 : Sl W0 S A3 n3 c3 b.edge := by rw [← hW0]; exact h3.alloc _
  obtain ⟨r, hr⟩ : ∃ r, risingF 0 b.vars = r := ⟨_, rfl⟩
  obtain ⟨oc, hoc⟩ : ∃ r, anyF (outF (-1) 63) b.colors = r := ⟨_, rfl⟩
  obtain ⟨oe, hoe⟩ : ∃ r, anyF (outF 0 1099511627776) b.edge = r := ⟨_, rfl⟩
  have HR := hide (show Calls Tryz.prog 34 #[.slice A1 n1 c1] W0 (RetX (.bool r) W0) from hr ▸ drising_any W0 S A1 n1 c1 b.vars s1)
  have HC := hide (fun (u : Ext) => show Calls Tryz.prog 35 #[.slice A2 n2 c2, .int .i64 (-1), .int .i64 63] (W0.ext u) (Ret (.bool (!oc)) (W0.ext u)) from hoc ▸ dwithin_any _ S A2 n2 c2 b.colors (s2.ext u) _ _)
  have HE := hide (fun (u : Ext) => show Calls Tryz.prog 35 #[.slice A3 n3 c3, .int .i64 0, .int .i64 1099511627776] (W0.ext u) (Ret (.bool (!oe)) (W0.ext u)) from hoe ▸ dwithin_any _ S A3 n3 c3 b.edge (s3.ext u) _ _)
  have HV := hide (show rightB b = (r && (decide (n2 = n1) && (decide (n3 = n1) && (!oc && !oe)))) by unfold rightB; rw [hr, hoc, hoe, L1, L2, L3])
  clear hr hoc hoe s1 s2 s3 hrow h1 h2 h3 L1 L2 L3
  go_enter Tryz.func21, Tryz.ntmps21
  cases r
  · go_wp2_with (go_at_call 34; (with_reducible refine (HR.out).mono ?_); rintro e _ ⟨rfl, ux, rfl⟩)
    go_ret
    exact RetX.b (by rw [HV.out]; rfl) (HB0.out.ext HB0.out.size _)
  by_cases e2 : n2 = n1
  case neg =>
    have hd1 : (n2 == n1) = false := by simpa using e2
    have hd2 : decide (n2 = n1) = false := decide_eq_false e2
    have hd3 : ((n2 : Int) == n1) = false := by simp; omega
    have hd4 : decide ((n2 : Int) = n1) = false := decide_eq_false (by omega)
    go_wp2_with (go_at_call 34; (with_reducible refine (HR.out).mono ?_); rintro e _ ⟨rfl, ux, rfl⟩)
    go_ret
    exact RetX.b (by rw [HV.out]; simp [e2]) (HB0.out.ext HB0.out.size _)
  subst e2
  by_cases e3 : n3 = n2
  case neg =>
    have hd1 : (n3 == n2) = false := by simpa using e3
    have hd2 : decide (n3 = n2) = false := decide_eq_false e3
    have hd3 : ((n3 : Int) == n2) = false := by simp; omega
    have hd4 : decide ((n3 : Int) = n2) = false := decide_eq_false (by omega)
    go_wp2_with (go_at_call 34; (with_reducible refine (HR.out).mono ?_); rintro e _ ⟨rfl, ux, rfl⟩)
    go_ret
    exact RetX.b (by rw [HV.out]; simp [e3]) (HB0.out.ext HB0.out.size _)
  subst e3
  cases oc <;> cases oe
  all_goals
    go_wp2_with (first
      | (go_at_call 34; (with_reducible refine (HR.out).mono ?_); rintro e _ ⟨rfl, ux, rfl⟩)
      | (go_at_call 35; (with_reducible refine (HC.out _).mono ?_); rintro e w' ⟨rfl, rfl⟩)
      | (go_at_call 35; (with_reducible refine (HE.out _).mono ?_); rintro e w' ⟨rfl, rfl⟩))
    go_ret
    exact RetX.b (by rw [HV.out]; simp) (HB0.out.ext HB0.out.size _)
theorem dall_any (w : World) (S : Nat → Prop) (A : Option Addr) (n c : Nat) (xs : List Brief) (h : Sl w S A n c xs) (hn200 : n ≤ 200) : Calls Tryz.prog 36 #[.slice A n c] w (RetX (.bool (!anyF (fun b => !rightB b) xs)) w) := by
  have HL := hide h.len
  have HS := hide h
  clear h
  go_enter Tryz.func36, Tryz.ntmps36
  go_wp2
  go_loopw [3] (fun i wr => ∃ k : Nat, k ≤ n ∧ i = .int .i64 k ∧ anyF (fun b => !rightB b) xs = anyF (fun b => !rightB b) (xs.drop k) ∧ ∃ u, wr = w.ext u) (fun i _ => n - (intOf i).toNat)
  case atStart => exact ⟨0, Nat.zero_le _, rfl, rfl, ext_refl _⟩
  case round =>
    obtain ⟨k, hk, rfl, hr, u, rfl⟩ := hrel
    have HR := hide hr; clear hr
    by_cases hlt : k < n
    · obtain ⟨b, off, x, A1, n1, c1, A2, n2, c2, A3, n3, c3, rfl, hb, hx, s1, s2, s3, k0, k1, k2⟩ := at_Brief (HS.out.ext u) hlt
      have HX := hide (drop_at hx)
      obtain ⟨r, hr⟩ : ∃ r, rightB x = r := ⟨_, rfl⟩
      have HW := hide (show Calls Tryz.prog 21 #[.agg #[.slice A1 n1 c1, .slice A2 n2 c2, .slice A3 n3 c3]] (w.ext u) (RetX (.bool r) (w.ext u)) from hr ▸ dright_any (w.ext u) S x A1 A2 A3 n1 c1 n2 c2 n3 c3 s1 s2 s3)
      have HV := hide hr
      have hk200 : (k : Int) ≤ 200 := by omega
      have hk2 : k ≤ 200 := by omega
      have hd2 : decide (k ≤ 200) = true := decide_eq_true hk2
      clear hx hr s1 s2 s3
      cases r
      · go_wp2_with (go_at_call 21; (with_reducible refine (HW.out).mono ?_); rintro e _ ⟨rfl, ux, rfl⟩)
        go_ret
        exact RetX.b (by rw [HR.out, HX.out]; simp [anyF, HV.out]) (by repeat (first | exact Below.refl _ _ | assumption | refine Below.alloc ?_ (by simp [size_ext]; try omega) _ | refine Below.ext ?_ (by simp [size_ext]; try omega) _ | refine Below.drew ?_ | refine Below.setCell ?_ (by simp [size_ext]; try omega) _))
      · go_wp2_with (go_at_call 21; (with_reducible refine (HW.out).mono ?_); rintro e _ ⟨rfl, ux, rfl⟩)
        go_roundw
        case rel => exact ⟨k + 1, by omega, by go_num, by rw [HR.out, HX.out]; simp [anyF, HV.out], Below.to_ext (by repeat (first | exact Below.refl _ _ | assumption | refine Below.alloc ?_ (by simp [size_ext]; try omega) _ | refine Below.ext ?_ (by simp [size_ext]; try omega) _ | refine Below.drew ?_ | refine Below.setCell ?_ (by simp [size_ext]; try omega) _))⟩
        case measure => simp [intOf]; omega
    · go_wp2_with fail
      go_ret
      exact RetX.b (by rw [HR.out, drop_end HL.out hlt]; rfl) (by repeat (first | exact Below.refl _ _ | assumption | refine Below.alloc ?_ (by simp [size_ext]; try omega) _ | refine Below.ext ?_ (by simp [size_ext]; try omega) _ | refine Below.drew ?_ | refine Below.setCell ?_ (by simp [size_ext]; try omega) _))
end Go.Proofs.YthmglmmafgdmhaaGreat
