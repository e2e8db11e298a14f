/- Walks: the document's: where a number is; rising; within; a brief is right; all are. -/
import Derived.Test.YthmglmmafgdmhaaGreatTB8
import Derived.BigQuiet
import Derived.BigGuardPart
set_option linter.unusedSimpArgs false
set_option linter.unusedVariables false
namespace Go.Proofs.YthmglmmafgdmhaaGreat
open Go.RowKit Go.Maps

theorem dat_any (w : World) (S : Nat → Prop) (A : Option Addr) (n c : Nat) (xs : List Int) (h : Sl w S A n c xs) (v : Int) : Calls Tryz.prog 37 #[.slice A n c, .int .i64 v] w (Ret (.int .i64 (idxF (fun x => x == v) 0 xs)) w) := by
  have hn := h.nle
  have HL := hide h.len
  have HS := hide h
  clear h
  go_enter Tryz.func37, Tryz.ntmps37
  go_wp2
  go_loopw [5] (fun i wr => ∃ k : Nat, k ≤ n ∧ i = .int .i64 k ∧ idxF (fun x => x == v) 0 xs = idxF (fun x => x == v) k (xs.drop k) ∧ wr = w) (fun i _ => n - (intOf i).toNat)
  case atStart => exact ⟨0, Nat.zero_le _, rfl, rfl, rfl⟩
  case round =>
    obtain ⟨k, hk, rfl, hr, rfl⟩ := hrel
    have HR := hide hr; clear hr
    by_cases hlt : k < n
    · obtain ⟨b, off, x, rfl, hb, hx, hxi, c0⟩ := at_int HS.out hlt
      have HX := hide (drop_at hx); clear hx
      by_cases hv : x = v
      · subst hv
        go_wp2_with fail
        go_ret
        exact Ret.i (by rw [HR.out, HX.out]; simp [idxF])
      · have HV := hide hv
        go_wp2_with fail
        go_roundw
        case rel => exact ⟨k + 1, by omega, by go_num, by rw [HR.out, HX.out]; simp [idxF, HV.out], trivial⟩
        case measure => simp [intOf]; omega
    · go_wp2_with fail
      go_ret
      exact Ret.i (by rw [HR.out, drop_end HL.out hlt]; rfl)
theorem dwithin_any (w : World) (S : Nat → Prop) (A : Option Addr) (n c : Nat) (xs : List Int) (h : Sl w S A n c xs) (a b : Int) : Calls Tryz.prog 35 #[.slice A n c, .int .i64 a, .int .i64 b] w (Ret (.bool (!anyF (outF a b) xs)) w) := by
  have hn := h.nle
  have HL := hide h.len
  have HS := hide h
  clear h
  go_enter Tryz.func35, Tryz.ntmps35
  go_wp2
  go_loopw [7] (fun i wr => ∃ k : Nat, k ≤ n ∧ i = .int .i64 k ∧ anyF (outF a b) xs = anyF (outF a b) (xs.drop k) ∧ wr = w) (fun i _ => n - (intOf i).toNat)
  case atStart => exact ⟨0, Nat.zero_le _, rfl, rfl, rfl⟩
  case round =>
    obtain ⟨k, hk, rfl, hr, rfl⟩ := hrel
    have HR := hide hr; clear hr
    by_cases hlt : k < n
    · obtain ⟨g, off, x, rfl, hb, hx, hxi, c0⟩ := at_int HS.out hlt
      have HX := hide (drop_at hx); clear hx
      by_cases h1 : x < a
      · go_wp2_with fail
        go_ret
        exact Ret.b (by rw [HR.out, HX.out]; simp [anyF, outF, h1])
      · by_cases h2 : b < x
        · go_wp2_with fail
          go_ret
          exact Ret.b (by rw [HR.out, HX.out]; simp [anyF, outF, h2])
        · have HV := hide (show outF a b x = false by simp [outF]; omega)
          go_wp2_with fail
          go_roundw
          case rel => exact ⟨k + 1, by omega, by go_num, by rw [HR.out, HX.out]; simp [anyF, HV.out], trivial⟩
          case measure => simp [intOf]; omega
    · go_wp2_with fail
      go_ret
      exact Ret.b (by rw [HR.out, drop_end HL.out hlt]; rfl)
theorem drising_any (w : World) (S : Nat → Prop) (A : Option Addr) (n c : Nat) (xs : List Int) (h : Sl w S A n c xs) : Calls Tryz.prog 34 #[.slice A n c] w (RetX (.bool (risingF 0 xs)) w) := by
  have hn := h.nle
  have HL := hide h.len
  have HS := hide h
  clear h
  go_enter Tryz.func34, Tryz.ntmps34
  go_wp2
  go_loopw [3] (fun i wr => ∃ (k : Nat) (p : Int), k ≤ n ∧ i = .int .i64 k ∧ risingF 0 xs = risingF p (xs.drop k) ∧ 0 ≤ p ∧ (k = 0 ∨ ∃ j, k = j + 1 ∧ xs[j]? = some p) ∧ (k = 0 → p = 0) ∧ ∃ u, wr = w.ext u) (fun i _ => n - (intOf i).toNat)
  case atStart => exact ⟨0, 0, Nat.zero_le _, rfl, rfl, Int.le_refl _, .inl rfl, fun _ => rfl, ext_refl _⟩
  case round =>
    obtain ⟨k, p, hk, rfl, hr, hp0, hkp, hz, hu⟩ := hrel
    have hsl : Sl wr S A n c xs := by obtain ⟨u, rfl⟩ := hu; exact HS.out.ext u
    have HR := hide hr; have HU := hide hu
    clear hr hu
    by_cases hlt : k < n
    · obtain ⟨g, off, x, rfl, hb, hx, hxi, c0⟩ := at_int hsl hlt
      have HX := hide (drop_at hx)
      have HX0 := hide hx
      have hki : (k : Int) < n := by omega
      clear hx hxi
      rcases hkp with hk0 | ⟨j, hj, hpj⟩
      · have hp : p = 0 := hz hk0
        subst hp
        have hkz : decide (0 < k) = false := decide_eq_false (by omega)
        have HK0 := hide hk0
        clear hsl hz hk0
        by_cases h1 : x < 1
        · go_wp2_with fail
          refine wp_region_ext (by kernel_rfl) (by kernel_rfl) ?_
          repeat (any_goals (first | go_big_quiet_step ((fail)) | quiet_step ((fail))))
          refine wpQuiet_nil ?_
          rintro _ ⟨uq, rfl⟩
          go_wp2_with fail
          go_ret
          exact RetX.b (by rw [HR.out, HX.out]; simp [risingF]; omega) (by obtain ⟨u, hu⟩ := HU.out; rw [hu]; exact ((Below.of_ext w u (Nat.le_refl _)).ext (by rw [size_ext]; omega) _))
        · have hd1 : decide (x < 1) = false := decide_eq_false h1
          by_cases h2 : 200 < x
          · go_wp2_with fail
            refine wp_region_ext (by kernel_rfl) (by kernel_rfl) ?_
            repeat (any_goals (first | go_big_quiet_step ((fail)) | quiet_step ((fail))))
            refine wpQuiet_nil ?_
            rintro _ ⟨uq, rfl⟩
            go_wp2_with fail
            go_ret
            exact RetX.b (by rw [HR.out, HX.out]; simp [risingF]; omega) (by obtain ⟨u, hu⟩ := HU.out; rw [hu]; exact ((Below.of_ext w u (Nat.le_refl _)).ext (by rw [size_ext]; omega) _))
          · have hd2 : decide (200 < x) = false := decide_eq_false h2
            go_wp2_with fail
            refine wp_region_ext (by kernel_rfl) (by kernel_rfl) ?_
            repeat (any_goals (first | go_big_quiet_step ((fail)) | quiet_step ((fail))))
            refine wpQuiet_nil ?_
            rintro _ ⟨uq, rfl⟩
            go_wp2_with fail
            go_roundw
            case rel => exact ⟨k + 1, x, by omega, by go_num, by rw [HR.out, HX.out]; show (decide ((0 : Int) < x) && (decide (x ≤ 200) && _)) = _; rw [decide_eq_true (by omega), decide_eq_true (by omega)]; rfl, by omega, .inr ⟨k, rfl, HX0.out⟩, fun h => by omega, by obtain ⟨u, hu⟩ := HU.out; rw [hu]; exact ext_ext _ _ _⟩
            case measure => simp [intOf]; omega
      · obtain ⟨_, _, p', q1, hbj, hp', _, c1⟩ := at_int hsl (show j < n by omega)
        injection q1 with q1; injection q1 with q1 q2
        subst q1 q2
        rw [hpj] at hp'
        injection hp' with hp'
        subst hp'
        have hji : (j : Int) < n := by omega
        have hj1 : (k : Int) - 1 = j := by omega
        have hj0 : decide (0 < k) = true := decide_eq_true (by omega)
        have hjp : 0 < k := by omega
        clear hsl hz hpj hj
        by_cases h1 : x < 1
        · go_wp2_with fail
          refine wp_region_ext (by kernel_rfl) (by kernel_rfl) ?_
          repeat (any_goals (first | go_big_quiet_step ((fail)) | quiet_step ((fail))))
          refine wpQuiet_nil ?_
          rintro _ ⟨uq, rfl⟩
          go_wp2_with fail
          go_ret
          exact RetX.b (by rw [HR.out, HX.out]; simp [risingF]; omega) (by obtain ⟨u, hu⟩ := HU.out; rw [hu]; exact ((Below.of_ext w u (Nat.le_refl _)).ext (by rw [size_ext]; omega) _))
        · have hd1 : decide (x < 1) = false := decide_eq_false h1
          by_cases h2 : 200 < x
          · go_wp2_with fail
            refine wp_region_ext (by kernel_rfl) (by kernel_rfl) ?_
            repeat (any_goals (first | go_big_quiet_step ((fail)) | quiet_step ((fail))))
            refine wpQuiet_nil ?_
            rintro _ ⟨uq, rfl⟩
            go_wp2_with fail
            go_ret
            exact RetX.b (by rw [HR.out, HX.out]; simp [risingF]; omega) (by obtain ⟨u, hu⟩ := HU.out; rw [hu]; exact ((Below.of_ext w u (Nat.le_refl _)).ext (by rw [size_ext]; omega) _))
          · have hd2 : decide (200 < x) = false := decide_eq_false h2
            by_cases h3 : x ≤ p
            · go_wp2_with fail
              refine wp_region_ext (by kernel_rfl) (by kernel_rfl) ?_
              repeat (any_goals (first | go_big_quiet_step ((fail)) | quiet_step ((fail))))
              refine wpQuiet_nil ?_
              rintro _ ⟨uq, rfl⟩
              go_wp2_with fail
              go_ret
              exact RetX.b (by rw [HR.out, HX.out]; simp [risingF]; omega) (by obtain ⟨u, hu⟩ := HU.out; rw [hu]; exact ((Below.of_ext w u (Nat.le_refl _)).ext (by rw [size_ext]; omega) _))
            · have hd3 : decide (x ≤ p) = false := decide_eq_false h3
              go_wp2_with fail
              refine wp_region_ext (by kernel_rfl) (by kernel_rfl) ?_
              repeat (any_goals (first | go_big_quiet_step ((fail)) | quiet_step ((fail))))
              refine wpQuiet_nil ?_
              rintro _ ⟨uq, rfl⟩
              go_wp2_with fail
              go_roundw
              case rel => exact ⟨k + 1, x, by omega, by go_num, by rw [HR.out, HX.out]; show (decide (p < x) && (decide (x ≤ 200) && _)) = _; rw [decide_eq_true (by omega), decide_eq_true (by omega)]; rfl, by omega, .inr ⟨k, rfl, HX0.out⟩, fun h => by omega, by obtain ⟨u, hu⟩ := HU.out; rw [hu]; exact ext_ext _ _ _⟩
              case measure => simp [intOf]; omega
    · clear hsl
      go_wp2_with fail
      go_ret
      exact RetX.b (by rw [HR.out, drop_end HL.out hlt]; rfl) (by obtain ⟨u, hu⟩ := HU.out; rw [hu]; exact Below.of_ext w u (Nat.le_refl _))
end Go.Proofs.YthmglmmafgdmhaaGreat
