/- Walks: small functions. -/
import Derived.Test.YtbppamjogdjfkaaBase
set_option linter.unusedSimpArgs false
set_option linter.unusedVariables false
namespace Go.Proofs.Ytbppamjogdjfkaa
open Go.RowKit

theorem isNaN_any (x : Int) (w : World) :
    Calls Try.prog 47 #[.int .i64 x] w (Ret (.bool false) w) := by
  go_enter Try.func47, Try.ntmps47
  go_wp2
  go_ret
  exact Ret.b rfl
theorem less_any (x y : Int) (w : World) :
    Calls Try.prog 40 #[.int .i64 x, .int .i64 y] w (Ret (.bool (decide (x < y))) w) := by
  go_enter Try.func40, Try.ntmps40
  go_wp2_with (go_at_call 47; refine (isNaN_any _ _).mono ?_; rintro e w' ⟨rfl, rfl⟩)
  go_ret
  exact Ret.b rfl

/-- Whatever the function is: an answer a value. -/
theorem indexFunc_any (w : World) (S : Nat → Prop) (A : Option Addr) (n c : Nat) (xs : List Int) (f : Int → Bool) (fn : FuncId) (caps : Array Value) (h : Sl w S A n c xs)
    (hfn : ∀ (vs : Array Value) (w : World), (callFunc fn vs).run Try.prog w = .ok (.enter fn vs) w) (hf : ∀ x, InI x → Calls Try.prog fn (#[.int .i64 x] ++ caps) w (Ret (.bool (f x)) w)) :
    Calls Try.prog 34 #[.slice A n c, .func (.func fn) #[] caps] w (Ret (.int .i64 (idxF f 0 xs)) w) := by
  have hn := h.nle
  have HL := hide h.len
  have HS := hide h; clear h
  have HF := hide hf; clear hf
  go_enter Try.func34, Try.ntmps34
  go_wp2
  go_loop [8] (fun i => ∃ k : Nat, k ≤ n ∧ i = .int .i64 k ∧ idxF f 0 xs = idxF f k (xs.drop k)) (fun i => n - (intOf i).toNat)
  case atStart => exact ⟨0, Nat.zero_le _, rfl, rfl⟩
  case round =>
    obtain ⟨k, hk, rfl, hr⟩ := hrel
    have HR := hide hr; clear hr
    by_cases hlt : k < n
    · obtain ⟨b, off, x, rfl, hb, hx, hi, hc⟩ := at_int HS.out hlt
      have HX := hide (drop_at hx); clear hx
      have HI := hide hi; clear hi
      by_cases hv : f x = true
      · go_wp2_with (refine (HF.out x HI.out).mono ?_; rintro e w' ⟨rfl, rfl⟩)
        go_ret
        exact Ret.i (by rw [HR.out, HX.out]; simp [idxF, hv])
      · have hv' : f x = false := by simpa using hv
        go_wp2_with (refine (HF.out x HI.out).mono ?_; rintro e w' ⟨rfl, rfl⟩)
        go_round
        case rel => exact ⟨k + 1, by omega, by go_num, by rw [HR.out, HX.out]; simp [idxF, hv']⟩
        case measure => simp [intOf]; omega
    · go_wp2
      go_ret
      exact Ret.i (by rw [HR.out, drop_end HL.out hlt]; rfl)
theorem idxF_ge {α : Type} (f : α → Bool) (xs : List α) : ∀ k : Nat, decide (idxF f k xs ≥ 0) = anyF f xs := by
  induction xs with
  | nil => intro k; rfl
  | cons x l ih =>
    intro k
    simp only [idxF, anyF]
    by_cases hx : f x = true
    · simp [hx]
    · have := ih (k + 1)
      simpa [hx] using this
def sortedI : List Int → Bool
  | [] => true
  | [_] => true
  | x :: y :: l => !decide (y < x) && sortedI (y :: l)
/-- from the place k downwards -/
def sortedTo (xs : List Int) : Nat → Bool
  | 0 => true
  | k + 1 => !decide (xs.getD (k + 1) 0 < xs.getD k 0) && sortedTo xs k
theorem isSorted_any (w : World) (S : Nat → Prop) (A : Option Addr) (n c : Nat) (xs : List Int) (h : Sl w S A n c xs) :
    Calls Try.prog 27 #[.slice A n c] w (RetX (.bool (sortedTo xs (n - 1))) w) := by
  have hn := h.nle
  have HL := hide h.len
  have HS := hide h; clear h
  by_cases hn0 : n = 0
  · subst hn0
    go_enter Try.func27, Try.ntmps27
    go_wp2
    go_loop [3] (fun i => i = .int .i64 (-1)) (fun i => 0)
    case atStart => rfl
    case round =>
      subst hrel
      go_wp2
      go_ret
      exact RetX.b rfl (Below.refl _ _)
  have en : (((n - 1 : Nat) : Int)) = (n : Int) - 1 := by omega
  have EN := hide en; clear en
  go_enter Try.func27, Try.ntmps27
  go_wp2
  go_loopw [3] (fun i wr => ∃ k : Nat, k < n ∧ i = .int .i64 k ∧ sortedTo xs (n - 1) = sortedTo xs k ∧ ∃ u : Ext, wr = w.ext u) (fun i _ => (intOf i).toNat)
  case atStart => exact ⟨n - 1, by omega, by rw [EN.out], rfl, ext_refl w⟩
  case round =>
    obtain ⟨k, hk, rfl, hr, u, rfl⟩ := hrel
    have HR := hide hr; clear hr
    by_cases h0 : k = 0
    · subst h0
      go_wp2
      go_ret
      exact RetX.b (by rw [HR.out]; rfl) (Below.of_ext _ _ (Nat.le_refl _))
    · obtain ⟨j, hj⟩ : ∃ j, k = j + 1 := ⟨k - 1, by omega⟩
      have hj1 : j < k := by omega
      have hj2 : k ≤ j + 1 := by omega
      have HJ := hide hj
      clear h0 hj
      obtain ⟨b, off, x, hA, hb, hx, hi, hc⟩ := at_int HS.out hk
      obtain ⟨b', off', y, hA', hb', hy, hi', hc'⟩ := at_int HS.out (show j < n by omega)
      subst hA
      simp only [Option.some.injEq, Addr.mk.injEq] at hA'
      obtain ⟨rfl, rfl, _⟩ := hA'
      have ex : xs.getD k 0 = x := by simp [hx]
      have ey : xs.getD j 0 = y := by simp [hy]
      have EX := hide ex; have EY := hide ey
      have HI := hide hi; have HI' := hide hi'
      clear hx hy ex ey hi hi'
      have hw : IntKind.i64.wrap ((k : Int) - 1) = (j : Int) := by rw [IntWalk.i64_in _ (by omega)]; omega
      have h1 : (0 : Int) ≤ (k : Int) := by omega
      have h2 : (k : Int) < (n : Int) := by omega
      have h3 : (0 : Int) ≤ (j : Int) := by omega
      have h4 : (j : Int) < (n : Int) := by omega
      have key : ∀ d : Bool, decide (x < y) = d → sortedTo xs k = (!d && sortedTo xs j) := by
        intro d hd
        rw [HJ.out]
        simp only [sortedTo]
        rw [← HJ.out, EX.out, EY.out, hd]
      have KEY := hide key; clear key
      by_cases hxy : x < y
      · have hd : decide (x < y) = true := by simpa using hxy
        go_wp2
        refine wp_region_ext (by kernel_rfl) (by kernel_rfl) ?_
        repeat (any_goals (first | go_big_quiet_step ((go_at_call 40; exact quiet_ret (less_any _ _ _))) | quiet_step ((go_at_call 40; exact quiet_ret (less_any _ _ _)))))
        refine wpQuiet_nil ?_
        rintro _ ⟨u1, rfl⟩
        clear hw
        go_wp2
        go_ret
        exact RetX.b (by rw [HR.out, KEY.out _ hd]; rfl) ((Below.of_ext _ _ (Nat.le_refl _)).ext (by simp [size_ext]) _)
      · have hd : decide (x < y) = false := by simpa using hxy
        go_wp2
        refine wp_region_ext (by kernel_rfl) (by kernel_rfl) ?_
        repeat (any_goals (first | go_big_quiet_step ((go_at_call 40; exact quiet_ret (less_any _ _ _))) | quiet_step ((go_at_call 40; exact quiet_ret (less_any _ _ _)))))
        refine wpQuiet_nil ?_
        rintro _ ⟨u1, rfl⟩
        go_wp2
        go_roundw
        case rel => exact ⟨j, by omega, rfl, by rw [HR.out, KEY.out _ hd]; rfl, ext_ext _ _ _⟩
        case measure => simp [intOf]; omega
end Go.Proofs.Ytbppamjogdjfkaa
