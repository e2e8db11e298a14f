/- Walks: small functions. -/
import Derived.Test.YtppkanniefignaaGreatDoorG0
set_option linter.unusedSimpArgs false
set_option linter.unusedVariables false
namespace Go.Proofs.YtppkanniefignaaGreatDoor
open Go.RowKit

theorem isNaN_any (x : Int) (w : World) :
    Calls Tryz.prog 151 #[.int .i64 x] w (Ret (.bool false) w) := by
  go_enter Tryz.func151, Tryz.ntmps151
  go_wp2
  go_ret
  exact Ret.b rfl
/-- Whatever the function is: an answer a value. -/
theorem indexFunc_any (w : World) (S : Nat → Prop) (A : Option Addr) (n c : Nat) (xs : List Int) (f : Int → Bool) (fn : FuncId) (caps : Array Value) (h : Sl w S A n c xs)
    (hfn : ∀ (vs : Array Value) (w : World), (callFunc fn vs).run Tryz.prog w = .ok (.enter fn vs) w) (hf : ∀ x, InI x → Calls Tryz.prog fn (#[.int .i64 x] ++ caps) w (Ret (.bool (f x)) w)) :
    Calls Tryz.prog 170 #[.slice A n c, .func (.func fn) #[] caps] w (Ret (.int .i64 (idxF f 0 xs)) w) := by
  have hn := h.nle
  have HL := hide h.len
  have HS := hide h; clear h
  have HF := hide hf; clear hf
  go_enter Tryz.func170, Tryz.ntmps170
  go_wp2
  go_loop [8] (fun i => ∃ k : Nat, k ≤ n ∧ i = .int .i64 k ∧ idxF f 0 xs = idxF f k (xs.drop k)) (fun i => n - (intOf i).toNat)
  case atStart => exact ⟨0, Nat.zero_le _, rfl, rfl⟩
  case round =>
    obtain ⟨k, hk, rfl, hr⟩ := hrel
    have HR := hide hr; clear hr
    by_cases hlt : k < n
    · obtain ⟨b, off, x, rfl, hb, hx, hi, hc⟩ := at_int HS.out hlt
      have HX := hide (drop_at hx); clear hx
      have HI := hide hi; clear hi
      by_cases hv : f x = true
      · go_wp2_with (refine (HF.out x HI.out).mono ?_; rintro e w' ⟨rfl, rfl⟩)
        go_ret
        exact Ret.i (by rw [HR.out, HX.out]; simp [idxF, hv])
      · have hv' : f x = false := by simpa using hv
        go_wp2_with (refine (HF.out x HI.out).mono ?_; rintro e w' ⟨rfl, rfl⟩)
        go_round
        case rel => exact ⟨k + 1, by omega, by go_num, by rw [HR.out, HX.out]; simp [idxF, hv']⟩
        case measure => simp [intOf]; omega
    · go_wp2
      go_ret
      exact Ret.i (by rw [HR.out, drop_end HL.out hlt]; rfl)
theorem idxF_ge {α : Type} (f : α → Bool) (xs : List α) : ∀ k : Nat, decide (idxF f k xs ≥ 0) = anyF f xs := by
  induction xs with
  | nil => intro k; rfl
  | cons x l ih =>
    intro k
    simp only [idxF, anyF]
    by_cases hx : f x = true
    · simp [hx]
    · have := ih (k + 1)
      simpa [hx] using this
theorem containsFunc_any (w : World) (S : Nat → Prop) (A : Option Addr) (n c : Nat) (xs : List Int) (f : Int → Bool) (fn : FuncId) (caps : Array Value) (h : Sl w S A n c xs)
    (hfn : ∀ (vs : Array Value) (w : World), (callFunc fn vs).run Tryz.prog w = .ok (.enter fn vs) w) (hf : ∀ x, InI x → Calls Tryz.prog fn (#[.int .i64 x] ++ caps) w (Ret (.bool (f x)) w)) :
    Calls Tryz.prog 147 #[.slice A n c, .func (.func fn) #[] caps] w (Ret (.bool (anyF f xs)) w) := by
  have HS := hide h; clear h
  have HF := hide hf; clear hf
  go_enter Tryz.func147, Tryz.ntmps147
  go_wp2_with (go_at_call 170; refine (indexFunc_any _ S _ _ _ xs f fn caps HS.out hfn HF.out).mono ?_; rintro e w' ⟨rfl, rfl⟩)
  go_ret
  exact Ret.b (idxF_ge f xs 0)
def sortedI : List Int → Bool
  | [] => true
  | [_] => true
  | x :: y :: l => !decide (y < x) && sortedI (y :: l)
/-- from the place k downwards -/
def sortedTo (xs : List Int) : Nat → Bool
  | 0 => true
  | k + 1 => !decide (xs.getD (k + 1) 0 < xs.getD k 0) && sortedTo xs k
end Go.Proofs.YtppkanniefignaaGreatDoor
