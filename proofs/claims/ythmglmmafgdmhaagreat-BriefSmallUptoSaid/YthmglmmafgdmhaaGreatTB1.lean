/- Walks: is a brief right? -/
import Derived.Test.YthmglmmafgdmhaaGreatB23
import Derived.Test.YthmglmmafgdmhaaGreatFlowR
import Derived.Test.YthmglmmafgdmhaaGreatW1
import Derived.BigGuardPart
set_option linter.unusedSimpArgs false
set_option linter.unusedVariables false
namespace Go.Proofs.YthmglmmafgdmhaaGreat
open Go.RowKit

theorem rising_any (w : World) (S : Nat → Prop) (A : Option Addr) (n c : Nat) (xs : List Int) (h : Sl w S A n c xs) : Calls Tryz.prog 28 #[.slice A n c] w (Ret (.bool (risingF 0 xs)) w) := by
  have hn := h.nle
  have HL := hide h.len
  have HS := hide h
  clear h
  go_enter Tryz.func28, Tryz.ntmps28
  go_wp2
  go_loopw [3, 5, 8] (fun a _ i wr => ∃ (k : Nat) (p : Int), k ≤ n ∧ a = .int .i64 p ∧ i = .int .i64 k ∧ risingF 0 xs = risingF p (xs.drop k) ∧ wr = w) (fun _ _ i _ => n - (intOf i).toNat)
  case atStart => exact ⟨0, 0, Nat.zero_le _, rfl, rfl, rfl, rfl⟩
  case round =>
    obtain ⟨k, p, hk, rfl, rfl, hr, rfl⟩ := hrel
    have HR := hide hr; clear hr
    by_cases hlt : k < n
    · obtain ⟨b, off, x, rfl, hb, hx, hxi, c0⟩ := at_int HS.out hlt
      have HX := hide (drop_at hx); clear hx
      by_cases h1 : x ≤ p
      · go_wp2
        go_ret
        exact Ret.b (by rw [HR.out, HX.out]; simp [risingF]; omega)
      · by_cases h2 : 200 < x
        · go_wp2
          go_ret
          exact Ret.b (by rw [HR.out, HX.out]; simp [risingF]; omega)
        · go_wp2
          go_roundw
          case rel => exact ⟨k + 1, x, by omega, rfl, by go_num, by rw [HR.out, HX.out]; show (decide (p < x) && (decide (x ≤ 200) && _)) = _; rw [decide_eq_true (by omega), decide_eq_true (by omega)]; rfl, trivial⟩
          case measure => simp [intOf]; omega
    · go_wp2
      go_ret
      exact Ret.b (by rw [HR.out, drop_end HL.out hlt]; rfl)
theorem indexInts_any (w : World) (S : Nat → Prop) (A : Option Addr) (n c : Nat) (xs : List Int) (f : Int → Bool) (fn : FuncId) (caps : Array Value) (h : Sl w S A n c xs)
    (hfn : ∀ (vs : Array Value) (w : World), (callFunc fn vs).run Tryz.prog w = .ok (.enter fn vs) w) (hf : ∀ (x : Int) (u : Ext), InI x → Calls Tryz.prog fn (#[.int .i64 x] ++ caps) (w.ext u) (RetX (.bool (f x)) (w.ext u))) :
    Calls Tryz.prog 44 #[.slice A n c, .func (.func fn) #[] caps] w (RetX (.int .i64 (idxF f 0 xs)) w) := by
  have hn := h.nle
  have HL := hide h.len
  have HS := hide h; have HF := hide hf
  clear h hf
  go_enter Tryz.func44, Tryz.ntmps44
  go_wp2
  go_loopw [8] (fun i wr => ∃ k : Nat, k ≤ n ∧ i = .int .i64 k ∧ idxF f 0 xs = idxF f k (xs.drop k) ∧ ∃ u, wr = w.ext u) (fun i _ => n - (intOf i).toNat)
  case atStart => exact ⟨0, Nat.zero_le _, rfl, rfl, ext_refl _⟩
  case round =>
    obtain ⟨k, hk, rfl, hr, u, rfl⟩ := hrel
    have HR := hide hr; clear hr
    by_cases hlt : k < n
    · obtain ⟨b, off, x, rfl, hb, hx, hxi, c0⟩ := at_int HS.out hlt
      have HX := hide (drop_at hx); clear hx
      by_cases hv : f x = true
      · have HV := hide hv; clear hv
        go_wp2_with (refine (HF.out x _ hxi).mono ?_; rintro e _ ⟨rfl, ux, rfl⟩; rw [HV.out])
        go_ret
        exact RetX.i (by rw [HR.out, HX.out]; simp [idxF, HV.out]) (by repeat (first | exact Below.refl _ _ | assumption | refine Below.alloc ?_ (by simp [size_ext]; try omega) _ | refine Below.ext ?_ (by simp [size_ext]; try omega) _ | refine Below.drew ?_ | refine Below.setCell ?_ (by simp [size_ext]; try omega) _))
      · have HV := hide (show f x = false by simpa using hv); clear hv
        go_wp2_with (refine (HF.out x _ hxi).mono ?_; rintro e _ ⟨rfl, ux, rfl⟩; rw [HV.out])
        go_roundw
        case rel => exact ⟨k + 1, by omega, by go_num, by rw [HR.out, HX.out]; simp [idxF, HV.out], Below.to_ext (by repeat (first | exact Below.refl _ _ | assumption | refine Below.alloc ?_ (by simp [size_ext]; try omega) _ | refine Below.ext ?_ (by simp [size_ext]; try omega) _ | refine Below.drew ?_ | refine Below.setCell ?_ (by simp [size_ext]; try omega) _))⟩
        case measure => simp [intOf]; omega
    · go_wp2
      go_ret
      exact RetX.i (by rw [HR.out, drop_end HL.out hlt]; rfl) (by repeat (first | exact Below.refl _ _ | assumption | refine Below.alloc ?_ (by simp [size_ext]; try omega) _ | refine Below.ext ?_ (by simp [size_ext]; try omega) _ | refine Below.drew ?_ | refine Below.setCell ?_ (by simp [size_ext]; try omega) _))
theorem containsInts_any (w : World) (S : Nat → Prop) (A : Option Addr) (n c : Nat) (xs : List Int) (f : Int → Bool) (fn : FuncId) (caps : Array Value) (h : Sl w S A n c xs)
    (hfn : ∀ (vs : Array Value) (w : World), (callFunc fn vs).run Tryz.prog w = .ok (.enter fn vs) w) (hf : ∀ (x : Int) (u : Ext), InI x → Calls Tryz.prog fn (#[.int .i64 x] ++ caps) (w.ext u) (RetX (.bool (f x)) (w.ext u))) :
    Calls Tryz.prog 29 #[.slice A n c, .func (.func fn) #[] caps] w (RetX (.bool (anyF f xs)) w) := by
  have HS := hide h; have HF := hide hf
  clear h hf
  go_enter Tryz.func29, Tryz.ntmps29
  go_wp2_with (go_at_call 44; refine (indexInts_any _ S _ _ _ xs f fn caps HS.out hfn HF.out).mono ?_; rintro e _ ⟨rfl, ux, rfl⟩)
  go_ret
  exact RetX.b (idxF_ge f xs 0) (by repeat (first | exact Below.refl _ _ | assumption | refine Below.alloc ?_ (by simp [size_ext]; try omega) _ | refine Below.ext ?_ (by simp [size_ext]; try omega) _ | refine Below.drew ?_ | refine Below.setCell ?_ (by simp [size_ext]; try omega) _))
theorem outside1_any (w : World) (B1 B2 : Nat) (a b n : Int) (h1 : w.cell? ⟨B1, 0, none⟩ = some (.int .i64 a)) (h2 : w.cell? ⟨B2, 0, none⟩ = some (.int .i64 b)) (l1 : B1 < w.heap.size) (l2 : B2 < w.heap.size) :
    Calls Tryz.prog 45 #[.int .i64 n, .pointer (some ⟨B1, 0, none⟩), .pointer (some ⟨B2, 0, none⟩)] w (RetX (.bool (outF a b n)) w) := by
  go_enter Tryz.func45, Tryz.ntmps45
  by_cases hn : n < a
  · go_wp2
    go_ret
    exact RetX.b (by simp [outF]; omega) (by repeat (first | exact Below.refl _ _ | assumption | refine Below.alloc ?_ (by simp [size_ext]; try omega) _ | refine Below.ext ?_ (by simp [size_ext]; try omega) _ | refine Below.drew ?_ | refine Below.setCell ?_ (by simp [size_ext]; try omega) _))
  · go_wp2
    go_ret
    exact RetX.b (by simp [outF]; omega) (by repeat (first | exact Below.refl _ _ | assumption | refine Below.alloc ?_ (by simp [size_ext]; try omega) _ | refine Below.ext ?_ (by simp [size_ext]; try omega) _ | refine Below.drew ?_ | refine Below.setCell ?_ (by simp [size_ext]; try omega) _))
/-- What says whether a number is outside. -/
def OutP (a b : Int) : Post := fun v w => ∃ B1 B2, v = .func (.func 45) #[] #[.pointer (some ⟨B1, 0, none⟩), .pointer (some ⟨B2, 0, none⟩)] ∧ w.cell? ⟨B1, 0, none⟩ = some (.int .i64 a) ∧ w.cell? ⟨B2, 0, none⟩ = some (.int .i64 b) ∧ B1 < w.heap.size ∧ B2 < w.heap.size
theorem OutP.stable_ {F : World → Prop} {mem : Bool} {a b : Int} (hm : mem = true) : stable F mem (OutP a b) :=
  stable_mem hm fun v w u ⟨B1, B2, hv, c1, c2, l1, l2⟩ => ⟨B1, B2, hv, (cell?_ext w u _ l1).trans c1, (cell?_ext w u _ l2).trans c2, by rw [size_ext]; omega, by rw [size_ext]; omega⟩
theorem outside_any (w : World) (a b : Int) : Calls Tryz.prog 30 #[.int .i64 a, .int .i64 b] w (fun e w' => ∃ v, e = .returned v ∧ OutP a b v w' ∧ ∃ u, w' = w.ext u) := by
  go_enter Tryz.func30, Tryz.ntmps30
  go_wp2
  go_ret
  refine ⟨_, rfl, ⟨_, _, rfl, ?_, ?_, ?_, ?_⟩, Below.to_ext (by repeat (first | exact Below.refl _ _ | assumption | refine Below.alloc ?_ (by simp [size_ext]; try omega) _ | refine Below.ext ?_ (by simp [size_ext]; try omega) _ | refine Below.drew ?_ | refine Below.setCell ?_ (by simp [size_ext]; try omega) _))⟩ <;> go_simp
theorem outInts_any (w : World) (S : Nat → Prop) (A : Option Addr) (n c : Nat) (xs : List Int) (a b : Int) (v : Value) (h : Sl w S A n c xs) (hv : OutP a b v w) : Calls Tryz.prog 29 #[.slice A n c, v] w (RetX (.bool (anyF (outF a b) xs)) w) := by
  obtain ⟨B1, B2, rfl, c1, c2, l1, l2⟩ := hv
  exact containsInts_any w S A n c xs (outF a b) _ _ h (fun _ _ => by kernel_rfl) (fun x u _ => outside1_any (w.ext u) B1 B2 a b x ((cell?_ext w u _ l1).trans c1) ((cell?_ext w u _ l2).trans c2) (by rw [size_ext]; omega) (by rw [size_ext]; omega))
end Go.Proofs.YthmglmmafgdmhaaGreat
