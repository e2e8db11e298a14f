/- Walks: the small functions of mir.Right. -/
import Derived.Test.YtahblhiolkdnnaaW1
import Derived.Test.YtahblhiolkdnnaaOwn
import Derived.Test.YtahblhiolkdnnaaS06b
set_option linter.unusedSimpArgs false
set_option linter.unusedVariables false
namespace Go.Proofs.Ytahblhiolkdnnaa
open Go.RowKit

/-- A frame, in memory. -/
def FrameAt (w : World) (g : Nat) (m : Machine) (frame blocks : Int) : Prop :=
  g < w.heap.size ∧ w.cell? ⟨g, 0, none⟩ = some (.int .i64 m.regs) ∧ w.cell? ⟨g, 4, none⟩ = some (.int .i64 frame) ∧ w.cell? ⟨g, 5, none⟩ = some (.int .i64 blocks)
theorem regs1_any (w : World) (g : Nat) (m : Machine) (frame blocks r : Int) (h : FrameAt w g m frame blocks) :
    Calls Try.prog 70 #[.int .i64 r, .pointer (some ⟨g, 0, none⟩)] w (Ret (.bool (regBad m r)) w) := by
  obtain ⟨hg, h0, h4, h5⟩ := h
  by_cases g1 : r < 0
  · go_enter Try.func70, Try.ntmps70
    go_wp2; go_ret; exact Ret.b (by simp [regBad, g1])
  · have d1 : decide (r < 0) = false := by simpa using g1
    go_enter Try.func70, Try.ntmps70
    go_wp2; go_ret; exact Ret.b (by simp [regBad, d1])
theorem to1_any (w : World) (g : Nat) (m : Machine) (frame blocks r : Int) (h : FrameAt w g m frame blocks) :
    Calls Try.prog 72 #[.int .i64 r, .pointer (some ⟨g, 0, none⟩)] w (Ret (.bool (toBad blocks r)) w) := by
  obtain ⟨hg, h0, h4, h5⟩ := h
  by_cases g1 : r < 0
  · go_enter Try.func72, Try.ntmps72
    go_wp2; go_ret; exact Ret.b (by simp [toBad, g1])
  · have d1 : decide (r < 0) = false := by simpa using g1
    go_enter Try.func72, Try.ntmps72
    go_wp2; go_ret; exact Ret.b (by simp [toBad, d1])
theorem term1_any (w : World) (r : Int) : Calls Try.prog 60 #[.int .i64 r] w (Ret (.bool (r != 0)) w) := by
  go_enter Try.func60, Try.ntmps60
  go_wp2; go_ret; exact Ret.b rfl
theorem enter_regs1 (vs : Array Value) (w : World) : (callFunc 70 vs).run Try.prog w = .ok (.enter 70 vs) w := by go_simp
theorem enter_to1 (vs : Array Value) (w : World) : (callFunc 72 vs).run Try.prog w = .ok (.enter 72 vs) w := by go_simp
theorem enter_term1 (vs : Array Value) (w : World) : (callFunc 60 vs).run Try.prog w = .ok (.enter 60 vs) w := by go_simp
theorem enter_many (vs : Array Value) (w : World) : (callFunc 34 vs).run Try.prog w = .ok (.enter 34 vs) w := by go_simp
theorem regs_any (w : World) (S : Nat → Prop) (m : Machine) (frame blocks : Int) (va vs : Value) (A : Option Addr) (n c : Nat) (xs : List Int) (h : Sl w S A n c xs) :
    Calls Try.prog 58 #[.agg #[.int .i64 m.regs, va, .int .i64 m.ret, vs, .int .i64 frame, .int .i64 blocks], .slice A n c] w (RetX (.bool (!anyF (regBad m) xs)) w) := by
  have HS := hide h; clear h
  go_enter Try.func58, Try.ntmps58
  go_wp2_with (go_at_call 59; refine (containsFunc_any _ S A n c xs (regBad m) 70 #[.pointer (some ⟨w.heap.size, 0, none⟩)] (by repeat (first | assumption | exact Hd.out (by assumption) | apply Sl.alloc | apply Sl.ext | apply Sl.drew | apply Sl.drewN)) enter_regs1 (fun x _ => regs1_any _ w.heap.size m frame blocks x ⟨by simp, by go_simp, by go_simp, by go_simp⟩)).mono ?_; rintro e w' ⟨rfl, rfl⟩)
  go_ret; exact RetX.b rfl (by repeat (first | exact Below.refl _ _ | assumption | refine Below.alloc ?_ (by simp [size_ext]; try omega) _ | refine Below.ext ?_ (by simp [size_ext]; try omega) _ | refine Below.drew ?_ | refine Below.setCell ?_ (by simp [size_ext]; try omega) _))
theorem to_any (w : World) (S : Nat → Prop) (m : Machine) (frame blocks : Int) (va vs : Value) (A : Option Addr) (n c : Nat) (xs : List Int) (h : Sl w S A n c xs) :
    Calls Try.prog 61 #[.agg #[.int .i64 m.regs, va, .int .i64 m.ret, vs, .int .i64 frame, .int .i64 blocks], .slice A n c] w (RetX (.bool (!anyF (toBad blocks) xs)) w) := by
  have HS := hide h; clear h
  go_enter Try.func61, Try.ntmps61
  go_wp2_with (go_at_call 59; refine (containsFunc_any _ S A n c xs (toBad blocks) 72 #[.pointer (some ⟨w.heap.size, 0, none⟩)] (by repeat (first | assumption | exact Hd.out (by assumption) | apply Sl.alloc | apply Sl.ext | apply Sl.drew | apply Sl.drewN)) enter_to1 (fun x _ => to1_any _ w.heap.size m frame blocks x ⟨by simp, by go_simp, by go_simp, by go_simp⟩)).mono ?_; rintro e w' ⟨rfl, rfl⟩)
  go_ret; exact RetX.b rfl (by repeat (first | exact Below.refl _ _ | assumption | refine Below.alloc ?_ (by simp [size_ext]; try omega) _ | refine Below.ext ?_ (by simp [size_ext]; try omega) _ | refine Below.drew ?_ | refine Below.setCell ?_ (by simp [size_ext]; try omega) _))
theorem many_any (w : World) (n c : Nat) (A : Option Addr) (v1 v2 v3 v4 : Value) :
    Calls Try.prog 34 #[.agg #[.slice A n c, v1, v2, v3, v4]] w (RetX (.bool (decide ((n : Int) > 4000))) w) := by
  go_enter Try.func34, Try.ntmps34
  go_wp2; go_ret; exact RetX.b rfl (by repeat (first | exact Below.refl _ _ | assumption | refine Below.alloc ?_ (by simp [size_ext]; try omega) _ | refine Below.ext ?_ (by simp [size_ext]; try omega) _ | refine Below.drew ?_ | refine Below.setCell ?_ (by simp [size_ext]; try omega) _))
theorem indexBlocks_any (w : World) (S : Nat → Prop) (A : Option Addr) (n c : Nat) (xs : List Block) (h : Sl w S A n c xs) :
    Calls Try.prog 56 #[.slice A n c, .func (.func 34) #[] #[]] w (RetX (.int .i64 (idxF (fun b : Block => decide ((b.ins.length : Int) > 4000)) 0 xs)) w) := by
  have hn := h.nle
  have HL := hide h.len
  have HS := hide h; clear h
  go_enter Try.func56, Try.ntmps56
  go_wp2
  go_loopw [8] (fun i wr => ∃ k : Nat, k ≤ n ∧ i = .int .i64 k ∧ idxF (fun b : Block => decide ((b.ins.length : Int) > 4000)) 0 xs = idxF (fun b : Block => decide ((b.ins.length : Int) > 4000)) k (xs.drop k) ∧ ∃ u, wr = w.ext u) (fun i _ => n - (intOf i).toNat)
  case atStart => exact ⟨0, Nat.zero_le _, rfl, rfl, ext_refl _⟩
  case round =>
    obtain ⟨k, hk, rfl, hr, u, rfl⟩ := hrel
    have HR := hide hr; clear hr
    by_cases hlt : k < n
    · obtain ⟨b, off, x, A1, n1, c1, rfl, hb, hx, hins, -, -, -, -, c0, c1, c2, c3, c4⟩ := at_Block HS.out hlt
      have HN := hide hins.len; clear hins
      have HX := hide (drop_at hx); clear hx
      by_cases hv : (n1 : Int) > 4000
      · have hd : decide ((n1 : Int) > 4000) = true := by simpa using hv
        go_wp2_with (refine (many_any _ n1 _ A1 _ _ _ _).mono ?_; rintro e _ ⟨rfl, ux, rfl⟩)
        go_ret
        exact RetX.i (by rw [HR.out, HX.out]; simp [idxF, HN.out, hv]) (by repeat (first | exact Below.refl _ _ | assumption | refine Below.alloc ?_ (by simp [size_ext]; try omega) _ | refine Below.ext ?_ (by simp [size_ext]; try omega) _ | refine Below.drew ?_ | refine Below.setCell ?_ (by simp [size_ext]; try omega) _))
      · have hd : decide ((n1 : Int) > 4000) = false := by simpa using hv
        go_wp2_with (refine (many_any _ n1 _ A1 _ _ _ _).mono ?_; rintro e _ ⟨rfl, ux, rfl⟩)
        go_roundw
        case rel => exact ⟨k + 1, by omega, by go_num, by rw [HR.out, HX.out]; simp [idxF, HN.out, hd], Below.to_ext (by repeat (first | exact Below.refl _ _ | assumption | refine Below.alloc ?_ (by simp [size_ext]; try omega) _ | refine Below.ext ?_ (by simp [size_ext]; try omega) _ | refine Below.drew ?_ | refine Below.setCell ?_ (by simp [size_ext]; try omega) _))⟩
        case measure => simp [intOf]; omega
    · go_wp2
      go_ret
      exact RetX.i (by rw [HR.out, drop_end HL.out hlt]; rfl) (by repeat (first | exact Below.refl _ _ | assumption | refine Below.alloc ?_ (by simp [size_ext]; try omega) _ | refine Below.ext ?_ (by simp [size_ext]; try omega) _ | refine Below.drew ?_ | refine Below.setCell ?_ (by simp [size_ext]; try omega) _))
theorem containsBlocks_any (w : World) (S : Nat → Prop) (A : Option Addr) (n c : Nat) (xs : List Block) (h : Sl w S A n c xs) :
    Calls Try.prog 35 #[.slice A n c, .func (.func 34) #[] #[]] w (RetX (.bool (anyF (fun b : Block => decide ((b.ins.length : Int) > 4000)) xs)) w) := by
  have HS := hide h; clear h
  go_enter Try.func35, Try.ntmps35
  go_wp2_with (go_at_call 56; refine (indexBlocks_any _ S _ _ _ xs HS.out).mono ?_; rintro e _ ⟨rfl, ux, rfl⟩)
  go_ret
  exact RetX.b (idxF_ge _ xs 0) (by repeat (first | exact Below.refl _ _ | assumption | refine Below.alloc ?_ (by simp [size_ext]; try omega) _ | refine Below.ext ?_ (by simp [size_ext]; try omega) _ | refine Below.drew ?_ | refine Below.setCell ?_ (by simp [size_ext]; try omega) _))
end Go.Proofs.Ytahblhiolkdnnaa
