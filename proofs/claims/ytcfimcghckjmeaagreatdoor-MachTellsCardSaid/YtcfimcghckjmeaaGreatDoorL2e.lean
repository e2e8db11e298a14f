/- law02: the program's cursor: Mark, Err. -/
import Derived.Test.YtcfimcghckjmeaaGreatDoorL2d
set_option linter.unusedSimpArgs false
set_option linter.unusedVariables false
namespace Go.Proofs.YtcfimcghckjmeaaGreatDoor
open Go.RowKit

theorem at_str {w : World} {S : Nat → Prop} {n c : Nat} {A : Option Addr} {xs : List ByteArray} (h : Sl w S A n c xs) {k : Nat} (hk : k < n) :
    ∃ b off x, A = some ⟨b, off, none⟩ ∧ b < w.heap.size ∧ S b ∧ xs[k]? = some x ∧ x.size ≤ maxLen ∧ w.cell? ⟨b, off + k, none⟩ = some (.string x) := by
  obtain ⟨b, off, x, us, e, hb, hS, hx, hus, hc⟩ := h.at_ hk
  obtain ⟨rfl, hi⟩ := hus
  refine ⟨b, off, x, e, hb, hS, hx, hi, ?_⟩
  have := hc 0 _ rfl
  simpa [Rep.size] using this
theorem markC_cons (t : ByteArray) (l : List ByteArray) (s : Cur) : markC (t :: l) s = markC l (if isC (.mk t) s = true then popC s else failC 7 s) := rfl
section
variable {w : World} {S : Nat → Prop} {c : Nat} {s : Cur}
def errV (s : Cur) : Value := .tuple #[.int .i64 (errC s).1, .int .i64 (errC s).2.1, .int .i64 (errC s).2.2]
set_option maxRecDepth 100000 in
set_option maxHeartbeats 4000000 in
theorem cErr (h : CurAt w S c s) : Calls Tryz.prog 31 #[.pointer (some ⟨c, 0, none⟩)] w (RetX (errV s) w) := by
  have H := hide h; have HM := hide (cMore h); have HH := hide (fun u => cHere (h.ext u))
  have hlt := h.lt
  obtain ⟨A, n, k, k0, k1, k2, k3, k4, hs⟩ := h.at_
  clear h hs
  unfold moreC at HM
  by_cases he : s.e = 0
  · cases hw : s.ws with
    | nil =>
      have hg : errV s = .tuple #[.int .i64 0, .int .i64 0, .int .i64 0] := by unfold errV errC; rw [if_neg (by omega), hw]
      rw [hg]
      rw [hw, he] at HM
      have hm : ((0 : Int) == 0 && !([] : List Word).isEmpty) = false := rfl
      rw [hm] at HM
      rw [he] at k1
      clear hg hw hm he HH
      go_enter Tryz.func31, Tryz.ntmps31
      go_wp2_with (first | (go_at_call 56; refine HM.out.mono ?_; rintro e w' ⟨rfl, rfl⟩))
      go_ret3
      exact ⟨rfl, ext_refl _⟩
    | cons x l =>
      have hg : errV s = .tuple #[.int .i64 x.line, .int .i64 x.col, .int .i64 7] := by unfold errV errC; rw [if_neg (by omega), hw]
      have hh : hereV s = .agg #[.int .i64 x.line, .int .i64 x.col] := by unfold hereV; rw [hw]
      rw [hg]
      rw [hw, he] at HM
      rw [hh] at HH
      have hm : ((0 : Int) == 0 && !(x :: l).isEmpty) = true := rfl
      rw [hm] at HM
      rw [he] at k1
      clear hg hw hm he hh
      go_enter Tryz.func31, Tryz.ntmps31
      go_wp2_with (first | (go_at_call 56; refine HM.out.mono ?_; rintro e w' ⟨rfl, rfl⟩))
      have hf0 : ∀ w : World, (Instr.field 99 (.agg #[.int .i64 x.line, .int .i64 x.col]) 0).run Tryz.prog w = .ok (.int .i64 x.line) w := fun _ => by kernel_rfl
      have hf1 : ∀ w : World, (Instr.field 99 (.agg #[.int .i64 x.line, .int .i64 x.col]) 1).run Tryz.prog w = .ok (.int .i64 x.col) w := fun _ => by kernel_rfl
      refine wp_region_ext (by kernel_rfl) (by kernel_rfl) ?_
      repeat (any_goals (first | go_big_quiet_step (((go_at_call 59; exact quiet_retx (HH.out _)))) | quiet_step (((go_at_call 59; exact quiet_retx (HH.out _))))))
      refine wpQuiet_nil ?_
      rintro _ ⟨uq, rfl⟩
      go_wp2_with fail
      go_ret3
      exact ⟨rfl, _, rfl⟩
  · have hg : errV s = .tuple #[.int .i64 s.line, .int .i64 s.col, .int .i64 s.e] := by unfold errV errC; rw [if_pos he]
    rw [hg]
    have heb : (s.e == 0) = false := by simp [he]
    clear hg he HH HM
    go_enter Tryz.func31, Tryz.ntmps31
    go_wp2_with fail
    refine wp_region_ext (by kernel_rfl) (by kernel_rfl) ?_
    repeat (any_goals (first | go_big_quiet_step ((fail)) | quiet_step ((fail))))
    refine wpQuiet_nil ?_
    rintro _ ⟨uq, rfl⟩
    go_wp2_with fail
    go_ret3
    exact ⟨rfl, _, rfl⟩
end
end Go.Proofs.YtcfimcghckjmeaaGreatDoor
