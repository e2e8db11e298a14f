/- law02: the program's cursor: Mark, Err. -/
import Derived.Test.YtppkanniefignaaGreatDoorL2d
set_option linter.unusedSimpArgs false
set_option linter.unusedVariables false
namespace Go.Proofs.YtppkanniefignaaGreatDoor
open Go.RowKit

theorem at_str {w : World} {S : Nat → Prop} {n c : Nat} {A : Option Addr} {xs : List ByteArray} (h : Sl w S A n c xs) {k : Nat} (hk : k < n) :
    ∃ b off x, A = some ⟨b, off, none⟩ ∧ b < w.heap.size ∧ S b ∧ xs[k]? = some x ∧ x.size ≤ maxLen ∧ w.cell? ⟨b, off + k, none⟩ = some (.string x) := by
  obtain ⟨b, off, x, us, e, hb, hS, hx, hus, hc⟩ := h.at_ hk
  obtain ⟨rfl, hi⟩ := hus
  refine ⟨b, off, x, e, hb, hS, hx, hi, ?_⟩
  have := hc 0 _ rfl
  simpa [Rep.size] using this
theorem markC_cons (t : ByteArray) (l : List ByteArray) (s : Cur) : markC (t :: l) s = markC l (if isC (.mk t) s = true then popC s else failC 7 s) := rfl
section
variable {w : World} {S : Nat → Prop} {c : Nat} {s : Cur}
set_option maxRecDepth 100000 in
set_option maxHeartbeats 4000000 in
theorem cMark (h : CurAt w S c s) {S2 : Nat → Prop} {B : Option Addr} {m k : Nat} {ts : List ByteArray} (ht : Sl w S2 B m k ts) (hS2 : ¬ S2 c) : Calls Tryz.prog 76 #[.pointer (some ⟨c, 0, none⟩), .slice B m k] w (CurP S c w (markC ts s) (.tuple #[])) := by
  have H := hide h; have HT := hide ht
  have hm := ht.nle
  clear h ht
  go_enter Tryz.func76, Tryz.ntmps76
  go_wp2_with fail
  go_loopw [8] (fun i wr => ∃ (j : Nat) (s' : Cur), i = .int .i64 j ∧ j ≤ m ∧ CurAt wr S c s' ∧ Only c w wr ∧ markC (ts.drop j) s' = markC ts s) (fun i _ => m - (intOf i).toNat)
  case atStart => exact ⟨0, s, rfl, Nat.zero_le _, H.out, Only.refl _ _, rfl⟩
  case round =>
    obtain ⟨j, s', rfl, hj, hat, hon, hmk⟩ := hrel
    have HAT := hide hat; have HON := hide hon; have HMK := hide hmk
    clear hat hon hmk
    by_cases hlt : j < m
    · obtain ⟨b, off, x, rfl, hb, _, hx, _, c0⟩ := at_str (HON.out.sl HT.out hS2) hlt
      have HD := hide (show markC (ts.drop (j + 1)) (if isC (.mk x) s' = true then popC s' else failC 7 s') = markC ts s by rw [← HMK.out, drop_at hx, markC_cons])
      have HI := hide (cIsM HAT.out x)
      clear hx HMK
      obtain ⟨q, hq⟩ : ∃ q, isC (.mk x) s' = q := ⟨_, rfl⟩
      rw [hq] at HI HD
      clear hq
      cases q
      · go_wp2_with (first | (go_at_call 79; refine HI.out.mono ?_; rintro e w1 ⟨rfl, hat1, hon1⟩) | (go_at_call 71; refine (cFail hat1 7).mono ?_; rintro e w2 ⟨rfl, hat, hon⟩))
        go_roundw
        case rel => exact ⟨j + 1, _, by go_num, by omega, hat, (HON.out.trans hon1).trans hon, HD.out⟩
        case measure => simp [intOf]; omega
      · go_wp2_with (first | (go_at_call 79; refine HI.out.mono ?_; rintro e w1 ⟨rfl, hat1, hon1⟩))
        go_roundw
        case rel => exact ⟨j + 1, _, by go_num, by omega, hat1, HON.out.trans hon1, HD.out⟩
        case measure => simp [intOf]; omega
    · have HE := hide (show s' = markC ts s by rw [← HMK.out, drop_end HT.out.len hlt]; rfl)
      clear HMK
      go_wp2_with fail
      go_end0
      exact ⟨rfl, HE.out ▸ HAT.out, HON.out⟩
def errV (s : Cur) : Value := .tuple #[.int .i64 (errC s).1, .int .i64 (errC s).2.1, .int .i64 (errC s).2.2]
set_option maxRecDepth 100000 in
set_option maxHeartbeats 4000000 in
theorem cErr (h : CurAt w S c s) : Calls Tryz.prog 34 #[.pointer (some ⟨c, 0, none⟩)] w (RetX (errV s) w) := by
  have H := hide h; have HM := hide (cMore h); have HH := hide (fun u => cHere (h.ext u))
  have hlt := h.lt
  obtain ⟨A, n, k, k0, k1, k2, k3, k4, hs⟩ := h.at_
  clear h hs
  unfold moreC at HM
  by_cases he : s.e = 0
  · cases hw : s.ws with
    | nil =>
      have hg : errV s = .tuple #[.int .i64 0, .int .i64 0, .int .i64 0] := by unfold errV errC; rw [if_neg (by omega), hw]
      rw [hg]
      rw [hw, he] at HM
      have hm : ((0 : Int) == 0 && !([] : List Word).isEmpty) = false := rfl
      rw [hm] at HM
      rw [he] at k1
      clear hg hw hm he HH
      go_enter Tryz.func34, Tryz.ntmps34
      go_wp2_with (first | (go_at_call 81; refine HM.out.mono ?_; rintro e w' ⟨rfl, rfl⟩))
      go_ret3
      exact ⟨rfl, ext_refl _⟩
    | cons x l =>
      have hg : errV s = .tuple #[.int .i64 x.line, .int .i64 x.col, .int .i64 7] := by unfold errV errC; rw [if_neg (by omega), hw]
      have hh : hereV s = .agg #[.int .i64 x.line, .int .i64 x.col] := by unfold hereV; rw [hw]
      rw [hg]
      rw [hw, he] at HM
      rw [hh] at HH
      have hm : ((0 : Int) == 0 && !(x :: l).isEmpty) = true := rfl
      rw [hm] at HM
      rw [he] at k1
      clear hg hw hm he hh
      go_enter Tryz.func34, Tryz.ntmps34
      go_wp2_with (first | (go_at_call 81; refine HM.out.mono ?_; rintro e w' ⟨rfl, rfl⟩))
      have hf0 : ∀ w : World, (Instr.field 101 (.agg #[.int .i64 x.line, .int .i64 x.col]) 0).run Tryz.prog w = .ok (.int .i64 x.line) w := fun _ => by kernel_rfl
      have hf1 : ∀ w : World, (Instr.field 101 (.agg #[.int .i64 x.line, .int .i64 x.col]) 1).run Tryz.prog w = .ok (.int .i64 x.col) w := fun _ => by kernel_rfl
      refine wp_region_ext (by kernel_rfl) (by kernel_rfl) ?_
      repeat (any_goals (first | go_big_quiet_step (((go_at_call 82; exact quiet_retx (HH.out _)))) | quiet_step (((go_at_call 82; exact quiet_retx (HH.out _))))))
      refine wpQuiet_nil ?_
      rintro _ ⟨uq, rfl⟩
      go_wp2_with fail
      go_ret3
      exact ⟨rfl, _, rfl⟩
  · have hg : errV s = .tuple #[.int .i64 s.line, .int .i64 s.col, .int .i64 s.e] := by unfold errV errC; rw [if_pos he]
    rw [hg]
    have heb : (s.e == 0) = false := by simp [he]
    clear hg he HH HM
    go_enter Tryz.func34, Tryz.ntmps34
    go_wp2_with fail
    refine wp_region_ext (by kernel_rfl) (by kernel_rfl) ?_
    repeat (any_goals (first | go_big_quiet_step ((fail)) | quiet_step ((fail))))
    refine wpQuiet_nil ?_
    rintro _ ⟨uq, rfl⟩
    go_wp2_with fail
    go_ret3
    exact ⟨rfl, _, rfl⟩
end
end Go.Proofs.YtppkanniefignaaGreatDoor
