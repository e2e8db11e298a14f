/- law02: the program's cursor: Peek, is, Key, Is, Fail, Name, Num, Mark, End, Err. Printed by gen_l2d.py. law02: the program's cursor: Mark, Err. -/
import Derived.Test.YtljglhaeonbfoaaGreatDoorG12
set_option linter.unusedSimpArgs false
set_option linter.unusedVariables false
namespace Go.Proofs.YtljglhaeonbfoaaGreatDoor
open Go.RowKit
theorem zero_name : (Tryz.prog.info? 123).map (·.zero) = some (some (.string ⟨#[]⟩)) := by kernel_rfl
theorem zero_int : (Tryz.prog.info? 3).map (·.zero) = some (some (.int .i64 0)) := by kernel_rfl
theorem zero_stop : (Tryz.prog.info? 128).map (·.zero) = some (some (.agg #[])) := by kernel_rfl
theorem as_name (v : Value) (w : World) : (Instr.typeAssert (.iface 123 v) 20 123 true).run Tryz.prog w = .ok (.tuple #[v, .bool true]) w := by simp [Instr.typeAssert, run_underlying Tryz.underlying123]
theorem as_name_no (t : TypeId) (ht : t ≠ 123) (v : Value) (w : World) : (Instr.typeAssert (.iface t v) 20 123 true).run Tryz.prog w = .ok (.tuple #[.string ⟨#[]⟩, .bool false]) w := by
 obtain ⟨i, e, z⟩ := Option.map_eq_some_iff.1 zero_name
 simp [Instr.typeAssert, run_underlying Tryz.underlying123, ht, zeroValue, typeInfo, e, z]
theorem as_name_nil (w : World) : (Instr.typeAssert .nilIface 20 123 true).run Tryz.prog w = .ok (.tuple #[.string ⟨#[]⟩, .bool false]) w := by
 obtain ⟨i, e, z⟩ := Option.map_eq_some_iff.1 zero_name
 simp [Instr.typeAssert, run_underlying Tryz.underlying123, zeroValue, typeInfo, e, z]
theorem as_int (v : Value) (w : World) : (Instr.typeAssert (.iface 3 v) 20 3 true).run Tryz.prog w = .ok (.tuple #[v, .bool true]) w := by simp [Instr.typeAssert, run_underlying Tryz.underlying3]
theorem as_int_no (t : TypeId) (ht : t ≠ 3) (v : Value) (w : World) : (Instr.typeAssert (.iface t v) 20 3 true).run Tryz.prog w = .ok (.tuple #[.int .i64 0, .bool false]) w := by
 obtain ⟨i, e, z⟩ := Option.map_eq_some_iff.1 zero_int
 simp [Instr.typeAssert, run_underlying Tryz.underlying3, ht, zeroValue, typeInfo, e, z]
theorem as_int_nil (w : World) : (Instr.typeAssert .nilIface 20 3 true).run Tryz.prog w = .ok (.tuple #[.int .i64 0, .bool false]) w := by
 obtain ⟨i, e, z⟩ := Option.map_eq_some_iff.1 zero_int
 simp [Instr.typeAssert, run_underlying Tryz.underlying3, zeroValue, typeInfo, e, z]
theorem as_stop (v : Value) (w : World) : (Instr.typeAssert (.iface 128 v) 20 128 true).run Tryz.prog w = .ok (.tuple #[v, .bool true]) w := by simp [Instr.typeAssert, run_underlying Tryz.underlying128]
theorem as_stop_no (t : TypeId) (ht : t ≠ 128) (v : Value) (w : World) : (Instr.typeAssert (.iface t v) 20 128 true).run Tryz.prog w = .ok (.tuple #[.agg #[], .bool false]) w := by
 obtain ⟨i, e, z⟩ := Option.map_eq_some_iff.1 zero_stop
 simp [Instr.typeAssert, run_underlying Tryz.underlying128, ht, zeroValue, typeInfo, e, z]
theorem neq_nil (t : TypeId) (u : Value) (w : World) : (binOp .neq 20 .nilIface (.iface t u)).run Tryz.prog w = .ok (.bool true) w := by
 have h : ∀ d : Nat, (Op.equalIn (d + 1) 20 .nilIface (.iface t u)).run Tryz.prog w = .ok false w := fun d => by simp [Op.equalIn, run_underlying any_iface]
 simp only [binOp]
 simp [Op.equal, Op.maxDepth, h 9999]
inductive NextIs (s : Cur) : Prop where
 | bad (he : s.e ≠ 0)
 | none (he : s.e = 0) (hw : s.ws = [])
 | nm (x : Word) (l : List Word) (he : s.e = 0) (hw : s.ws = x :: l) (hk : x.kind = 1)
 | num (x : Word) (l : List Word) (he : s.e = 0) (hw : s.ws = x :: l) (hk : x.kind = 2)
 | mk (x : Word) (l : List Word) (he : s.e = 0) (hw : s.ws = x :: l) (hk : x.kind = 3)
 | stop (x : Word) (l : List Word) (he : s.e = 0) (hw : s.ws = x :: l) (hk : x.kind = 4)
theorem CurOk.next {s : Cur} (h : CurOk s) : NextIs s := by
 by_cases he : s.e = 0
 ·cases hw : s.ws with
  | nil => exact .none he hw
  | cons x l =>
   rcases h.k x (by rw [hw]; simp) with h | h | h | h
   ·exact .nm x l he hw h
   ·exact .num x l he hw h
   ·exact .mk x l he hw h
   ·exact .stop x l he hw h
 ·exact .bad he
section
variable {w : World} {S : Nat → Prop} {c : Nat} {s : Cur}
theorem nextV_nil (hw : s.ws = []) : nextV s = .nilIface := by unfold nextV; rw [hw]
theorem nextV_nm {x : Word} {l : List Word} (hw : s.ws = x :: l) (hk : x.kind = 1) : nextV s = .iface 123 (.string x.text) := by unfold nextV hasW; rw [hw]; simp only [hk]; rfl
theorem nextV_num {x : Word} {l : List Word} (hw : s.ws = x :: l) (hk : x.kind = 2) : nextV s = .iface 3 (.int .i64 x.n) := by unfold nextV hasW; rw [hw]; simp only [hk]; rfl
theorem nextV_mk {x : Word} {l : List Word} (hw : s.ws = x :: l) (hk : x.kind = 3) : nextV s = .iface 179 (.string x.text) := by unfold nextV hasW; rw [hw]; simp only [hk]; rfl
theorem nextV_stop {x : Word} {l : List Word} (hw : s.ws = x :: l) (hk : x.kind = 4) : nextV s = .iface 128 (.agg #[]) := by unfold nextV hasW; rw [hw]; simp only [hk]; rfl
theorem headC_nil (hw : s.ws = []) : headC s = none := by unfold headC; rw [hw]; split <;> rfl
theorem headC_cons {x : Word} {l : List Word} (he : s.e = 0) (hw : s.ws = x :: l) : headC s = some x := by rw [headC_ok he, hw]; rfl
theorem able_ok (he : s.e = 0) : (s.e == 0) = true := by simp [he]
theorem able_bad (he : s.e ≠ 0) : (s.e == 0) = false := by simp [he]
set_option maxRecDepth 100000 in
set_option maxHeartbeats 4000000 in
theorem cPeek (h : CurAt w S c s) : Calls Tryz.prog 137 #[.pointer (some ⟨c, 0, none⟩)] w (Ret (.string (peekC s)) w) := by
 have H := hide h; have HA := hide (cAble h); have HN := hide (cNext h)
 have hnx := h.ok.next
 clear h
 cases hnx with
 | bad he =>
  rw [able_bad he] at HA
  clear HN
  have hg : peekC s = ⟨#[]⟩ := by unfold peekC; rw [headC_bad he]; rfl
  rw [hg]
  clear hg he
  go_enter Tryz.func137, Tryz.ntmps137
  go_wp2_with (first | (go_at_call 90; refine HA.out.mono ?_; rintro e w' ⟨rfl, rfl⟩) | (go_at_call 96; refine HN.out.mono ?_; rintro e w' ⟨rfl, rfl⟩) | (simp only [as_name]) | (simp only [as_name_no 3 (by decide), as_name_no 179 (by decide), as_name_no 128 (by decide), as_name_nil]))
  go_ret
  exact ⟨rfl, rfl⟩
 | none he hw =>
  rw [able_ok he] at HA
  rw [nextV_nil hw] at HN
  have hg : peekC s = ⟨#[]⟩ := by unfold peekC; rw [headC_nil hw]; rfl
  rw [hg]
  clear hg he hw
  go_enter Tryz.func137, Tryz.ntmps137
  go_wp2_with (first | (go_at_call 90; refine HA.out.mono ?_; rintro e w' ⟨rfl, rfl⟩) | (go_at_call 96; refine HN.out.mono ?_; rintro e w' ⟨rfl, rfl⟩) | (simp only [as_name]) | (simp only [as_name_no 3 (by decide), as_name_no 179 (by decide), as_name_no 128 (by decide), as_name_nil]))
  go_ret
  exact ⟨rfl, rfl⟩
 | nm x l he hw hk =>
  rw [able_ok he] at HA
  rw [nextV_nm hw hk] at HN
  have hg : peekC s = x.text := by unfold peekC; rw [headC_cons he hw]; exact if_pos hk
  rw [hg]
  clear hg he hw hk
  go_enter Tryz.func137, Tryz.ntmps137
  go_wp2_with (first | (go_at_call 90; refine HA.out.mono ?_; rintro e w' ⟨rfl, rfl⟩) | (go_at_call 96; refine HN.out.mono ?_; rintro e w' ⟨rfl, rfl⟩) | (simp only [as_name]) | (simp only [as_name_no 3 (by decide), as_name_no 179 (by decide), as_name_no 128 (by decide), as_name_nil]))
  go_ret
  exact ⟨rfl, rfl⟩
 | num x l he hw hk =>
  rw [able_ok he] at HA
  rw [nextV_num hw hk] at HN
  have hg : peekC s = ⟨#[]⟩ := by unfold peekC; rw [headC_cons he hw]; exact if_neg (by omega)
  rw [hg]
  clear hg he hw hk
  go_enter Tryz.func137, Tryz.ntmps137
  go_wp2_with (first | (go_at_call 90; refine HA.out.mono ?_; rintro e w' ⟨rfl, rfl⟩) | (go_at_call 96; refine HN.out.mono ?_; rintro e w' ⟨rfl, rfl⟩) | (simp only [as_name]) | (simp only [as_name_no 3 (by decide), as_name_no 179 (by decide), as_name_no 128 (by decide), as_name_nil]))
  go_ret
  exact ⟨rfl, rfl⟩
 | mk x l he hw hk =>
  rw [able_ok he] at HA
  rw [nextV_mk hw hk] at HN
  have hg : peekC s = ⟨#[]⟩ := by unfold peekC; rw [headC_cons he hw]; exact if_neg (by omega)
  rw [hg]
  clear hg he hw hk
  go_enter Tryz.func137, Tryz.ntmps137
  go_wp2_with (first | (go_at_call 90; refine HA.out.mono ?_; rintro e w' ⟨rfl, rfl⟩) | (go_at_call 96; refine HN.out.mono ?_; rintro e w' ⟨rfl, rfl⟩) | (simp only [as_name]) | (simp only [as_name_no 3 (by decide), as_name_no 179 (by decide), as_name_no 128 (by decide), as_name_nil]))
  go_ret
  exact ⟨rfl, rfl⟩
 | stop x l he hw hk =>
  rw [able_ok he] at HA
  rw [nextV_stop hw hk] at HN
  have hg : peekC s = ⟨#[]⟩ := by unfold peekC; rw [headC_cons he hw]; exact if_neg (by omega)
  rw [hg]
  clear hg he hw hk
  go_enter Tryz.func137, Tryz.ntmps137
  go_wp2_with (first | (go_at_call 90; refine HA.out.mono ?_; rintro e w' ⟨rfl, rfl⟩) | (go_at_call 96; refine HN.out.mono ?_; rintro e w' ⟨rfl, rfl⟩) | (simp only [as_name]) | (simp only [as_name_no 3 (by decide), as_name_no 179 (by decide), as_name_no 128 (by decide), as_name_nil]))
  go_ret
  exact ⟨rfl, rfl⟩
set_option maxRecDepth 100000 in
set_option maxHeartbeats 4000000 in
theorem cIs (h : CurAt w S c s) (v : Has) : Calls Tryz.prog 89 #[.pointer (some ⟨c, 0, none⟩), v.v] w (CurP S c w (overC (isC v s) s) (.bool (isC v s))) := by
 have H := hide h; have HA := hide (cAble h); have HN := hide (cNext h)
 have hnx := h.ok.next
 clear h
 cases hnx with
 | bad he =>
  rw [able_bad he] at HA
  clear HN
  have hg : isC v s = false := by unfold isC; rw [headC_bad he]
  rw [hg]
  clear hg he
  go_enter Tryz.func89, Tryz.ntmps89
  go_wp2_with ((go_at_call 90; refine HA.out.mono ?_; rintro e w' ⟨rfl, rfl⟩))
  go_ret
  exact ⟨rfl, H.out, Only.refl _ _⟩
 | none he hw =>
  rw [able_ok he] at HA
  rw [nextV_nil hw] at HN
  have hg : isC v s = false := by unfold isC; rw [headC_nil hw]
  rw [hg]
  obtain ⟨t, u, ev⟩ := v.form
  rw [ev]
  clear hg he hw ev
  go_enter Tryz.func89, Tryz.ntmps89
  go_wp2_with (first | (simp only [neq_nil]) | (go_at_call 90; refine HA.out.mono ?_; rintro e w' ⟨rfl, rfl⟩) | (go_at_call 96; refine HN.out.mono ?_; rintro e w' ⟨rfl, rfl⟩))
  go_ret
  exact ⟨rfl, H.out, Only.refl _ _⟩
 | nm x l he hw hk =>
  rw [able_ok he] at HA
  rw [nextV_nm hw hk] at HN
  have hg : isC v s = (Has.eq (.nm x.text) v) := by unfold isC hasW; rw [headC_cons he hw]; simp only [hk]; rfl
  rw [hg]
  have hne := run_neq_has (.nm x.text) v w
  have HO := hide (cOver H.out (by rw [hw]; simp))
  obtain ⟨t, u, ev⟩ := v.form
  rw [ev] at hne ⊢
  simp only [Has.v] at hne
  obtain ⟨b, hb⟩ : ∃ b, Has.eq (.nm x.text) v = b := ⟨_, rfl⟩
  rw [hb] at hne ⊢
  clear hg he hw hk ev hb
  cases b
  ·go_enter Tryz.func89, Tryz.ntmps89
   go_wp2_with (first | (simp only [hne]) | (go_at_call 90; refine HA.out.mono ?_; rintro e w' ⟨rfl, rfl⟩) | (go_at_call 96; refine HN.out.mono ?_; rintro e w' ⟨rfl, rfl⟩))
   go_ret
   exact ⟨rfl, H.out, Only.refl _ _⟩
  ·go_enter Tryz.func89, Tryz.ntmps89
   go_wp2_with (first | (simp only [hne]) | (go_at_call 90; refine HA.out.mono ?_; rintro e w' ⟨rfl, rfl⟩) | (go_at_call 96; refine HN.out.mono ?_; rintro e w' ⟨rfl, rfl⟩) | (go_at_call 88; refine HO.out.mono ?_; rintro e w1 ⟨rfl, hat, hon⟩))
   go_ret
   exact ⟨rfl, hat, hon⟩
 | num x l he hw hk =>
  rw [able_ok he] at HA
  rw [nextV_num hw hk] at HN
  have hg : isC v s = (Has.eq (.num x.n) v) := by unfold isC hasW; rw [headC_cons he hw]; simp only [hk]; rfl
  rw [hg]
  have hne := run_neq_has (.num x.n) v w
  have HO := hide (cOver H.out (by rw [hw]; simp))
  obtain ⟨t, u, ev⟩ := v.form
  rw [ev] at hne ⊢
  simp only [Has.v] at hne
  obtain ⟨b, hb⟩ : ∃ b, Has.eq (.num x.n) v = b := ⟨_, rfl⟩
  rw [hb] at hne ⊢
  clear hg he hw hk ev hb
  cases b
  ·go_enter Tryz.func89, Tryz.ntmps89
   go_wp2_with (first | (simp only [hne]) | (go_at_call 90; refine HA.out.mono ?_; rintro e w' ⟨rfl, rfl⟩) | (go_at_call 96; refine HN.out.mono ?_; rintro e w' ⟨rfl, rfl⟩))
   go_ret
   exact ⟨rfl, H.out, Only.refl _ _⟩
  ·go_enter Tryz.func89, Tryz.ntmps89
   go_wp2_with (first | (simp only [hne]) | (go_at_call 90; refine HA.out.mono ?_; rintro e w' ⟨rfl, rfl⟩) | (go_at_call 96; refine HN.out.mono ?_; rintro e w' ⟨rfl, rfl⟩) | (go_at_call 88; refine HO.out.mono ?_; rintro e w1 ⟨rfl, hat, hon⟩))
   go_ret
   exact ⟨rfl, hat, hon⟩
 | mk x l he hw hk =>
  rw [able_ok he] at HA
  rw [nextV_mk hw hk] at HN
  have hg : isC v s = (Has.eq (.mk x.text) v) := by unfold isC hasW; rw [headC_cons he hw]; simp only [hk]; rfl
  rw [hg]
  have hne := run_neq_has (.mk x.text) v w
  have HO := hide (cOver H.out (by rw [hw]; simp))
  obtain ⟨t, u, ev⟩ := v.form
  rw [ev] at hne ⊢
  simp only [Has.v] at hne
  obtain ⟨b, hb⟩ : ∃ b, Has.eq (.mk x.text) v = b := ⟨_, rfl⟩
  rw [hb] at hne ⊢
  clear hg he hw hk ev hb
  cases b
  ·go_enter Tryz.func89, Tryz.ntmps89
   go_wp2_with (first | (simp only [hne]) | (go_at_call 90; refine HA.out.mono ?_; rintro e w' ⟨rfl, rfl⟩) | (go_at_call 96; refine HN.out.mono ?_; rintro e w' ⟨rfl, rfl⟩))
   go_ret
   exact ⟨rfl, H.out, Only.refl _ _⟩
  ·go_enter Tryz.func89, Tryz.ntmps89
   go_wp2_with (first | (simp only [hne]) | (go_at_call 90; refine HA.out.mono ?_; rintro e w' ⟨rfl, rfl⟩) | (go_at_call 96; refine HN.out.mono ?_; rintro e w' ⟨rfl, rfl⟩) | (go_at_call 88; refine HO.out.mono ?_; rintro e w1 ⟨rfl, hat, hon⟩))
   go_ret
   exact ⟨rfl, hat, hon⟩
 | stop x l he hw hk =>
  rw [able_ok he] at HA
  rw [nextV_stop hw hk] at HN
  have hg : isC v s = (Has.eq (.stop) v) := by unfold isC hasW; rw [headC_cons he hw]; simp only [hk]; rfl
  rw [hg]
  have hne := run_neq_has (.stop) v w
  have HO := hide (cOver H.out (by rw [hw]; simp))
  obtain ⟨t, u, ev⟩ := v.form
  rw [ev] at hne ⊢
  simp only [Has.v] at hne
  obtain ⟨b, hb⟩ : ∃ b, Has.eq (.stop) v = b := ⟨_, rfl⟩
  rw [hb] at hne ⊢
  clear hg he hw hk ev hb
  cases b
  ·go_enter Tryz.func89, Tryz.ntmps89
   go_wp2_with (first | (simp only [hne]) | (go_at_call 90; refine HA.out.mono ?_; rintro e w' ⟨rfl, rfl⟩) | (go_at_call 96; refine HN.out.mono ?_; rintro e w' ⟨rfl, rfl⟩))
   go_ret
   exact ⟨rfl, H.out, Only.refl _ _⟩
  ·go_enter Tryz.func89, Tryz.ntmps89
   go_wp2_with (first | (simp only [hne]) | (go_at_call 90; refine HA.out.mono ?_; rintro e w' ⟨rfl, rfl⟩) | (go_at_call 96; refine HN.out.mono ?_; rintro e w' ⟨rfl, rfl⟩) | (go_at_call 88; refine HO.out.mono ?_; rintro e w1 ⟨rfl, hat, hon⟩))
   go_ret
   exact ⟨rfl, hat, hon⟩
set_option maxRecDepth 100000 in
set_option maxRecDepth 100000 in
set_option maxHeartbeats 4000000 in
theorem cKey (h : CurAt w S c s) (t : ByteArray) : Calls Tryz.prog 39 #[.pointer (some ⟨c, 0, none⟩), .string t] w (CurP S c w (overC (isC (.nm t) s) s) (.bool (isC (.nm t) s))) := by
 have HI := hide (cIs h (.nm t))
 simp only [Has.v] at HI
 clear h
 go_enter Tryz.func39, Tryz.ntmps39
 go_wp2_with (go_at_call 89; refine HI.out.mono ?_; rintro e w1 ⟨rfl, hat, hon⟩)
 go_ret
 exact ⟨rfl, hat, hon⟩
set_option maxRecDepth 100000 in
set_option maxHeartbeats 4000000 in
theorem cIsM (h : CurAt w S c s) (t : ByteArray) : Calls Tryz.prog 140 #[.pointer (some ⟨c, 0, none⟩), .string t] w (CurP S c w (overC (isC (.mk t) s) s) (.bool (isC (.mk t) s))) := by
 have HI := hide (cIs h (.mk t))
 simp only [Has.v] at HI
 clear h
 go_enter Tryz.func140, Tryz.ntmps140
 go_wp2_with (go_at_call 89; refine HI.out.mono ?_; rintro e w1 ⟨rfl, hat, hon⟩)
 go_ret
 exact ⟨rfl, hat, hon⟩
set_option maxRecDepth 100000 in
set_option maxHeartbeats 4000000 in
theorem cFail (h : CurAt w S c s) (x : Int) : Calls Tryz.prog 40 #[.pointer (some ⟨c, 0, none⟩), .int .i64 x] w (CurP S c w (failC x s) (.tuple #[])) := by
 have H := hide h; have HA := hide (cAble h)
 clear h
 by_cases he : s.e = 0
 ·rw [able_ok he] at HA
  by_cases h0 : x = 0
  ·have hg : failC x s = s := by unfold failC; rw [if_pos (.inr h0)]
   rw [hg]
   subst h0
   clear hg he
   go_enter Tryz.func40, Tryz.ntmps40
   go_wp2_with (go_at_call 90; refine HA.out.mono ?_; rintro e w' ⟨rfl, rfl⟩)
   go_end0
   exact ⟨rfl, H.out, Only.refl _ _⟩
  ·have HF := hide (failC_ok (x := x) H.out.ok)
   have hh := cHere H.out
   obtain ⟨l, cl, hlc, hf, hfe⟩ : ∃ l cl : Int, hereV s = .agg #[.int .i64 l, .int .i64 cl] ∧ (failC x s = { s with e := x, line := l, col := cl }) ∧ True := by
    cases hw : s.ws with
    | nil =>
     obtain ⟨z1, z2⟩ := H.out.ok.z he
     refine ⟨0, 0, by unfold hereV; rw [hw], ?_, trivial⟩
     unfold failC; rw [if_neg (by omega), hw]
     simp [z1, z2]
    | cons y l => exact ⟨y.line, y.col, by unfold hereV; rw [hw], by unfold failC; rw [if_neg (by omega), hw], trivial⟩
   rw [hlc] at hh
   rw [hf] at HF ⊢
   have HH := hide hh
   have hlt := H.out.lt
   obtain ⟨A, n, k, k0, k1, k2, k3, k4, hs⟩ := H.out.at_
   have f1 := H.out.fz 1; have f2 := H.out.fz 2; have f3 := H.out.fz 3
   clear hh hlc hf hfe hs he
   have hxb : (x == 0) = false := by simp [h0]
   clear h0
   go_enter Tryz.func40, Tryz.ntmps40
   go_wp2_with (first | (go_at_call 90; refine HA.out.mono ?_; rintro e w' ⟨rfl, rfl⟩) | (go_at_call 91; refine HH.out.mono ?_; rintro e w' ⟨rfl, u, rfl⟩))
   go_end0
   refine ⟨rfl, CurAt.ext ?_ u, (((((Only.refl c w).set rfl _).set rfl _).set rfl _)).ext u⟩
   obtain ⟨A', n', k', hb', hs'⟩ := H.out.cells
   refine ⟨⟨A', n', k', ?_, ((hs'.setCell H.out.nS _).setCell H.out.nS _).setCell H.out.nS _⟩, HF.out, H.out.nS⟩
   rw [row_setB (row_setB (row_setB hb' 1 _) 2 _) 3 _]
   rfl
 ·rw [able_bad he] at HA
  have hg : failC x s = s := by unfold failC; rw [if_pos (.inl he)]
  rw [hg]
  clear hg he
  go_enter Tryz.func40, Tryz.ntmps40
  go_wp2_with (go_at_call 90; refine HA.out.mono ?_; rintro e w' ⟨rfl, rfl⟩)
  go_end0
  exact ⟨rfl, H.out, Only.refl _ _⟩
set_option maxRecDepth 100000 in
set_option maxHeartbeats 4000000 in
theorem cName (h : CurAt w S c s) : Calls Tryz.prog 139 #[.pointer (some ⟨c, 0, none⟩)] w (CurP S c w (nameC s).2 (.string (nameC s).1)) := by
 have H := hide h; have HA := hide (cAble h); have HN := hide (cNext h)
 have hnx := h.ok.next
 clear h
 cases hnx with
 | bad he =>
  rw [able_bad he] at HA
  clear HN
  have hg : nameC s = (⟨#[]⟩, s) := by unfold nameC; rw [headC_bad he]; simp only [failC, if_pos (Or.inl he : s.e ≠ 0 ∨ (7 : Int) = 0)]; rfl
  rw [hg]
  clear hg he
  go_enter Tryz.func139, Tryz.ntmps139
  go_wp2_with ((go_at_call 90; refine HA.out.mono ?_; rintro e w' ⟨rfl, rfl⟩))
  go_ret
  exact ⟨rfl, H.out, Only.refl _ _⟩
 | none he hw =>
  rw [able_ok he] at HA
  rw [nextV_nil hw] at HN
  have hg : nameC s = (⟨#[]⟩, failC 7 s) := by unfold nameC; rw [headC_nil hw]; rfl
  rw [hg]
  have HF := hide (cFail H.out 7)
  clear hg he hw
  go_enter Tryz.func139, Tryz.ntmps139
  go_wp2_with (first | (go_at_call 90; refine HA.out.mono ?_; rintro e w' ⟨rfl, rfl⟩) | (go_at_call 96; refine HN.out.mono ?_; rintro e w' ⟨rfl, rfl⟩) | (simp only [as_name_no 3 (by decide), as_name_no 179 (by decide), as_name_no 128 (by decide), as_name_nil]) | (go_at_call 40; refine HF.out.mono ?_; rintro e w1 ⟨rfl, hat, hon⟩))
  go_ret
  exact ⟨rfl, hat, hon⟩
 | nm x l he hw hk =>
  rw [able_ok he] at HA
  rw [nextV_nm hw hk] at HN
  have hg : nameC s = (x.text, popC s) := by unfold nameC; rw [headC_cons he hw]; exact if_pos hk
  rw [hg]
  have HO := hide (cOver H.out (by rw [hw]; simp))
  clear hg he hw hk
  go_enter Tryz.func139, Tryz.ntmps139
  go_wp2_with (first | (go_at_call 90; refine HA.out.mono ?_; rintro e w' ⟨rfl, rfl⟩) | (go_at_call 96; refine HN.out.mono ?_; rintro e w' ⟨rfl, rfl⟩) | (simp only [as_name]) | (go_at_call 88; refine HO.out.mono ?_; rintro e w1 ⟨rfl, hat, hon⟩))
  go_ret
  exact ⟨rfl, hat, hon⟩
 | num x l he hw hk =>
  rw [able_ok he] at HA
  rw [nextV_num hw hk] at HN
  have hg : nameC s = (⟨#[]⟩, failC 7 s) := by unfold nameC; rw [headC_cons he hw]; exact if_neg (by omega)
  rw [hg]
  have HF := hide (cFail H.out 7)
  clear hg he hw hk
  go_enter Tryz.func139, Tryz.ntmps139
  go_wp2_with (first | (go_at_call 90; refine HA.out.mono ?_; rintro e w' ⟨rfl, rfl⟩) | (go_at_call 96; refine HN.out.mono ?_; rintro e w' ⟨rfl, rfl⟩) | (simp only [as_name_no 3 (by decide), as_name_no 179 (by decide), as_name_no 128 (by decide), as_name_nil]) | (go_at_call 40; refine HF.out.mono ?_; rintro e w1 ⟨rfl, hat, hon⟩))
  go_ret
  exact ⟨rfl, hat, hon⟩
 | mk x l he hw hk =>
  rw [able_ok he] at HA
  rw [nextV_mk hw hk] at HN
  have hg : nameC s = (⟨#[]⟩, failC 7 s) := by unfold nameC; rw [headC_cons he hw]; exact if_neg (by omega)
  rw [hg]
  have HF := hide (cFail H.out 7)
  clear hg he hw hk
  go_enter Tryz.func139, Tryz.ntmps139
  go_wp2_with (first | (go_at_call 90; refine HA.out.mono ?_; rintro e w' ⟨rfl, rfl⟩) | (go_at_call 96; refine HN.out.mono ?_; rintro e w' ⟨rfl, rfl⟩) | (simp only [as_name_no 3 (by decide), as_name_no 179 (by decide), as_name_no 128 (by decide), as_name_nil]) | (go_at_call 40; refine HF.out.mono ?_; rintro e w1 ⟨rfl, hat, hon⟩))
  go_ret
  exact ⟨rfl, hat, hon⟩
 | stop x l he hw hk =>
  rw [able_ok he] at HA
  rw [nextV_stop hw hk] at HN
  have hg : nameC s = (⟨#[]⟩, failC 7 s) := by unfold nameC; rw [headC_cons he hw]; exact if_neg (by omega)
  rw [hg]
  have HF := hide (cFail H.out 7)
  clear hg he hw hk
  go_enter Tryz.func139, Tryz.ntmps139
  go_wp2_with (first | (go_at_call 90; refine HA.out.mono ?_; rintro e w' ⟨rfl, rfl⟩) | (go_at_call 96; refine HN.out.mono ?_; rintro e w' ⟨rfl, rfl⟩) | (simp only [as_name_no 3 (by decide), as_name_no 179 (by decide), as_name_no 128 (by decide), as_name_nil]) | (go_at_call 40; refine HF.out.mono ?_; rintro e w1 ⟨rfl, hat, hon⟩))
  go_ret
  exact ⟨rfl, hat, hon⟩
set_option maxRecDepth 100000 in
set_option maxHeartbeats 4000000 in
theorem cNum (h : CurAt w S c s) (lo hi : Int) : Calls Tryz.prog 97 #[.pointer (some ⟨c, 0, none⟩), .int .i64 lo, .int .i64 hi] w (CurP S c w (numC lo hi s).2 (.int .i64 (numC lo hi s).1)) := by
 have H := hide h; have HA := hide (cAble h); have HN := hide (cNext h)
 have hnx := h.ok.next
 clear h
 cases hnx with
 | bad he =>
  rw [able_bad he] at HA
  clear HN
  have hg : numC lo hi s = (0, s) := by unfold numC; rw [headC_bad he]; simp only [failC, if_pos (Or.inl he : s.e ≠ 0 ∨ (7 : Int) = 0)]
  rw [hg]
  clear hg he
  go_enter Tryz.func97, Tryz.ntmps97
  go_wp2_with ((go_at_call 90; refine HA.out.mono ?_; rintro e w' ⟨rfl, rfl⟩))
  go_ret
  exact ⟨rfl, H.out, Only.refl _ _⟩
 | none he hw =>
  rw [able_ok he] at HA
  rw [nextV_nil hw] at HN
  have hg : numC lo hi s = (0, failC 7 s) := by unfold numC; rw [headC_nil hw]
  rw [hg]
  have HF := hide (cFail H.out 7)
  clear hg he hw
  go_enter Tryz.func97, Tryz.ntmps97
  go_wp2_with (first | (go_at_call 90; refine HA.out.mono ?_; rintro e w' ⟨rfl, rfl⟩) | (go_at_call 96; refine HN.out.mono ?_; rintro e w' ⟨rfl, rfl⟩) | (simp only [as_int_no 123 (by decide), as_int_no 179 (by decide), as_int_no 128 (by decide), as_int_nil]) | (go_at_call 40; refine HF.out.mono ?_; rintro e w1 ⟨rfl, hat, hon⟩))
  go_ret
  exact ⟨rfl, hat, hon⟩
 | nm x l he hw hk =>
  rw [able_ok he] at HA
  rw [nextV_nm hw hk] at HN
  have hg : numC lo hi s = (0, failC 7 s) := by unfold numC; rw [headC_cons he hw]; exact if_neg (by omega)
  rw [hg]
  have HF := hide (cFail H.out 7)
  clear hg he hw hk
  go_enter Tryz.func97, Tryz.ntmps97
  go_wp2_with (first | (go_at_call 90; refine HA.out.mono ?_; rintro e w' ⟨rfl, rfl⟩) | (go_at_call 96; refine HN.out.mono ?_; rintro e w' ⟨rfl, rfl⟩) | (simp only [as_int_no 123 (by decide), as_int_no 179 (by decide), as_int_no 128 (by decide), as_int_nil]) | (go_at_call 40; refine HF.out.mono ?_; rintro e w1 ⟨rfl, hat, hon⟩))
  go_ret
  exact ⟨rfl, hat, hon⟩
 | num x l he hw hk =>
  rw [able_ok he] at HA
  rw [nextV_num hw hk] at HN
  by_cases hr : x.n < lo ∨ hi < x.n
  ·have hg : numC lo hi s = (0, failC 3 s) := by unfold numC; rw [headC_cons he hw]; simp only [if_pos hk, if_pos hr]
   rw [hg]
   have HF := hide (cFail H.out 3)
   clear hg he hw hk
   by_cases h1 : x.n < lo
   ·clear hr
    go_enter Tryz.func97, Tryz.ntmps97
    go_wp2_with (first | (go_at_call 90; refine HA.out.mono ?_; rintro e w' ⟨rfl, rfl⟩) | (go_at_call 96; refine HN.out.mono ?_; rintro e w' ⟨rfl, rfl⟩) | (simp only [as_int]) | (go_at_call 40; refine HF.out.mono ?_; rintro e w1 ⟨rfl, hat, hon⟩))
    go_ret
    exact ⟨rfl, hat, hon⟩
   ·have h2 : hi < x.n := by omega
    clear hr
    go_enter Tryz.func97, Tryz.ntmps97
    go_wp2_with (first | (go_at_call 90; refine HA.out.mono ?_; rintro e w' ⟨rfl, rfl⟩) | (go_at_call 96; refine HN.out.mono ?_; rintro e w' ⟨rfl, rfl⟩) | (simp only [as_int]) | (go_at_call 40; refine HF.out.mono ?_; rintro e w1 ⟨rfl, hat, hon⟩))
    go_ret
    exact ⟨rfl, hat, hon⟩
  ·have hg : numC lo hi s = (x.n, popC s) := by unfold numC; rw [headC_cons he hw]; simp only [if_pos hk, if_neg hr]
   rw [hg]
   have HO := hide (cOver H.out (by rw [hw]; simp))
   clear hg he hw hk
   have h1 : ¬ x.n < lo := fun h => hr (.inl h)
   have h2 : ¬ hi < x.n := fun h => hr (.inr h)
   clear hr
   go_enter Tryz.func97, Tryz.ntmps97
   go_wp2_with (first | (go_at_call 90; refine HA.out.mono ?_; rintro e w' ⟨rfl, rfl⟩) | (go_at_call 96; refine HN.out.mono ?_; rintro e w' ⟨rfl, rfl⟩) | (simp only [as_int]) | (go_at_call 88; refine HO.out.mono ?_; rintro e w1 ⟨rfl, hat, hon⟩))
   go_ret
   exact ⟨rfl, hat, hon⟩
 | mk x l he hw hk =>
  rw [able_ok he] at HA
  rw [nextV_mk hw hk] at HN
  have hg : numC lo hi s = (0, failC 7 s) := by unfold numC; rw [headC_cons he hw]; exact if_neg (by omega)
  rw [hg]
  have HF := hide (cFail H.out 7)
  clear hg he hw hk
  go_enter Tryz.func97, Tryz.ntmps97
  go_wp2_with (first | (go_at_call 90; refine HA.out.mono ?_; rintro e w' ⟨rfl, rfl⟩) | (go_at_call 96; refine HN.out.mono ?_; rintro e w' ⟨rfl, rfl⟩) | (simp only [as_int_no 123 (by decide), as_int_no 179 (by decide), as_int_no 128 (by decide), as_int_nil]) | (go_at_call 40; refine HF.out.mono ?_; rintro e w1 ⟨rfl, hat, hon⟩))
  go_ret
  exact ⟨rfl, hat, hon⟩
 | stop x l he hw hk =>
  rw [able_ok he] at HA
  rw [nextV_stop hw hk] at HN
  have hg : numC lo hi s = (0, failC 7 s) := by unfold numC; rw [headC_cons he hw]; exact if_neg (by omega)
  rw [hg]
  have HF := hide (cFail H.out 7)
  clear hg he hw hk
  go_enter Tryz.func97, Tryz.ntmps97
  go_wp2_with (first | (go_at_call 90; refine HA.out.mono ?_; rintro e w' ⟨rfl, rfl⟩) | (go_at_call 96; refine HN.out.mono ?_; rintro e w' ⟨rfl, rfl⟩) | (simp only [as_int_no 123 (by decide), as_int_no 179 (by decide), as_int_no 128 (by decide), as_int_nil]) | (go_at_call 40; refine HF.out.mono ?_; rintro e w1 ⟨rfl, hat, hon⟩))
  go_ret
  exact ⟨rfl, hat, hon⟩
set_option maxRecDepth 100000 in
set_option maxHeartbeats 4000000 in
theorem cEnd (h : CurAt w S c s) : Calls Tryz.prog 42 #[.pointer (some ⟨c, 0, none⟩)] w (CurP S c w (endC s) (.tuple #[])) := by
 have H := hide h; have HM := hide (cMore h); have HI := hide (cIs h .stop)
 simp only [Has.v] at HI
 have hk := h.ok.k
 clear h
 unfold moreC at HM
 by_cases hm : (s.e == 0 && !s.ws.isEmpty) = true
 ·rw [hm] at HM
  have he : s.e = 0 := by simp at hm; exact hm.1
  obtain ⟨x, l, hw⟩ : ∃ x l, s.ws = x :: l := by
   cases hw : s.ws with
   | nil => rw [hw] at hm; simp at hm
   | cons x l => exact ⟨x, l, rfl⟩
  have hx := hk x (by rw [hw]; simp)
  have hv : isC .stop s = (x.kind == 4) := by unfold isC hasW; rw [headC_cons he hw]; simp only; rcases hx with h | h | h | h <;> rw [h] <;> rfl
  rw [hv] at HI
  by_cases h4 : x.kind = 4
  ·have hg : endC s = popC s := by unfold endC; rw [headC_cons he hw]; exact if_pos h4
   rw [hg]
   have hb : (x.kind == 4) = true := by simp [h4]
   rw [hb] at HI
   have ho : overC true s = popC s := rfl
   rw [ho] at HI
   clear hm hk he hw hx hv h4 hg hb ho
   go_enter Tryz.func42, Tryz.ntmps42
   go_wp2_with (first | (go_at_call 43; refine HM.out.mono ?_; rintro e w' ⟨rfl, rfl⟩) | (go_at_call 89; refine HI.out.mono ?_; rintro e w1 ⟨rfl, hat, hon⟩))
   go_end0
   exact ⟨rfl, hat, hon⟩
  ·have hg : endC s = failC 7 s := by unfold endC; rw [headC_cons he hw]; exact if_neg h4
   rw [hg]
   have hb : (x.kind == 4) = false := by simp [h4]
   rw [hb] at HI
   have ho : overC false s = s := rfl
   rw [ho] at HI
   clear hm hk he hw hx hv h4 hg hb ho
   go_enter Tryz.func42, Tryz.ntmps42
   go_wp2_with (first | (go_at_call 43; refine HM.out.mono ?_; rintro e w' ⟨rfl, rfl⟩) | (go_at_call 89; refine HI.out.mono ?_; rintro e w1 ⟨rfl, hat1, hon1⟩) | (go_at_call 40; refine (cFail hat1 7).mono ?_; rintro e w2 ⟨rfl, hat, hon⟩))
   go_end0
   exact ⟨rfl, hat, hon1.trans hon⟩
 ·have hm' : (s.e == 0 && !s.ws.isEmpty) = false := by simpa using hm
  rw [hm'] at HM
  have hg : endC s = s := by
   unfold endC
   have : headC s = none := by
    by_cases he : s.e = 0
    ·rw [headC_ok he]
     cases hw : s.ws with
     | nil => rfl
     | cons x l => rw [hw, he] at hm'; cases hm'
    ·exact headC_bad he
   rw [this]
  rw [hg]
  clear hm hm' hk hg HI
  go_enter Tryz.func42, Tryz.ntmps42
  go_wp2_with (first | (go_at_call 43; refine HM.out.mono ?_; rintro e w' ⟨rfl, rfl⟩))
  go_end0
  exact ⟨rfl, H.out, Only.refl _ _⟩
end
end Go.Proofs.YtljglhaeonbfoaaGreatDoor
namespace Go.Proofs.YtljglhaeonbfoaaGreatDoor
open Go.RowKit
theorem at_str {w : World} {S : Nat → Prop} {n c : Nat} {A : Option Addr} {xs : List ByteArray} (h : Sl w S A n c xs) {k : Nat} (hk : k < n) :
  ∃ b off x, A = some ⟨b, off, none⟩ ∧ b < w.heap.size ∧ S b ∧ xs[k]? = some x ∧ x.size ≤ maxLen ∧ w.cell? ⟨b, off + k, none⟩ = some (.string x) := by
 obtain ⟨b, off, x, us, e, hb, hS, hx, hus, hc⟩ := h.at_ hk
 obtain ⟨rfl, hi⟩ := hus
 refine ⟨b, off, x, e, hb, hS, hx, hi, ?_⟩
 have := hc 0 _ rfl
 simpa [Rep.size] using this
theorem markC_cons (t : ByteArray) (l : List ByteArray) (s : Cur) : markC (t :: l) s = markC l (if isC (.mk t) s = true then popC s else failC 7 s) := rfl
section
variable {w : World} {S : Nat → Prop} {c : Nat} {s : Cur}
set_option maxRecDepth 100000 in
set_option maxHeartbeats 4000000 in
theorem cMark (h : CurAt w S c s) {S2 : Nat → Prop} {B : Option Addr} {m k : Nat} {ts : List ByteArray} (ht : Sl w S2 B m k ts) (hS2 : ¬ S2 c) : Calls Tryz.prog 144 #[.pointer (some ⟨c, 0, none⟩), .slice B m k] w (CurP S c w (markC ts s) (.tuple #[])) := by
 have H := hide h; have HT := hide ht
 have hm := ht.nle
 clear h ht
 go_enter Tryz.func144, Tryz.ntmps144
 go_wp2_with fail
 go_loopw [8] (fun i wr => ∃ (j : Nat) (s' : Cur), i = .int .i64 j ∧ j ≤ m ∧ CurAt wr S c s' ∧ Only c w wr ∧ markC (ts.drop j) s' = markC ts s) (fun i _ => m - (intOf i).toNat)
 case atStart => exact ⟨0, s, rfl, Nat.zero_le _, H.out, Only.refl _ _, rfl⟩
 case round =>
  obtain ⟨j, s', rfl, hj, hat, hon, hmk⟩ := hrel
  have HAT := hide hat; have HON := hide hon; have HMK := hide hmk
  clear hat hon hmk
  by_cases hlt : j < m
  ·obtain ⟨b, off, x, rfl, hb, _, hx, _, c0⟩ := at_str (HON.out.sl HT.out hS2) hlt
   have HD := hide (show markC (ts.drop (j + 1)) (if isC (.mk x) s' = true then popC s' else failC 7 s') = markC ts s by rw [← HMK.out, drop_at hx, markC_cons])
   have HI := hide (cIsM HAT.out x)
   clear hx HMK
   obtain ⟨q, hq⟩ : ∃ q, isC (.mk x) s' = q := ⟨_, rfl⟩
   rw [hq] at HI HD
   clear hq
   cases q
   ·go_wp2_with (first | (go_at_call 140; refine HI.out.mono ?_; rintro e w1 ⟨rfl, hat1, hon1⟩) | (go_at_call 40; refine (cFail hat1 7).mono ?_; rintro e w2 ⟨rfl, hat, hon⟩))
    go_roundw
    case rel => exact ⟨j + 1, _, by go_num, by omega, hat, (HON.out.trans hon1).trans hon, HD.out⟩
    case measure => simp [intOf]; omega
   ·go_wp2_with (first | (go_at_call 140; refine HI.out.mono ?_; rintro e w1 ⟨rfl, hat1, hon1⟩))
    go_roundw
    case rel => exact ⟨j + 1, _, by go_num, by omega, hat1, HON.out.trans hon1, HD.out⟩
    case measure => simp [intOf]; omega
  ·have HE := hide (show s' = markC ts s by rw [← HMK.out, drop_end HT.out.len hlt]; rfl)
   clear HMK
   go_wp2_with fail
   go_end0
   exact ⟨rfl, HE.out ▸ HAT.out, HON.out⟩
def errV (s : Cur) : Value := .tuple #[.int .i64 (errC s).1, .int .i64 (errC s).2.1, .int .i64 (errC s).2.2]
set_option maxRecDepth 100000 in
set_option maxHeartbeats 4000000 in
theorem cErr (h : CurAt w S c s) : Calls Tryz.prog 45 #[.pointer (some ⟨c, 0, none⟩)] w (RetX (errV s) w) := by
 have H := hide h; have HM := hide (cMore h); have HH := hide (fun u => cHere (h.ext u))
 have hlt := h.lt
 obtain ⟨A, n, k, k0, k1, k2, k3, k4, hs⟩ := h.at_
 clear h hs
 unfold moreC at HM
 by_cases he : s.e = 0
 ·cases hw : s.ws with
  | nil =>
   have hg : errV s = .tuple #[.int .i64 0, .int .i64 0, .int .i64 0] := by unfold errV errC; rw [if_neg (by omega), hw]
   rw [hg]
   rw [hw, he] at HM
   have hm : ((0 : Int) == 0 && !([] : List Word).isEmpty) = false := rfl
   rw [hm] at HM
   rw [he] at k1
   clear hg hw hm he HH
   go_enter Tryz.func45, Tryz.ntmps45
   go_wp2_with (first | (go_at_call 43; refine HM.out.mono ?_; rintro e w' ⟨rfl, rfl⟩))
   go_ret3
   exact ⟨rfl, ext_refl _⟩
  | cons x l =>
   have hg : errV s = .tuple #[.int .i64 x.line, .int .i64 x.col, .int .i64 7] := by unfold errV errC; rw [if_neg (by omega), hw]
   have hh : hereV s = .agg #[.int .i64 x.line, .int .i64 x.col] := by unfold hereV; rw [hw]
   rw [hg]
   rw [hw, he] at HM
   rw [hh] at HH
   have hm : ((0 : Int) == 0 && !(x :: l).isEmpty) = true := rfl
   rw [hm] at HM
   rw [he] at k1
   clear hg hw hm he hh
   go_enter Tryz.func45, Tryz.ntmps45
   go_wp2_with (first | (go_at_call 43; refine HM.out.mono ?_; rintro e w' ⟨rfl, rfl⟩))
   have hf0 : ∀ w : World, (Instr.field 107 (.agg #[.int .i64 x.line, .int .i64 x.col]) 0).run Tryz.prog w = .ok (.int .i64 x.line) w := fun _ => by kernel_rfl
   have hf1 : ∀ w : World, (Instr.field 107 (.agg #[.int .i64 x.line, .int .i64 x.col]) 1).run Tryz.prog w = .ok (.int .i64 x.col) w := fun _ => by kernel_rfl
   refine wp_region_ext (by kernel_rfl) (by kernel_rfl) ?_
   repeat (any_goals (first | go_big_quiet_step (((go_at_call 91; exact quiet_retx (HH.out _)))) | quiet_step (((go_at_call 91; exact quiet_retx (HH.out _))))))
   refine wpQuiet_nil ?_
   rintro _ ⟨uq, rfl⟩
   go_wp2_with fail
   go_ret3
   exact ⟨rfl, _, rfl⟩
 ·have hg : errV s = .tuple #[.int .i64 s.line, .int .i64 s.col, .int .i64 s.e] := by unfold errV errC; rw [if_pos he]
  rw [hg]
  have heb : (s.e == 0) = false := by simp [he]
  clear hg he HH HM
  go_enter Tryz.func45, Tryz.ntmps45
  go_wp2_with fail
  refine wp_region_ext (by kernel_rfl) (by kernel_rfl) ?_
  repeat (any_goals (first | go_big_quiet_step ((fail)) | quiet_step ((fail))))
  refine wpQuiet_nil ?_
  rintro _ ⟨uq, rfl⟩
  go_wp2_with fail
  go_ret3
  exact ⟨rfl, _, rfl⟩
end
end Go.Proofs.YtljglhaeonbfoaaGreatDoor
