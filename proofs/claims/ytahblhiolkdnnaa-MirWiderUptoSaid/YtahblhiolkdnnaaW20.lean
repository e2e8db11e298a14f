/- Walks: what an instruction, an end reads and writes, the document's way. -/
import Derived.Test.YtahblhiolkdnnaaW19
import Derived.Test.YtahblhiolkdnnaaW14
import Derived.Test.YtahblhiolkdnnaaPush2
set_option linter.unusedSimpArgs false
set_option linter.unusedVariables false
namespace Go.Proofs.Ytahblhiolkdnnaa
open Go.RowKit
def isC (o : Int) : Bool := decide ((hasL o).toList = [99])
def readsR (m : Machine) (i : Ins) : List Loc :=
  ((if lt i.op 97 = true then [⟨false, i.a⟩] else []) ++ (if lt i.op 98 = true then [⟨false, i.b⟩] else []) ++ (if i.op = 17 then [⟨true, i.imm⟩] else [])) ++ (if isC i.op = true then regsL (m.args.take (manyN m i)) else [])
def writesR (m : Machine) (i : Ins) : List Loc :=
  if lt i.op 100 = true then [⟨false, i.dst⟩] else if i.op = 16 then [⟨true, i.imm⟩] else if isC i.op = true then [⟨false, m.ret⟩] else []
theorem lt_eq {b : Bool} (o c : Int) (w : World) (h : lt o c = b) : Calls Try.prog 51 #[.string (hasL o), .int .u8 c] w (Ret (.bool b) w) := h ▸ lt_any o c w
set_option maxHeartbeats 400000 in
theorem writesR_dst (w : World) (m : Machine) (A1 A2 : Option Addr) (n1 c1 n2 c2 : Nat) (i : Ins) (A : Option Addr) (n c : Nat) (h100 : lt i.op 100 = true) (ini : InI i.dst) :
    Calls Try.prog 25 #[.agg #[.int .i64 m.regs, .slice A1 n1 c1, .int .i64 m.ret, .slice A2 n2 c2], .agg #[.int .i64 i.op, .int .i64 i.dst, .int .i64 i.a, .int .i64 i.b, .int .i64 i.imm, .int .i64 i.callee, .slice A n c, .int .i64 i.many]] w (RetSl (writesR m i) w) := by
  have G0 := hide ini; clear ini
  go_enter Try.func25, Try.ntmps25
  go_wp2_with (first | (go_at_call 50; (with_reducible refine (has6_any _ _).mono ?_); rintro e w' ⟨rfl, rfl⟩) | (go_at_call 51; (with_reducible refine (lt_eq _ 100 _ h100).mono ?_); rintro e w' ⟨rfl, rfl⟩) | (go_at_call 52; (with_reducible refine (reg_any _ _).mono ?_); rintro e _ ⟨rfl, ux, rfl⟩))
  go_ret
  exact retSl_loc (x := ⟨false, i.dst⟩) (by rw [writesR, if_pos h100]) G0.out (by simp [size_ext]) (by simp [size_ext]; omega) (by repeat (first | exact Below.refl _ _ | assumption | exact Hd.out (by assumption) | refine Below.alloc ?_ (by first | omega | (simp [size_ext]; try omega)) _ | refine Below.ext ?_ (by first | omega | (simp [size_ext]; try omega)) _ | refine Below.drew ?_ | refine Below.setCell ?_ (by first | omega | (simp [size_ext]; try omega)) _))
set_option maxHeartbeats 400000 in
theorem writesR_slot (w : World) (m : Machine) (A1 A2 : Option Addr) (n1 c1 n2 c2 : Nat) (i : Ins) (A : Option Addr) (n c : Nat) (h100 : lt i.op 100 = false) (h16 : i.op = 16) (ini : InI i.imm) :
    Calls Try.prog 25 #[.agg #[.int .i64 m.regs, .slice A1 n1 c1, .int .i64 m.ret, .slice A2 n2 c2], .agg #[.int .i64 i.op, .int .i64 i.dst, .int .i64 i.a, .int .i64 i.b, .int .i64 i.imm, .int .i64 i.callee, .slice A n c, .int .i64 i.many]] w (RetSl (writesR m i) w) := by
  have G0 := hide ini; clear ini
  have HN : Hd (writesR m i = [⟨true, i.imm⟩]) := hide (by rw [writesR, if_neg (by rw [h100]; decide), if_pos h16])
  have b16 : (i.op == 16) = true := by simpa using h16
  clear h16
  go_enter Try.func25, Try.ntmps25
  go_wp2_with (first | (go_at_call 50; (with_reducible refine (has6_any _ _).mono ?_); rintro e w' ⟨rfl, rfl⟩) | (go_at_call 51; (with_reducible refine (lt_eq _ 100 _ h100).mono ?_); rintro e w' ⟨rfl, rfl⟩))
  go_ret
  exact retSl_loc (x := ⟨true, i.imm⟩) HN.out G0.out (by simp [size_ext]) (by simp [size_ext]; omega) (by repeat (first | exact Below.refl _ _ | assumption | exact Hd.out (by assumption) | refine Below.alloc ?_ (by first | omega | (simp [size_ext]; try omega)) _ | refine Below.ext ?_ (by first | omega | (simp [size_ext]; try omega)) _ | refine Below.drew ?_ | refine Below.setCell ?_ (by first | omega | (simp [size_ext]; try omega)) _))
set_option maxHeartbeats 400000 in
theorem writesR_call (w : World) (m : Machine) (A1 A2 : Option Addr) (n1 c1 n2 c2 : Nat) (i : Ins) (A : Option Addr) (n c : Nat) (h100 : lt i.op 100 = false) (h16 : ¬ i.op = 16) (hc : isC i.op = true) (ini : InI m.ret) :
    Calls Try.prog 25 #[.agg #[.int .i64 m.regs, .slice A1 n1 c1, .int .i64 m.ret, .slice A2 n2 c2], .agg #[.int .i64 i.op, .int .i64 i.dst, .int .i64 i.a, .int .i64 i.b, .int .i64 i.imm, .int .i64 i.callee, .slice A n c, .int .i64 i.many]] w (RetSl (writesR m i) w) := by
  have G0 := hide ini; clear ini
  have HN : Hd (writesR m i = [⟨false, m.ret⟩]) := hide (by rw [writesR, if_neg (by rw [h100]; decide), if_neg h16, if_pos hc])
  have b16 : (i.op == 16) = false := by simpa using h16
  have hl : ((hasL i.op).toList == [99]) = true := by rw [beq_iff_eq]; exact of_decide_eq_true hc
  clear h16 hc
  go_enter Try.func25, Try.ntmps25
  go_wp2_with (first | (go_at_call 50; (with_reducible refine (has6_any _ _).mono ?_); rintro e w' ⟨rfl, rfl⟩) | (go_at_call 51; (with_reducible refine (lt_eq _ 100 _ h100).mono ?_); rintro e w' ⟨rfl, rfl⟩) | (go_at_call 52; (with_reducible refine (reg_any _ _).mono ?_); rintro e _ ⟨rfl, ux, rfl⟩))
  go_ret
  exact retSl_loc (x := ⟨false, m.ret⟩) HN.out G0.out (by simp [size_ext]) (by simp [size_ext]; omega) (by repeat (first | exact Below.refl _ _ | assumption | exact Hd.out (by assumption) | refine Below.alloc ?_ (by first | omega | (simp [size_ext]; try omega)) _ | refine Below.ext ?_ (by first | omega | (simp [size_ext]; try omega)) _ | refine Below.drew ?_ | refine Below.setCell ?_ (by first | omega | (simp [size_ext]; try omega)) _))
set_option maxHeartbeats 400000 in
theorem writesR_none (w : World) (m : Machine) (A1 A2 : Option Addr) (n1 c1 n2 c2 : Nat) (i : Ins) (A : Option Addr) (n c : Nat) (h100 : lt i.op 100 = false) (h16 : ¬ i.op = 16) (hc : isC i.op = false) (ini : InI m.ret) :
    Calls Try.prog 25 #[.agg #[.int .i64 m.regs, .slice A1 n1 c1, .int .i64 m.ret, .slice A2 n2 c2], .agg #[.int .i64 i.op, .int .i64 i.dst, .int .i64 i.a, .int .i64 i.b, .int .i64 i.imm, .int .i64 i.callee, .slice A n c, .int .i64 i.many]] w (RetSl (writesR m i) w) := by
  have G0 := hide ini; clear ini
  have HN : Hd (writesR m i = []) := hide (by rw [writesR, if_neg (by rw [h100]; decide), if_neg h16, if_neg (by rw [hc]; decide)])
  have b16 : (i.op == 16) = false := by simpa using h16
  have hl : ((hasL i.op).toList == [99]) = false := by rw [beq_eq_false_iff_ne]; exact of_decide_eq_false hc
  clear h16 hc
  go_enter Try.func25, Try.ntmps25
  go_wp2_with (first | (go_at_call 50; (with_reducible refine (has6_any _ _).mono ?_); rintro e w' ⟨rfl, rfl⟩) | (go_at_call 51; (with_reducible refine (lt_eq _ 100 _ h100).mono ?_); rintro e w' ⟨rfl, rfl⟩))
  go_ret
  exact retSl_nil HN.out (by repeat (first | exact Below.refl _ _ | assumption | exact Hd.out (by assumption) | refine Below.alloc ?_ (by first | omega | (simp [size_ext]; try omega)) _ | refine Below.ext ?_ (by first | omega | (simp [size_ext]; try omega)) _ | refine Below.drew ?_ | refine Below.setCell ?_ (by first | omega | (simp [size_ext]; try omega)) _))
theorem writes6_any (w : World) (m : Machine) (A1 A2 : Option Addr) (n1 c1 n2 c2 : Nat) (i : Ins) (A : Option Addr) (n c : Nat) (ir : InI m.ret) (id : InI i.dst) (ii : InI i.imm) :
    Calls Try.prog 25 #[.agg #[.int .i64 m.regs, .slice A1 n1 c1, .int .i64 m.ret, .slice A2 n2 c2], .agg #[.int .i64 i.op, .int .i64 i.dst, .int .i64 i.a, .int .i64 i.b, .int .i64 i.imm, .int .i64 i.callee, .slice A n c, .int .i64 i.many]] w (RetSl (writesR m i) w) := by
  cases h100 : lt i.op 100
  · by_cases h16 : i.op = 16
    · exact writesR_slot w m A1 A2 n1 c1 n2 c2 i A n c h100 h16 ii
    · cases hc : isC i.op
      · exact writesR_none w m A1 A2 n1 c1 n2 c2 i A n c h100 h16 hc ir
      · exact writesR_call w m A1 A2 n1 c1 n2 c2 i A n c h100 h16 hc ir
  · exact writesR_dst w m A1 A2 n1 c1 n2 c2 i A n c h100 id
set_option maxHeartbeats 400000 in
theorem needs6_any (w : World) (t : Term) (ia : InI t.a) : Calls Try.prog 27 #[.agg #[.int .i64 t.kind, .int .i64 t.a, .int .i64 t.to0, .int .i64 t.to1]] w (RetSl (needsP t) w) := by
  have G0 := hide ia; clear ia
  by_cases h2 : t.kind = 2
  · have b3 : (t.kind == 3) = false := by simp [h2]
    have b2 : (t.kind == 2) = true := by simp [h2]
    have HN : Hd (needsP t = [⟨false, t.a⟩]) := hide (by rw [needsP, if_pos (.inl h2)])
    clear h2
    go_enter Try.func27, Try.ntmps27
    go_wp2_with (go_at_call 52; (with_reducible refine (reg_any _ _).mono ?_); rintro e _ ⟨rfl, ux, rfl⟩)
    go_ret
    exact retSl_loc (x := ⟨false, t.a⟩) HN.out G0.out (by simp [size_ext]) (by simp [size_ext]; omega) (by repeat (first | exact Below.refl _ _ | assumption | exact Hd.out (by assumption) | refine Below.alloc ?_ (by first | omega | (simp [size_ext]; try omega)) _ | refine Below.ext ?_ (by first | omega | (simp [size_ext]; try omega)) _ | refine Below.drew ?_ | refine Below.setCell ?_ (by first | omega | (simp [size_ext]; try omega)) _))
  · have b2 : (t.kind == 2) = false := by simp [h2]
    by_cases h3 : t.kind = 3
    · have b3 : (t.kind == 3) = true := by simp [h3]
      by_cases h1 : t.a = -1
      · have ba : (t.a != -1) = false := by simp [h1]
        have HN : Hd (needsP t = []) := hide (by rw [needsP, if_neg (by rintro (h | h); exact h2 h; exact h.2 h1)])
        clear h1 h2 h3
        go_enter Try.func27, Try.ntmps27
        go_wp2_with (go_at_call 52; (with_reducible refine (reg_any _ _).mono ?_); rintro e _ ⟨rfl, ux, rfl⟩)
        go_ret
        exact retSl_nil HN.out (by repeat (first | exact Below.refl _ _ | assumption | exact Hd.out (by assumption) | refine Below.alloc ?_ (by first | omega | (simp [size_ext]; try omega)) _ | refine Below.ext ?_ (by first | omega | (simp [size_ext]; try omega)) _ | refine Below.drew ?_ | refine Below.setCell ?_ (by first | omega | (simp [size_ext]; try omega)) _))
      · have ba : (t.a != -1) = true := by simp [h1]
        have HN : Hd (needsP t = [⟨false, t.a⟩]) := hide (by rw [needsP, if_pos (.inr ⟨h3, h1⟩)])
        clear h1 h2 h3
        go_enter Try.func27, Try.ntmps27
        go_wp2_with (go_at_call 52; (with_reducible refine (reg_any _ _).mono ?_); rintro e _ ⟨rfl, ux, rfl⟩)
        go_ret
        exact retSl_loc (x := ⟨false, t.a⟩) HN.out G0.out (by simp [size_ext]) (by simp [size_ext]; omega) (by repeat (first | exact Below.refl _ _ | assumption | exact Hd.out (by assumption) | refine Below.alloc ?_ (by first | omega | (simp [size_ext]; try omega)) _ | refine Below.ext ?_ (by first | omega | (simp [size_ext]; try omega)) _ | refine Below.drew ?_ | refine Below.setCell ?_ (by first | omega | (simp [size_ext]; try omega)) _))
    · have b3 : (t.kind == 3) = false := by simp [h3]
      have HN : Hd (needsP t = []) := hide (by rw [needsP, if_neg (by rintro (h | h); exact h2 h; exact h3 h.1)])
      clear h2 h3
      go_enter Try.func27, Try.ntmps27
      go_wp2_with (go_at_call 52; (with_reducible refine (reg_any _ _).mono ?_); rintro e _ ⟨rfl, ux, rfl⟩)
      go_ret
      exact retSl_nil HN.out (by repeat (first | exact Below.refl _ _ | assumption | exact Hd.out (by assumption) | refine Below.alloc ?_ (by first | omega | (simp [size_ext]; try omega)) _ | refine Below.ext ?_ (by first | omega | (simp [size_ext]; try omega)) _ | refine Below.drew ?_ | refine Below.setCell ?_ (by first | omega | (simp [size_ext]; try omega)) _))
end Go.Proofs.Ytahblhiolkdnnaa
