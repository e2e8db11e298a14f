/- Walk: what an instruction reads, the document's way. -/
import Derived.Test.YtahblhiolkdnnaaW20
set_option linter.unusedSimpArgs false
set_option linter.unusedVariables false
namespace Go.Proofs.Ytahblhiolkdnnaa
open Go.RowKit
theorem readsR_eq {m : Machine} {i : Ins} {a b g c : Bool} (h97 : lt i.op 97 = a) (h98 : lt i.op 98 = b) (hg : (i.op == 17) = g) (hl : ((hasL i.op).toList == [99]) = c) :
    readsR m i = ((if a = true then [⟨false, i.a⟩] else []) ++ (if b = true then [⟨false, i.b⟩] else []) ++ (if g = true then [⟨true, i.imm⟩] else [])) ++ (if c = true then regsL (m.args.take (manyN m i)) else []) := by
  have e : isC i.op = c := by
    rw [← hl]; unfold isC
    by_cases h : (hasL i.op).toList = [99]
    · rw [decide_eq_true h, eq_comm, beq_iff_eq]; exact h
    · rw [decide_eq_false h, eq_comm, beq_eq_false_iff_ne]; exact h
  have e2 : (i.op = 17) ↔ g = true := by rw [← hg]; simp
  unfold readsR
  rw [h97, h98, e]
  by_cases h : i.op = 17
  · rw [if_pos h, if_pos (e2.1 h)]
  · rw [if_neg h, if_neg (fun x => h (e2.2 x))]
theorem retSl_own {w W : World} {u : Ext} {T : TypeId} {v : Value} {xs ys : List Loc} (he : ys = xs) (ho : OwnL (W.ext u) W.heap.size T (fun _ => False) v xs) (hw : w.heap.size ≤ W.heap.size) (hb : Below w.heap.size w W) : RetSl ys w (.returned v) (W.ext u) := by
  obtain ⟨A, c, rfl⟩ := ho.form
  exact retSl_of he ho (fun _ h => h.elim) hw (hb.ext hw u)
set_option maxRecDepth 8000 in
set_option maxHeartbeats 1000000 in
theorem readsR_none (w : World) (S1 : Nat → Prop) (m : Machine) (A1 A2 : Option Addr) (n1 c1 n2 c2 : Nat) (h1 : Sl w S1 A1 n1 c1 m.args) (hn : n1 ≤ 1048576) (i : Ins) (A : Option Addr) (n c : Nat) (ia : InI i.a) (ib : InI i.b) (ii : InI i.imm)
    (h97 : lt i.op 97 = false) (h98 : lt i.op 98 = false) (hg : (i.op == 17) = false) (hl : ((hasL i.op).toList == [99]) = false) :
    Calls Try.prog 23 #[.agg #[.int .i64 m.regs, .slice A1 n1 c1, .int .i64 m.ret, .slice A2 n2 c2], .agg #[.int .i64 i.op, .int .i64 i.dst, .int .i64 i.a, .int .i64 i.b, .int .i64 i.imm, .int .i64 i.callee, .slice A n c, .int .i64 i.many]] w (RetSl (readsR m i) w) := by
  have GA := hide ia; have GB := hide ib; have GI := hide ii
  clear ia ib ii
  have HN : Hd (readsR m i = []) := hide (by rw [readsR_eq h97 h98 hg hl]; rfl)
  have HS1 := hide h1
  have hn0 : n1 ≤ 9223372036854775807 := h1.nle
  clear h1
  obtain ⟨i0, hi, hz, hz1, hz2⟩ := info_parts info_Loc
  have HI0 := hide hi; have HZ := hide hz; have HZ1 := hide hz1; have HZ2 := hide hz2
  clear hi hz hz1 hz2
  go_enter Try.func23, Try.ntmps23
  go_upto_region 1 with (fail)
  obtain ⟨W, hW⟩ : ∃ W, W = ((w.alloc (.cells #[.int .i64 m.regs, .slice A1 n1 c1, .int .i64 m.ret, .slice A2 n2 c2] 24)).alloc (.cells #[.int .i64 i.op, .int .i64 i.dst, .int .i64 i.a, .int .i64 i.b, .int .i64 i.imm, .int .i64 i.callee, .slice A n c, .int .i64 i.many] 30)) := ⟨_, rfl⟩
  have FB := hide (show Below w.heap.size w W by subst hW; exact (by repeat (first | exact Below.refl _ _ | assumption | refine Below.alloc ?_ (by simp [size_ext]; try omega) _ | refine Below.ext ?_ (by simp [size_ext]; try omega) _ | refine Below.drew ?_ | refine Below.setCell ?_ (by simp [size_ext]; try omega) _)))
  have HS := hide (show Sl W S1 A1 n1 c1 m.args by subst hW; exact (HS1.out.alloc _).alloc _)
  have fle : w.heap.size ≤ W.heap.size := by subst hW; simp; omega
  have fz0 : w.heap.size < W.heap.size := by subst hW; simp; omega
  have fz1 : w.heap.size + 1 < W.heap.size := by subst hW; simp
  have p0 : W.cell? ⟨w.heap.size, 1, none⟩ = some (.slice A1 n1 c1) := by subst hW; go_simp
  have q0 : W.cell? ⟨w.heap.size + 1, 0, none⟩ = some (.int .i64 i.op) := by subst hW; go_simp
  have q2 : W.cell? ⟨w.heap.size + 1, 2, none⟩ = some (.int .i64 i.a) := by subst hW; go_simp
  have q3 : W.cell? ⟨w.heap.size + 1, 3, none⟩ = some (.int .i64 i.b) := by subst hW; go_simp
  have q4 : W.cell? ⟨w.heap.size + 1, 4, none⟩ = some (.int .i64 i.imm) := by subst hW; go_simp
  have q7 : W.cell? ⟨w.heap.size + 1, 7, none⟩ = some (.int .i64 i.many) := by subst hW; go_simp
  rw [← hW]
  clear hW HS1
  go_wp2_with (first | (go_at_call 50; (with_reducible refine (has6_any _ _).mono ?_); rintro e w' ⟨rfl, rfl⟩) | (go_at_call 51; (with_reducible refine (lt_eq _ 97 _ h97).mono ?_); rintro e w' ⟨rfl, rfl⟩) | (go_at_call 51; (with_reducible refine (lt_eq _ 98 _ h98).mono ?_); rintro e w' ⟨rfl, rfl⟩))
  go_loopw [6, 7] (fun o k wr => k = .int .i64 0 ∧ o = .slice none 0 0 ∧ wr = W) (fun _ _ _ => 0)
  case atStart => exact ⟨rfl, rfl, rfl⟩
  case round =>
    obtain ⟨rfl, rfl, rfl⟩ := hrel
    go_wp2
    go_ret
    exact retSl_nil HN.out FB.out
set_option maxRecDepth 8000 in
set_option maxHeartbeats 1000000 in
theorem readsR_one (w : World) (S1 : Nat → Prop) (m : Machine) (A1 A2 : Option Addr) (n1 c1 n2 c2 : Nat) (h1 : Sl w S1 A1 n1 c1 m.args) (hn : n1 ≤ 1048576) (i : Ins) (A : Option Addr) (n c : Nat) (ia : InI i.a) (ib : InI i.b) (ii : InI i.imm)
    (h97 : lt i.op 97 = true) (h98 : lt i.op 98 = false) (hg : (i.op == 17) = false) (hl : ((hasL i.op).toList == [99]) = false) :
    Calls Try.prog 23 #[.agg #[.int .i64 m.regs, .slice A1 n1 c1, .int .i64 m.ret, .slice A2 n2 c2], .agg #[.int .i64 i.op, .int .i64 i.dst, .int .i64 i.a, .int .i64 i.b, .int .i64 i.imm, .int .i64 i.callee, .slice A n c, .int .i64 i.many]] w (RetSl (readsR m i) w) := by
  have GA := hide ia; have GB := hide ib; have GI := hide ii
  clear ia ib ii
  have HN : Hd (readsR m i = [⟨false, i.a⟩]) := hide (by rw [readsR_eq h97 h98 hg hl]; rfl)
  have HS1 := hide h1
  have hn0 : n1 ≤ 9223372036854775807 := h1.nle
  clear h1
  obtain ⟨i0, hi, hz, hz1, hz2⟩ := info_parts info_Loc
  have HI0 := hide hi; have HZ := hide hz; have HZ1 := hide hz1; have HZ2 := hide hz2
  clear hi hz hz1 hz2
  go_enter Try.func23, Try.ntmps23
  go_upto_region 1 with (fail)
  obtain ⟨W, hW⟩ : ∃ W, W = ((w.alloc (.cells #[.int .i64 m.regs, .slice A1 n1 c1, .int .i64 m.ret, .slice A2 n2 c2] 24)).alloc (.cells #[.int .i64 i.op, .int .i64 i.dst, .int .i64 i.a, .int .i64 i.b, .int .i64 i.imm, .int .i64 i.callee, .slice A n c, .int .i64 i.many] 30)) := ⟨_, rfl⟩
  have FB := hide (show Below w.heap.size w W by subst hW; exact (by repeat (first | exact Below.refl _ _ | assumption | refine Below.alloc ?_ (by simp [size_ext]; try omega) _ | refine Below.ext ?_ (by simp [size_ext]; try omega) _ | refine Below.drew ?_ | refine Below.setCell ?_ (by simp [size_ext]; try omega) _)))
  have HS := hide (show Sl W S1 A1 n1 c1 m.args by subst hW; exact (HS1.out.alloc _).alloc _)
  have fle : w.heap.size ≤ W.heap.size := by subst hW; simp; omega
  have fz0 : w.heap.size < W.heap.size := by subst hW; simp; omega
  have fz1 : w.heap.size + 1 < W.heap.size := by subst hW; simp
  have p0 : W.cell? ⟨w.heap.size, 1, none⟩ = some (.slice A1 n1 c1) := by subst hW; go_simp
  have q0 : W.cell? ⟨w.heap.size + 1, 0, none⟩ = some (.int .i64 i.op) := by subst hW; go_simp
  have q2 : W.cell? ⟨w.heap.size + 1, 2, none⟩ = some (.int .i64 i.a) := by subst hW; go_simp
  have q3 : W.cell? ⟨w.heap.size + 1, 3, none⟩ = some (.int .i64 i.b) := by subst hW; go_simp
  have q4 : W.cell? ⟨w.heap.size + 1, 4, none⟩ = some (.int .i64 i.imm) := by subst hW; go_simp
  have q7 : W.cell? ⟨w.heap.size + 1, 7, none⟩ = some (.int .i64 i.many) := by subst hW; go_simp
  rw [← hW]
  clear hW HS1
  go_wp2_with (first | (go_at_call 50; (with_reducible refine (has6_any _ _).mono ?_); rintro e w' ⟨rfl, rfl⟩) | (go_at_call 51; (with_reducible refine (lt_eq _ 97 _ h97).mono ?_); rintro e w' ⟨rfl, rfl⟩) | (go_at_call 51; (with_reducible refine (lt_eq _ 98 _ h98).mono ?_); rintro e w' ⟨rfl, rfl⟩) | (go_at_call 52; (with_reducible refine (reg_any _ _).mono ?_); rintro e _ ⟨rfl, uy, rfl⟩) | (at_builtin; refine wpList_push_ext (α := Loc) W uy [.bool false, .int .i64 i.a] 60 rfl (.tmp 13) (.tmp 17) 52 rfl 60 i0 _ 16 Try.underlying52 HI0.out HZ.out HZ1.out HZ2.out rfl (by decide) _ [] ⟨false, i.a⟩ rfl (OwnL.nil_ _ _ _ _) _ rfl (by simp [size_ext]) (Loc.mk_ GA.out) (by simp) (by simp) ?_; intro v1 u1 ho1; have HO1 := hide ho1; clear ho1))
  go_loopw [6, 7] (fun o k wr => k = .int .i64 0 ∧ o = v1 ∧ wr = W.ext u1) (fun _ _ _ => 0)
  case atStart => exact ⟨rfl, rfl, rfl⟩
  case round =>
    obtain ⟨rfl, rfl, rfl⟩ := hrel
    go_wp2
    go_ret
    exact retSl_own HN.out HO1.out fle FB.out
set_option maxRecDepth 8000 in
set_option maxHeartbeats 1000000 in
theorem readsR_two (w : World) (S1 : Nat → Prop) (m : Machine) (A1 A2 : Option Addr) (n1 c1 n2 c2 : Nat) (h1 : Sl w S1 A1 n1 c1 m.args) (hn : n1 ≤ 1048576) (i : Ins) (A : Option Addr) (n c : Nat) (ia : InI i.a) (ib : InI i.b) (ii : InI i.imm)
    (h97 : lt i.op 97 = true) (h98 : lt i.op 98 = true) (hg : (i.op == 17) = false) (hl : ((hasL i.op).toList == [99]) = false) :
    Calls Try.prog 23 #[.agg #[.int .i64 m.regs, .slice A1 n1 c1, .int .i64 m.ret, .slice A2 n2 c2], .agg #[.int .i64 i.op, .int .i64 i.dst, .int .i64 i.a, .int .i64 i.b, .int .i64 i.imm, .int .i64 i.callee, .slice A n c, .int .i64 i.many]] w (RetSl (readsR m i) w) := by
  have GA := hide ia; have GB := hide ib; have GI := hide ii
  clear ia ib ii
  have HN : Hd (readsR m i = [⟨false, i.a⟩, ⟨false, i.b⟩]) := hide (by rw [readsR_eq h97 h98 hg hl]; rfl)
  have HS1 := hide h1
  have hn0 : n1 ≤ 9223372036854775807 := h1.nle
  clear h1
  obtain ⟨i0, hi, hz, hz1, hz2⟩ := info_parts info_Loc
  have HI0 := hide hi; have HZ := hide hz; have HZ1 := hide hz1; have HZ2 := hide hz2
  clear hi hz hz1 hz2
  go_enter Try.func23, Try.ntmps23
  go_upto_region 1 with (fail)
  obtain ⟨W, hW⟩ : ∃ W, W = ((w.alloc (.cells #[.int .i64 m.regs, .slice A1 n1 c1, .int .i64 m.ret, .slice A2 n2 c2] 24)).alloc (.cells #[.int .i64 i.op, .int .i64 i.dst, .int .i64 i.a, .int .i64 i.b, .int .i64 i.imm, .int .i64 i.callee, .slice A n c, .int .i64 i.many] 30)) := ⟨_, rfl⟩
  have FB := hide (show Below w.heap.size w W by subst hW; exact (by repeat (first | exact Below.refl _ _ | assumption | refine Below.alloc ?_ (by simp [size_ext]; try omega) _ | refine Below.ext ?_ (by simp [size_ext]; try omega) _ | refine Below.drew ?_ | refine Below.setCell ?_ (by simp [size_ext]; try omega) _)))
  have HS := hide (show Sl W S1 A1 n1 c1 m.args by subst hW; exact (HS1.out.alloc _).alloc _)
  have fle : w.heap.size ≤ W.heap.size := by subst hW; simp; omega
  have fz0 : w.heap.size < W.heap.size := by subst hW; simp; omega
  have fz1 : w.heap.size + 1 < W.heap.size := by subst hW; simp
  have p0 : W.cell? ⟨w.heap.size, 1, none⟩ = some (.slice A1 n1 c1) := by subst hW; go_simp
  have q0 : W.cell? ⟨w.heap.size + 1, 0, none⟩ = some (.int .i64 i.op) := by subst hW; go_simp
  have q2 : W.cell? ⟨w.heap.size + 1, 2, none⟩ = some (.int .i64 i.a) := by subst hW; go_simp
  have q3 : W.cell? ⟨w.heap.size + 1, 3, none⟩ = some (.int .i64 i.b) := by subst hW; go_simp
  have q4 : W.cell? ⟨w.heap.size + 1, 4, none⟩ = some (.int .i64 i.imm) := by subst hW; go_simp
  have q7 : W.cell? ⟨w.heap.size + 1, 7, none⟩ = some (.int .i64 i.many) := by subst hW; go_simp
  rw [← hW]
  clear hW HS1
  go_wp2_with (first | (go_at_call 50; (with_reducible refine (has6_any _ _).mono ?_); rintro e w' ⟨rfl, rfl⟩) | (go_at_call 51; (with_reducible refine (lt_eq _ 97 _ h97).mono ?_); rintro e w' ⟨rfl, rfl⟩) | (go_at_call 52; (with_reducible refine (reg_any _ _).mono ?_); rintro e _ ⟨rfl, uy, rfl⟩) | (at_builtin; refine wpList_push_ext (α := Loc) W uy [.bool false, .int .i64 i.a] 60 rfl (.tmp 13) (.tmp 17) 52 rfl 60 i0 _ 16 Try.underlying52 HI0.out HZ.out HZ1.out HZ2.out rfl (by decide) _ [] ⟨false, i.a⟩ rfl (OwnL.nil_ _ _ _ _) _ rfl (by simp [size_ext]) (Loc.mk_ GA.out) (by simp) (by simp) ?_; intro v1 u1 ho1; have HO1 := hide ho1; clear ho1))
  go_wp2_with (first | (go_at_call 51; (with_reducible refine (lt_eq _ 98 _ h98).mono ?_); rintro e w' ⟨rfl, rfl⟩) | (go_at_call 52; (with_reducible refine (reg_any _ _).mono ?_); rintro e _ ⟨rfl, ux, rfl⟩; obtain ⟨uy, hx⟩ := ext_ext W _ ux; have HOy := hide (hx ▸ (HO1.out.ext ux)); rw [hx]; clear hx ux) | (at_builtin; refine wpList_push_ext (α := Loc) W _ [.bool false, .int .i64 i.b] 60 rfl (.tmp 21) (.tmp 25) 52 rfl 60 i0 _ 16 Try.underlying52 HI0.out HZ.out HZ1.out HZ2.out rfl (by decide) v1 [⟨false, i.a⟩] ⟨false, i.b⟩ rfl (HOy.out) _ rfl (by simp [size_ext]) (Loc.mk_ GB.out) (by simp) (by simp) ?_; intro v2 u2 ho2; have HO2 := hide ho2; clear ho2))
  go_loopw [6, 7] (fun o k wr => k = .int .i64 0 ∧ o = v2 ∧ wr = W.ext u2) (fun _ _ _ => 0)
  case atStart => exact ⟨rfl, rfl, rfl⟩
  case round =>
    obtain ⟨rfl, rfl, rfl⟩ := hrel
    go_wp2
    go_ret
    exact retSl_own HN.out HO2.out fle FB.out
set_option maxRecDepth 8000 in
set_option maxHeartbeats 1000000 in
theorem readsR_get (w : World) (S1 : Nat → Prop) (m : Machine) (A1 A2 : Option Addr) (n1 c1 n2 c2 : Nat) (h1 : Sl w S1 A1 n1 c1 m.args) (hn : n1 ≤ 1048576) (i : Ins) (A : Option Addr) (n c : Nat) (ia : InI i.a) (ib : InI i.b) (ii : InI i.imm)
    (h97 : lt i.op 97 = false) (h98 : lt i.op 98 = false) (hg : (i.op == 17) = true) (hl : ((hasL i.op).toList == [99]) = false) :
    Calls Try.prog 23 #[.agg #[.int .i64 m.regs, .slice A1 n1 c1, .int .i64 m.ret, .slice A2 n2 c2], .agg #[.int .i64 i.op, .int .i64 i.dst, .int .i64 i.a, .int .i64 i.b, .int .i64 i.imm, .int .i64 i.callee, .slice A n c, .int .i64 i.many]] w (RetSl (readsR m i) w) := by
  have GA := hide ia; have GB := hide ib; have GI := hide ii
  clear ia ib ii
  have HN : Hd (readsR m i = [⟨true, i.imm⟩]) := hide (by rw [readsR_eq h97 h98 hg hl]; rfl)
  have HS1 := hide h1
  have hn0 : n1 ≤ 9223372036854775807 := h1.nle
  clear h1
  obtain ⟨i0, hi, hz, hz1, hz2⟩ := info_parts info_Loc
  have HI0 := hide hi; have HZ := hide hz; have HZ1 := hide hz1; have HZ2 := hide hz2
  clear hi hz hz1 hz2
  go_enter Try.func23, Try.ntmps23
  go_upto_region 1 with (fail)
  obtain ⟨W, hW⟩ : ∃ W, W = ((w.alloc (.cells #[.int .i64 m.regs, .slice A1 n1 c1, .int .i64 m.ret, .slice A2 n2 c2] 24)).alloc (.cells #[.int .i64 i.op, .int .i64 i.dst, .int .i64 i.a, .int .i64 i.b, .int .i64 i.imm, .int .i64 i.callee, .slice A n c, .int .i64 i.many] 30)) := ⟨_, rfl⟩
  have FB := hide (show Below w.heap.size w W by subst hW; exact (by repeat (first | exact Below.refl _ _ | assumption | refine Below.alloc ?_ (by simp [size_ext]; try omega) _ | refine Below.ext ?_ (by simp [size_ext]; try omega) _ | refine Below.drew ?_ | refine Below.setCell ?_ (by simp [size_ext]; try omega) _)))
  have HS := hide (show Sl W S1 A1 n1 c1 m.args by subst hW; exact (HS1.out.alloc _).alloc _)
  have fle : w.heap.size ≤ W.heap.size := by subst hW; simp; omega
  have fz0 : w.heap.size < W.heap.size := by subst hW; simp; omega
  have fz1 : w.heap.size + 1 < W.heap.size := by subst hW; simp
  have p0 : W.cell? ⟨w.heap.size, 1, none⟩ = some (.slice A1 n1 c1) := by subst hW; go_simp
  have q0 : W.cell? ⟨w.heap.size + 1, 0, none⟩ = some (.int .i64 i.op) := by subst hW; go_simp
  have q2 : W.cell? ⟨w.heap.size + 1, 2, none⟩ = some (.int .i64 i.a) := by subst hW; go_simp
  have q3 : W.cell? ⟨w.heap.size + 1, 3, none⟩ = some (.int .i64 i.b) := by subst hW; go_simp
  have q4 : W.cell? ⟨w.heap.size + 1, 4, none⟩ = some (.int .i64 i.imm) := by subst hW; go_simp
  have q7 : W.cell? ⟨w.heap.size + 1, 7, none⟩ = some (.int .i64 i.many) := by subst hW; go_simp
  rw [← hW]
  clear hW HS1
  go_wp2_with (first | (go_at_call 50; (with_reducible refine (has6_any _ _).mono ?_); rintro e w' ⟨rfl, rfl⟩) | (go_at_call 51; (with_reducible refine (lt_eq _ 97 _ h97).mono ?_); rintro e w' ⟨rfl, rfl⟩) | (go_at_call 51; (with_reducible refine (lt_eq _ 98 _ h98).mono ?_); rintro e w' ⟨rfl, rfl⟩) | (at_builtin; refine wpList_push_new (α := Loc) W [.bool true, .int .i64 i.imm] 60 rfl (.tmp 30) (.tmp 34) 52 rfl 60 i0 _ 16 Try.underlying52 HI0.out HZ.out HZ1.out HZ2.out rfl (by decide) _ [] ⟨true, i.imm⟩ rfl (OwnL.nil_ _ _ _ _) _ rfl (by simp [size_ext]) (Loc.mk_ GI.out) (by simp) (by simp) ?_; intro v1 u1 ho1; have HO1 := hide ho1; clear ho1))
  go_loopw [6, 7] (fun o k wr => k = .int .i64 0 ∧ o = v1 ∧ wr = W.ext u1) (fun _ _ _ => 0)
  case atStart => exact ⟨rfl, rfl, rfl⟩
  case round =>
    obtain ⟨rfl, rfl, rfl⟩ := hrel
    go_wp2
    go_ret
    exact retSl_own HN.out HO1.out fle FB.out
theorem manyN_le (m : Machine) (i : Ins) : manyN m i ≤ m.args.length := by unfold manyN; omega
theorem manyN_lt {m : Machine} {i : Ins} {j : Nat} (h : j < manyN m i) : (j : Int) < i.many := by unfold manyN at h; omega
theorem manyN_ge {m : Machine} {i : Ins} {j : Nat} (h0 : j ≤ manyN m i) (h : ¬ j < manyN m i) : ¬ (j : Int) < i.many ∨ ¬ j < m.args.length := by unfold manyN at h h0; omega
set_option maxRecDepth 8000 in
set_option maxHeartbeats 1000000 in
theorem readsR_call (w : World) (S1 : Nat → Prop) (m : Machine) (A1 A2 : Option Addr) (n1 c1 n2 c2 : Nat) (h1 : Sl w S1 A1 n1 c1 m.args) (hn : n1 ≤ 1048576) (i : Ins) (A : Option Addr) (n c : Nat) (ia : InI i.a) (ib : InI i.b) (ii : InI i.imm)
    (h97 : lt i.op 97 = false) (h98 : lt i.op 98 = false) (hg : (i.op == 17) = false) (hl : ((hasL i.op).toList == [99]) = true) :
    Calls Try.prog 23 #[.agg #[.int .i64 m.regs, .slice A1 n1 c1, .int .i64 m.ret, .slice A2 n2 c2], .agg #[.int .i64 i.op, .int .i64 i.dst, .int .i64 i.a, .int .i64 i.b, .int .i64 i.imm, .int .i64 i.callee, .slice A n c, .int .i64 i.many]] w (RetSl (readsR m i) w) := by
  have GA := hide ia; have GB := hide ib; have GI := hide ii
  clear ia ib ii
  have HN : Hd (readsR m i = regsL (m.args.take (manyN m i))) := hide (by rw [readsR_eq h97 h98 hg hl]; rfl)
  have HS1 := hide h1
  have hn0 : n1 ≤ 9223372036854775807 := h1.nle
  clear h1
  obtain ⟨i0, hi, hz, hz1, hz2⟩ := info_parts info_Loc
  have HI0 := hide hi; have HZ := hide hz; have HZ1 := hide hz1; have HZ2 := hide hz2
  clear hi hz hz1 hz2
  go_enter Try.func23, Try.ntmps23
  go_upto_region 1 with (fail)
  obtain ⟨W, hW⟩ : ∃ W, W = ((w.alloc (.cells #[.int .i64 m.regs, .slice A1 n1 c1, .int .i64 m.ret, .slice A2 n2 c2] 24)).alloc (.cells #[.int .i64 i.op, .int .i64 i.dst, .int .i64 i.a, .int .i64 i.b, .int .i64 i.imm, .int .i64 i.callee, .slice A n c, .int .i64 i.many] 30)) := ⟨_, rfl⟩
  have FB := hide (show Below w.heap.size w W by subst hW; exact (by repeat (first | exact Below.refl _ _ | assumption | refine Below.alloc ?_ (by simp [size_ext]; try omega) _ | refine Below.ext ?_ (by simp [size_ext]; try omega) _ | refine Below.drew ?_ | refine Below.setCell ?_ (by simp [size_ext]; try omega) _)))
  have HS := hide (show Sl W S1 A1 n1 c1 m.args by subst hW; exact (HS1.out.alloc _).alloc _)
  have fle : w.heap.size ≤ W.heap.size := by subst hW; simp; omega
  have fz0 : w.heap.size < W.heap.size := by subst hW; simp; omega
  have fz1 : w.heap.size + 1 < W.heap.size := by subst hW; simp
  have p0 : W.cell? ⟨w.heap.size, 1, none⟩ = some (.slice A1 n1 c1) := by subst hW; go_simp
  have q0 : W.cell? ⟨w.heap.size + 1, 0, none⟩ = some (.int .i64 i.op) := by subst hW; go_simp
  have q2 : W.cell? ⟨w.heap.size + 1, 2, none⟩ = some (.int .i64 i.a) := by subst hW; go_simp
  have q3 : W.cell? ⟨w.heap.size + 1, 3, none⟩ = some (.int .i64 i.b) := by subst hW; go_simp
  have q4 : W.cell? ⟨w.heap.size + 1, 4, none⟩ = some (.int .i64 i.imm) := by subst hW; go_simp
  have q7 : W.cell? ⟨w.heap.size + 1, 7, none⟩ = some (.int .i64 i.many) := by subst hW; go_simp
  rw [← hW]
  clear hW HS1
  go_wp2_with (first | (go_at_call 50; (with_reducible refine (has6_any _ _).mono ?_); rintro e w' ⟨rfl, rfl⟩) | (go_at_call 51; (with_reducible refine (lt_eq _ 97 _ h97).mono ?_); rintro e w' ⟨rfl, rfl⟩) | (go_at_call 51; (with_reducible refine (lt_eq _ 98 _ h98).mono ?_); rintro e w' ⟨rfl, rfl⟩))
  go_loopw [6, 7] (fun o k wr => ∃ j : Nat, ∃ u : Ext, j ≤ manyN m i ∧ k = .int .i64 j ∧ wr = W.ext u ∧ OwnL (W.ext u) W.heap.size 60 (fun _ => False) o (regsL (m.args.take j))) (fun _ k _ => n1 - (intOf k).toNat)
  case atStart =>
    obtain ⟨x0, hx0⟩ := ext_refl W
    exact ⟨0, x0, Nat.zero_le _, rfl, hx0, by rw [← hx0]; exact OwnL.nil_ _ _ _ _⟩
  case round =>
    obtain ⟨j, u, hj, rfl, rfl, ho⟩ := hrel
    have HO1 := hide ho; clear ho
    have hle := manyN_le m i
    rw [HS.out.len] at hle
    by_cases hlt : j < manyN m i
    · have hm := manyN_lt hlt
      have hjn : j < n1 := by omega
      obtain ⟨b, off, x, rfl, hb, hx, hi, hc⟩ := at_int HS.out hjn
      have HX := hide (take_at hx); clear hx
      have HI := hide hi; clear hi
      clear hle
      go_wp2_with (first | (go_at_call 52; (with_reducible refine (reg_any _ _).mono ?_); rintro e _ ⟨rfl, ux, rfl⟩; obtain ⟨uy, hx⟩ := ext_ext W _ ux; have HOy := hide (hx ▸ (HO1.out.ext ux)); rw [hx]; clear hx ux) | (at_builtin; refine wpList_push_ext (α := Loc) W _ [.bool false, .int .i64 x] 60 rfl (.tmp 53) (.tmp 60) 52 rfl 60 i0 _ 16 Try.underlying52 HI0.out HZ.out HZ1.out HZ2.out rfl (by decide) u6 (regsL (m.args.take j)) ⟨false, x⟩ rfl (HOy.out) _ rfl (by simp [size_ext]) (Loc.mk_ HI.out) (by simp [regsL]; omega) (by simp [regsL]; omega) ?_; intro v3 u3 ho3; have HO3 := hide ho3; clear ho3))
      go_roundw
      case rel => exact ⟨j + 1, u3, by omega, by go_num, rfl, by unfold regsL; rw [HX.out, List.map_append]; exact HO3.out⟩
      case measure => simp [intOf]; omega
    · have hm := manyN_ge (m := m) (i := i) (j := j) hj hlt
      rw [HS.out.len] at hm
      have hjj : j = manyN m i := by omega
      have HJ := hide hjj
      clear hjj hle
      by_cases hd : (j : Int) < i.many
      · have hd2 : ¬ j < n1 := by omega
        clear hm
        go_wp2
        go_ret
        exact retSl_own (by rw [HN.out, HJ.out]) HO1.out fle FB.out
      · clear hm
        go_wp2
        go_ret
        exact retSl_own (by rw [HN.out, HJ.out]) HO1.out fle FB.out
end Go.Proofs.Ytahblhiolkdnnaa
