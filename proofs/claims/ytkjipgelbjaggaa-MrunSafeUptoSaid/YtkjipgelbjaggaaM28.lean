/- Walks: what an instruction makes, of all Ops. -/
import Derived.Test.YtkjipgelbjaggaaM27
set_option linter.unusedSimpArgs false
set_option linter.unusedVariables false
namespace Go.Proofs.Ytkjipgelbjaggaa
open Go.RowKit Go.Maps
theorem reads_ins {m : Machine} {i : Ins} (ia : InI i.a) (ii : InI i.imm) (h : insertedB i.op = true) : ∃ x : Loc, readsP m i = [x] ∧ InI x.n := by
  have : i.op = 15 ∨ i.op = 16 ∨ i.op = 17 := by unfold insertedB at h; simpa [or_assoc] using h
  rcases this with h | h | h
  · exact ⟨⟨false, i.a⟩, by unfold readsP; rw [h]; rfl, ia⟩
  · exact ⟨⟨false, i.a⟩, by unfold readsP; rw [h]; rfl, ia⟩
  · exact ⟨⟨true, i.imm⟩, by unfold readsP; rw [h]; rfl, ii⟩
/-- a pointer to a place's cells -/
def AtLocP (x : Loc) : Post := fun v w => ∃ b off, v = .pointer (some ⟨b, off, none⟩) ∧ b < w.heap.size ∧ w.cell? ⟨b, off, none⟩ = some (.bool x.slot) ∧ w.cell? ⟨b, off + 1, none⟩ = some (.int .i64 x.n)
theorem AtLocP.stable_ {F : World → Prop} {x : Loc} {mem : Bool} (hm : mem = true) : stable F mem (AtLocP x) :=
  stable_mem hm fun _ w u ⟨b, off, hv, hb, h0, h1⟩ => ⟨b, off, hv, by rw [size_ext]; omega, by rw [cell?_ext _ _ _ hb]; exact h0, by rw [cell?_ext _ _ _ hb]; exact h1⟩
section
variable (w : World) (base X K : Nat) (q : RunM) (r : RunS) (h : RunAt w base X K q r) (i : Ins) (Ai : Option Addr) (ni ci : Nat) (ia : InI i.a) (ib : InI i.b) (ii : InI i.imm)
include h ia ib ii
set_option maxHeartbeats 2000000 in
set_option maxRecDepth 8000 in
theorem value_inserted (hn1 : q.n1 ≤ 1048576) (ho : insertedB i.op = true) : Calls Try.prog 69 #[.pointer (some ⟨X, 0, none⟩), .agg #[.int .i64 i.op, .int .i64 i.dst, .int .i64 i.a, .int .i64 i.b, .int .i64 i.imm, .int .i64 i.callee, .slice Ai ni ci, .int .i64 i.many]] w (ValTo base X K q r i w) := by
  have HR := hide h
  have HO := hide ho
  have hlt := h.lt; have k0 := h.k0; have hbX := h.hX
  have IA := hide ia; have IB := hide ib; have II := hide ii
  obtain ⟨q1, q2⟩ := lookups w base X K q r h i ia ib (w.alloc (.cells #[.int .i64 i.op, .int .i64 i.dst, .int .i64 i.a, .int .i64 i.b, .int .i64 i.imm, .int .i64 i.callee, .slice Ai ni ci, .int .i64 i.many] 66)) (by repeat (first | exact Below.refl _ _ | assumption | refine Below.alloc ?_ (by simp [size_ext]; try omega) _ | refine Below.ext ?_ (by simp [size_ext]; try omega) _ | refine Below.drew ?_ | refine Below.setCell ?_ (by simp [size_ext]; try omega) _))
  obtain ⟨x, hx, hxi⟩ := reads_ins (m := r.m) ia ii ho
  have HX := hide hx; have HXI := hide hxi
  have hop : i.op = 15 ∨ i.op = 16 ∨ i.op = 17 := by unfold insertedB at ho; simpa [or_assoc] using ho
  have hval : valueR r i = (r, (r.cells x).getD 0, true) := by unfold valueR; rw [if_neg (by omega), if_neg (by omega), if_neg (by omega), if_neg (by omega), if_pos ho, hx]; rfl
  have HV := hide hval
  have g1 : (i.op == 1) = false := by rw [beq_eq_false_iff_ne]; omega
  have g2 : (i.op == 13) = false := by rw [beq_eq_false_iff_ne]; omega
  have g3 : (i.op == 11) = false := by rw [beq_eq_false_iff_ne]; omega
  have g4 : (i.op == 12) = false := by rw [beq_eq_false_iff_ne]; omega
  have m5 := h.k5; have m6 := h.k6; have m7 := h.k7; have m8 := h.k8
  have hbw : base ≤ w.heap.size := by omega
  clear h ho ia ib ii hx hxi hop hval
  go_enter Try.func69, Try.ntmps69
  go_wp2_with fail
  refine wp_region_ext (by kernel_rfl) (by kernel_rfl) ?_
  repeat (any_goals (first | go_big_quiet_step (((go_at_call 42; exact quiet_retx (reg9_any _ _)))) | quiet_step (((go_at_call 42; exact quiet_retx (reg9_any _ _))))))
  refine wpQuiet_nil ?_
  rintro _ ⟨uq, rfl⟩
  have hins : ∀ w, Calls Try.prog 28 #[.int .i64 i.op] w (Ret (.bool true) w) := fun w => by have := inserted_any i.op w; rwa [HO.out] at this
  have HI := hide hins; clear hins
  go_wp2_with (go_at_call 28; refine (HI.out _).mono ?_; rintro e w' ⟨rfl, rfl⟩)
  obtain ⟨W, hW⟩ : ∃ W, W = ((w.alloc (.cells #[.int .i64 i.op, .int .i64 i.dst, .int .i64 i.a, .int .i64 i.b, .int .i64 i.imm, .int .i64 i.callee, .slice Ai ni ci, .int .i64 i.many] 66)).ext uq) := ⟨_, rfl⟩
  have FB := hide (show Below w.heap.size w W by subst hW; exact (by repeat (first | exact Below.refl _ _ | assumption | refine Below.alloc ?_ (by simp [size_ext]; try omega) _ | refine Below.ext ?_ (by simp [size_ext]; try omega) _ | refine Below.drew ?_ | refine Below.setCell ?_ (by simp [size_ext]; try omega) _)))
  have fs := FB.out.size
  have c0 : W.cell? ⟨w.heap.size, 0, none⟩ = some (.int .i64 i.op) := by subst hW; go_simp
  have c1 : W.cell? ⟨w.heap.size, 1, none⟩ = some (.int .i64 i.dst) := by subst hW; go_simp
  have c2 : W.cell? ⟨w.heap.size, 2, none⟩ = some (.int .i64 i.a) := by subst hW; go_simp
  have c3 : W.cell? ⟨w.heap.size, 3, none⟩ = some (.int .i64 i.b) := by subst hW; go_simp
  have c4 : W.cell? ⟨w.heap.size, 4, none⟩ = some (.int .i64 i.imm) := by subst hW; go_simp
  have c5 : W.cell? ⟨w.heap.size, 5, none⟩ = some (.int .i64 i.callee) := by subst hW; go_simp
  have c6 : W.cell? ⟨w.heap.size, 6, none⟩ = some (.slice Ai ni ci) := by subst hW; go_simp
  have c7 : W.cell? ⟨w.heap.size, 7, none⟩ = some (.int .i64 i.many) := by subst hW; go_simp
  have hw1 : w.heap.size < W.heap.size := by subst hW; simp [size_ext]; omega
  have HRW := hide (HR.out.keep FB.out)
  rw [← hW]
  clear hW q1 q2 k0 m5 m6 m7 m8 hlt
  have k0 := HRW.out.k0; have m5 := HRW.out.k5; have m6 := HRW.out.k6; have m7 := HRW.out.k7; have m8 := HRW.out.k8; have hlt := HRW.out.lt
  have hq : ∀ u : Ext, (Instr.lookup 97 (.map (some q.bc)) (.agg #[.bool x.slot, .int .i64 x.n]) false).run Try.prog (W.ext u) = .ok (.int .i64 ((r.cells x).getD 0)) (W.ext u) := fun u =>
    MapP.get (K := locK) (E := cellE) (HRW.out.cells.ext u) Try.underlying97 HXI.out
  refine wp_region_flow_ext [] [9, 10] (by kernel_rfl) rfl (by kernel_rfl) ?_
  repeat (refine flow_known (by kernel_rfl) (fun K hK => ?_); go_simp; (first | (refine hK _ ?_; clear hK K) | (apply Exists.intro; refine ⟨fun _ => ?_, hK _ ?_⟩; (fail); clear hK K)))
  refine flow_keep0 (SlB W.heap.size 1 [x]) (by kernel_rfl) (SlB.stable_ rfl) ?_ ?_
  · intro u
    go_simp
    refine (reads_any _ q.S r.m q.A1 q.A2 q.n1 q.c1 q.n2 q.c2 (HRW.out.args.ext u) hn1 i Ai ni ci IA.out IB.out II.out).mono ?_
    rintro e _ ⟨A', n', c', rfl, hs, x', rfl⟩
    rw [HX.out] at hs
    have : n' = 1 := hs.len.symm
    subst this
    exact ⟨_, rfl, ⟨A', c', rfl, hs.more fun b _ h => by simp [size_ext] at h; omega⟩, onW_ext ⟨_, rfl⟩ ⟨x', rfl⟩⟩
  refine flow_keep [true] (AtLocP x) (by kernel_rfl) (AtLocP.stable_ rfl) ?_ ?_
  · intro u
    try simp only [List.nil_append, List.cons_append, useH_f, useH_t, useH_nil]
    rintro _ ⟨A', c', rfl, hs⟩
    obtain ⟨b, off, x', rfl, hb, hx', hxi', d0, d1⟩ := at_Loc hs (k := 0) (by decide)
    simp at hx'
    subst hx'
    go_simp
    exact ⟨⟨b, off, rfl, hb, by simpa using d0, by simpa using d1⟩, onW_same ⟨_, rfl⟩⟩
  refine flow_out [false, true] (.agg #[.bool x.slot, .int .i64 x.n]) (by kernel_rfl) ?_ ?_
  · intro u
    try simp only [List.nil_append, List.cons_append, useH_f, useH_t, useH_nil]
    rintro _ ⟨b, off, rfl, hb, d0, d1⟩
    go_simp
  repeat (refine flow_known (by kernel_rfl) (fun K hK => ?_); go_simp; (first | (refine hK _ ?_; clear hK K) | (apply Exists.intro; refine ⟨fun _ => ?_, hK _ ?_⟩; (fail); clear hK K)))
  refine flow_done [true, true] (by kernel_rfl) ?_
  intro u
  simp only [List.nil_append, List.cons_append, endH_f, endH_t, endH_nil]
  rintro v1 _ v2 _
  go_simp
  go_wp2_with fail
  go_ret2
  exact valTo_mk HV.out (HRW.out.ext u) ((RunFr.of_below FB.out).ext _)
omit ii in
set_option maxHeartbeats 2000000 in
set_option maxRecDepth 8000 in
theorem value_calc (ho : insertedB i.op = false) (h1 : i.op ≠ 1) (h13 : i.op ≠ 13) (h11 : i.op ≠ 11) (h12 : i.op ≠ 12) : Calls Try.prog 69 #[.pointer (some ⟨X, 0, none⟩), .agg #[.int .i64 i.op, .int .i64 i.dst, .int .i64 i.a, .int .i64 i.b, .int .i64 i.imm, .int .i64 i.callee, .slice Ai ni ci, .int .i64 i.many]] w (ValTo base X K q r i w) := by
  have HR := hide h
  have HO := hide ho
  have hlt := h.lt; have k0 := h.k0; have hbX := h.hX
  obtain ⟨q1, q2⟩ := lookups w base X K q r h i ia ib (w.alloc (.cells #[.int .i64 i.op, .int .i64 i.dst, .int .i64 i.a, .int .i64 i.b, .int .i64 i.imm, .int .i64 i.callee, .slice Ai ni ci, .int .i64 i.many] 66)) (by repeat (first | exact Below.refl _ _ | assumption | refine Below.alloc ?_ (by simp [size_ext]; try omega) _ | refine Below.ext ?_ (by simp [size_ext]; try omega) _ | refine Below.drew ?_ | refine Below.setCell ?_ (by simp [size_ext]; try omega) _))
  have hval : valueR r i = (r, (calcC i.op ((r.cells ⟨false, i.a⟩).getD 0) ((r.cells ⟨false, i.b⟩).getD 0)).1, (calcC i.op ((r.cells ⟨false, i.a⟩).getD 0) ((r.cells ⟨false, i.b⟩).getD 0)).2) := by unfold valueR; rw [if_neg h1, if_neg h13, if_neg h11, if_neg h12, if_neg (by rw [ho]; simp)]
  have HV := hide hval
  have g1 : (i.op == 1) = false := by rw [beq_eq_false_iff_ne]; exact h1
  have g2 : (i.op == 13) = false := by rw [beq_eq_false_iff_ne]; exact h13
  have g3 : (i.op == 11) = false := by rw [beq_eq_false_iff_ne]; exact h11
  have g4 : (i.op == 12) = false := by rw [beq_eq_false_iff_ne]; exact h12
  have hins : ∀ w, Calls Try.prog 28 #[.int .i64 i.op] w (Ret (.bool false) w) := fun w => by have := inserted_any i.op w; rwa [HO.out] at this
  have HI := hide hins
  clear h ho ia ib hval h1 h13 h11 h12 hins
  go_enter Try.func69, Try.ntmps69
  go_wp2_with fail
  refine wp_region_ext (by kernel_rfl) (by kernel_rfl) ?_
  repeat (any_goals (first | go_big_quiet_step (((go_at_call 42; exact quiet_retx (reg9_any _ _)))) | quiet_step (((go_at_call 42; exact quiet_retx (reg9_any _ _))))))
  refine wpQuiet_nil ?_
  rintro _ ⟨uq, rfl⟩
  go_wp2_with (first | (go_at_call 28; refine (HI.out _).mono ?_; rintro e w' ⟨rfl, rfl⟩) | (go_at_call 92; refine (calc_any _ _ _ _).mono ?_; rintro e w' ⟨rfl, rfl⟩))
  go_ret2
  exact valTo_mk HV.out ((HR.out.alloc _).ext uq) (RunFr.of_below (((Below.refl _ _).alloc (Nat.le_refl _) _).ext (by simp) _))
theorem value9_any (ic : InI i.callee) (ir : InI r.m.ret) (hn1 : q.n1 ≤ 1048576) (hcl : r.calls.length ≤ 1048576) : Calls Try.prog 69 #[.pointer (some ⟨X, 0, none⟩), .agg #[.int .i64 i.op, .int .i64 i.dst, .int .i64 i.a, .int .i64 i.b, .int .i64 i.imm, .int .i64 i.callee, .slice Ai ni ci, .int .i64 i.many]] w (ValTo base X K q r i w) := by
  by_cases h1 : i.op = 1
  · exact value_const w base X K q r h i Ai ni ci ia ib h1
  by_cases h13 : i.op = 13
  · exact value_call w base X K q r h i Ai ni ci ia ib ii ic ir hn1 hcl h13
  by_cases h11 : i.op = 11
  · exact value_load w base X K q r h i Ai ni ci ia ib h11
  by_cases h12 : i.op = 12
  · exact value_store w base X K q r h i Ai ni ci ia ib h12
  cases hi : insertedB i.op
  · exact value_calc w base X K q r h i Ai ni ci ia ib hi h1 h13 h11 h12
  · exact value_inserted w base X K q r h i Ai ni ci ia ib ii hn1 hi
end
end Go.Proofs.Ytkjipgelbjaggaa
