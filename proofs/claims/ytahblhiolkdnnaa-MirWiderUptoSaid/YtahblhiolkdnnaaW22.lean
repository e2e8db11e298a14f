/- Walk: MirParts. -/
import Derived.Test.YtahblhiolkdnnaaPL6b
import Derived.Test.YtahblhiolkdnnaaW17
set_option linter.unusedSimpArgs false
set_option linter.unusedVariables false
namespace Go.Proofs.Ytahblhiolkdnnaa
open Go.RowKit
theorem same_true (w : World) (S1 S2 : Nat → Prop) (A1 A2 : Option Addr) (n1 c1 n2 c2 : Nat) (xs ys : List Loc) (h1 : Sl w S1 A1 n1 c1 xs) (h2 : Sl w S2 A2 n2 c2 ys) (he : xs = ys) :
    Calls Try.prog 21 #[.slice A1 n1 c1, .slice A2 n2 c2] w (RetX (.bool true) w) := by
  have := same_any w S1 S2 A1 A2 n1 c1 n2 c2 xs ys h1 h2
  rw [he, sameL_refl] at this
  exact this
theorem heldSl {xs : List Loc} {n : Nat} (hn : xs.length = n) {w0 w : World} {e : Ending} {w' : World} (h0 : ∃ u : Ext, w = w0.ext u) (h : RetSl xs w e w') : RetH (extF w0) false (SlP n xs) w e w' := by
  obtain ⟨A, k, c, rfl, hs, x, rfl⟩ := h
  have hk := hs.len
  rw [hn] at hk
  subst hk
  exact ⟨_, rfl, ⟨_, A, c, rfl, hs⟩, onW_ext h0 ⟨x, rfl⟩⟩
set_option maxHeartbeats 2000000 in
set_option maxRecDepth 8000 in
theorem parts_any (w : World) (S S1 S2 : Nat → Prop) (m : Machine) (A1 A2 : Option Addr) (n1 c1 n2 c2 : Nat) (h1 : Sl w S1 A1 n1 c1 m.args) (h2 : Sl w S2 A2 n2 c2 m.saved) (ir : InI m.ret)
    (i : Ins) (A : Option Addr) (n c : Nat) (h : Sl w S A n c i.args) (ia : InI i.a) (ib : InI i.b) (ii : InI i.imm) (idd : InI i.dst) (t : Term) (ita : InI t.a) (hb : n1 ≤ 1048576 ∧ n2 ≤ 1048576 ∧ n ≤ 1048576) :
    Calls Try.prog 5 #[.agg #[.int .i64 m.regs, .slice A1 n1 c1, .int .i64 m.ret, .slice A2 n2 c2], .agg #[.int .i64 i.op, .int .i64 i.dst, .int .i64 i.a, .int .i64 i.b, .int .i64 i.imm, .int .i64 i.callee, .slice A n c, .int .i64 i.many],
      .agg #[.int .i64 t.kind, .int .i64 t.a, .int .i64 t.to0, .int .i64 t.to1]] w (RetX (.bool true) w) := by
  have H1 := hide h1
  have IR := hide ir; have IA := hide ia; have IB := hide ib; have II := hide ii; have ID := hide idd; have IT := hide ita
  obtain ⟨b1, b2, b3⟩ := hb
  clear h1 h2 h ir ia ib ii idd ita
  obtain ⟨l1, hl1⟩ : ∃ l, (readsP m i).length = l := ⟨_, rfl⟩
  obtain ⟨l2, hl2⟩ : ∃ l, (writesP m i).length = l := ⟨_, rfl⟩
  obtain ⟨l3, hl3⟩ : ∃ l, (needsP t).length = l := ⟨_, rfl⟩
  have L1 := hide hl1; have L2 := hide hl2; have L3 := hide hl3
  have L1' := hide (reads_eq m i ▸ hl1); have L2' := hide (writes_eq m i ▸ hl2)
  clear hl1 hl2 hl3
  go_enter Try.func5, Try.ntmps5
  go_wp2_with (go_at_call 8; (with_reducible refine (awake_any _).mono ?_); rintro e _ ⟨rfl, ux, rfl⟩)
  · go_ret; exact RetX.b rfl (by repeat (first | exact Below.refl _ _ | assumption | exact Hd.out (by assumption) | refine Below.alloc ?_ (by first | omega | (simp [size_ext]; try omega)) _ | refine Below.ext ?_ (by first | omega | (simp [size_ext]; try omega)) _ | refine Below.drew ?_ | refine Below.setCell ?_ (by first | omega | (simp [size_ext]; try omega)) _))
  obtain ⟨W, hW⟩ : ∃ W, W = (((w.alloc (.cells #[.int .i64 m.regs, .slice A1 n1 c1, .int .i64 m.ret, .slice A2 n2 c2] 24)).alloc (.cells #[.int .i64 i.op, .int .i64 i.dst, .int .i64 i.a, .int .i64 i.b, .int .i64 i.imm, .int .i64 i.callee, .slice A n c, .int .i64 i.many] 30)).alloc
    (.cells #[.int .i64 t.kind, .int .i64 t.a, .int .i64 t.to0, .int .i64 t.to1] 40)) := ⟨_, rfl⟩
  have FB := hide (show Below w.heap.size w W by subst hW; exact (by repeat (first | exact Below.refl _ _ | assumption | refine Below.alloc ?_ (by simp [size_ext]; try omega) _ | refine Below.ext ?_ (by simp [size_ext]; try omega) _ | refine Below.drew ?_ | refine Below.setCell ?_ (by simp [size_ext]; try omega) _)))
  have HS := hide (show Sl W S1 A1 n1 c1 m.args by subst hW; exact ((H1.out.alloc _).alloc _).alloc _)
  have fle : w.heap.size ≤ W.heap.size := by subst hW; simp; omega
  have fz0 : w.heap.size < W.heap.size := by subst hW; simp; omega
  have fz1 : w.heap.size + 1 < W.heap.size := by subst hW; simp
  have fz2 : w.heap.size + 1 + 1 < W.heap.size := by subst hW; simp
  have m0 : W.cell? ⟨w.heap.size, 0, none⟩ = some (.int .i64 m.regs) := by subst hW; go_simp
  have m1 : W.cell? ⟨w.heap.size, 1, none⟩ = some (.slice A1 n1 c1) := by subst hW; go_simp
  have m2 : W.cell? ⟨w.heap.size, 2, none⟩ = some (.int .i64 m.ret) := by subst hW; go_simp
  have m3 : W.cell? ⟨w.heap.size, 3, none⟩ = some (.slice A2 n2 c2) := by subst hW; go_simp
  have q0 : W.cell? ⟨w.heap.size + 1, 0, none⟩ = some (.int .i64 i.op) := by subst hW; go_simp
  have q1 : W.cell? ⟨w.heap.size + 1, 1, none⟩ = some (.int .i64 i.dst) := by subst hW; go_simp
  have q2 : W.cell? ⟨w.heap.size + 1, 2, none⟩ = some (.int .i64 i.a) := by subst hW; go_simp
  have q3 : W.cell? ⟨w.heap.size + 1, 3, none⟩ = some (.int .i64 i.b) := by subst hW; go_simp
  have q4 : W.cell? ⟨w.heap.size + 1, 4, none⟩ = some (.int .i64 i.imm) := by subst hW; go_simp
  have q5 : W.cell? ⟨w.heap.size + 1, 5, none⟩ = some (.int .i64 i.callee) := by subst hW; go_simp
  have q6 : W.cell? ⟨w.heap.size + 1, 6, none⟩ = some (.slice A n c) := by subst hW; go_simp
  have q7 : W.cell? ⟨w.heap.size + 1, 7, none⟩ = some (.int .i64 i.many) := by subst hW; go_simp
  have t0 : W.cell? ⟨w.heap.size + 1 + 1, 0, none⟩ = some (.int .i64 t.kind) := by subst hW; go_simp
  have t1 : W.cell? ⟨w.heap.size + 1 + 1, 1, none⟩ = some (.int .i64 t.a) := by subst hW; go_simp
  have t2 : W.cell? ⟨w.heap.size + 1 + 1, 2, none⟩ = some (.int .i64 t.to0) := by subst hW; go_simp
  have t3 : W.cell? ⟨w.heap.size + 1 + 1, 3, none⟩ = some (.int .i64 t.to1) := by subst hW; go_simp
  rw [← hW]
  clear hW H1
  obtain ⟨z, hz⟩ : ∃ z : Bool, insertedB i.op = z := ⟨_, rfl⟩
  have k8 : ∀ w, Calls Try.prog 28 #[.int .i64 i.op] w (Ret (.bool z) w) := fun w => hz ▸ inserted_any i.op w
  have k9 : ∀ w, Calls Try.prog 29 #[.int .i64 i.op] w (Ret (.bool z) w) := fun w => hz ▸ inserted6_any i.op w
  have K8 := hide k8; have K9 := hide k9
  clear k8 k9 hz
  refine wp_region_flow_ext [] [2, 5, 10, 13, 18, 20] (by kernel_rfl) rfl (by kernel_rfl) ?_
  repeat (refine flow_known (by kernel_rfl) (fun K hK => ?_); go_simp; (first | (refine hK _ ?_; clear hK K) | (apply Exists.intro; refine ⟨fun _ => ?_, hK _ ?_⟩; (fail); clear hK K)))
  refine flow_keep0 (SlP l1 (readsP m i)) (by kernel_rfl) (SlP.stable_ rfl) ?_ ?_
  · intro u
    go_simp
    exact (reads_any _ S1 m A1 A2 n1 c1 n2 c2 (HS.out.ext u) b1 i A n c IA.out IB.out II.out).mono fun e w' hr => heldSl L1.out ⟨u, rfl⟩ hr
  repeat (refine flow_known (by kernel_rfl) (fun K hK => ?_); go_simp; (first | (refine hK _ ?_; clear hK K) | (apply Exists.intro; refine ⟨fun _ => ?_, hK _ ?_⟩; (fail); clear hK K)))
  refine flow_keep0 (SlP l1 (readsR m i)) (by kernel_rfl) (SlP.stable_ rfl) ?_ ?_
  · intro u
    go_simp
    exact (reads6_any _ S1 m A1 A2 n1 c1 n2 c2 (HS.out.ext u) b1 i A n c IA.out IB.out II.out).mono fun e w' hr => heldSl L1'.out ⟨u, rfl⟩ hr
  refine flow_out [true, true] (.bool true) (by kernel_rfl) ?_ ?_
  · intro u
    try simp only [List.nil_append, List.cons_append, useH_f, useH_t, useH_nil]
    rintro _ ⟨S3, A3, c3, rfl, s3⟩
    try simp only [List.nil_append, List.cons_append, useH_f, useH_t, useH_nil]
    rintro _ ⟨S4, A4, c4, rfl, s4⟩
    go_simp
    exact same_true _ S3 S4 A3 A4 _ c3 _ c4 _ _ s3 s4 (reads_eq m i)
  repeat (refine flow_known (by kernel_rfl) (fun K hK => ?_); go_simp; (first | (refine hK _ ?_; clear hK K) | (apply Exists.intro; refine ⟨fun _ => ?_, hK _ ?_⟩; (fail); clear hK K)))
  refine flow_keep0 (SlP l2 (writesP m i)) (by kernel_rfl) (SlP.stable_ rfl) ?_ ?_
  · intro u
    go_simp
    exact (writes_any _ m A1 A2 n1 c1 n2 c2 i A n c IR.out ID.out II.out).mono fun e w' hr => heldSl L2.out ⟨u, rfl⟩ hr
  repeat (refine flow_known (by kernel_rfl) (fun K hK => ?_); go_simp; (first | (refine hK _ ?_; clear hK K) | (apply Exists.intro; refine ⟨fun _ => ?_, hK _ ?_⟩; (fail); clear hK K)))
  refine flow_keep0 (SlP l2 (writesR m i)) (by kernel_rfl) (SlP.stable_ rfl) ?_ ?_
  · intro u
    go_simp
    exact (writes6_any _ m A1 A2 n1 c1 n2 c2 i A n c IR.out ID.out II.out).mono fun e w' hr => heldSl L2'.out ⟨u, rfl⟩ hr
  refine flow_out [false, false, true, true] (.bool true) (by kernel_rfl) ?_ ?_
  · intro u
    try simp only [List.nil_append, List.cons_append, useH_f, useH_t, useH_nil]
    rintro _ ⟨S3, A3, c3, rfl, s3⟩
    try simp only [List.nil_append, List.cons_append, useH_f, useH_t, useH_nil]
    rintro _ ⟨S4, A4, c4, rfl, s4⟩
    go_simp
    exact same_true _ S3 S4 A3 A4 _ c3 _ c4 _ _ s3 s4 (writes_eq m i)
  repeat (refine flow_known (by kernel_rfl) (fun K hK => ?_); go_simp; (first | (refine hK _ ?_; clear hK K) | (apply Exists.intro; refine ⟨fun _ => ?_, hK _ ?_⟩; (fail); clear hK K)))
  refine flow_keep0 (SlP l3 (needsP t)) (by kernel_rfl) (SlP.stable_ rfl) ?_ ?_
  · intro u
    go_simp
    exact (needs_any _ t IT.out).mono fun e w' hr => heldSl L3.out ⟨u, rfl⟩ hr
  repeat (refine flow_known (by kernel_rfl) (fun K hK => ?_); go_simp; (first | (refine hK _ ?_; clear hK K) | (apply Exists.intro; refine ⟨fun _ => ?_, hK _ ?_⟩; (fail); clear hK K)))
  refine flow_keep0 (SlP l3 (needsP t)) (by kernel_rfl) (SlP.stable_ rfl) ?_ ?_
  · intro u
    go_simp
    exact (needs6_any _ t IT.out).mono fun e w' hr => heldSl L3.out ⟨u, rfl⟩ hr
  refine flow_out [false, false, false, false, true, true] (.bool true) (by kernel_rfl) ?_ ?_
  · intro u
    try simp only [List.nil_append, List.cons_append, useH_f, useH_t, useH_nil]
    rintro _ ⟨S3, A3, c3, rfl, s3⟩
    try simp only [List.nil_append, List.cons_append, useH_f, useH_t, useH_nil]
    rintro _ ⟨S4, A4, c4, rfl, s4⟩
    go_simp
    exact same_true _ S3 S4 A3 A4 _ c3 _ c4 _ _ s3 s4 rfl
  repeat (refine flow_known (by kernel_rfl) (fun K hK => ?_); go_simp; (first | (refine hK _ ?_; clear hK K) | (apply Exists.intro; refine ⟨fun _ => ?_, hK _ ?_⟩; (first | (go_at_call 28; exact Ret.retX (K8.out _)) | (go_at_call 29; exact Ret.retX (K9.out _)) | (go_at_call 8; exact awake_any _)); clear hK K)))
  refine flow_done [true, true, true, true, true, true] (by kernel_rfl) ?_
  intro uq
  simp only [List.nil_append, List.cons_append, endH_f, endH_t, endH_nil]
  rintro v1 _ v2 _ v3 _ v4 _ v5 _ v6 _
  go_wp2
  go_ret
  exact RetX.b rfl (by repeat (first | exact Below.refl _ _ | assumption | exact Hd.out (by assumption) | refine Below.alloc ?_ (by first | omega | (simp [size_ext]; try omega)) _ | refine Below.ext ?_ (by first | omega | (simp [size_ext]; try omega)) _ | refine Below.drew ?_ | refine Below.setCell ?_ (by first | omega | (simp [size_ext]; try omega)) _))
end Go.Proofs.Ytahblhiolkdnnaa
