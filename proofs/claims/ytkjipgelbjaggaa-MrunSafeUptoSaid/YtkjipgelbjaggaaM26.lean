/- Walk: a run notes a call. -/
import Derived.Test.YtkjipgelbjaggaaM20
import Derived.Test.YtkjipgelbjaggaaM23
import Derived.Test.YtkjipgelbjaggaaM25
set_option linter.unusedSimpArgs false
set_option linter.unusedVariables false
namespace Go.Proofs.Ytkjipgelbjaggaa
open Go.RowKit Go.Maps
theorem info_Call : (Try.prog.info? 93).map (fun i => (i.zero, i.size, i.bytes)) = some (some (.agg #[.int .i64 0, .slice none 0 0]), 2, 32) := by kernel_rfl
/-- it returns v; the run behind is r -/
def RunTo (v : Value) (base X K : Nat) (q : RunM) (r : RunS) (w : World) (e : Ending) (w' : World) : Prop := e = .returned v ∧ ∃ q', RunAt w' base X K q' r ∧ RunFr q q' X w w'
theorem argsC_snoc (f : Loc → Option Int) (l : List Loc) (x : Loc) : argsC f (l ++ [x]) = argsC f l ++ [(f x).getD 0] := by unfold argsC; rw [List.map_append]; rfl
theorem readsP_len (m : Machine) (i : Ins) : (readsP m i).length ≤ m.args.length + 2 := by
  unfold readsP regsL
  repeat' split
  all_goals simp
  all_goals omega
theorem onW_w0 {w0 : World} {u : Ext} {b : Bool} : onW (extF w0) b (w0.ext u) (w0.ext u) := onW_same ⟨u, rfl⟩
set_option maxHeartbeats 4000000 in
set_option maxRecDepth 8000 in
theorem call9_any (w : World) (base X K : Nat) (q : RunM) (r : RunS) (h : RunAt w base X K q r) (i : Ins) (Ai : Option Addr) (ni ci : Nat) (ia : InI i.a) (ib : InI i.b) (ii : InI i.imm) (ic : InI i.callee) (ir : InI r.m.ret) (hn1 : q.n1 ≤ 1048576) (hcl : r.calls.length ≤ 1048576) :
    Calls Try.prog 90 #[.pointer (some ⟨X, 0, none⟩), .agg #[.int .i64 i.op, .int .i64 i.dst, .int .i64 i.a, .int .i64 i.b, .int .i64 i.imm, .int .i64 i.callee, .slice Ai ni ci, .int .i64 i.many]] w (RunTo (.bool (callR9 r i).2) base X K q (callR9 r i).1 w) := by
  have HR := hide h
  have IA := hide ia; have IB := hide ib; have II := hide ii; have IC := hide ic; have IR := hide ir
  have hlt := h.lt
  have k3 := h.k5; have k4 := h.k6; have k5 := h.k7; have k6 := h.k8
  have HA := hide h.args; have HSV := hide h.saved
  clear h ia ib ii ic ir
  go_enter Try.func90, Try.ntmps90
  go_wp2_with fail
  obtain ⟨W, hW⟩ : ∃ W, W = ((w.alloc (.cells #[.int .i64 i.op, .int .i64 i.dst, .int .i64 i.a, .int .i64 i.b, .int .i64 i.imm, .int .i64 i.callee, .slice Ai ni ci, .int .i64 i.many] 66)).alloc (.cells #[.int .i64 i.callee, .slice none 0 0] 93)) := ⟨_, rfl⟩
  have FB := hide (show Below w.heap.size w W by subst hW; exact (by repeat (first | exact Below.refl _ _ | assumption | refine Below.alloc ?_ (by simp [size_ext]; try omega) _ | refine Below.ext ?_ (by simp [size_ext]; try omega) _ | refine Below.drew ?_ | refine Below.setCell ?_ (by simp [size_ext]; try omega) _)))
  have FS := hide (show W.heap.size = w.heap.size + 1 + 1 by subst hW; simp)
  have hXW : X < W.heap.size := by have := FS.out; omega
  have m5 : W.cell? ⟨X, 5, none⟩ = some (.int .i64 r.m.regs) := by subst hW; go_simp
  have m6 : W.cell? ⟨X, 6, none⟩ = some (.slice q.A1 q.n1 q.c1) := by subst hW; go_simp
  have m7 : W.cell? ⟨X, 7, none⟩ = some (.int .i64 r.m.ret) := by subst hW; go_simp
  have m8 : W.cell? ⟨X, 8, none⟩ = some (.slice q.A2 q.n2 q.c2) := by subst hW; go_simp
  have i0 : W.cell? ⟨w.heap.size, 0, none⟩ = some (.int .i64 i.op) := by subst hW; go_simp
  have i1 : W.cell? ⟨w.heap.size, 1, none⟩ = some (.int .i64 i.dst) := by subst hW; go_simp
  have i2 : W.cell? ⟨w.heap.size, 2, none⟩ = some (.int .i64 i.a) := by subst hW; go_simp
  have i3 : W.cell? ⟨w.heap.size, 3, none⟩ = some (.int .i64 i.b) := by subst hW; go_simp
  have i4 : W.cell? ⟨w.heap.size, 4, none⟩ = some (.int .i64 i.imm) := by subst hW; go_simp
  have i5 : W.cell? ⟨w.heap.size, 5, none⟩ = some (.int .i64 i.callee) := by subst hW; go_simp
  have i6 : W.cell? ⟨w.heap.size, 6, none⟩ = some (.slice Ai ni ci) := by subst hW; go_simp
  have i7 : W.cell? ⟨w.heap.size, 7, none⟩ = some (.int .i64 i.many) := by subst hW; go_simp
  have hwW : w.heap.size < W.heap.size := by have := FS.out; omega
  have HC := hide (show W.heap[w.heap.size + 1]? = some (.cells #[.int .i64 i.callee, .slice none 0 0] 93 (0, 0)) by
    have := heap_alloc_new (w.alloc (.cells #[.int .i64 i.op, .int .i64 i.dst, .int .i64 i.a, .int .i64 i.b, .int .i64 i.imm, .int .i64 i.callee, .slice Ai ni ci, .int .i64 i.many] 66)) (.cells #[.int .i64 i.callee, .slice none 0 0] 93)
    rw [← hW, World.size_alloc] at this; exact this)
  have HAW : Hd (Sl W q.S q.A1 q.n1 q.c1 r.m.args) := hide (by subst hW; exact (by repeat (first | assumption | exact Hd.out (by assumption) | apply Sl.alloc | apply Sl.ext | apply Sl.drew | apply Sl.drewN)))
  obtain ⟨N, hN⟩ : ∃ N, N = (readsP r.m i).length := ⟨_, rfl⟩
  have HN := hide hN; clear hN
  rw [← hW]
  clear hW
  refine wp_region_flow_ext [] [5] (by kernel_rfl) rfl (by kernel_rfl) ?_
  repeat (refine flow_known (by kernel_rfl) (fun K hK => ?_); go_simp; (first | (refine hK _ ?_; clear hK K) | (apply Exists.intro; refine ⟨fun _ => ?_, hK _ ?_⟩; (fail); clear hK K)))
  refine flow_keep0 (SlB W.heap.size N (readsP r.m i)) (by kernel_rfl) (SlB.stable_ rfl) ?_ ?_
  · intro u
    go_simp
    refine (reads_any _ q.S r.m q.A1 q.A2 q.n1 q.c1 q.n2 q.c2 (HAW.out.ext u) hn1 i Ai ni ci IA.out IB.out II.out).mono ?_
    rintro e _ ⟨A', n', c', rfl, hs, x, rfl⟩
    have : n' = N := by rw [HN.out, hs.len]
    subst this
    exact ⟨_, rfl, ⟨A', c', rfl, hs.more fun b _ h => by simp [size_ext] at h; omega⟩, onW_ext ⟨_, rfl⟩ ⟨x, rfl⟩⟩
  refine flow_out [true] (.int .i64 N) (by kernel_rfl) ?_ ?_
  · intro u
    try simp only [List.nil_append, List.cons_append, useH_f, useH_t, useH_nil]
    rintro _ ⟨A', c', rfl, hs⟩
    go_simp
  repeat (refine flow_known (by kernel_rfl) (fun K hK => ?_); go_simp; (first | (refine hK _ ?_; clear hK K) | (apply Exists.intro; refine ⟨fun _ => ?_, hK _ ?_⟩; (fail); clear hK K)))
  refine flow_done [true] (by kernel_rfl) ?_
  intro uq
  simp only [List.nil_append, List.cons_append, endH_f, endH_t, endH_nil]
  rintro _ ⟨Ar, cr, rfl, hsl⟩
  go_simp
  go_wp2_with fail
  obtain ⟨V, hV⟩ : ∃ V, V = W.ext uq := ⟨_, rfl⟩
  have FV := hide (show Below w.heap.size w V by subst hV; exact (by repeat (first | exact Below.refl _ _ | assumption | exact Hd.out (by assumption) | refine Below.alloc ?_ (by first | omega | (simp [size_ext]; try omega)) _ | refine Below.ext ?_ (by first | omega | (simp [size_ext]; try omega)) _ | refine Below.drew ?_ | refine Below.setCell ?_ (by first | omega | (simp [size_ext]; try omega)) _)))
  have FVW := hide (show W.heap.size ≤ V.heap.size by subst hV; simp [size_ext])
  have HCV := hide (show V.heap[w.heap.size + 1]? = some (.cells #[.int .i64 i.callee, .slice none 0 0] 93 (0, 0)) by subst hV; rw [ext_block _ _ _ (by have := FS.out; omega)]; exact HC.out)
  have HSL := hide (show Sl V (fun b => W.heap.size ≤ b ∧ b < V.heap.size) Ar N cr (readsP r.m i) by rw [hV]; exact hsl.more fun b hb h => ⟨h, hb⟩)
  rw [← hV]
  clear hV hsl
  obtain ⟨B, hB⟩ : ∃ B, B = V.heap.size := ⟨_, rfl⟩
  have HB := hide hB; clear hB
  obtain ⟨i0', hi, hz, hz1, hz2⟩ := info_parts info_int
  have HI0 := hide hi; have HZ := hide hz; have HZ1 := hide hz1; have HZ2 := hide hz2
  clear hi hz hz1 hz2
  clear m5 m6 m7 m8 i0 i1 i2 i3 i4 i5 i6 i7 HC HAW FB
  have hNl : N ≤ 2097152 := by
    rw [HN.out]; have := readsP_len r.m i; have := HR.out.args.len; omega
  go_loopw [20] (fun j wr => ∃ (k : Nat) (va : Value), k ≤ N ∧ j = .int .i64 k ∧ wr.heap[w.heap.size + 1]? = some (.cells #[.int .i64 i.callee, va] 93 (0, 0)) ∧ OwnL wr B 3 (fun _ => False) va (argsC r.cells ((readsP r.m i).take k)) ∧ Sl wr (fun b => W.heap.size ≤ b ∧ b < B) Ar N cr (readsP r.m i) ∧ Below w.heap.size w wr ∧ B ≤ wr.heap.size) (fun j _ => N - (intOf j).toNat)
  case atStart => exact ⟨0, _, Nat.zero_le _, rfl, HCV.out, OwnL.nil_ _ _ _ _, by rw [HB.out]; exact HSL.out, FV.out, by rw [HB.out]; exact Nat.le_refl _⟩
  case round =>
    obtain ⟨k, va, hk, rfl, hC, hown, hsl, hbel, hsz⟩ := hrel
    have HCk := hide hC; have HO := hide hown; have HS := hide hsl; have HBe := hide hbel
    clear hC hown hsl hbel
    have hXw : X < wr.heap.size := by have := FS.out; have := FVW.out; have := HB.out; omega
    by_cases hlt : k < N
    · obtain ⟨b, off, x, rfl, hb, hx, hxi, c0, c1⟩ := at_Loc HS.out hlt
      have HX := hide (take_at hx); have HXI := hide hxi
      clear hx hxi
      go_wp2_with fail
      obtain ⟨V5, hV5⟩ : ∃ V5, V5 = wr.alloc (.cells #[.bool x.slot, .int .i64 x.n] 70) := ⟨_, rfl⟩
      have F5 := hide (show Below w.heap.size w V5 by subst hV5; exact HBe.out.alloc (by have := HBe.out.size; omega) _)
      have F5s := hide (show V5.heap.size = wr.heap.size + 1 by subst hV5; simp)
      have hL5 : wr.heap.size < V5.heap.size := by have := F5s.out; omega
      have hX5 : X < V5.heap.size := by have := F5s.out; omega
      have HC5 := hide (show V5.heap[w.heap.size + 1]? = some (.cells #[.int .i64 i.callee, va] 93 (0, 0)) by subst hV5; rw [Below.heap_alloc _ _ _ (Array.getElem?_eq_some_iff.1 HCk.out).1]; exact HCk.out)
      have hC5 : w.heap.size + 1 < V5.heap.size := (Array.getElem?_eq_some_iff.1 HC5.out).1
      have c5 : V5.cell? ⟨w.heap.size + 1, 1, none⟩ = some va := cell_of_row V5 _ _ _ _ (0, 0) HC5.out
      have HR5 := hide ((HR.out.keep F5.out))
      have r0 := HR5.out.k0
      have l0 : V5.cell? ⟨wr.heap.size, 0, none⟩ = some (.bool x.slot) := by subst hV5; go_simp
      have l1 : V5.cell? ⟨wr.heap.size, 1, none⟩ = some (.int .i64 x.n) := by subst hV5; go_simp
      have HO5 := hide (show OwnL V5 B 3 (fun _ => False) va (argsC r.cells ((readsP r.m i).take k)) by subst hV5; exact HO.out.alloc _)
      have HS5 := hide (show Sl V5 (fun b => W.heap.size ≤ b ∧ b < B) (some ⟨b, off, none⟩) N cr (readsP r.m i) by subst hV5; exact HS.out.alloc _)
      have hq : ∀ u : Ext, (Instr.lookup 97 (.map (some q.bc)) (.agg #[.bool x.slot, .int .i64 x.n]) false).run Try.prog (V5.ext u) = .ok (.int .i64 ((r.cells x).getD 0)) (V5.ext u) := fun u =>
        MapP.get (K := locK) (E := cellE) (HR5.out.cells.ext u) Try.underlying97 HXI.out
      have hgood := HR5.out.cells.getD_good x
      have HG := hide (show InI ((r.cells x).getD 0) from hgood); clear hgood
      rw [← hV5]
      clear hV5 c0 c1
      refine wp_region_row_last (va.ownBlock) [9] [8, 9] 11 (by kernel_rfl) rfl rfl rfl (by kernel_rfl) (by kernel_rfl) ?_
      simp only [List.take_succ_cons, List.take_zero]
      repeat (refine flowG_known0 (by kernel_rfl) (by kernel_rfl) (fun K hK => ?_); go_simp; (first | (refine hK _ ?_; clear hK K) | (apply Exists.intro; refine ⟨fun _ => ?_, hK _ ?_⟩; (fail); clear hK K)))
      refine flowG_keep [] (LitP 3 [.int .i64 ((r.cells x).getD 0)] 1) (by kernel_rfl) (LitP.stable_ rfl) (by kernel_rfl) ?_ ?_
      · intro u hu
        try simp only [List.nil_append, List.cons_append, useH_f, useH_t, useH_nil]
        go_simp
        exact ⟨LitP.mk_ (us := [.int .i64 ((r.cells x).getD 0)]) (by rw [size_ext]), onW_row_alloc hu⟩
      refine flowG_keep [true] (PushP B 3 (fun _ => False) va.ownBlock V5.heap.size (argsC r.cells ((readsP r.m i).take k) ++ [(r.cells x).getD 0])) (by kernel_rfl) (PushP.stable_ rfl) (by kernel_rfl) ?_ ?_
      · intro u hu
        try simp only [List.nil_append, List.cons_append, useH_f, useH_t, useH_nil]
        intro v1 hv1
        have hlen : (argsC r.cells ((readsP r.m i).take k)).length ≤ 2097152 := by unfold argsC; rw [List.length_map, List.length_take]; omega
        exact HeldAt.push_own (α := Int) rfl (.tmp 25) (.tmp 32) 22 rfl B 3 i0' _ 8 Try.underlying22 HI0.out HZ.out HZ1.out HZ2.out rfl (by decide) (fun _ => False) (fun _ => False) va _ _ [.int .i64 ((r.cells x).getD 0)] 3 rfl (HO5.out.ext u) (by go_simp) hv1 ⟨rfl, HG.out⟩ (fun _ h => h) (fun _ _ h => h) (fun _ h => h.elim) (by omega) (by omega) (by rw [size_ext]; have := F5s.out; omega) hu
      repeat (refine flowG_known (by kernel_rfl) (fun K hK => ?_); go_simp; (first | (refine hK _ ?_; clear hK K) | (apply Exists.intro; refine ⟨fun w' => ?_, hK _ ?_⟩; (fail); clear hK K)))
      refine flowG_done [false, true] (by kernel_rfl) ?_
      intro w6 h6
      simp only [List.nil_append, List.cons_append, endH_f, endH_t, endH_nil]
      rintro v8 v9 ⟨hown9, hv9, _⟩
      obtain ⟨A9, c9, rfl⟩ := hown9.form
      generalize (argsC r.cells ((readsP r.m i).take k) ++ [(r.cells x).getD 0]).length = n9 at hown9 hv9 ⊢
      have HW9 := hide hown9; have HV9 := hide hv9; have H6 := hide h6
      clear hown9 hv9 h6
      have hCB : w.heap.size + 1 < B := by have := FS.out; have := FVW.out; have := HB.out; omega
      have hne : ∀ g, va.ownBlock = some g → B ≤ g := fun g hg => (HO5.out.below_ g hg).1
      have HC6 := hide (show w6.heap[w.heap.size + 1]? = some (.cells #[.int .i64 i.callee, va] 93 (0, 0)) from (H6.out.block _ hC5 (fun e => by have := hne _ e.symm; omega)).trans HC5.out)
      have c6 : w6.cell? ⟨w.heap.size + 1, 1, none⟩ = some va := cell_of_row w6 _ _ _ _ (0, 0) HC6.out
      have f6 : w6.frozen? ⟨w.heap.size + 1, 1, none⟩ = false := by simp [World.frozen?, HC6.out]
      have HNE := hide hne; clear hne
      go_simp
      go_wp2_with fail
      go_roundw
      case rel =>
        have hs6 := H6.out.size
        have hne9 : Value.ownBlock (.slice A9 n9 c9) ≠ some (w.heap.size + 1) := fun e => by
          rcases HV9.out with h | ⟨g, h, hg⟩
          · rw [h] at e; have := HNE.out _ e; omega
          · rw [h] at e; injection e with e; omega
        refine ⟨k + 1, _, by omega, by go_num, row_setCell HC6.out 1 _, ?_, ?_, ?_, ?_⟩
        · rw [HX.out, argsC_snoc]
          exact HW9.out.setCell (p := ⟨w.heap.size + 1, 1, none⟩) (fun h => h) hne9 _
        · exact HS5.out.keep (by simp; omega) fun b hb hl => (Below.heap_setCell w6 _ _ b (by intro e; have e' : b = w.heap.size + 1 := e; have := FS.out; omega)).trans (H6.out.block b hl (fun e => by have := HNE.out _ e.symm; omega))
        · exact (F5.out.trans ((Below.refl _ _).grown H6.out (by have := F5s.out; omega) fun g hg => by have := HNE.out g hg; omega)).setCell (by simp) _
        · simp; have := F5s.out; omega
      case measure => simp [intOf]; omega
    · have hkN : k = N := by omega
      subst hkN
      have HOx := hide (show OwnL wr B 3 (fun _ => False) va (argsC r.cells (readsP r.m i)) by have := HO.out; rwa [HN.out, List.take_length] at this)
      clear HO
      have HRx := hide (HR.out.keep HBe.out)
      have HCx := hide HCk.out
      obtain ⟨Av, cv, rfl⟩ := HOx.out.form
      generalize hgn : (argsC r.cells (readsP r.m i)).length = nv at HOx HCx HCk ⊢
      clear hgn HCk
      have hcC : w.heap.size + 1 < wr.heap.size := (Array.getElem?_eq_some_iff.1 HCx.out).1
      have c70 : wr.cell? ⟨w.heap.size + 1, 0, none⟩ = some (.int .i64 i.callee) := cell_of_row wr _ _ _ _ (0, 0) HCx.out
      have c71 : wr.cell? ⟨w.heap.size + 1, 1, none⟩ = some (.slice Av nv cv) := cell_of_row wr _ _ _ _ (0, 0) HCx.out
      have x14 := HRx.out.k14
      go_wp2_with fail
      obtain ⟨j0, hj, hjz, hjz1, hjz2⟩ := info_parts info_Call
      have HJ0 := hide hj; have HJZ := hide hjz; have HJZ1 := hide hjz1; have HJZ2 := hide hjz2
      clear hj hjz hjz1 hjz2
      refine wp_region_row_last (q.vc.ownBlock) [7] [6, 7] 10 (by kernel_rfl) rfl rfl rfl (by kernel_rfl) (by kernel_rfl) ?_
      simp only [List.take_succ_cons, List.take_zero]
      repeat (refine flowG_known (by kernel_rfl) (fun K hK => ?_); go_simp; (first | (refine hK _ ?_; clear hK K) | (apply Exists.intro; refine ⟨fun w' => ?_, hK _ ?_⟩; (fail); clear hK K)))
      repeat (refine flowG_known0 (by kernel_rfl) (by kernel_rfl) (fun K hK => ?_); go_simp; (first | (refine hK _ ?_; clear hK K) | (apply Exists.intro; refine ⟨fun _ => ?_, hK _ ?_⟩; (fail); clear hK K)))
      refine flowG_keep [] (LitP 93 [.int .i64 i.callee, .slice Av nv cv] 1) (by kernel_rfl) (LitP.stable_ rfl) (by kernel_rfl) ?_ ?_
      · intro u hu
        try simp only [List.nil_append, List.cons_append, useH_f, useH_t, useH_nil]
        go_simp
        exact ⟨LitP.mk_ (us := [.int .i64 i.callee, .slice Av nv cv]) (by rw [size_ext]), onW_row_alloc hu⟩
      have hva : ∀ g, (Value.slice Av nv cv).ownBlock = some g → B ≤ g ∧ g < wr.heap.size := fun g hg => HOx.out.below_ g hg
      have HVA := hide hva; clear hva
      have hBX : X < B := by have := FS.out; have := FVW.out; have := HB.out; omega
      have hwB : w.heap.size ≤ B := by have := FS.out; have := FVW.out; have := HB.out; omega
      refine flowG_keep [true] (PushP base 93 (fun b => q.So b ∨ (Value.slice Av nv cv).ownBlock = some b) q.vc.ownBlock wr.heap.size (r.calls ++ [⟨i.callee, argsC r.cells (readsP r.m i)⟩])) (by kernel_rfl) (PushP.stable_ rfl) (by kernel_rfl) ?_ ?_
      · intro u hu
        try simp only [List.nil_append, List.cons_append, useH_f, useH_t, useH_nil]
        intro v1 hv1
        have hRu := HRx.out.ext u
        exact HeldAt.push_own (α := Call) rfl (.tmp 40) (.tmp 42) 35 rfl base 93 j0 _ 32 Try.underlying35 HJ0.out HJZ.out HJZ1.out HJZ2.out rfl (by decide) q.So (fun b => q.So b ∨ (Value.slice Av nv cv).ownBlock = some b) q.vc _ ⟨i.callee, argsC r.cells (readsP r.m i)⟩ [.int .i64 i.callee, .slice Av nv cv] 93 rfl (hRu.calls) (by go_simp) hv1
          (Call.mk_ (x := ⟨i.callee, argsC r.cells (readsP r.m i)⟩) IC.out ((HOx.out.ext u).slo fun b _ h => by rcases h with h | h; exact h.elim; exact .inr h)) (fun _ h => .inl h) (fun g hg h => by
            rcases h with h | h
            · exact (not_mine (HR.out.dSo g h).1).2.2.2.2 hg
            · have := (HVA.out g h).1; have := (HR.out.calls.below_ g hg).2; omega) (fun b h => by
            rcases h with h | h
            · exact (hRu.dSo b h).2
            · have := (HVA.out b h).2; rw [size_ext]; omega) (by omega) (by omega) (by rw [size_ext]; have := HR.out.hX; omega) hu
      repeat (refine flowG_known (by kernel_rfl) (fun K hK => ?_); go_simp; (first | (refine hK _ ?_; clear hK K) | (apply Exists.intro; refine ⟨fun w' => ?_, hK _ ?_⟩; (fail); clear hK K)))
      refine flowG_done [false, true] (by kernel_rfl) ?_
      intro w6 h6
      simp only [List.nil_append, List.cons_append, endH_f, endH_t, endH_nil]
      rintro v8 v9 ⟨hown9, hv9, _⟩
      obtain ⟨A9, c9, rfl⟩ := hown9.form
      generalize (r.calls ++ [(⟨i.callee, argsC r.cells (readsP r.m i)⟩ : Call)]).length = n9 at hown9 hv9 ⊢
      have HW9 := hide hown9; have HV9 := hide hv9; have H6 := hide h6
      clear hown9 hv9 h6
      have hXne : some X ≠ q.vc.ownBlock := fun e => (HR.out.dc X e.symm).1 rfl
      have blk6 := hide (show w6.heap[X]? = some (.cells (runCells q r) 104 (0, 0)) from (H6.out.block X hXw hXne).trans HRx.out.blk)
      have c6 : w6.cell? ⟨X, 14, none⟩ = some q.vc := cell_of_row w6 _ _ _ _ (0, 0) blk6.out
      have f6 : w6.frozen? ⟨X, 14, none⟩ = false := by simp [World.frozen?, blk6.out]
      clear hXne
      have c13 : w6.cell? ⟨X, 13, none⟩ = some (.slice q.Aa q.na q.ca) := cell_of_row w6 _ _ _ _ (0, 0) blk6.out
      have c5 : w6.cell? ⟨X, 5, none⟩ = some (.int .i64 r.m.regs) := cell_of_row w6 _ _ _ _ (0, 0) blk6.out
      have c6' : w6.cell? ⟨X, 6, none⟩ = some (.slice q.A1 q.n1 q.c1) := cell_of_row w6 _ _ _ _ (0, 0) blk6.out
      have c7 : w6.cell? ⟨X, 7, none⟩ = some (.int .i64 r.m.ret) := cell_of_row w6 _ _ _ _ (0, 0) blk6.out
      have c8 : w6.cell? ⟨X, 8, none⟩ = some (.slice q.A2 q.n2 q.c2) := cell_of_row w6 _ _ _ _ (0, 0) blk6.out
      obtain ⟨q', hq'⟩ : ∃ q', q' = { q with vc := (.slice A9 n9 c9), So := fun b => q.So b ∨ (Value.slice Av nv cv).ownBlock = some b } := ⟨_, rfl⟩
      have HR6 : Hd (RunAt (w6.setCell ⟨X, 14, none⟩ (.slice A9 n9 c9)) base X K q' (noteR r i)) := hide (by rw [hq']; exact HRx.out.put_calls H6.out HW9.out HV9.out (fun b hb => by
        have hs6 := H6.out.size
        rcases hb with hb | hb
        · exact ⟨.inl hb, Nat.lt_of_lt_of_le (HRx.out.dSo b hb).2 hs6⟩
        · have h2 := (HVA.out b hb).2; have h1 := (HVA.out b hb).1
          have t1 := HR.out.cells.lt; have t2 := HR.out.first.lt
          exact ⟨.inr ⟨by omega, by omega, by omega, fun e => by have := (HR.out.mem.below_ b e).2; omega⟩, by omega⟩))
      have e1 : q'.A1 = q.A1 ∧ q'.n1 = q.n1 ∧ q'.c1 = q.c1 ∧ q'.A2 = q.A2 ∧ q'.n2 = q.n2 ∧ q'.c2 = q.c2 ∧ q'.bc = q.bc := by subst hq'; exact ⟨rfl, rfl, rfl, rfl, rfl, rfl, rfl⟩
      obtain ⟨e1, e2, e3, e4, e5, e6, e7⟩ := e1
      have hbaseX := HR.out.hX
      have FB6 := hide (show RunFr q q' X w (w6.setCell ⟨X, 14, none⟩ (.slice A9 n9 c9)) by rw [hq']; exact (RunFr.of_below HBe.out).trans (RunFr.calls H6.out HV9.out))
      have HQA := hide (show r.answers.length = q.na from HR.out.answers.len)
      clear hq'
      by_cases hna : q.na = 0
      · have hc : callR9 r i = (noteR r i, false) := by unfold callR9; rw [if_pos (List.eq_nil_of_length_eq_zero (by rw [HQA.out, hna]))]
        have HCR := hide hc
        rw [hna] at c13
        clear hc hna e1 e2 e3 e4 e5 e6 e7
        go_simp
        go_wp2_with fail
        go_ret
        rw [HCR.out]
        exact ⟨rfl, _, HR6.out, FB6.out⟩
      · have hc : callR9 r i = ({ noteR r i with cells := delAll r.cells (lostM r.m) }, true) := by unfold callR9; rw [if_neg (fun e => hna (by rw [← HQA.out, e]; rfl))]
        have HCR := hide hc
        have hz : ((q.na : Int) == 0) = false := by rw [beq_eq_false_iff_ne]; omega
        have HE := hide (And.intro e1 (And.intro e2 (And.intro e3 (And.intro e4 (And.intro e5 (And.intro e6 e7))))))
        clear hc hna e1 e2 e3 e4 e5 e6 e7
        have HA6 := HR6.out.args; have HS6 := HR6.out.saved
        obtain ⟨e1, e2, e3, e4, e5, e6, e7⟩ := HE.out
        rw [e1, e2, e3] at HA6; rw [e4, e5, e6] at HS6
        have HA6' := hide HA6; have HS6' := hide HS6
        clear HA6 HS6 e1 e2 e3 e4 e5 e6 e7
        go_simp
        go_wp2_with (go_at_call 100; refine (lostm_any _ q'.S q'.S r.m q.A1 q.A2 q.n1 q.c1 q.n2 q.c2 HA6'.out HS6'.out IR.out).mono ?_; rintro e _ ⟨Al, nl, cl, Sl', rfl, hol, hSl, ux, rfl⟩; have HOL := hide hol; have HSLl := hide hSl; clear hol hSl)
        obtain ⟨V7, hV7⟩ : ∃ V7, V7 = (w6.setCell ⟨X, 14, none⟩ (.slice A9 n9 c9)) := ⟨_, rfl⟩
        have FX7 := hide (show RunFr q q' X w (V7.ext ux) by rw [hV7]; exact FB6.out.ext ux)
        have HR7 := hide (show RunAt (V7.ext ux) base X K q' (noteR r i) by rw [hV7]; exact HR6.out.ext ux)
        have HSL7 := hide (show Sl (V7.ext ux) (fun b => V7.heap.size ≤ b) Al nl cl (lostM r.m) by
          rw [hV7]; exact HOL.out.sl fun b hb h => by rcases h with h | h; exact (HSLl.out b h).1; exact h)
        have HB7 := hide (show q'.bc < V7.heap.size by rw [hV7]; exact HR6.out.cells.lt)
        have HX7 := hide (show X < V7.heap.size by rw [hV7]; exact HR6.out.lt)
        rw [← hV7]
        obtain ⟨Y, hY⟩ : ∃ Y, Y = V7.ext ux := ⟨_, rfl⟩
        rw [← hY] at FX7 HR7 HSL7 ⊢
        clear hY hV7 HOL HSLl c6 f6 c13 c5 c6' c7 c8 x14 c70 c71
        have HL7 := hide HSL7.out.len
        have hnl := HSL7.out.nle
        go_loopw [58] (fun j wr => ∃ k : Nat, k ≤ nl ∧ j = .int .i64 k ∧ RunAt wr base X K q' { noteR r i with cells := delAll r.cells ((lostM r.m).take k) } ∧ Sl wr (fun b => V7.heap.size ≤ b) Al nl cl (lostM r.m) ∧ RunFr q q' X w wr) (fun j _ => nl - (intOf j).toNat)
        case atStart => exact ⟨0, Nat.zero_le _, rfl, HR7.out, HSL7.out, FX7.out⟩
        case round =>
          rename_i wr'
          obtain ⟨k', hk', rfl, hrun, hsl, hbel⟩ := hrel
          have HRk := hide hrun; have HSk := hide hsl; have HBk := hide hbel
          clear hrun hsl hbel
          by_cases hlt' : k' < nl
          · obtain ⟨b, off, x, rfl, hb, hx, hxi, hcx⟩ := at_int HSk.out hlt'
            have HX' := hide (take_at hx); have HXI := hide hxi
            clear hx hxi
            have r0 := HRk.out.k0
            have hXk := HRk.out.lt
            go_wp2_with fail
            refine wp_region_last_ext [] [] 6 (by kernel_rfl) rfl rfl rfl (by kernel_rfl) (by kernel_rfl) ?_
            simp only [List.take_succ_cons, List.take_zero]
            repeat (refine flow_known (by kernel_rfl) (fun K hK => ?_); go_simp; (first | (refine hK _ ?_; clear hK K) | (apply Exists.intro; refine ⟨fun _ => ?_, hK _ ?_⟩; ((go_at_call 42; exact reg9_any _ _)); clear hK K)))
            refine flow_done [] (by kernel_rfl) ?_
            intro u
            simp only [List.nil_append, List.cons_append, endH_f, endH_t, endH_nil]
            go_simp
            refine wpList_del_map (K := locK) (E := cellE) rfl (.tmp 65) (.tmp 67) 97 rfl Try.underlying97 rfl (HRk.out.ext u).cells ⟨false, x⟩ rfl HXI.out ?_
            intro w9 hm9 hg9
            have HM9 := hide hm9; have HG9 := hide hg9
            clear hm9 hg9
            go_simp
            go_wp2_with fail
            go_roundw
            case rel =>
              refine ⟨k' + 1, by omega, by go_num, ?_, ?_, ?_⟩
              · have hput := (HRk.out.ext u).put_cells HG9.out HM9.out (Nat.le_refl _)
                rw [HX'.out, delAll_snoc]
                exact hput
              · exact (HSk.out.ext u).keep HG9.out.size fun b hb hl => HG9.out.block b hl (fun e => by injection e with e; have := HB7.out; omega)
              · exact (HBk.out.ext u).trans (RunFr.grown HG9.out (fun b e => by injection e with e; subst e; exact .inr (.inl rfl)))
            case measure => simp [intOf]; omega
          · go_wp2_with fail
            go_ret
            have e : (lostM r.m).take k' = lostM r.m := List.take_of_length_le (by have := HL7.out; omega)
            rw [HCR.out]
            refine ⟨rfl, q', ?_, HBk.out⟩
            have := HRk.out
            rw [e] at this
            exact this
end Go.Proofs.Ytkjipgelbjaggaa
