/- Walk: a run does an instruction. Maps gone through, at the operation. Walk: are the saved registers as they were? -/
import Derived.Test.YtkjipgelbjaggaaM28
import Derived.OpenShut
import Derived.Test.YtkjipgelbjaggaaM04
set_option linter.unusedSimpArgs false
set_option linter.unusedVariables false
namespace Go.Proofs.Ytkjipgelbjaggaa
open Go.RowKit Go.Maps
def nxtV : Nxt → Value
  | .spot b i => .iface 100 (.agg #[.int .i64 b, .int .i64 i])
  | .done e v => .iface 102 (.agg #[.int .i64 e, .int .i64 v])
theorem callR9_frame (r : RunS) (i : Ins) : (callR9 r i).1.block = r.block ∧ (callR9 r i).1.ins = r.ins ∧ (callR9 r i).1.m = r.m ∧ (callR9 r i).1.t = r.t ∧ (callR9 r i).1.fin = r.fin ∧ (callR9 r i).1.steps = r.steps ∧ (callR9 r i).1.first = r.first ∧ (callR9 r i).1.value = r.value := by
  unfold callR9; split <;> exact ⟨rfl, rfl, rfl, rfl, rfl, rfl, rfl, rfl⟩
theorem valueR_frame (r : RunS) (i : Ins) : (valueR r i).1.block = r.block ∧ (valueR r i).1.ins = r.ins ∧ (valueR r i).1.m = r.m ∧ (valueR r i).1.t = r.t ∧ (valueR r i).1.fin = r.fin ∧ (valueR r i).1.steps = r.steps ∧ (valueR r i).1.first = r.first ∧ (valueR r i).1.value = r.value := by
  have h := callR9_frame r i
  unfold valueR
  repeat' split
  all_goals first | exact ⟨rfl, rfl, rfl, rfl, rfl, rfl, rfl, rfl⟩ | exact h
theorem writesP_len (m : Machine) (i : Ins) : (writesP m i).length ≤ 1 := by
  unfold writesP; repeat' split
  all_goals simp
theorem bits_in (op : BinOp) (x y : Int) : InI (bits op .i64 x y) := of_wf (wf_bits op .i64 x y)
theorem calc_in (o a b : Int) : InI (calcC o a b).1 := by
  have h0 : InI 0 := by unfold InI; omega
  have h1 : InI 1 := by unfold InI; omega
  have ht : ∀ b, InI (truthC b) := fun b => by unfold truthC; split; exact h1; exact h0
  unfold calcC
  by_cases h2 : o = 2
  · rw [if_pos h2]; exact wrap64_in _
  rw [if_neg h2]
  by_cases h3 : o = 3
  · rw [if_pos h3]; exact wrap64_in _
  rw [if_neg h3]
  by_cases h4 : o = 4
  · rw [if_pos h4]; exact wrap64_in _
  rw [if_neg h4]
  by_cases h6 : o = 6
  · rw [if_pos h6]; exact bits_in .and a b
  rw [if_neg h6]
  by_cases h7 : o = 7
  · rw [if_pos h7]; exact bits_in .or a b
  rw [if_neg h7]
  by_cases h8 : o = 8
  · rw [if_pos h8]; exact bits_in .xor a b
  rw [if_neg h8]
  by_cases h9 : o = 9
  · rw [if_pos h9]; exact ht _
  rw [if_neg h9]
  by_cases h10 : o = 10
  · rw [if_pos h10]; exact ht _
  rw [if_neg h10]
  by_cases h5 : o = 5 ∧ b ≠ 0
  · rw [if_pos h5]; exact wrap64_in _
  rw [if_neg h5]; exact h0
/-- what a run writes of numbers is numbers -/
theorem valueR_in (w : World) {base X K : Nat} {q : RunM} {r : RunS} (h : RunAt w base X K q r) {i : Ins} (ii : InI i.imm) : InI (valueR r i).2.1 := by
  have hg : ∀ l, InI ((r.cells l).getD 0) := fun l => h.cells.getD_good l
  have h0 : InI 0 := by unfold InI; omega
  have h1 : InI 1 := by unfold InI; omega
  have hans : InI (r.answers.head?.getD 0) := by
    cases ha : r.answers with
    | nil => exact h0
    | cons y l =>
      have hl := h.answers.len
      obtain ⟨b, off, x, hA, hb, hx, hxi, hc⟩ := at_int h.answers (k := 0) (by rw [← hl, ha]; simp)
      rw [ha] at hx; simp at hx; subst hx; exact hxi
  have hm : ∀ j, InI (r.mem.getD j 0) := fun j => by
    rw [List.getD_eq_getElem?_getD]
    cases hx : r.mem[j]? with
    | none => exact h0
    | some x =>
      obtain ⟨A, c, hv⟩ := h.mem.form
      have := h.mem
      rw [hv] at this
      obtain ⟨b, off, y, _, _, hy, hyi, _⟩ := at_int (this.sl (S' := fun _ => True) (fun _ _ _ => trivial)) (k := j) (List.getElem?_eq_some_iff.1 hx).1
      rw [hx] at hy; injection hy with hy; subst hy; exact hyi
  have hcalc : ∀ o a b, InI (calcC o a b).1 := calc_in
  unfold valueR
  split
  · exact ii
  split
  · split
    · exact hans
    · exact h0
  split
  · split
    · exact hm _
    · exact h0
  split
  · split
    · exact hg _
    · exact h0
  split
  · exact hg _
  · exact hcalc _ _ _
theorem RunAt.mine_lt {w : World} {base X K : Nat} {q : RunM} {r : RunS} (h : RunAt w base X K q r) {b : Nat} (hb : mineB q X b) : b < w.heap.size := by
  rcases hb with e | e | e | e | e
  · rw [e]; exact h.lt
  · rw [e]; exact h.cells.lt
  · rw [e]; exact h.first.lt
  · exact (h.mem.below_ b e).2
  · exact (h.calls.below_ b e).2
section
variable (w : World) (base X K : Nat) (q : RunM) (r : RunS) (h : RunAt w base X K q r) (i : Ins) (Ai : Option Addr) (ni ci : Nat) (ia : InI i.a) (ib : InI i.b) (ii : InI i.imm) (id : InI i.dst) (ic : InI i.callee) (ir : InI r.m.ret) (hn1 : q.n1 ≤ 1048576) (hcl : r.calls.length ≤ 1048576) (hK : K < 1048576) (hins : r.ins < 1048576) (hins0 : 0 ≤ r.ins)
include h ia ib ii id ic ir hn1 hcl hK hins hins0
set_option maxHeartbeats 4000000 in
set_option maxRecDepth 8000 in
theorem ins9_any : Calls Try.prog 46 #[.pointer (some ⟨X, 0, none⟩), .agg #[.int .i64 i.op, .int .i64 i.dst, .int .i64 i.a, .int .i64 i.b, .int .i64 i.imm, .int .i64 i.callee, .slice Ai ni ci, .int .i64 i.many]] w (RunTo (nxtV (insR9 r i).2) base X (K + 1) q (insR9 r i).1 w) := by
  have HR := hide h
  have hlt := h.lt; have hbX := h.hX
  have hbw : base ≤ w.heap.size := by omega
  have IA := hide ia; have IB := hide ib; have II := hide ii; have ID := hide id; have IC := hide ic; have IR := hide ir
  have k0 := h.k0
  have m5 := h.k5; have m6 := h.k6; have m7 := h.k7; have m8 := h.k8
  obtain ⟨N, hN⟩ : ∃ N, N = (readsP r.m i).length := ⟨_, rfl⟩
  have HN := hide hN
  clear h ia ib ii id ic ir hN
  go_enter Try.func46, Try.ntmps46
  go_wp2_with fail
  obtain ⟨W, hW⟩ : ∃ W, W = (w.alloc (.cells #[.int .i64 i.op, .int .i64 i.dst, .int .i64 i.a, .int .i64 i.b, .int .i64 i.imm, .int .i64 i.callee, .slice Ai ni ci, .int .i64 i.many] 66)) := ⟨_, rfl⟩
  have FB := hide (show Below w.heap.size w W by subst hW; exact (by repeat (first | exact Below.refl _ _ | assumption | refine Below.alloc ?_ (by simp [size_ext]; try omega) _ | refine Below.ext ?_ (by simp [size_ext]; try omega) _ | refine Below.drew ?_ | refine Below.setCell ?_ (by simp [size_ext]; try omega) _)))
  have fs := FB.out.size
  have c0 : W.cell? ⟨w.heap.size, 0, none⟩ = some (.int .i64 i.op) := by subst hW; go_simp
  have c1 : W.cell? ⟨w.heap.size, 1, none⟩ = some (.int .i64 i.dst) := by subst hW; go_simp
  have c2 : W.cell? ⟨w.heap.size, 2, none⟩ = some (.int .i64 i.a) := by subst hW; go_simp
  have c3 : W.cell? ⟨w.heap.size, 3, none⟩ = some (.int .i64 i.b) := by subst hW; go_simp
  have c4 : W.cell? ⟨w.heap.size, 4, none⟩ = some (.int .i64 i.imm) := by subst hW; go_simp
  have c5 : W.cell? ⟨w.heap.size, 5, none⟩ = some (.int .i64 i.callee) := by subst hW; go_simp
  have c6 : W.cell? ⟨w.heap.size, 6, none⟩ = some (.slice Ai ni ci) := by subst hW; go_simp
  have c7 : W.cell? ⟨w.heap.size, 7, none⟩ = some (.int .i64 i.many) := by subst hW; go_simp
  have hw1 : w.heap.size < W.heap.size := by subst hW; simp
  have HRW := hide (HR.out.keep FB.out)
  rw [← hW]
  clear hW k0 m5 m6 m7 m8 hlt
  have k0 := HRW.out.k0; have m5 := HRW.out.k5; have m6 := HRW.out.k6; have m7 := HRW.out.k7; have m8 := HRW.out.k8; have hlt := HRW.out.lt
  obtain ⟨wc, hwc⟩ : ∃ wc, wholeC r.cells (readsP r.m i) = wc := ⟨_, rfl⟩
  have HWC := hide hwc
  clear hwc
  refine wp_region_flow_ext [] [9] (by kernel_rfl) rfl (by kernel_rfl) ?_
  repeat (refine flow_known (by kernel_rfl) (fun K hK => ?_); go_simp; (first | (refine hK _ ?_; clear hK K) | (apply Exists.intro; refine ⟨fun _ => ?_, hK _ ?_⟩; (fail); clear hK K)))
  refine flow_keep0 (SlB W.heap.size N (readsP r.m i)) (by kernel_rfl) (SlB.stable_ rfl) ?_ ?_
  · intro u
    go_simp
    refine (reads_any _ q.S r.m q.A1 q.A2 q.n1 q.c1 q.n2 q.c2 (HRW.out.args.ext u) hn1 i Ai ni ci IA.out IB.out II.out).mono ?_
    rintro e _ ⟨A', n', c', rfl, hs, x', rfl⟩
    have : n' = N := by rw [HN.out, hs.len]
    subst this
    exact ⟨_, rfl, ⟨A', c', rfl, hs.more fun b _ h => by simp [size_ext] at h; omega⟩, onW_ext ⟨_, rfl⟩ ⟨x', rfl⟩⟩
  refine flow_out [true] (.bool wc) (by kernel_rfl) ?_ ?_
  · intro u
    try simp only [List.nil_append, List.cons_append, useH_f, useH_t, useH_nil]
    rintro _ ⟨A', c', rfl, hs⟩
    go_simp
    rw [← HWC.out]
    exact whole_any _ q.bc K r.cells (HRW.out.cells.ext u) _ A' N c' (readsP r.m i) hs
  repeat (refine flow_known (by kernel_rfl) (fun K hK => ?_); go_simp; (first | (refine hK _ ?_; clear hK K) | (apply Exists.intro; refine ⟨fun _ => ?_, hK _ ?_⟩; (fail); clear hK K)))
  refine flow_done [true] (by kernel_rfl) ?_
  intro u
  simp only [List.nil_append, List.cons_append, endH_f, endH_t, endH_nil]
  rintro v1 _
  go_simp
  cases wc
  · go_wp2_with (go_at_call 68; refine (broken9_any _).mono ?_; rintro e w' ⟨rfl, rfl⟩)
    go_ret
    have e : insR9 r i = (r, .done 3 0) := by unfold insR9; rw [HWC.out]; rfl
    rw [e]
    exact ⟨rfl, _, (HRW.out.ext u).more (by omega), (RunFr.of_below FB.out).ext _⟩
  · obtain ⟨rv, nv, bv, hv⟩ : ∃ rv nv bv, valueR r i = (rv, nv, bv) := ⟨_, _, _, rfl⟩
    have HVQ := hide hv
    have HVV := hide (show ∀ (W1 : World), RunAt W1 base X K q r → Calls Try.prog 69 #[.pointer (some ⟨X, 0, none⟩), .agg #[.int .i64 i.op, .int .i64 i.dst, .int .i64 i.a, .int .i64 i.b, .int .i64 i.imm, .int .i64 i.callee, .slice Ai ni ci, .int .i64 i.many]] W1 (RunTo (.tuple #[.int .i64 nv, .bool bv]) base X K q rv W1) from fun W1 hW1 => by
      have := value9_any W1 base X K q r hW1 i Ai ni ci IA.out IB.out II.out IC.out IR.out hn1 hcl
      unfold ValTo TupV at this
      rw [hv] at this; exact this)
    have hfr := valueR_frame r i
    rw [hv] at hfr
    have HFR := hide hfr
    have HNI := hide (show InI nv by have := valueR_in w HR.out II.out; rw [hv] at this; exact this)
    clear hv hfr
    cases bv
    · go_wp2_with (first | (go_at_call 69; refine (HVV.out _ (HRW.out.ext u)).mono ?_; rintro e w1 ⟨rfl, q', hq', hb'⟩; have HQ' := hide hq'; have HB' := hide hb'; clear hq' hb') | (go_at_call 70; refine (trap9_any _).mono ?_; rintro e w' ⟨rfl, rfl⟩))
      go_ret
      have e : insR9 r i = (rv, .done 2 0) := by unfold insR9; rw [HWC.out, HVQ.out]; rfl
      rw [e]
      exact ⟨rfl, _, HQ'.out.more (by omega), ((RunFr.of_below FB.out).ext _).trans HB'.out⟩
    · have he : insR9 r i = ({ rv with cells := setAll nv rv.cells (writesP r.m i) }, .spot r.block (r.ins + 1)) := by unfold insR9; rw [HWC.out, HVQ.out]; rfl
      have HE := hide he; clear he
      have HIC := hide fun (k : Nat) (W1 : World) (u : Ext) (hW : Below w.heap.size w W1) => hW
      clear HIC
      go_wp2_with (first | (go_at_call 69; refine (HVV.out _ (HRW.out.ext u)).mono ?_; rintro e w1 ⟨rfl, q', hq', hb'⟩; have HQ' := hide hq'; have HB' := hide hb'; clear hq' hb'))
      have hnm : ¬ mineB q X w.heap.size := fun e => by have := HR.out.mine_lt e; omega
      have hI := HB'.out.block w.heap.size (by rw [size_ext]; omega) hnm
      rw [ext_block _ _ _ hw1] at hI
      have hI1 : w.heap.size < w1.heap.size := Nat.lt_of_lt_of_le (by rw [size_ext]; omega) HB'.out.size
      have ci := fun (j : Nat) => World.cell?_of_block (a := ⟨w.heap.size, j, none⟩) hI
      have d0 := (ci 0).trans c0; have d1 := (ci 1).trans c1; have d2 := (ci 2).trans c2; have d3 := (ci 3).trans c3
      have d4 := (ci 4).trans c4; have d5 := (ci 5).trans c5; have d6 := (ci 6).trans c6; have d7 := (ci 7).trans c7
      clear ci hI c0 c1 c2 c3 c4 c5 c6 c7 k0 m5 m6 m7 m8 hlt
      obtain ⟨fb, fi, fm, ft, ff, fs', ff', fv⟩ := HFR.out
      have k0 := HQ'.out.k0; have m5 := HQ'.out.k5; have m6 := HQ'.out.k6; have m7 := HQ'.out.k7; have m8 := HQ'.out.k8; have hlt := HQ'.out.lt
      rw [fm] at m5 m7
      clear fb fi fm ft ff fs' ff' fv
      obtain ⟨M, hM⟩ : ∃ M, M = (writesP r.m i).length := ⟨_, rfl⟩
      have HM := hide hM; clear hM
      refine wp_region_flow_ext [] [5] (by kernel_rfl) rfl (by kernel_rfl) ?_
      repeat (refine flow_known (by kernel_rfl) (fun K hK => ?_); go_simp; (first | (refine hK _ ?_; clear hK K) | (apply Exists.intro; refine ⟨fun _ => ?_, hK _ ?_⟩; (fail); clear hK K)))
      refine flow_keep0 (SlB w1.heap.size M (writesP r.m i)) (by kernel_rfl) (SlB.stable_ rfl) ?_ ?_
      · intro u
        go_simp
        refine (writes_any _ r.m q'.A1 q'.A2 q'.n1 q'.c1 q'.n2 q'.c2 i Ai ni ci IR.out ID.out II.out).mono ?_
        rintro e _ ⟨A', n', c', rfl, hs, x', rfl⟩
        have : n' = M := by rw [HM.out, hs.len]
        subst this
        exact ⟨_, rfl, ⟨A', c', rfl, hs.more fun b _ h => by simp [size_ext] at h; omega⟩, onW_ext ⟨_, rfl⟩ ⟨x', rfl⟩⟩
      refine flow_out [true] (.int .i64 M) (by kernel_rfl) ?_ ?_
      · intro u
        try simp only [List.nil_append, List.cons_append, useH_f, useH_t, useH_nil]
        rintro _ ⟨A', c', rfl, hs⟩
        go_simp
      repeat (refine flow_known (by kernel_rfl) (fun K hK => ?_); go_simp; (first | (refine hK _ ?_; clear hK K) | (apply Exists.intro; refine ⟨fun _ => ?_, hK _ ?_⟩; (fail); clear hK K)))
      refine flow_done [true] (by kernel_rfl) ?_
      intro u2
      simp only [List.nil_append, List.cons_append, endH_f, endH_t, endH_nil]
      rintro _ ⟨Ar, cr, rfl, hsl⟩
      go_simp
      go_wp2_with fail
      obtain ⟨V, hV⟩ : ∃ V, V = w1.ext u2 := ⟨_, rfl⟩
      have HSL := hide (show Sl V (fun b => w1.heap.size ≤ b) Ar M cr (writesP r.m i) by rw [hV]; exact hsl)
      have HRV := hide (show RunAt V base X K q' rv by rw [hV]; exact HQ'.out.ext u2)
      have HFV := hide (show RunFr q q' X w V by rw [hV]; exact (((RunFr.of_below FB.out).ext u).trans HB'.out).ext u2)
      have HXl := hide (show q'.bc < w1.heap.size from HQ'.out.cells.lt)
      have hM1 : M ≤ 1 := by rw [HM.out]; exact writesP_len _ _
      rw [← hV]
      clear hV hsl d0 d1 d2 d3 d4 d5 d6 d7 k0 m5 m6 m7 m8 hlt
      go_loopw [38] (fun j wr => ∃ k : Nat, k ≤ M ∧ j = .int .i64 k ∧ RunAt wr base X (K + k) q' { rv with cells := setAll nv rv.cells ((writesP r.m i).take k) } ∧ Sl wr (fun b => w1.heap.size ≤ b) Ar M cr (writesP r.m i) ∧ RunFr q q' X w wr) (fun j _ => M - (intOf j).toNat)
      case atStart => exact ⟨0, Nat.zero_le _, rfl, HRV.out, HSL.out, HFV.out⟩
      case round =>
        obtain ⟨k, hk, rfl, hrun, hsl, hfr⟩ := hrel
        have HRk := hide hrun; have HSk := hide hsl; have HFk := hide hfr
        clear hrun hsl hfr
        by_cases hlt : k < M
        · obtain ⟨b, off, x, rfl, hb, hx, hxi, c0, c1⟩ := at_Loc HSk.out hlt
          have HX := hide (take_at hx); have HXI := hide hxi
          clear hx hxi
          have r0 := HRk.out.k0
          have hXk := HRk.out.lt
          go_wp2_with fail
          refine wp_region_last_ext [] [] 6 (by kernel_rfl) rfl rfl rfl (by kernel_rfl) (by kernel_rfl) ?_
          simp only [List.take_succ_cons, List.take_zero]
          repeat (refine flow_known (by kernel_rfl) (fun K hK => ?_); go_simp; (first | (refine hK _ ?_; clear hK K) | (apply Exists.intro; refine ⟨fun _ => ?_, hK _ ?_⟩; (fail); clear hK K)))
          refine flow_done [] (by kernel_rfl) ?_
          intro u3
          simp only [List.nil_append, List.cons_append, endH_f, endH_t, endH_nil]
          go_simp
          refine wpList_put_map (K := locK) (E := cellE) rfl (.tmp 45) (.tmp 46) (.tmp 47) 97 rfl Try.underlying97 rfl ((HRk.out.alloc (.cells #[.bool x.slot, .int .i64 x.n] 70)).ext u3).cells (by unfold maxLen; omega) x rfl HXI.out nv rfl HNI.out ?_
          intro w9 hm9 hg9
          have HM9 := hide hm9; have HG9 := hide hg9
          clear hm9 hg9
          go_simp
          go_wp2_with fail
          go_roundw
          case rel =>
            refine ⟨k + 1, by omega, by go_num, ?_, ?_, ?_⟩
            · have hput := ((HRk.out.alloc (.cells #[.bool x.slot, .int .i64 x.n] 70)).ext u3).put_cells HG9.out HM9.out (by omega)
              rw [HX.out, setAll_snoc]
              exact hput
            · exact ((HSk.out.alloc _).ext u3).keep HG9.out.size fun b hb hl => HG9.out.block b hl (fun e => by injection e with e; have := HXl.out; omega)
            · exact (HFk.out.trans (RunFr.of_below (((Below.refl _ _).alloc (Nat.le_refl _) _).ext (by simp) u3))).trans (RunFr.grown HG9.out (fun b e => by injection e with e; subst e; exact .inr (.inl rfl)))
          case measure => simp [intOf]; omega
        · have e : (writesP r.m i).take k = writesP r.m i := List.take_of_length_le (by have := HM.out; omega)
          have HEt := hide e
          clear e
          obtain ⟨fb, fi, fm, ft, ff, fs', ff', fv⟩ := HFR.out
          have r1 := HRk.out.k1; have r2 := HRk.out.k2
          change wr.cell? ⟨X, 1, none⟩ = some (.int .i64 rv.block) at r1
          change wr.cell? ⟨X, 2, none⟩ = some (.int .i64 rv.ins) at r2
          rw [fb] at r1; rw [fi] at r2
          have hXk := HRk.out.lt
          clear fb fi fm ft ff fs' ff' fv
          go_wp2_with fail
          refine wp_region_ext (by kernel_rfl) (by kernel_rfl) ?_
          repeat (any_goals (first | go_big_quiet_step ((fail)) | quiet_step ((fail))))
          refine wpQuiet_nil ?_
          rintro _ ⟨uq, rfl⟩
          go_wp2_with fail
          go_ret
          rw [HE.out]
          refine ⟨rfl, q', ?_, HFk.out.ext uq⟩
          have := HRk.out
          rw [HEt.out] at this
          exact (this.more (by omega)).ext uq
end
end Go.Proofs.Ytkjipgelbjaggaa
set_option linter.unusedSimpArgs false
set_option linter.unusedVariables false
namespace Go.Proofs.Ytkjipgelbjaggaa
open Go.RowKit Go.Maps
section
variable {P : Program} {α β : Type} {K : KeyT P α} {E : ElT P β} {w : World} {n b r cnt : Nat} {f : α → Option β} {left : α → Bool} {ops : Array Oper} {rest : List Oper} {o : Oper} {a : Act} {Q : Exit → Act → World → Prop}
theorem wpList_range_map (hg : o.guard = none) (m : Operand) (t : TypeId) (hop : o.op = Op.range t m) (ht : P.underlying t = some (.map K.t E.e)) (hm : a.eval m = .map (some b)) (hown : MapP K E w b n f)
    (hK : ∀ w' cnt, RangeP K E w' b w.heap.size n f (fun x => (f x).isSome) cnt → w.grownBy w' none → w'.heap.size = w.heap.size + 1 → wpList P ops Q rest (a.put o.dst (.pointer (some ⟨w.heap.size, 0, none⟩))) w') :
    wpList P ops Q (o :: rest) a w := by
  refine wpList_plain hg fun K' hK' => ?_
  obtain ⟨w', cnt, hrun, r1, r2, r3⟩ := hown.range ht
  unfold Oper.wp
  simp [execOp, hop, hm, hrun, Result.andThen]
  exact hK' _ _ (hK w' cnt r1 r2 r3)
theorem wpList_next_map [DecidableEq α] (hg : o.guard = none) (it : Operand) (hop : o.op = Op.next it false) (hit : a.eval it = .pointer (some ⟨r, 0, none⟩)) (h : RangeP K E w b r n f left cnt)
    (hDone : (∀ x, left x = false) → wpList P ops Q rest (a.put o.dst (.tuple #[.bool false])) w)
    (hMore : ∀ x y w' cnt', K.good x → E.good y → left x = true → f x = some y → RangeP K E w' b r n f (fun z => left z && !decide (z = x)) cnt' → cnt' < cnt → w.grownBy w' (some r) → w'.heap.size = w.heap.size →
      (Instr.entry (.pointer (some ⟨r, 0, none⟩))).run P w' = .ok (.tuple #[K.val x, E.val y]) w' → wpList P ops Q rest (a.put o.dst (.tuple #[.bool true, K.val x, E.val y])) w') :
    wpList P ops Q (o :: rest) a w := by
  refine wpList_plain hg fun K' hK' => ?_
  unfold Oper.wp
  rcases h.next o.type with ⟨h0, hl, hrun⟩ | ⟨x, y, w', cnt', hx, hy, hlx, hfx, hrun, hrg, hlt, hgr, hsz, hen⟩
  · simp [execOp, hop, hit, hrun, Result.andThen]
    exact hK' _ _ (hDone hl)
  · simp [execOp, hop, hit, hrun, Result.andThen]
    exact hK' _ _ (hMore x y w' cnt' hx hy hlx hfx hrg hlt hgr hsz hen)
end
end Go.Proofs.Ytkjipgelbjaggaa
set_option linter.unusedSimpArgs false
set_option linter.unusedVariables false
namespace Go.Proofs.Ytkjipgelbjaggaa
open Go.RowKit Go.Maps
open Classical in
theorem keptR_no {r : RunS} {l : Loc} {n : Int} (h : r.first l = some n) (h' : r.cells l ≠ some n) : keptR r = false := by
  unfold keptR; rw [decide_eq_false_iff_not]; exact fun e => h' (e l n h)
open Classical in
theorem keptR_yes {r : RunS} (h : ∀ l n, r.first l = some n → r.cells l = some n) : keptR r = true := by
  unfold keptR; rw [decide_eq_true_iff]; exact h
theorem locK_val (x : Loc) : locK.val x = .agg #[.bool x.slot, .int .i64 x.n] := rfl
theorem cellE_val (y : Int) : cellE.val y = .int .i64 y := rfl
set_option maxHeartbeats 2000000 in
set_option maxRecDepth 8000 in
theorem kept9_any (w : World) (base X K : Nat) (q : RunM) (r : RunS) (h : RunAt w base X K q r) : Calls Try.prog 71 #[.pointer (some ⟨X, 0, none⟩)] w (RetX (.bool (keptR r)) w) := by
  have HR := hide h
  have k11 := h.k11
  have hlt := h.lt
  clear h
  go_enter Try.func71, Try.ntmps71
  go_wp2_with (refine wpList_range_map (K := locK) (E := cellE) rfl (.tmp 10) 97 rfl Try.underlying97 rfl HR.out.first ?_; intro w1 cnt hrg hg1 hs1; have HRG := hide hrg; have HG1 := hide hg1; have HS1 := hide hs1; clear hrg hg1 hs1)
  go_simp
  go_wp2_with fail
  have HB1 := hide ((Below.refl w.heap.size w).grown HG1.out (Nat.le_refl _) (fun k e => by cases e))
  go_loopw [12] (fun j wr => ∃ (left : Loc → Bool) (c : Nat), RangeP locK cellE wr q.bf w.heap.size K r.first left c ∧ (∀ l n, r.first l = some n → left l = false → r.cells l = some n) ∧ Below w.heap.size w wr) (fun _ wr => wr.rangeLeft q.bf w.heap.size)
  case atStart => exact ⟨_, _, HRG.out, fun l n h h' => by rw [h] at h'; simp at h', HB1.out⟩
  case round =>
    obtain ⟨left, c, hrg, hleft, hbel⟩ := hrel
    have hm := hrg.left_eq
    have HRGk := hide hrg; have HL := hide hleft; have HBk := hide hbel; have HM := hide hm
    clear hrg hleft hbel hm
    go_wp2_with (refine wpList_next_map (K := locK) (E := cellE) rfl (.tmp 11) rfl rfl HRGk.out ?_ ?_)
    · intro hl
      go_wp2_with fail
      go_ret
      exact ⟨ret_bool (keptR_yes fun l n h => HL.out l n h (hl l)).symm, Below.to_ext HBk.out⟩
    · intro x y w' cnt' hx hy hlx hfx hrg' hlt' hgr hsz hen
      rw [locK_val, cellE_val] at hen
      rw [locK_val, cellE_val]
      have HX := hide hx; have HLX := hide hlx; have HFX := hide hfx; have HRG' := hide hrg'; have HGR := hide hgr; have HLT := hide hlt'; have HSZ := hide hsz
      have hbw := hide (HBk.out.grown HGR.out (by have := HBk.out.size; omega) (fun k e => by injection e with e; omega))
      have hxi : InI x.n := hx
      have HXI := hide hxi
      clear hx hy hlx hfx hrg' hgr hxi hlt' hsz
      have hRw := HR.out.keep hbw.out
      have k0 := hRw.k0
      have hXl := hRw.lt
      have hq : ∀ u : Ext, (Instr.lookup 97 (.map (some q.bc)) (.agg #[.bool x.slot, .int .i64 x.n]) true).run Try.prog ((w'.alloc (.cells #[.bool x.slot, .int .i64 x.n] 70)).ext u) = .ok (.tuple #[.int .i64 ((r.cells x).getD 0), .bool (r.cells x).isSome]) ((w'.alloc (.cells #[.bool x.slot, .int .i64 x.n] 70)).ext u) := fun u =>
        MapP.getOk (K := locK) (E := cellE) ((hRw.alloc _).ext u).cells Try.underlying97 HXI.out
      clear hRw
      cases hcx : r.cells x with
      | none =>
        have HN := hide (show keptR r = false from keptR_no HFX.out (by rw [hcx]; simp))
        simp only [hcx, Option.getD_none, Option.isSome_none] at hq
        clear hcx
        go_wp2_with fail
        refine wp_region_ext (by kernel_rfl) (by kernel_rfl) ?_
        repeat (any_goals (first | go_big_quiet_step ((fail)) | quiet_step ((fail))))
        refine wpQuiet_nil ?_
        rintro _ ⟨uq, rfl⟩
        go_wp2_with fail
        go_ret
        exact ⟨ret_bool HN.out.symm, Below.to_ext ((hbw.out.alloc (by have := hbw.out.size; omega) _).ext (by have := hbw.out.size; simp; omega) _)⟩
      | some z =>
        simp only [hcx, Option.getD_some, Option.isSome_some] at hq
        by_cases hzy : z = y
        · subst hzy
          have HCX := hide hcx
          clear hcx
          go_wp2_with fail
          refine wp_region_ext (by kernel_rfl) (by kernel_rfl) ?_
          repeat (any_goals (first | go_big_quiet_step ((fail)) | quiet_step ((fail))))
          refine wpQuiet_nil ?_
          rintro _ ⟨uq, rfl⟩
          go_wp2_with fail
          have hV : ∀ b, b < w'.heap.size → ((w'.alloc (.cells #[.bool x.slot, .int .i64 x.n] 70)).ext uq).heap[b]? = w'.heap[b]? := fun b hb => (ext_block _ _ _ (by simp; omega)).trans (Below.heap_alloc _ _ _ hb)
          have HRV := hide (HRG'.out.keep (hV _ HRG'.out.map.lt) (hV _ HRG'.out.lt))
          clear hV
          go_roundw
          case rel =>
            refine ⟨_, cnt', HRV.out, fun l n h1 h2 => ?_, (hbw.out.alloc (by have := hbw.out.size; omega) _).ext (by have := hbw.out.size; simp; omega) _⟩
            by_cases e : l = x
            · subst e; rw [HFX.out] at h1; injection h1 with h1; subst h1; exact HCX.out
            · refine HL.out l n h1 ?_
              simpa [e] using h2
          case measure => rw [HRV.out.left_eq, HM.out]; exact HLT.out
        · have HN := hide (show keptR r = false from keptR_no HFX.out (by rw [hcx]; intro e; injection e with e; exact hzy e))
          have hb : (z != y) = true := by rw [bne_iff_ne]; exact hzy
          clear hcx hzy
          go_wp2_with fail
          refine wp_region_ext (by kernel_rfl) (by kernel_rfl) ?_
          repeat (any_goals (first | go_big_quiet_step ((fail)) | quiet_step ((fail))))
          refine wpQuiet_nil ?_
          rintro _ ⟨uq, rfl⟩
          go_wp2_with fail
          go_ret
          exact ⟨ret_bool HN.out.symm, Below.to_ext ((hbw.out.alloc (by have := hbw.out.size; omega) _).ext (by have := hbw.out.size; simp; omega) _)⟩
end Go.Proofs.Ytkjipgelbjaggaa
