/- law04: walks: read.Print (its tests). Plain: sizes. strings.Builder: what keeps it, rows beside it. law04: walks: read.Print. -/
import Derived.Test.YtljglhaeonbfoaaGreatDoorG57
import Derived.Test.YtljglhaeonbfoaaGreatDoorG21
import Derived.Test.YtljglhaeonbfoaaGreatDoorG15
import Derived.Test.YtljglhaeonbfoaaGreatDoorG17
import Derived.Test.YtljglhaeonbfoaaGreatDoorShelfB
set_option linter.unusedSimpArgs false
set_option linter.unusedVariables false
namespace Go.Proofs.YtljglhaeonbfoaaGreatDoor
open Go.RowKit
theorem leftWs_len4 (d : Int) : (leftWs d).length ≤ 2 := by unfold leftWs; split <;> simp
theorem insWs_len4 {i : Ins} (h : InsR i) : (insWs i).length ≤ 12 := by
 have hl := leftWs_len4 i.dst
 unfold insWs
 split
 ·rw [List.length_append]; simp only [List.length_cons, List.length_nil]; omega
 split
 ·rw [List.length_append]; simp only [List.length_cons, List.length_nil]; omega
 split
 ·simp
 split
 ·rename_i _ _ _ e
  have := (h.call e).2.2.2.2.2.2.1
  rw [List.length_append]; simp only [List.length_cons, List.length_map]; omega
 split
 ·rw [List.length_append]; simp only [List.length_cons, List.length_nil]; omega
 ·rw [List.length_append]; simp only [List.length_cons, List.length_nil]; omega
theorem termWs_len4 (t : Term) : (termWs t).length ≤ 4 := by
 unfold termWs
 split
 ·simp
 split
 ·simp
 split
 ·split <;> simp
 ·simp
theorem wordsN_ins4 : ∀ l : List Ins, (∀ i ∈ l, InsR i) → wordsN (l.map insWs) ≤ 12 * l.length
 | [], _ => Nat.le_refl _
 | i :: l, h => by
  have h1 := insWs_len4 (h i (by simp))
  have h2 := wordsN_ins4 l fun j hj => h j (List.mem_cons_of_mem _ hj)
  simp only [List.map_cons, wordsN, List.length_cons]
  omega
theorem wordsN_blocks4 : ∀ (l : List Block) (n : Nat), (∀ b ∈ l, BlockR b) → wordsN (blocksWs n l) ≤ 774 * l.length
 | [], _, _ => Nat.le_refl _
 | b :: l, n, h => by
  have hb := h b (by simp)
  have h1 := wordsN_ins4 b.ins hb.i
  have h2 := termWs_len4 b.term
  have h3 := wordsN_blocks4 l (n + 1) fun x hx => h x (List.mem_cons_of_mem _ hx)
  have h4 := hb.n
  show wordsN (blockWs n b ++ blocksWs (n + 1) l) ≤ _
  rw [wordsN_app]
  unfold blockWs
  show wordsN ([nmW tBlock, nuW n] :: (b.ins.map insWs ++ [termWs b.term])) + _ ≤ _
  simp only [wordsN, wordsN_app, List.length_cons, List.length_nil]
  omega
theorem show_le {f : Fnc} (h : FncR f) : (show04 f).size ≤ 2000000 := by
 have h1 := show_sz04 h
 have h2 := wordsN_blocks4 f.blocks 0 h.b
 have h3 := h.pn
 have h4 := h.b64
 have h5 : wordsN (fnWs f) = 1 + f.params.length + wordsN (blocksWs 0 f.blocks) := by
  unfold fnWs
  simp only [wordsN, List.length_cons, List.length_map]
  omega
 omega
theorem linesX_ge : ∀ (L : List (List Word)) (acc : ByteArray), acc.size ≤ (linesX acc L).size
 | [], _ => Nat.le_refl _
 | p :: L, acc => by
  have := linesX_ge L (acc ++ lineX p)
  rw [ByteArray.size_append] at this
  show acc.size ≤ (linesX (acc ++ lineX p) L).size
  omega
def seenT (l : List Int) (T : Array Value) : Prop := T.size = 201 ∧ ∀ j, j < 201 → T[j]? = some (.int .i64 (if l.contains (j : Int) = true then 1 else 0))
theorem seenT_zero {T : Array Value} (h : T = Array.replicate 201 (.int .i64 0)) : seenT [] T := by
 subst h
 exact ⟨by simp, fun j hj => by simp [hj]⟩
theorem seenT_put {l : List Int} {T : Array Value} {p : Nat} (h : seenT l T) (hp : p < 201) : seenT (l ++ [(p : Int)]) (T.setIfInBounds p (.int .i64 1)) := by
 refine ⟨by simp [h.1], fun j hj => ?_⟩
 rw [Array.getElem?_setIfInBounds]
 by_cases e : p = j
 ·subst e
  rw [if_pos rfl, if_pos (by rw [h.1]; omega)]
  simp
 ·rw [if_neg e, h.2 j hj]
  have : (l ++ [(p : Int)]).contains (j : Int) = l.contains (j : Int) := by
   rw [Bool.eq_iff_iff]
   simp
   omega
  rw [this]
theorem parsB_step {ps : List Int} {k : Nat} {p : Int} (h : parsB [] ps = parsB (ps.take k) (ps.drop k)) (hx : ps[k]? = some p) : parsB [] ps = (vOk p && !(ps.take k).contains p && parsB (ps.take (k + 1)) (ps.drop (k + 1))) := by
 rw [h, drop_at hx, List.take_add_one, hx]
 rfl
end Go.Proofs.YtljglhaeonbfoaaGreatDoor
namespace Go.Proofs.YtljglhaeonbfoaaGreatDoor
open Go.RowKit
theorem size_list4 (s : ByteArray) : s.size = s.data.toList.length := by simp
theorem BdF.fresh (W : World) (b : Nat) (hb : W.heap.size = b) : BdF b b (Lib.byteCells ByteArray.empty.data.toList) (W.alloc (.cells #[.pointer none, .slice none 0 0] 61)) := by
 have h := Lib.IsBuilderF.of (Lib.fresh_isBuilder 61 5 W)
 rw [hb] at h
 exact h
theorem Lib.OthersKept.row_ {b : Nat} {w w' : World} (h : Lib.OthersKept 5 (some b) w w') {k : Nat} {us : Array Value} {T : TypeId} {fz : Nat × Nat} (hr : w.heap[k]? = some (.cells us T fz)) (hk : k ≠ b) (hT : T ≠ 5) : w'.heap[k]? = some (.cells us T fz) :=
 h k _ hr (fun e => hk (Option.some.inj e)) (fun c fz e => hT (by injection e))
theorem ext_row {w : World} (u : Ext) {k : Nat} {o : Obj} (hr : w.heap[k]? = some o) : (w.ext u).heap[k]? = some o := (ext_block w u k (Array.getElem?_eq_some_iff.1 hr).1).trans hr
theorem alloc_row {w : World} (o' : Obj) {k : Nat} {o : Obj} (hr : w.heap[k]? = some o) : (w.alloc o').heap[k]? = some o := (Below.heap_alloc w _ k (Array.getElem?_eq_some_iff.1 hr).1).trans hr
theorem cells5 {W : World} {M : Nat} {a b d e f : Value} {T : TypeId} (hr : W.heap[M]? = some (.cells #[a, b, d, e, f] T (0, 0))) : W.cell? ⟨M, 0, none⟩ = some a ∧ W.cell? ⟨M, 1, none⟩ = some b ∧ W.cell? ⟨M, 2, none⟩ = some d ∧ W.cell? ⟨M, 3, none⟩ = some e ∧ W.cell? ⟨M, 4, none⟩ = some f :=
 ⟨cell_of_row W M _ _ _ (0, 0) hr, cell_of_row W M _ _ _ (0, 0) hr, cell_of_row W M _ _ _ (0, 0) hr, cell_of_row W M _ _ _ (0, 0) hr, cell_of_row W M _ _ _ (0, 0) hr⟩
end Go.Proofs.YtljglhaeonbfoaaGreatDoor
namespace Go.Proofs.YtljglhaeonbfoaaGreatDoor
open Go.RowKit
abbrev fnV (A : Option Addr) (n k : Nat) (B : Option Addr) (m j : Nat) : Value := .agg #[.slice A n k, .slice B m j]
set_option maxRecDepth 100000 in
set_option maxHeartbeats 32000000 in
theorem print04_any (f : Fnc) (w : World) (S : Nat → Prop) (A B : Option Addr) (n k m j : Nat) (hp : Sl w S A n k f.params) (hb : Sl w S B m j f.blocks) (hv : VarsP w) : Calls Tryz.prog 11 #[fnV A n k B m j] w (RetX (.tuple #[.string (print04 f).1, .int .i64 (print04 f).2]) w) := by
 obtain ⟨ps, bl⟩ := f
 simp only at hp hb
 obtain ⟨C, hC⟩ : ∃ C, w.heap.size = C := ⟨_, rfl⟩
 obtain ⟨W0, hW0⟩ : ∃ W, w.alloc (.cells #[.slice A n k, .slice B m j] 25) = W := ⟨_, rfl⟩
 have HR0 := hide (show W0.heap[C]? = some (.cells #[.slice A n k, .slice B m j] 25 (0, 0)) from by rw [← hW0, ← hC]; exact heap_alloc_new w _)
 have a0 : W0.cell? ⟨C, 0, none⟩ = some (.slice A n k) := cell_of_row W0 C _ _ _ (0, 0) HR0.out
 have a1 : W0.cell? ⟨C, 1, none⟩ = some (.slice B m j) := cell_of_row W0 C _ _ _ (0, 0) HR0.out
 have cl : C < W0.heap.size := (Array.getElem?_eq_some_iff.1 HR0.out).1
 have HB0 := hide (show Below w.heap.size w W0 from by rw [← hW0]; exact (Below.refl _ _).alloc (Nat.le_refl _) _)
 have HBL := hide (show w.heap.size ≤ W0.heap.size from HB0.out.size)
 have HV := hide (show VarsP W0 from by rw [← hW0]; exact hv.alloc _)
 have HP := hide (show Sl W0 S A n k ps from by rw [← hW0]; exact hp.alloc _)
 have HBK := hide (show Sl W0 S B m j bl from by rw [← hW0]; exact hb.alloc _)
 have hln := hp.len
 have hlm := hb.len
 have HLN := hide hln; have HLM := hide hlm
 have hnn := hp.nle
 obtain ⟨X, hX⟩ : ∃ X, print04 ⟨ps, bl⟩ = X := ⟨_, rfl⟩
 rw [hX]
 have HX := hide hX
 have HCQ := hide hC
 obtain ⟨Q, hQ⟩ : ∃ Q, W0.heap.size = Q := ⟨_, rfl⟩
 have HQQ := hide hQ
 have cQ : C < Q := by omega
 clear hp hb hv hX hln hlm
 go_enter Tryz.func11, Tryz.ntmps11
 go_wp2_with fail
 go_loopw [16] (fun i wr => ∃ (x : Nat) (T : Array Value), i = .int .i64 x ∧ x ≤ n ∧ wr = W0.alloc (.cells T 56) ∧ seenT (ps.take x) T ∧ parsB [] ps = parsB (ps.take x) (ps.drop x)) (fun i _ => n - (intOf i).toNat)
 case atStart => exact ⟨0, _, rfl, Nat.zero_le _, rfl, seenT_zero (by kernel_rfl), rfl⟩
 case round =>
  obtain ⟨x, T, rfl, hx, rfl, hT, hpb⟩ := hrel
  have HT := hide hT; have HPB := hide hpb
  clear hT hpb
  by_cases hlt : x < n
  ·obtain ⟨b, off, p, rfl, hb, hxp, hpi, c0⟩ := at_int (HP.out.alloc (.cells T 56)) hlt
   have HXP := hide hxp
   have HSTEP := hide (parsB_step HPB.out hxp)
   have hxi : (x : Int) < n := by omega
   clear hxp
   cases hvo : vOk p with
   | false =>
    have HE := hide (show X = (ByteArray.empty, 2) from by
     rw [← HX.out]; unfold print04 fncB; simp only; rw [HSTEP.out, hvo]; rfl)
    by_cases h1 : p < 1
    ·have d1 : decide (p < 1) = true := by simpa using h1
     go_wp2_with fail
     go_ret2
     rw [HE.out]
     exact ⟨rfl, (HB0.out.alloc HBL.out _).to_ext⟩
    ·have d1 : decide (p < 1) = false := by simpa using h1
     have d2 : decide (200 < p) = true := by unfold vOk at hvo; simp at hvo; simp; omega
     go_wp2_with fail
     go_ret2
     rw [HE.out]
     exact ⟨rfl, (HB0.out.alloc HBL.out _).to_ext⟩
   | true =>
    obtain ⟨p1, p2⟩ := vOk_in hvo
    obtain ⟨q, rfl⟩ := Int.eq_ofNat_of_zero_le (show 0 ≤ p by omega)
    have d1 : decide ((q : Int) < 1) = false := by simp; omega
    have d2 : decide (200 < (q : Int)) = false := by simp; omega
    have q201 : (q : Int) < 201 := by omega
    have tq := HT.out.2 q (by omega)
    cases hc : (ps.take x).contains (q : Int) with
    | true =>
     rw [if_pos hc] at tq
     have HE := hide (show X = (ByteArray.empty, 2) from by
      rw [← HX.out]; unfold print04 fncB; simp only; rw [HSTEP.out, hvo, hc]; rfl)
     go_wp2_with fail
     go_ret2
     rw [HE.out]
     exact ⟨rfl, (HB0.out.alloc HBL.out _).to_ext⟩
    | false =>
     rw [if_neg (by rw [hc]; decide)] at tq
     have HPN := hide (show parsB [] ps = parsB (ps.take (x + 1)) (ps.drop (x + 1)) from by rw [HSTEP.out, hvo, hc]; rfl)
     have HTN := hide (show seenT (ps.take (x + 1)) (T.setIfInBounds q (.int .i64 1)) from by
      have h := seenT_put (p := q) HT.out (by omega)
      rw [List.take_add_one, HXP.out]
      exact h)
     clear hvo hc
     go_wp2_with fail
     go_roundw
     case rel => exact ⟨x + 1, T.setIfInBounds q (.int .i64 1), by go_num, by omega, rfl, HTN.out, HPN.out⟩
     case measure => simp [intOf]; omega
  ·have hxn : x = n := by omega
   subst hxn
   have HPT := hide (show parsB [] ps = true from by rw [HPB.out, drop_end HP.out.len hlt]; rfl)
   obtain ⟨W1, hW1⟩ : ∃ W, W0.alloc (.cells T 56) = W := ⟨_, rfl⟩
   rw [hW1]
   have HB1 := hide (show Below w.heap.size w W1 from by rw [← hW1]; exact HB0.out.alloc HBL.out _)
   have HB1L := hide (show w.heap.size ≤ W1.heap.size from HB1.out.size)
   have HR1 := hide (show W1.heap[C]? = some (.cells #[.slice A x k, .slice B m j] 25 (0, 0)) from by rw [← hW1]; exact alloc_row _ HR0.out)
   have HV1 := hide (show VarsP W1 from by rw [← hW1]; exact HV.out.alloc _)
   have HP1 := hide (show Sl W1 S A x k ps from by rw [← hW1]; exact HP.out.alloc _)
   have HBK1 := hide (show Sl W1 S B m j bl from by rw [← hW1]; exact HBK.out.alloc _)
   have b0 : W1.cell? ⟨C, 0, none⟩ = some (.slice A x k) := cell_of_row W1 C _ _ _ (0, 0) HR1.out
   have b1 : W1.cell? ⟨C, 1, none⟩ = some (.slice B m j) := cell_of_row W1 C _ _ _ (0, 0) HR1.out
   have cl1 : C < W1.heap.size := (Array.getElem?_eq_some_iff.1 HR1.out).1
   clear a0 a1 cl HT HPB hW1 HP HBK HV HR0
   obtain ⟨fb, hfb⟩ : ∃ r, anyF (fun b => !blockB b) bl = r := ⟨_, rfl⟩
   have HC := hide (show Calls Tryz.prog 25 #[.slice B m j, .func (.func 23) #[] #[]] W1 (RetX (.bool fb) W1) from hfb ▸ containsBlocks4_any W1 S B m j bl (fun b => !blockB b) 23 #[] HBK1.out (fun _ _ => by kernel_rfl) (fun x A1 n1 c1 u2 hx => by rw [show (#[blkV x A1 n1 c1] ++ #[] : Array Value) = #[blkV x A1 n1 c1] from rfl]; exact cannot_any x _ S A1 n1 c1 hx.1 hx.2))
   have HFE := hide (show fncB ⟨ps, bl⟩ = (!decide (8 < (x : Int)) && !decide ((m : Int) = 0) && !decide (64 < (m : Int)) && !fb) from by
    unfold fncB
    simp only
    rw [HPT.out, HLN.out, HLM.out, ← hfb, anyF_any4, any_not4,
     show decide (x ≤ 8) = !decide (8 < (x : Int)) from by rw [Bool.eq_iff_iff]; simp; try omega,
     show decide (1 ≤ m) = !decide ((m : Int) = 0) from by rw [Bool.eq_iff_iff]; simp; try omega,
     show decide (m ≤ 64) = !decide (64 < (m : Int)) from by rw [Bool.eq_iff_iff]; simp; try omega]
    simp)
   clear hfb
   have HXE := hide (fun h : fncB ⟨ps, bl⟩ = false => show X = (ByteArray.empty, 2) from by rw [← HX.out]; unfold print04; rw [h]; rfl)
   cases e8 : decide (8 < (x : Int)) with
   | true =>
    have HE := hide (HXE.out (by rw [HFE.out, e8]; rfl))
    go_wp2_with fail
    go_ret2
    rw [HE.out]
    exact ⟨rfl, HB1.out.to_ext⟩
   | false =>
   cases e0 : decide ((m : Int) = 0) with
   | true =>
    have HE := hide (HXE.out (by rw [HFE.out, e8, e0]; rfl))
    have hm0 : (m == 0) = true := by simpa using e0
    have hm0i : ((m : Int) == 0) = true := by simpa using e0
    go_wp2_with fail
    go_ret2
    rw [HE.out]
    exact ⟨rfl, HB1.out.to_ext⟩
   | false =>
   have hm0 : (m == 0) = false := by simpa using e0
   have hm0i : ((m : Int) == 0) = false := by simpa using e0
   cases e64 : decide (64 < (m : Int)) with
   | true =>
    have HE := hide (HXE.out (by rw [HFE.out, e8, e0, e64]; rfl))
    go_wp2_with fail
    go_ret2
    rw [HE.out]
    exact ⟨rfl, HB1.out.to_ext⟩
   | false =>
   cases fb with
   | true =>
    have HE := hide (HXE.out (by rw [HFE.out, e8, e0, e64]; rfl))
    go_wp2_with (go_at_call 25; (with_reducible refine HC.out.mono ?_); rintro e _ ⟨rfl, u2, rfl⟩)
    go_ret2
    rw [HE.out]
    exact ⟨rfl, (HB1.out.ext HB1L.out u2).to_ext⟩
   | false =>
   have HFR := hide (show FncR ⟨ps, bl⟩ from (fncB_iff _).1 (by rw [HFE.out, e8, e0, e64]; rfl))
   obtain ⟨TX, hTX⟩ : ∃ t, show04 ⟨ps, bl⟩ = t := ⟨_, rfl⟩
   have HXT := hide (show X = (TX, 0) from by rw [← HX.out, ← hTX]; unfold print04; rw [if_pos ((fncB_iff _).2 HFR.out)])
   have HTX := hide (show linesX (ByteArray.empty ++ lineX (nmW tFun :: ps.map vrW)) (blocksWs 0 bl) = TX from hTX)
   have HTZ := hide (show TX.size ≤ 2000000 from by rw [← hTX]; exact show_le HFR.out)
   have hx8 : x ≤ 8 := by rw [← HLN.out]; exact HFR.out.pn
   have hm64 : m ≤ 64 := by rw [← HLM.out]; exact HFR.out.b64
   obtain ⟨L0, hL0⟩ : ∃ t, lineX (nmW tFun :: ps.map vrW) = t := ⟨_, rfl⟩
   rw [hL0] at HTX
   have HL0Z := hide (show L0.size ≤ 2000000 from by
    have h := linesX_ge (blocksWs 0 bl) (ByteArray.empty ++ L0)
    rw [HTX.out, ByteArray.size_append] at h
    have := HTZ.out
    omega)
   have HRW := hide (fun (W : World) (g : Nat) (hg : g = W.heap.size) (hs : Sl W S A x k ps) (hv : VarsP W) => show Calls Tryz.prog 27 #[.slice (some ⟨g, 0, none⟩) 2 2] (W.alloc (.cells #[.iface 9 (.string ⟨#[102, 117, 110]⟩), .iface 22 (.slice A x k)] 20)) (RetX (.string L0) (W.alloc (.cells #[.iface 9 (.string ⟨#[102, 117, 110]⟩), .iface 22 (.slice A x k)] 20))) from hL0 ▸ row4_lit W g hg S [Pt4.str tFun, .vars ps] [.iface 9 (.string ⟨#[102, 117, 110]⟩), .iface 22 (.slice A x k)] 2 rfl (repP4 (pStr4 (by decide)) (repP4 (pVars4 hs (by omega)) repN4)) (by decide) hv (ws := nmW tFun :: ps.map vrW) (by simp) (by
     show [tFun] ++ (ps.map docVar ++ []) = _
     rw [vars_text HFR.out.p, List.append_nil]
     rfl))
   clear hTX hL0 HX HXE HFE HPT
   go_upto_region 13 with (first | (go_at_call 25; (with_reducible refine HC.out.mono ?_); rintro e W2 ⟨rfl, u2, hW2⟩; have HB12 := hide (show Below W1.heap.size W1 W2 from by rw [hW2]; exact Below.of_ext W1 u2 (Nat.le_refl _)); clear hW2))
   obtain ⟨b, hb⟩ : ∃ b, W2.heap.size = b := ⟨_, rfl⟩
   obtain ⟨W3, hW3⟩ : ∃ W, W2.alloc (.cells #[.pointer none, .slice none 0 0] 61) = W := ⟨_, rfl⟩
   rw [hW3, hb]
   have HB2 := hide (show Below w.heap.size w W2 from HB1.out.trans (HB12.out.mono HB1L.out))
   have HbL : w.heap.size ≤ b := by rw [← hb]; exact HB2.out.size
   have HBD3 := hide (show BdF b b (Lib.byteCells ByteArray.empty.data.toList) W3 from by rw [← hW3]; exact BdF.fresh W2 b hb)
   have HB3 := hide (show Below b W2 W3 from by rw [← hW3, ← hb]; exact (Below.refl _ _).alloc (Nat.le_refl _) _)
   have HV2 := hide (show VarsP W2 from HV1.out.below HB12.out HV1.out.v.sz)
   have HG := hide (show 6 ≤ b from by rw [← hb]; exact HV2.out.v.sz)
   have HP2 := hide (show Sl W2 S A x k ps from HP1.out.belowAll HB12.out)
   have HBK2 := hide (show Sl W2 S B m j bl from HBK1.out.belowAll HB12.out)
   have HR2 := hide ((HB12.out.block C cl1).trans HR1.out)
   have hCb : C < b := by rw [← hb]; exact (Array.getElem?_eq_some_iff.1 HR2.out).1
   have HR3 := hide (show W3.heap[C]? = some (.cells #[.slice A x k, .slice B m j] 25 (0, 0)) from by rw [← hW3]; exact alloc_row _ HR2.out)
   have HP3 := hide (show Sl W3 S A x k ps from by rw [← hW3]; exact HP2.out.alloc _)
   have HV3 := hide (show VarsP W3 from by rw [← hW3]; exact HV2.out.alloc _)
   have HbW3 : b ≤ W3.heap.size := by rw [← hW3]; simp; omega
   have HBQ := hide hb
   clear HP1 HBK1 HR1 HB12 HB1 HB1L hb hW3 b0 b1 cl1 HC HV1 HP2
   have b0 : W3.cell? ⟨C, 0, none⟩ = some (.slice A x k) := cell_of_row W3 C _ _ _ (0, 0) HR3.out
   have b1 : W3.cell? ⟨C, 1, none⟩ = some (.slice B m j) := cell_of_row W3 C _ _ _ (0, 0) HR3.out
   have cl1 : C < W3.heap.size := (Array.getElem?_eq_some_iff.1 HR3.out).1
   have HRF := hide (HRW.out W3 W3.heap.size rfl HP3.out HV3.out)
   have HWS := hide (fun u3 : Ext => writeString_any b b (Lib.byteCells ByteArray.empty.data.toList) L0 ((W3.alloc (.cells #[.iface 9 (.string ⟨#[102, 117, 110]⟩), .iface 22 (.slice A x k)] 20)).ext u3) ((HBD3.out.keep fun q hq => Below.heap_alloc W3 _ q hq).keep fun q hq => ext_block _ u3 q hq) (by rw [Lib.byteCells_length, ← size_list4]; have := HL0Z.out; show 0 + _ ≤ _; omega) (by rw [size_ext]; simp; omega))
   clear HRW
   go_wp2_with (first
    | (go_at_call 27; (with_reducible refine HRF.out.mono ?_); rintro e _ ⟨rfl, u3, rfl⟩)
    | (go_at_call 26; (with_reducible refine (HWS.out _).mono ?_); rintro e W4 ⟨rfl, hb3, hbl3, hok3⟩; have HBD4 := hide hb3; have HB4 := hide (show Below b W2 W4 from HB3.out.trans (((((Below.refl b W3).alloc HbW3 _).ext (by simp; omega) u3)).trans hbl3)); have HR4 := hide ((HB4.out.block C (by have := HBQ.out; omega)).trans HR2.out); have b1 : W4.cell? ⟨C, 1, none⟩ = some (.slice B m j) := cell_of_row W4 C _ _ _ (0, 0) HR4.out; have cl4 : C < W4.heap.size := (Array.getElem?_eq_some_iff.1 HR4.out).1; clear hb3 hbl3 hok3))
   go_loopw [70] (fun i wr => ∃ (k1 : Nat) (acc : ByteArray), i = .int .i64 k1 ∧ k1 ≤ m ∧ BdF b b (Lib.byteCells acc.data.toList) wr ∧ Below b W2 wr ∧ linesX acc (blocksWs k1 (bl.drop k1)) = TX) (fun i _ => m - (intOf i).toNat)
   case atStart => exact ⟨0, ByteArray.empty ++ L0, rfl, Nat.zero_le _, by rw [← bytes_app]; exact HBD4.out, HB4.out, HTX.out⟩
   case round =>
    clear b0 b1 cl1 cl4 HBD4 HB4 HR4 HRF HWS HBD3 HB3 HR3 HP3 HV3 HbW3 HTX
    obtain ⟨k1, acc, rfl, hk, hbd, hbw, hli⟩ := hrel
    obtain ⟨wq, hwq⟩ : ∃ V, V = wr := ⟨_, rfl⟩
    subst hwq
    have HBD := hide hbd; have HBW := hide hbw; have HLI := hide hli
    have HWw := hide (show Below w.heap.size w wq from HB2.out.trans (hbw.mono HbL))
    have HbL1 : b ≤ wq.heap.size := Nat.le_of_lt hbd.lt
    have HACZ := hide (show acc.size ≤ 2000000 from by have h := linesX_ge (blocksWs k1 (bl.drop k1)) acc; rw [hli] at h; have := HTZ.out; omega)
    clear hbd hbw hli
    by_cases hlt1 : k1 < m
    ·obtain ⟨bb, off, blk, Ai, ni, ci, rfl, hbb, hx, his, g1, g2, g3, g4, d0, d1, d2, d3, d4⟩ := at_Block HBK2.out hlt1
     have HDR := hide (drop_at hx)
     have HBR := hide (HFR.out.b blk (mem_at hx))
     obtain ⟨il, tk, ta, t0, t1⟩ := blk
     dsimp only at his g1 g2 g3 g4 d0 d1 d2 d3 d4
     have HIS := hide his
     have hbb' : bb < b := by have := HBQ.out; omega
     have c0 : wq.cell? ⟨bb, off + k1 * 5, none⟩ = some (.slice Ai ni ci) := (World.cell?_of_block (HBW.out.block bb hbb')).trans d0
     have c1 : wq.cell? ⟨bb, off + k1 * 5 + 1, none⟩ = some (.int .i64 tk) := (World.cell?_of_block (HBW.out.block bb hbb')).trans d1
     have c2 : wq.cell? ⟨bb, off + k1 * 5 + 2, none⟩ = some (.int .i64 ta) := (World.cell?_of_block (HBW.out.block bb hbb')).trans d2
     have c3 : wq.cell? ⟨bb, off + k1 * 5 + 3, none⟩ = some (.int .i64 t0) := (World.cell?_of_block (HBW.out.block bb hbb')).trans d3
     have c4 : wq.cell? ⟨bb, off + k1 * 5 + 4, none⟩ = some (.int .i64 t1) := (World.cell?_of_block (HBW.out.block bb hbb')).trans d4
     have bbl : bb < wq.heap.size := by omega
     have hni : ni ≤ 64 := by rw [← his.len]; exact HBR.out.n
     have hki : (k1 : Int) < m := by omega
     obtain ⟨F, hF⟩ : ∃ F, wq.heap.size = F := ⟨_, rfl⟩
     obtain ⟨W5, hW5⟩ : ∃ W, wq.alloc (.cells #[.slice Ai ni ci, .int .i64 tk, .int .i64 ta, .int .i64 t0, .int .i64 t1] 52) = W := ⟨_, rfl⟩
     have HRO := hide (show W5.heap[F]? = some (.cells #[.slice Ai ni ci, .int .i64 tk, .int .i64 ta, .int .i64 t0, .int .i64 t1] 52 (0, 0)) from by rw [← hW5, ← hF]; exact heap_alloc_new wq _)
     have HBD5 := hide (show BdF b b (Lib.byteCells acc.data.toList) W5 from by rw [← hW5]; exact HBD.out.keep fun q hq => Below.heap_alloc wq _ q hq)
     have HB5 := hide (show Below b W2 W5 from by rw [← hW5]; exact HBW.out.alloc HbL1 _)
     have HV5 := hide (show VarsP W5 from HV2.out.below HB5.out HG.out)
     have hFb : F ≠ b := by have := HBD.out.lt; omega
     have HbW5 : b ≤ W5.heap.size := by have := HB5.out.size; have := HBQ.out; omega
     have HFQ := hide hF; have HW5 := hide hW5
     clear hx his g1 g2 g3 g4 d0 d1 d2 d3 d4 hF hW5
     go_upto_region 17 with (fail)
     rw [HW5.out]
     try rw [HFQ.out]
     obtain ⟨e0', e1', e2', e3', e4'⟩ := cells5 HRO.out
     have fl5 : F < W5.heap.size := (Array.getElem?_eq_some_iff.1 HRO.out).1
     obtain ⟨L1, hL1⟩ : ∃ t, lineX [nmW tBlock, nuW k1] = t := ⟨_, rfl⟩
     obtain ⟨RS, hRS⟩ : ∃ t, blocksWs (k1 + 1) (bl.drop (k1 + 1)) = t := ⟨_, rfl⟩
     have HRS := hide hRS
     have HLI1 := hide (show linesX (acc ++ L1) (il.map insWs ++ (termWs ⟨tk, ta, t0, t1⟩ :: RS)) = TX from by
      have h := HLI.out
      rw [HDR.out] at h
      rw [← hL1, ← hRS, ← h]
      show _ = linesX acc (blockWs k1 ⟨il, ⟨tk, ta, t0, t1⟩⟩ ++ blocksWs (k1 + 1) (bl.drop (k1 + 1)))
      unfold blockWs
      simp only [List.cons_append, List.append_assoc, List.nil_append]
      rfl)
     have HL1Z := hide (show acc.size + L1.size ≤ 2000000 from by have h := linesX_ge (il.map insWs ++ (termWs ⟨tk, ta, t0, t1⟩ :: RS)) (acc ++ L1); rw [HLI1.out, ByteArray.size_append] at h; have := HTZ.out; omega)
     have HRB := hide (show Calls Tryz.prog 27 #[.slice (some ⟨W5.heap.size, 0, none⟩) 2 2] (W5.alloc (.cells #[.iface 9 (.string ⟨#[98, 108, 111, 99, 107]⟩), .iface 3 (.int .i64 k1)] 20)) (RetX (.string L1) (W5.alloc (.cells #[.iface 9 (.string ⟨#[98, 108, 111, 99, 107]⟩), .iface 3 (.int .i64 k1)] 20))) from hL1 ▸ row4_lit W5 W5.heap.size rfl S [Pt4.str tBlock, .int k1] [.iface 9 (.string ⟨#[98, 108, 111, 99, 107]⟩), .iface 3 (.int .i64 k1)] 2 rfl (repP4 (pStr4 (by decide)) (repP4 (pInt4 (by unfold InI; omega)) repN4)) (by decide) HV5.out (ws := [nmW tBlock, nuW k1]) (by simp) rfl)
     have HWB := hide (fun u3 : Ext => writeString_any b b (Lib.byteCells acc.data.toList) L1 ((W5.alloc (.cells #[.iface 9 (.string ⟨#[98, 108, 111, 99, 107]⟩), .iface 3 (.int .i64 k1)] 20)).ext u3) ((HBD5.out.keep fun q hq => Below.heap_alloc W5 _ q hq).keep fun q hq => ext_block _ u3 q hq) (by rw [Lib.byteCells_length, ← size_list4]; have := HL1Z.out; omega) (by rw [size_ext]; simp; omega))
     clear hL1 hRS HBD HBW HLI HDR HACZ c0 c1 c2 c3 c4 bbl
     go_wp2_with (first
      | (go_at_call 27; (with_reducible refine HRB.out.mono ?_); rintro e _ ⟨rfl, u3, rfl⟩)
      | (go_at_call 26; (with_reducible refine (HWB.out _).mono ?_); rintro e W6 ⟨rfl, hb3, hbl3, hok3⟩; have HBD6 := hide hb3; have HB6 := hide (show Below b W2 W6 from HB5.out.trans (((((Below.refl b W5).alloc HbW5 _).ext (by simp; omega) u3)).trans hbl3)); have HR6 := hide (show W6.heap[F]? = some (.cells #[.slice Ai ni ci, .int .i64 tk, .int .i64 ta, .int .i64 t0, .int .i64 t1] 52 (0, 0)) from Lib.OthersKept.row_ hok3 (ext_row u3 (alloc_row _ HRO.out)) hFb (by decide)); obtain ⟨f0, f1, f2, f3, f4⟩ := cells5 HR6.out; have fl6 : F < W6.heap.size := (Array.getElem?_eq_some_iff.1 HR6.out).1; clear hb3 hbl3 hok3))
     go_loopw [84] (fun i wr => ∃ (k2 : Nat) (acc2 : ByteArray), i = .int .i64 k2 ∧ k2 ≤ ni ∧ BdF b b (Lib.byteCells acc2.data.toList) wr ∧ Below b W2 wr ∧ wr.heap[F]? = some (.cells #[.slice Ai ni ci, .int .i64 tk, .int .i64 ta, .int .i64 t0, .int .i64 t1] 52 (0, 0)) ∧ linesX acc2 ((il.drop k2).map insWs ++ (termWs ⟨tk, ta, t0, t1⟩ :: RS)) = TX) (fun i _ => ni - (intOf i).toNat)
     case atStart => exact ⟨0, acc ++ L1, rfl, Nat.zero_le _, by rw [← bytes_app]; exact HBD6.out, HB6.out, HR6.out, HLI1.out⟩
     case round =>
      clear f0 f1 f2 f3 f4 fl6 HBD6 HB6 HR6 HRB HWB HLI1 HL1Z e0' e1' e2' e3' e4' fl5 HV5 HbW5 HBD5 HB5 HRO
      obtain ⟨k2, acc2, rfl, hk2, hbd, hbw, hro, hli⟩ := hrel
      obtain ⟨wi, hwi⟩ : ∃ V, V = wr := ⟨_, rfl⟩
      subst hwi
      have HBD := hide hbd; have HBW := hide hbw; have HLI := hide hli; have HRO := hide hro
      have HbL2 : b ≤ wi.heap.size := Nat.le_of_lt hbd.lt
      obtain ⟨f0, f1, f2, f3, f4⟩ := cells5 hro
      have fl6 : F < wi.heap.size := (Array.getElem?_eq_some_iff.1 hro).1
      clear hbd hbw hli hro
      by_cases hlt2 : k2 < ni
      ·obtain ⟨b2, off2, ins, Ag, ng, cg, rfl, hb2, hx, g0, g1, g2, g3, g4, g5, hsa, g7, d0, d1, d2, d3, d4, d5, d6, d7⟩ := at_Ins HIS.out hlt2
       have HDR := hide (drop_at hx)
       have HIR := hide (HBR.out.i ins (mem_at hx))
       have HSA := hide hsa
       have hb2' : b2 < b := by have := HBQ.out; omega
       have hcp : ∀ o, wi.cell? ⟨b2, o, none⟩ = W2.cell? ⟨b2, o, none⟩ := fun o => World.cell?_of_block (HBW.out.block b2 hb2')
       rw [← hcp] at d0 d1 d2 d3 d4 d5 d6 d7
       have b2l : b2 < wi.heap.size := by omega
       have hki2 : (k2 : Int) < ni := by omega
       obtain ⟨G, hG⟩ : ∃ G, wi.heap.size = G := ⟨_, rfl⟩
       obtain ⟨W7, hW7⟩ : ∃ W, wi.alloc (.cells #[.int .i64 ins.op, .int .i64 ins.dst, .int .i64 ins.a, .int .i64 ins.b, .int .i64 ins.imm, .int .i64 ins.callee, .slice Ag ng cg, .int .i64 ins.many] 45) = W := ⟨_, rfl⟩
       have HRI := hide (show W7.heap[G]? = some (.cells #[.int .i64 ins.op, .int .i64 ins.dst, .int .i64 ins.a, .int .i64 ins.b, .int .i64 ins.imm, .int .i64 ins.callee, .slice Ag ng cg, .int .i64 ins.many] 45 (0, 0)) from by rw [← hW7, ← hG]; exact heap_alloc_new wi _)
       have HBD7 := hide (show BdF b b (Lib.byteCells acc2.data.toList) W7 from by rw [← hW7]; exact HBD.out.keep fun q hq => Below.heap_alloc wi _ q hq)
       have HB7 := hide (show Below b W2 W7 from by rw [← hW7]; exact HBW.out.alloc HbL2 _)
       have HR7 := hide (show W7.heap[F]? = some (.cells #[.slice (some ⟨b2, off2, none⟩) ni ci, .int .i64 tk, .int .i64 ta, .int .i64 t0, .int .i64 t1] 52 (0, 0)) from by rw [← hW7]; exact alloc_row _ HRO.out)
       have HV7 := hide (show VarsP W7 from HV2.out.below HB7.out HG.out)
       have HSA7 := hide (show Sl W7 S Ag ng cg ins.args from HSA.out.belowAll (by rw [HBQ.out]; exact HB7.out))
       have HbW7 : b ≤ W7.heap.size := by have := HB7.out.size; have := HBQ.out; omega
       have HGQ := hide hG; have HW7 := hide hW7
       clear hx hsa g0 g1 g2 g3 g4 g5 g7 hcp hG hW7
       go_upto_region 21 with (fail)
       rw [HW7.out]
       try rw [HGQ.out]
       obtain ⟨h0, h1, h2, h3, h4, h5, h6, h7⟩ := cells8b HRI.out
       have gl7 : G < W7.heap.size := (Array.getElem?_eq_some_iff.1 HRI.out).1
       obtain ⟨LI, hLI⟩ : ∃ t, lineX (insWs ins) = t := ⟨_, rfl⟩
       have HLIN := hide (show linesX (acc2 ++ LI) ((il.drop (k2 + 1)).map insWs ++ (termWs ⟨tk, ta, t0, t1⟩ :: RS)) = TX from by
        have h := HLI.out
        rw [HDR.out] at h
        rw [← hLI, ← h]
        rfl)
       have HLIZ := hide (show acc2.size + LI.size ≤ 2000000 from by have h := linesX_ge ((il.drop (k2 + 1)).map insWs ++ (termWs ⟨tk, ta, t0, t1⟩ :: RS)) (acc2 ++ LI); rw [HLIN.out, ByteArray.size_append] at h; have := HTZ.out; omega)
       have HIL := hide (show Calls Tryz.prog 28 #[.agg #[.int .i64 ins.op, .int .i64 ins.dst, .int .i64 ins.a, .int .i64 ins.b, .int .i64 ins.imm, .int .i64 ins.callee, .slice Ag ng cg, .int .i64 ins.many]] W7 (RetX (.string LI) W7) from hLI ▸ lineIns_any ins W7 S Ag ng cg HIR.out HSA7.out HV7.out)
       have HWI := hide (fun u3 : Ext => writeString_any b b (Lib.byteCells acc2.data.toList) LI (W7.ext u3) (HBD7.out.keep fun q hq => ext_block _ u3 q hq) (by rw [Lib.byteCells_length, ← size_list4]; have := HLIZ.out; omega) (by rw [size_ext]; omega))
       clear hLI HBD HBW HLI HDR HRO f0 f1 f2 f3 f4 fl6 d0 d1 d2 d3 d4 d5 d6 d7
       go_wp2_with (first
        | (go_at_call 28; (with_reducible refine HIL.out.mono ?_); rintro e _ ⟨rfl, u3, rfl⟩)
        | (go_at_call 26; (with_reducible refine (HWI.out _).mono ?_); rintro e W8 ⟨rfl, hb3, hbl3, hok3⟩; have HBD8 := hide hb3; have HB8 := hide (show Below b W2 W8 from HB7.out.trans (((Below.refl b W7).ext HbW7 u3).trans hbl3)); have HR8 := hide (show W8.heap[F]? = some (.cells #[.slice (some ⟨b2, off2, none⟩) ni ci, .int .i64 tk, .int .i64 ta, .int .i64 t0, .int .i64 t1] 52 (0, 0)) from Lib.OthersKept.row_ hok3 (ext_row u3 HR7.out) hFb (by decide)); clear hb3 hbl3 hok3))
       go_roundw
       case rel => exact ⟨k2 + 1, acc2 ++ LI, by go_num, by omega, by rw [← bytes_app]; exact HBD8.out, HB8.out, HR8.out, HLIN.out⟩
       case measure => simp [intOf]; omega
      ·have hki2 : ¬ (k2 : Int) < ni := by omega
       obtain ⟨LT, hLT⟩ : ∃ t, lineX (termWs ⟨tk, ta, t0, t1⟩) = t := ⟨_, rfl⟩
       have HLIN := hide (show linesX (acc2 ++ LT) RS = TX from by
        have h := HLI.out
        rw [drop_end HIS.out.len hlt2] at h
        rw [← hLT, ← h]
        rfl)
       have HLIZ := hide (show acc2.size + LT.size ≤ 2000000 from by have h := linesX_ge RS (acc2 ++ LT); rw [HLIN.out, ByteArray.size_append] at h; have := HTZ.out; omega)
       have HV7 := hide (show VarsP wi from HV2.out.below HBW.out HG.out)
       have HIL := hide (show Calls Tryz.prog 29 #[.agg #[.int .i64 tk, .int .i64 ta, .int .i64 t0, .int .i64 t1]] wi (RetX (.string LT) wi) from hLT ▸ lineTerm_any ⟨tk, ta, t0, t1⟩ wi HBR.out.t HV7.out)
       have HWI := hide (fun u3 : Ext => writeString_any b b (Lib.byteCells acc2.data.toList) LT (wi.ext u3) (HBD.out.keep fun q hq => ext_block _ u3 q hq) (by rw [Lib.byteCells_length, ← size_list4]; have := HLIZ.out; omega) (by rw [size_ext]; omega))
       clear hLT HLI
       go_wp2_with (first
        | (go_at_call 29; (with_reducible refine HIL.out.mono ?_); rintro e _ ⟨rfl, u3, rfl⟩)
        | (go_at_call 26; (with_reducible refine (HWI.out _).mono ?_); rintro e W8 ⟨rfl, hb3, hbl3, hok3⟩; have HBD8 := hide hb3; have HB8 := hide (show Below b W2 W8 from HBW.out.trans (((Below.refl b wi).ext HbL2 u3).trans hbl3)); clear hb3 hbl3 hok3))
       go_roundw
       case rel => exact ⟨k1 + 1, acc2 ++ LT, by go_num, by omega, by rw [← bytes_app]; exact HBD8.out, HB8.out, by rw [HRS.out]; exact HLIN.out⟩
       case measure => simp [intOf]; omega
    ·have HACC := hide (show acc = TX from by have h := HLI.out; rw [drop_end HLM.out hlt1] at h; exact h)
     have hki : ¬ (k1 : Int) < m := by omega
     have HST := hide (Tryz.Builder_String_any_k b b acc.data.toList wq HBD.out HbL1)
     go_wp2_with (go_at_call 30; (with_reducible refine HST.out.mono ?_); rintro e w2 ⟨rfl, _, hbl2, _⟩; have HBF := hide hbl2; clear hbl2)
     go_ret2
     rw [HXT.out]
     refine ⟨?_, ?_⟩
     ·rw [← HACC.out]
      show Ending.returned (.tuple #[.string ⟨acc.data.toList.toArray⟩, .int .i64 0]) = Ending.returned (.tuple #[.string acc, .int .i64 0])
      rw [show (⟨acc.data.toList.toArray⟩ : ByteArray) = acc by cases acc; simp]
     ·exact (HWw.out.trans (HBF.out.mono HbL)).to_ext
end Go.Proofs.YtljglhaeonbfoaaGreatDoor
