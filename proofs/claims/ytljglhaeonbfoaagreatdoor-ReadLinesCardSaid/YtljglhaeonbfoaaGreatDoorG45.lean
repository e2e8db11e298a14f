/- law04: what stands while the document reads a block. law04: walks: the document reads a block. Printed by gen_d4j.py. -/
import Derived.Test.YtljglhaeonbfoaaGreatDoorG44
import Derived.Test.YtljglhaeonbfoaaGreatDoorG36
import Derived.Deep.DeepCutAuto
set_option linter.unusedSimpArgs false
set_option linter.unusedVariables false
namespace Go.Proofs.YtljglhaeonbfoaaGreatDoor
open Go.RowKit
section
variable {w0 w W W' : World} {R Z M c : Nat} {S St St' : Nat → Prop} {T TZ : TypeId} {cs cs' zs zs' : Array Value} {v v' : Value} {t t' : Term} {l l' : List Ins} {s s' : Cur}
theorem DocAt.alloc4 (h : DocAt w S c s) (o : Obj) : DocAt (w.alloc o) S c s := h.below ((Below.refl _ _).alloc (Nat.le_refl _) o)
theorem DY4.grown {row : Option Nat} (h : DY4 w0 W R Z M c S TZ T zs cs s) (hg : W.grownBy W' row) (hr : ∀ g, row = some g → M < g) : DY4 w0 W' R Z M c S TZ T zs cs s :=
 ⟨⟨h.xa.ra.grown hg (fun g e => by have := hr g e; have := h.z2; have := h.z1; omega), (hg.block M h.xa.ml (fun e => by have := hr M e.symm; omega)).trans h.xa.row, h.xa.o2⟩, (hg.block Z h.zx.ml (fun e => by have := hr Z e.symm; have := h.z2; omega)).trans h.zrow, h.z1, h.z2⟩
abbrev zbCs : Array Value := #[.slice none 0 0, .int .i64 0, .int .i64 0, .int .i64 0, .int .i64 0]
structure BA4 (w0 W : World) (R Z M c : Nat) (S : Nat → Prop) (v : Value) (t : Term) (l : List Ins) (St : Nat → Prop) (s : Cur) : Prop where
 ya : DY4 w0 W R Z M c S 52 52 zbCs (blCs v t) s
 own : OwnL W (M + 1) 45 St v l
 st : ∀ b, St b → M < b ∧ b < W.heap.size
theorem BA4.cm (h : BA4 w0 W R Z M c S v t l St s) : c < M := by have := h.ya.z1; have := h.ya.z2; have := h.ya.xa.ra.o1; omega
theorem BA4.call (h : BA4 w0 W R Z M c S v t l St s) (hon : Only c W W') (hat : DocAt W' S c s') : BA4 w0 W' R Z M c S v t l St s' where
 ya := h.ya.call hon hat
 own := h.own.keep hon.size (fun b hb hl => hon.block b hl (by have := (h.st b hb).1; have := h.cm; omega)) fun g hg => hon.block g (h.own.below_ g hg).2 (by have := (h.own.below_ g hg).1; have := h.cm; omega)
 st := fun b hb => ⟨(h.st b hb).1, Nat.lt_of_lt_of_le (h.st b hb).2 hon.size⟩
theorem BA4.alloc (h : BA4 w0 W R Z M c S v t l St s) (o : Obj) : BA4 w0 (W.alloc o) R Z M c S v t l St s := h.call ((Only.refl c W).alloc o) (h.ya.xa.ra.rd.cur.alloc4 o)
theorem BA4.put (h : BA4 w0 W R Z M c S v t l St s) {j : Nat} {x : Value} (hr : (blCs v t).setIfInBounds j x = blCs v t') : BA4 w0 (W.setCell ⟨M, j, none⟩ x) R Z M c S v t' l St s where
 ya := h.ya.set hr
 own := h.own.setCell (fun e => by have h5 : M < M := (h.st _ e).1; omega) (fun e => by have h5 : M + 1 ≤ M := (h.own.below_ _ e).1; omega) x
 st := fun b hb => by have := h.st b hb; simpa using this
theorem BA4.term (h : BA4 w0 W R Z M c S v t l St s) (t' : Term) : BA4 w0 ((((W.setCell ⟨M, 1, none⟩ (.int .i64 t'.kind)).setCell ⟨M, 2, none⟩ (.int .i64 t'.a)).setCell ⟨M, 3, none⟩ (.int .i64 t'.to0)).setCell ⟨M, 4, none⟩ (.int .i64 t'.to1)) R Z M c S v t' l St s :=
 (((h.put (t' := ⟨t'.kind, t.a, t.to0, t.to1⟩) (j := 1) (x := .int .i64 t'.kind) rfl).put (t' := ⟨t'.kind, t'.a, t.to0, t.to1⟩) (j := 2) (x := .int .i64 t'.a) rfl).put (t' := ⟨t'.kind, t'.a, t'.to0, t.to1⟩) (j := 3) (x := .int .i64 t'.to0) rfl).put (t' := t') (j := 4) (x := .int .i64 t'.to1) rfl
theorem BA4.push (h : BA4 w0 W R Z M c S v t l St s) (hg : W.grownBy W' v.ownBlock) (ho : OwnL W' (M + 1) 45 St' v' l') (st : ∀ b, St' b → M < b ∧ b < W'.heap.size) : BA4 w0 (W'.setCell ⟨M, 0, none⟩ v') R Z M c S v' t l' St' s where
 ya := (h.ya.grown hg (fun g e => by have := (h.own.below_ g e).1; omega)).set rfl
 own := ho.setCell (fun e => by have h5 : M < M := (st _ e).1; omega) (fun e => by have h5 : M + 1 ≤ M := (ho.below_ _ e).1; omega) _
 st := fun b hb => by have := st b hb; simpa using this
def DWholeP (S : Nat → Prop) (c : Nat) (w : World) (r : Block × Cur) (e : Ending) (w' : World) : Prop :=
 ∃ A n k St, e = .returned (.agg (blCs (.slice A n k) r.1.term)) ∧ OwnL w' w.heap.size 45 St (.slice A n k) r.1.ins ∧ (∀ b, St b → w.heap.size ≤ b ∧ b < w'.heap.size) ∧ TermIn r.1.term ∧ DocAt w' S c r.2 ∧ Only c w w'
theorem BA4.fin (h : BA4 w0 W R Z M c S v t l St s) :
  ∃ X, X = ((((W.setCell ⟨Z, 0, none⟩ v).setCell ⟨Z, 1, none⟩ (.int .i64 t.kind)).setCell ⟨Z, 2, none⟩ (.int .i64 t.a)).setCell ⟨Z, 3, none⟩ (.int .i64 t.to0)).setCell ⟨Z, 4, none⟩ (.int .i64 t.to1) ∧ DY4 w0 X R Z M c S 52 52 (blCs v t) (blCs v t) s ∧ OwnL X (M + 1) 45 St v l ∧ ∀ b, St b → M < b ∧ b < X.heap.size := by
 have z2 := h.ya.z2
 have one : ∀ {W : World} (j : Nat) (x : Value), (OwnL W (M + 1) 45 St v l ∧ ∀ b, St b → M < b ∧ b < W.heap.size) → OwnL (W.setCell ⟨Z, j, none⟩ x) (M + 1) 45 St v l ∧ ∀ b, St b → M < b ∧ b < (W.setCell ⟨Z, j, none⟩ x).heap.size := fun j x h =>
  ⟨h.1.setCell (fun e => by have h5 : M < Z := (h.2 _ e).1; omega) (fun e => by have h5 : M + 1 ≤ Z := (h.1.below_ _ e).1; omega) x, fun b hb => by have := h.2 b hb; simpa using this⟩
 have y0 := h.ya.setz (j := 0) (x := v) (zs' := #[v, .int .i64 0, .int .i64 0, .int .i64 0, .int .i64 0]) rfl
 have y1 := y0.setz (j := 1) (x := .int .i64 t.kind) (zs' := #[v, .int .i64 t.kind, .int .i64 0, .int .i64 0, .int .i64 0]) rfl
 have y2 := y1.setz (j := 2) (x := .int .i64 t.a) (zs' := #[v, .int .i64 t.kind, .int .i64 t.a, .int .i64 0, .int .i64 0]) rfl
 have y3 := y2.setz (j := 3) (x := .int .i64 t.to0) (zs' := #[v, .int .i64 t.kind, .int .i64 t.a, .int .i64 t.to0, .int .i64 0]) rfl
 have y4 := y3.setz (j := 4) (x := .int .i64 t.to1) (zs' := blCs v t) rfl
 have o := one 4 (.int .i64 t.to1) (one 3 (.int .i64 t.to0) (one 2 (.int .i64 t.a) (one 1 (.int .i64 t.kind) (one 0 v ⟨h.own, h.st⟩))))
 exact ⟨_, rfl, y4, o.1, o.2⟩
theorem DocAt.aliveM4 (h : DocAt w S c s) : aliveM c w = aliveC s := by
 obtain ⟨A, n, k, k0, k1, _, _, hs⟩ := h.at_
 unfold aliveM aliveC
 rw [h.leftM4, k1]
theorem rowc5 {W : World} {M : Nat} {a b d e f : Value} {T : TypeId} (hr : W.heap[M]? = some (.cells #[a, b, d, e, f] T (0, 0))) : W.cell? ⟨M, 0, none⟩ = some a ∧ W.cell? ⟨M, 1, none⟩ = some b ∧ W.cell? ⟨M, 2, none⟩ = some d ∧ W.cell? ⟨M, 3, none⟩ = some e ∧ W.cell? ⟨M, 4, none⟩ = some f ∧
  W.frozen? ⟨M, 0, none⟩ = false ∧ W.frozen? ⟨M, 1, none⟩ = false ∧ W.frozen? ⟨M, 2, none⟩ = false ∧ W.frozen? ⟨M, 3, none⟩ = false ∧ W.frozen? ⟨M, 4, none⟩ = false ∧ M < W.heap.size := by
 have hf : ∀ j, W.frozen? ⟨M, j, none⟩ = false := fun j => by simp [World.frozen?, hr]
 exact ⟨cell_of_row W M _ _ _ (0, 0) hr, cell_of_row W M _ _ _ (0, 0) hr, cell_of_row W M _ _ _ (0, 0) hr, cell_of_row W M _ _ _ (0, 0) hr, cell_of_row W M _ _ _ (0, 0) hr, hf 0, hf 1, hf 2, hf 3, hf 4, (Array.getElem?_eq_some_iff.1 hr).1⟩
end
end Go.Proofs.YtljglhaeonbfoaaGreatDoor
namespace Go.Proofs.YtljglhaeonbfoaaGreatDoor
open Go.RowKit
set_option maxRecDepth 100000 in
set_option maxHeartbeats 32000000 in
theorem dblock_any (w : World) (S : Nat → Prop) (c : Nat) (s : Cur) (n : Nat) (hn : n ≤ 1099511627780) (hal : aliveC s ≤ 1099511627775) (h : Dd4 w S c s) : Calls Tryz.prog 52 #[.pointer (some ⟨c, 0, none⟩), .int .i64 n] w (DWholeP S c w (wholeC true n s)) := by
 obtain ⟨i0, hi, hz, hz1, hz2⟩ := info_parts info_Ins4
 have HI0 := hide hi; have HZ := hide hz; have HZ1 := hide hz1; have HZ2 := hide hz2
 clear hi hz hz1 hz2
 have HNS := hide h.cur.nS
 obtain ⟨R, hR⟩ : ∃ R, w.heap.size = R := ⟨_, rfl⟩
 obtain ⟨S1, hS1⟩ : ∃ S1 : Nat → Prop, S1 = fun b => S b ∧ b < R := ⟨_, rfl⟩
 have HT0 := hide (show DA4 w w R c S1 s from by rw [hS1, ← hR]; exact DA4.start h)
 have HS1 := hide hS1
 have HRQ := hide hR
 obtain ⟨Z, hZ⟩ : ∃ Z, w.heap.size = Z := ⟨_, rfl⟩
 have HZR := hide (show w.heap.size ≤ Z from by omega)
 obtain ⟨W0, hW0⟩ : ∃ W0, w.alloc (.cells #[.slice none 0 0, .int .i64 0, .int .i64 0, .int .i64 0, .int .i64 0] 52) = W0 := ⟨_, rfl⟩
 have HT00 := hide (show DX4 w W0 R Z c S1 52 #[.slice none 0 0, .int .i64 0, .int .i64 0, .int .i64 0, .int .i64 0] s from by rw [← hW0, ← hZ]; exact DX4.start HT0.out _ _)
 obtain ⟨M, hM⟩ : ∃ M, W0.heap.size = M := ⟨_, rfl⟩
 obtain ⟨W2, hW2⟩ : ∃ W2, W0.alloc (.cells #[.slice none 0 0, .int .i64 0, .int .i64 0, .int .i64 0, .int .i64 0] 52) = W2 := ⟨_, rfl⟩
 have HW2 := hide (show BA4 w W2 R Z M c S1 (.slice none 0 0) zeroTerm [] (fun _ => False) s from by
  rw [← hW2, ← hM]; exact ⟨DY4.start HT00.out _ _, OwnL.nil_ _ _ _ _, fun _ h => h.elim⟩)
 have HMZ := hide (show M = Z + 1 from by rw [← hM, ← hW0, ← hZ]; simp)
 obtain ⟨s1, hs1⟩ : ∃ s1, (if n = 64 then failC 3 s else s) = s1 := ⟨_, rfl⟩
 obtain ⟨s2, hs2⟩ : ∃ s2, keyC tBlock s1 = s2 := ⟨_, rfl⟩
 obtain ⟨q, hq⟩ : ∃ q, numC n n s2 = q := ⟨_, rfl⟩
 obtain ⟨X, hX⟩ : ∃ X, blkC true ((⟨[], zeroTerm⟩, false), endC q.2) = X := ⟨_, rfl⟩
 have hwh : wholeC true n s = (X.1.1, X.2) := by
  unfold wholeC headB
  rw [hs1, hs2, hq, hX]
 rw [hwh]
 have hae : aliveC (endC q.2) ≤ 1099511627775 := by
  refine Nat.le_trans ?_ hal
  rw [← hq, ← hs2, ← hs1]
  refine Nat.le_trans (alive_end _) (Nat.le_trans (alive_num _ _ _) ?_)
  have h1 : ∀ t : Cur, aliveC (keyC tBlock t) ≤ aliveC t := fun t => by
   unfold keyC
   split
   ·exact alive_pop t
   ·rw [alive_fail (by decide)]; omega
  refine Nat.le_trans (h1 _) ?_
  split
  ·rw [alive_fail (by decide)]; omega
  ·exact Nat.le_refl _
 have HAE := hide hae
 have HXQ := hide hX
 have HS1Q := hide hs1; have HS2Q := hide hs2; have HQQ := hide hq
 obtain ⟨b9, hb9⟩ : ∃ b, ((n : Int) == 64) = b := ⟨_, rfl⟩
 have HB9 := hide hb9
 clear h hS1 hX hwh hs1 hs2 hq HT0 HT00 hR hae hal
 go_enter Tryz.func52, Tryz.ntmps52
 go_upto_if 10 with (fail)
 try rw [hZ]
 try rw [hW0]
 try rw [hM]
 try rw [hW2]
 clear hW0 hW2 hZ hM
 go_cut [] from 11 to 12 (fun wc => BA4 w wc R Z M c S1 (.slice none 0 0) zeroTerm [] (fun _ => False) s1)
 case first =>
  cases b9 with
  | true =>
   have h64 : n = 64 := by have := HB9.out; simp at this; omega
   have HF := hide (show Calls Tryz.prog 48 #[.pointer (some ⟨c, 0, none⟩), .int .i64 3] W2 (DocP S1 c W2 s1 (.tuple #[])) from by have h := dFail HW2.out.ya.xa.ra.rd.cur 3; rw [← HS1Q.out, if_pos h64]; exact h)
   clear h64
   go_wp2_with (go_at_call 48; (with_reducible refine HF.out.mono ?_); rintro e V ⟨rfl, hat, hon⟩; have HW3 := hide (HW2.out.call hon hat); clear hat hon)
   go_meet
   exact HW3.out
  | false =>
   have h64 : ¬ n = 64 := by have := HB9.out; simp at this; omega
   have HW3 := hide (show BA4 w W2 R Z M c S1 (.slice none 0 0) zeroTerm [] (fun _ => False) s1 from by rw [← HS1Q.out, if_neg h64]; exact HW2.out)
   clear h64
   go_wp2_with fail
   go_meet
   exact HW3.out
 case rest =>
  have HW3 := hide hcut
  obtain ⟨Wa, hWa⟩ : ∃ W, W = wc := ⟨_, rfl⟩
  subst hWa
  clear hcut HW2
  obtain ⟨b1, hb1⟩ : ∃ b, isC (.nm tBlock) s1 = b := ⟨_, rfl⟩
  have HK := hide (show Calls Tryz.prog 47 #[.pointer (some ⟨c, 0, none⟩), .string ⟨#[98, 108, 111, 99, 107]⟩] Wa (DocP S1 c Wa (overC b1 s1) (.bool b1)) from by have h := dKey HW3.out.ya.xa.ra.rd.cur tBlock; rw [hb1] at h; exact h)
  have HB1 := hide hb1
  clear hb1
  go_upto_if 15 with (go_at_call 47; (with_reducible refine HK.out.mono ?_); rintro e V1 ⟨rfl, hat, hon⟩; have HW4 := hide (HW3.out.call hon hat); clear hat hon)
  clear HW3 HK
  go_cut [] from 16 to 17 (fun wc => BA4 w wc R Z M c S1 (.slice none 0 0) zeroTerm [] (fun _ => False) s2)
  case first =>
   cases b1 with
   | true =>
    have HW5 := hide (show BA4 w V1 R Z M c S1 (.slice none 0 0) zeroTerm [] (fun _ => False) s2 from by rw [← HS2Q.out]; unfold keyC; rw [if_pos HB1.out]; exact HW4.out)
    go_wp2_with fail
    go_meet
    exact HW5.out
   | false =>
    have HF := hide (show Calls Tryz.prog 48 #[.pointer (some ⟨c, 0, none⟩), .int .i64 7] V1 (DocP S1 c V1 s2 (.tuple #[])) from by have h := dFail HW4.out.ya.xa.ra.rd.cur 7; rw [← HS2Q.out]; unfold keyC; rw [if_neg (by rw [HB1.out]; decide)]; exact h)
    go_wp2_with (go_at_call 48; (with_reducible refine HF.out.mono ?_); rintro e V ⟨rfl, hat, hon⟩; have HW5 := hide (HW4.out.call hon hat); clear hat hon)
    go_meet
    exact HW5.out
  case rest =>
   have HW5 := hide hcut
   obtain ⟨Wb, hWb⟩ : ∃ W, W = wc := ⟨_, rfl⟩
   subst hWb
   clear hcut HW4 HB1
   have HN := hide (show Calls Tryz.prog 105 #[.pointer (some ⟨c, 0, none⟩), .int .i64 n, .int .i64 n] Wb (DocP S1 c Wb q.2 (.int .i64 q.1)) from by have h := dNum HW5.out.ya.xa.ra.rd.cur n n; rw [HQQ.out] at h; exact h)
   go_wp2_with (first | (go_at_call 105; (with_reducible refine HN.out.mono ?_); rintro e V2 ⟨rfl, hat, hon⟩; have HW6 := hide (HW5.out.call hon hat); clear hat hon) | (go_at_call 50; (with_reducible refine (dEnd HW6.out.ya.xa.ra.rd.cur).mono ?_); rintro e V3 ⟨rfl, hat, hon⟩; have HW7 := hide (HW6.out.call hon hat); clear hat hon))
   clear HW5 HW6 HN
   go_loopw [] (fun wr => ∃ (A : Option Addr) (k : Nat) (l : List Ins) (St : Nat → Prop) (s' : Cur), BA4 w wr R Z M c S1 (.slice A l.length k) zeroTerm l St s' ∧ blkC true ((⟨l, zeroTerm⟩, false), s') = X ∧ l.length + aliveC s' ≤ 1099511627780) (fun wr => aliveM c wr)
   case atStart => exact ⟨none, 0, [], _, endC q.2, HW7.out, HXQ.out, by have := HAE.out; simp only [List.length_nil]; omega⟩
   case round =>
    obtain ⟨A, k, l, St, s', ht, hx, hll⟩ := hrel
    have HT := hide ht; have HXX := hide hx; have HLL := hide hll
    have HLE := hide ht.ya.xa.ra.rd.cur.aliveM4
    have k1 := ht.ya.xa.ra.rd.cur.at_.choose_spec.choose_spec.choose_spec.2.1
    have hcl := ht.ya.xa.ra.cl
    clear ht hx hll HW7
    obtain ⟨z0, z1, z2, z3, z4, y0, y1, y2, y3, y4, zl⟩ := rowc5 HT.out.ya.zrow
    obtain ⟨m0, m1, m2, m3, m4, f0, f1, f2, f3, f4, ml⟩ := rowc5 HT.out.ya.xa.row
    obtain ⟨eb, heb⟩ : ∃ b, (s'.e == 0) = b := ⟨_, rfl⟩
    cases eb with
    | false =>
     have HE := hide (show X = ((⟨l, zeroTerm⟩, false), s') from by
      rw [← HXX.out]
      exact blkC_stop (by unfold blkG; rw [if_pos (.inr (by simpa using heb))]))
     obtain ⟨XF, hXF, HYF, hof, hsf⟩ := HT.out.fin
     have HFR := hide HYF.zrow; have HFD := hide HYF.xa.ra; have HFO := hide hof; have HFS := hide hsf
     have HFX := hide hXF
     clear hXF HYF hof hsf
     have ne1 : ¬ M = Z := by have := HMZ.out; omega
     have ne2 : ¬ Z = M := by have := HMZ.out; omega
     have lt1 : Z < M := by have := HMZ.out; omega
     go_wp2_with fail
     rw [HFX.out] at HFR HFD HFO HFS
     clear HFX
     refine bodyPost_ret (results_cell_row Tryz.results52 _ _ Z _ _ (0, 0) _ rfl HFR.out Tryz.underlying52 rfl (by kernel_rfl)) rfl ?_
     rw [HE.out]
     exact ⟨A, l.length, k, St, rfl, HFO.out.lower28 (by have := HMZ.out; have := HZR.out; omega), fun b h => by have h1 := HFS.out b h; have := HMZ.out; have := HZR.out; omega, ⟨iI 0 rfl, iI 0 rfl, iI 0 rfl, iI 0 rfl⟩, HFD.out.rd.cur.moreS (fun b _ h => by rw [HS1.out] at h; exact h.1) HNS.out, HFD.out.only⟩
    | true =>
     have hse : s'.e = 0 := by simpa using heb
     obtain ⟨r, hr⟩ : ∃ r, oneC true s' = r := ⟨_, rfl⟩
     have hin := one_in04i true s'
     have HLN := hide (show Calls Tryz.prog 106 #[.pointer (some ⟨c, 0, none⟩)] wr (DLnP S1 c wr r) from hr ▸ dline_any wr S1 c s' HT.out.ya.xa.ra.rd)
     rw [hr] at hin
     obtain ⟨ln, sr⟩ := r
     cases ln with
     | term t0 =>
      have hin : TermIn t0 := hin
      have HIN := hide hin
      have hgo : blkG true ((⟨l, zeroTerm⟩, false), s') = some ((⟨l, t0⟩, true), endC sr) := by
       unfold blkG
       rw [if_neg (by rintro (h | h); cases h; exact h hse)]
       simp only
       rw [hr]
      have HE := hide (show X = ((⟨l, t0⟩, true), endC sr) from by
       rw [← HXX.out, blkC_go hgo]
       exact blkC_stop (by unfold blkG; rw [if_pos (.inl rfl)]))
      clear hse hr hin hgo
      go_upto_region 10 with (go_at_call 106; (with_reducible refine HLN.out.mono ?_); rintro e V ⟨i, t, b, A2, n2, k2, hln, rfl, ho, hat, hon⟩; have HLI := hide hln; have HSZV := hide (show wr.heap.size ≤ V.heap.size from hon.size); have HWV := hide (HT.out.call hon hat); clear ho hat hon hln)
      obtain ⟨hi0, ht0, hb0⟩ := HLI.out
      subst ht0 hb0
      obtain ⟨P, hP⟩ : ∃ P, V.heap.size = P := ⟨_, rfl⟩
      obtain ⟨Va, hVa⟩ : ∃ W, (V.alloc (.cells #[.int .i64 i.op, .int .i64 i.dst, .int .i64 i.a, .int .i64 i.b, .int .i64 i.imm, .int .i64 i.callee, .slice A2 n2 k2, .int .i64 i.many] 45)).alloc (.cells #[.int .i64 t.kind, .int .i64 t.a, .int .i64 t.to0, .int .i64 t.to1] 50) = W := ⟨_, rfl⟩
      have HWa := hide (show BA4 w Va R Z M c S1 (.slice A l.length k) zeroTerm l St sr from hVa ▸ (HWV.out.alloc _).alloc _)
      have HRT := hide (show Va.heap[P + 1]? = some (.cells #[.int .i64 t.kind, .int .i64 t.a, .int .i64 t.to0, .int .i64 t.to1] 50 (0, 0)) from by
       rw [← hVa, ← hP]
       have h := heap_alloc_new (V.alloc (.cells #[.int .i64 i.op, .int .i64 i.dst, .int .i64 i.a, .int .i64 i.b, .int .i64 i.imm, .int .i64 i.callee, .slice A2 n2 k2, .int .i64 i.many] 45)) (.cells #[.int .i64 t.kind, .int .i64 t.a, .int .i64 t.to0, .int .i64 t.to1] 50)
       rw [World.size_alloc] at h
       exact h)
      have HRI := hide (show Va.heap[P]? = some (.cells #[.int .i64 i.op, .int .i64 i.dst, .int .i64 i.a, .int .i64 i.b, .int .i64 i.imm, .int .i64 i.callee, .slice A2 n2 k2, .int .i64 i.many] 45 (0, 0)) from by
       rw [← hVa, ← hP]
       have h := ((Below.refl (V.alloc (.cells #[.int .i64 i.op, .int .i64 i.dst, .int .i64 i.a, .int .i64 i.b, .int .i64 i.imm, .int .i64 i.callee, .slice A2 n2 k2, .int .i64 i.many] 45)).heap.size (V.alloc (.cells #[.int .i64 i.op, .int .i64 i.dst, .int .i64 i.a, .int .i64 i.b, .int .i64 i.imm, .int .i64 i.callee, .slice A2 n2 k2, .int .i64 i.many] 45))).alloc (Nat.le_refl _) (.cells #[.int .i64 t.kind, .int .i64 t.a, .int .i64 t.to0, .int .i64 t.to1] 50)).block V.heap.size (by rw [World.size_alloc]; omega)
       exact h.trans (heap_alloc_new V _))
      have HPS := hide (show c < P ∧ M < P ∧ wr.heap.size ≤ P from ⟨by rw [← hP]; exact HWV.out.ya.xa.ra.cl, by rw [← hP]; exact HWV.out.ya.xa.ml, by have := HSZV.out; omega⟩)
      rw [hVa, hP]
      clear hP
      clear z0 z1 z2 z3 z4 y0 y1 y2 y3 y4 zl m0 m1 m2 m3 m4 f0 f1 f2 f3 f4 ml k1 hcl
      clear hVa
      obtain ⟨z0, z1, z2, z3, z4, y0, y1, y2, y3, y4, zl⟩ := rowc5 HWa.out.ya.zrow
      obtain ⟨m0, m1, m2, m3, m4, f0, f1, f2, f3, f4, ml⟩ := rowc5 HWa.out.ya.xa.row
      go_upto_region 14 with (go_at_call 50; (with_reducible refine (dEnd HWa.out.ya.xa.ra.rd.cur).mono ?_); rintro e V2 ⟨rfl, hat, hon⟩; have HW9 := hide (HWa.out.call hon hat); have HRT2 := hide ((hon.block (P + 1) (Array.getElem?_eq_some_iff.1 HRT.out).1 (by have := HPS.out; omega)).trans HRT.out); clear hat hon)
      clear z0 z1 z2 z3 z4 y0 y1 y2 y3 y4 zl m0 m1 m2 m3 m4 f0 f1 f2 f3 f4 ml
      obtain ⟨z0, z1, z2, z3, z4, y0, y1, y2, y3, y4, zl⟩ := rowc5 HW9.out.ya.zrow
      obtain ⟨m0, m1, m2, m3, m4, f0, f1, f2, f3, f4, ml⟩ := rowc5 HW9.out.ya.xa.row
      obtain ⟨r0, r1, r2, r3, u0, u1, u2, u3, rl⟩ := rowc4 HRT2.out
      have ne7 : ¬ P + 1 = M := by have := HPS.out; omega
      have ne8 : ¬ M = P + 1 := by have := HPS.out; omega
      obtain ⟨Y, hY⟩ : ∃ Y, (((V2.setCell ⟨M, 1, none⟩ (.int .i64 t.kind)).setCell ⟨M, 2, none⟩ (.int .i64 t.a)).setCell ⟨M, 3, none⟩ (.int .i64 t.to0)).setCell ⟨M, 4, none⟩ (.int .i64 t.to1) = Y := ⟨_, rfl⟩
      have HY := hide (show BA4 w Y R Z M c S1 (.slice A l.length k) t l St (endC sr) from hY ▸ HW9.out.term t)
      have HYQ := hide hY
      clear hY
      go_upto_region 15 with fail
      rw [HYQ.out]
      clear HYQ r0 r1 r2 r3 u0 u1 u2 u3 rl
      clear z0 z1 z2 z3 z4 y0 y1 y2 y3 y4 zl m0 m1 m2 m3 m4 f0 f1 f2 f3 f4 ml
      obtain ⟨z0, z1, z2, z3, z4, y0, y1, y2, y3, y4, zl⟩ := rowc5 HY.out.ya.zrow
      obtain ⟨m0, m1, m2, m3, m4, f0, f1, f2, f3, f4, ml⟩ := rowc5 HY.out.ya.xa.row
      obtain ⟨XF, hXF, HYF, hof, hsf⟩ := HY.out.fin
      have HFR := hide HYF.zrow; have HFD := hide HYF.xa.ra; have HFO := hide hof; have HFS := hide hsf
      have HFX := hide hXF
      clear hXF HYF hof hsf
      have ne1 : ¬ M = Z := by have := HMZ.out; omega
      have ne2 : ¬ Z = M := by have := HMZ.out; omega
      have lt1 : Z < M := by have := HMZ.out; omega
      go_wp2_with fail
      rw [HFX.out] at HFR HFD HFO HFS
      clear HFX
      refine bodyPost_ret (results_cell_row Tryz.results52 _ _ Z _ _ (0, 0) _ rfl HFR.out Tryz.underlying52 rfl (by kernel_rfl)) rfl ?_
      rw [HE.out]
      exact ⟨A, l.length, k, St, rfl, HFO.out.lower28 (by have := HMZ.out; have := HZR.out; omega), fun b h => by have h1 := HFS.out b h; have := HMZ.out; have := HZR.out; omega, HIN.out, HFD.out.rd.cur.moreS (fun b _ h => by rw [HS1.out] at h; exact h.1) HNS.out, HFD.out.only⟩
     | ins i0 =>
      have hin : InsIn i0 := hin
      have HIN := hide hin
      obtain ⟨s3, hs3⟩ : ∃ s3, (if l.length = 64 then failC 3 sr else sr) = s3 := ⟨_, rfl⟩
      have hgo : blkG true ((⟨l, zeroTerm⟩, false), s') = some ((⟨l ++ [i0], zeroTerm⟩, false), endC s3) := by
       unfold blkG
       rw [if_neg (by rintro (h | h); cases h; exact h hse)]
       simp only
       rw [hr]
       simp only
       rw [hs3]
      have HGO := hide (show blkC true ((⟨l ++ [i0], zeroTerm⟩, false), endC s3) = X from by rw [← HXX.out, blkC_go hgo])
      have HDEC := hide (show aliveC (endC s3) < aliveC s' from blkG_dec _ _ hgo)
      have HS3 := hide hs3
      clear hse hr hin hgo hs3
      obtain ⟨b10, hb10⟩ : ∃ b, ((l.length : Int) == 64) = b := ⟨_, rfl⟩
      have HB10 := hide hb10
      go_upto_region 10 with (go_at_call 106; (with_reducible refine HLN.out.mono ?_); rintro e V ⟨i, t, b, A2, n2, k2, hln, rfl, ho, hat, hon⟩; have HLI := hide hln; have HSZV := hide (show wr.heap.size ≤ V.heap.size from hon.size); have HWV := hide (HT.out.call hon hat); have HOV := hide ho; clear ho hat hon hln)
      obtain ⟨hi0, ht0, hb0⟩ := HLI.out
      subst hi0 hb0
      obtain ⟨P, hP⟩ : ∃ P, V.heap.size = P := ⟨_, rfl⟩
      obtain ⟨Va, hVa⟩ : ∃ W, (V.alloc (.cells #[.int .i64 i.op, .int .i64 i.dst, .int .i64 i.a, .int .i64 i.b, .int .i64 i.imm, .int .i64 i.callee, .slice A2 n2 k2, .int .i64 i.many] 45)).alloc (.cells #[.int .i64 t.kind, .int .i64 t.a, .int .i64 t.to0, .int .i64 t.to1] 50) = W := ⟨_, rfl⟩
      have HWa := hide (show BA4 w Va R Z M c S1 (.slice A l.length k) zeroTerm l St sr from hVa ▸ (HWV.out.alloc _).alloc _)
      have HRT := hide (show Va.heap[P + 1]? = some (.cells #[.int .i64 t.kind, .int .i64 t.a, .int .i64 t.to0, .int .i64 t.to1] 50 (0, 0)) from by
       rw [← hVa, ← hP]
       have h := heap_alloc_new (V.alloc (.cells #[.int .i64 i.op, .int .i64 i.dst, .int .i64 i.a, .int .i64 i.b, .int .i64 i.imm, .int .i64 i.callee, .slice A2 n2 k2, .int .i64 i.many] 45)) (.cells #[.int .i64 t.kind, .int .i64 t.a, .int .i64 t.to0, .int .i64 t.to1] 50)
       rw [World.size_alloc] at h
       exact h)
      have HRI := hide (show Va.heap[P]? = some (.cells #[.int .i64 i.op, .int .i64 i.dst, .int .i64 i.a, .int .i64 i.b, .int .i64 i.imm, .int .i64 i.callee, .slice A2 n2 k2, .int .i64 i.many] 45 (0, 0)) from by
       rw [← hVa, ← hP]
       have h := ((Below.refl (V.alloc (.cells #[.int .i64 i.op, .int .i64 i.dst, .int .i64 i.a, .int .i64 i.b, .int .i64 i.imm, .int .i64 i.callee, .slice A2 n2 k2, .int .i64 i.many] 45)).heap.size (V.alloc (.cells #[.int .i64 i.op, .int .i64 i.dst, .int .i64 i.a, .int .i64 i.b, .int .i64 i.imm, .int .i64 i.callee, .slice A2 n2 k2, .int .i64 i.many] 45))).alloc (Nat.le_refl _) (.cells #[.int .i64 t.kind, .int .i64 t.a, .int .i64 t.to0, .int .i64 t.to1] 50)).block V.heap.size (by rw [World.size_alloc]; omega)
       exact h.trans (heap_alloc_new V _))
      have HPS := hide (show c < P ∧ M < P ∧ wr.heap.size ≤ P from ⟨by rw [← hP]; exact HWV.out.ya.xa.ra.cl, by rw [← hP]; exact HWV.out.ya.xa.ml, by have := HSZV.out; omega⟩)
      rw [hVa, hP]
      clear hP
      clear z0 z1 z2 z3 z4 y0 y1 y2 y3 y4 zl m0 m1 m2 m3 m4 f0 f1 f2 f3 f4 ml k1 hcl
      have HOa := hide (show OwnL Va wr.heap.size 3 (fun _ => False) (.slice A2 n2 k2) i.args from hVa ▸ (HOV.out.alloc _).alloc _)
      clear hVa
      obtain ⟨z0, z1, z2, z3, z4, y0, y1, y2, y3, y4, zl⟩ := rowc5 HWa.out.ya.zrow
      obtain ⟨m0, m1, m2, m3, m4, f0, f1, f2, f3, f4, ml⟩ := rowc5 HWa.out.ya.xa.row
      cases b10 with
      | true =>
       have h64 : l.length = 64 := by have := HB10.out; simp at this; omega
       have h3 : failC 3 sr = s3 := by rw [← HS3.out, if_pos h64]
       subst h3
       clear h64
       go_upto_region 12 with (go_at_call 48; (with_reducible refine (dFail HWa.out.ya.xa.ra.rd.cur 3).mono ?_); rintro e W3 ⟨rfl, hat, hon⟩; have HW3 := hide (HWa.out.call hon hat); have HO3 := hide (HOa.out.only4 hon HT.out.ya.xa.ra.cl); have HR3 := hide ((hon.block P (Array.getElem?_eq_some_iff.1 HRI.out).1 (by have := HPS.out; omega)).trans HRI.out); clear hat hon)
       clear z0 z1 z2 z3 z4 y0 y1 y2 y3 y4 zl m0 m1 m2 m3 m4 f0 f1 f2 f3 f4 ml
       obtain ⟨z0, z1, z2, z3, z4, y0, y1, y2, y3, y4, zl⟩ := rowc5 HW3.out.ya.zrow
       obtain ⟨m0, m1, m2, m3, m4, f0, f1, f2, f3, f4, ml⟩ := rowc5 HW3.out.ya.xa.row
       have HCW := hide (show c < wr.heap.size from HT.out.ya.xa.ra.cl)
       go_upto_region 16 with (go_at_call 50; (with_reducible refine (dEnd HW3.out.ya.xa.ra.rd.cur).mono ?_); rintro e V4 ⟨rfl, hat, hon⟩; have HW4 := hide (HW3.out.call hon hat); have HO4 := hide (HO3.out.only4 hon HCW.out); have HR4 := hide ((hon.block P (Array.getElem?_eq_some_iff.1 HR3.out).1 (by have := HPS.out; omega)).trans HR3.out); clear hat hon)
       clear z0 z1 z2 z3 z4 y0 y1 y2 y3 y4 zl m0 m1 m2 m3 m4 f0 f1 f2 f3 f4 ml
       obtain ⟨z0, z1, z2, z3, z4, y0, y1, y2, y3, y4, zl⟩ := rowc5 HW4.out.ya.zrow
       obtain ⟨m0, m1, m2, m3, m4, f0, f1, f2, f3, f4, ml⟩ := rowc5 HW4.out.ya.xa.row
       obtain ⟨r0, r1, r2, r3, r4, r5, r6, r7, u0, u1, u2, u3, u4, u5, u6, u7, rl⟩ := rowc8 HR4.out
       obtain ⟨St', hSt'⟩ : ∃ St' : Nat → Prop, St' = fun b => St b ∨ (wr.heap.size ≤ b ∧ b < V4.heap.size) := ⟨_, rfl⟩
       have HST := hide hSt'
       clear hSt'
       go_wp2_with (at_builtin; refine wpList_push (α := Ins) V4 [.int .i64 i.op, .int .i64 i.dst, .int .i64 i.a, .int .i64 i.b, .int .i64 i.imm, .int .i64 i.callee, .slice A2 n2 k2, .int .i64 i.many] 45 rfl (.tmp 52) (.tmp 54) 46 rfl (M + 1) 45 i0 _ 80 Tryz.underlying46 HI0.out HZ.out HZ1.out HZ2.out rfl (by decide) St St' (.slice A l.length k) l i rfl HW4.out.own V4.heap.size rfl rfl (Ins.mk_ HIN.out.1 HIN.out.2.1 HIN.out.2.2.1 HIN.out.2.2.2.1 HIN.out.2.2.2.2.1 HIN.out.2.2.2.2.2.1 (HO4.out.sl fun b hb h => by rw [HST.out]; rcases h with h | h; exact h.elim; exact .inr ⟨h, hb⟩) HIN.out.2.2.2.2.2.2) (fun b h => by rw [HST.out]; exact .inl h) (fun g e h => by rw [HST.out] at h; rcases h with h | h; (obtain ⟨_, _, _, h3⟩ := HW4.out.own; exact h3 g e h); (have := (HT.out.own.below_ g e).2; omega)) (fun b h => by rw [HST.out] at h; rcases h with h | h; exact (HW4.out.st b h).2; exact h.2) (by have := HLL.out; omega) (by have := HLL.out; omega) (by have := HW4.out.ya.xa.ml; omega) ?_; intro v' W5 ho1 hgr h5; obtain ⟨A', k', hv'⟩ := ho1.form; subst hv'; have HG := hide ((HW4.out.alloc (.cells #[.int .i64 i.op, .int .i64 i.dst, .int .i64 i.a, .int .i64 i.b, .int .i64 i.imm, .int .i64 i.callee, .slice A2 n2 k2, .int .i64 i.many] 45)).ya.grown hgr (fun g e => by have := (HW4.out.own.below_ g e).1; omega)); have HP := hide ((HW4.out.alloc (.cells #[.int .i64 i.op, .int .i64 i.dst, .int .i64 i.a, .int .i64 i.b, .int .i64 i.imm, .int .i64 i.callee, .slice A2 n2 k2, .int .i64 i.many] 45)).push hgr ho1 (fun b h => by have h7 := hgr.size; have h8 : V4.heap.size < (V4.alloc (.cells #[.int .i64 i.op, .int .i64 i.dst, .int .i64 i.a, .int .i64 i.b, .int .i64 i.imm, .int .i64 i.callee, .slice A2 n2 k2, .int .i64 i.many] 45)).heap.size := (by simp); rw [HST.out] at h; rcases h with h | h; (have := HW4.out.st b h; omega); (have := HT.out.ya.xa.ml; omega))); clear hgr h5 z0 z1 z2 z3 z4 y0 y1 y2 y3 y4 zl m0 m1 m2 m3 m4 f0 f1 f2 f3 f4 ml r0 r1 r2 r3 r4 r5 r6 r7 u0 u1 u2 u3 u4 u5 u6 u7 rl; obtain ⟨m0, m1, m2, m3, m4, f0, f1, f2, f3, f4, ml⟩ := rowc5 HG.out.xa.row)
       have hl : (l ++ [i]).length = l.length + 1 := by simp
       rw [hl] at HP
       have HLG := hide HP.out.ya.xa.ra.rd.cur.aliveM4
       clear ho1
       go_roundw
       case rel => exact ⟨A', k', l ++ [i], St', _, hl ▸ HP.out, HGO.out, by have := HLL.out; have := HDEC.out; simp only [List.length_append, List.length_singleton]; omega⟩
       case measure => rw [HLG.out, HLE.out]; exact HDEC.out
      | false =>
       have h64 : ¬ l.length = 64 := by have := HB10.out; simp at this; omega
       have h3 : sr = s3 := by rw [← HS3.out, if_neg h64]
       subst h3
       clear h64
       have HW3 := HWa; have HO3 := HOa; have HR3 := HRI
       go_upto_region 12 with fail
       have HCW := hide (show c < wr.heap.size from HT.out.ya.xa.ra.cl)
       go_upto_region 16 with (go_at_call 50; (with_reducible refine (dEnd HW3.out.ya.xa.ra.rd.cur).mono ?_); rintro e V4 ⟨rfl, hat, hon⟩; have HW4 := hide (HW3.out.call hon hat); have HO4 := hide (HO3.out.only4 hon HCW.out); have HR4 := hide ((hon.block P (Array.getElem?_eq_some_iff.1 HR3.out).1 (by have := HPS.out; omega)).trans HR3.out); clear hat hon)
       clear z0 z1 z2 z3 z4 y0 y1 y2 y3 y4 zl m0 m1 m2 m3 m4 f0 f1 f2 f3 f4 ml
       obtain ⟨z0, z1, z2, z3, z4, y0, y1, y2, y3, y4, zl⟩ := rowc5 HW4.out.ya.zrow
       obtain ⟨m0, m1, m2, m3, m4, f0, f1, f2, f3, f4, ml⟩ := rowc5 HW4.out.ya.xa.row
       obtain ⟨r0, r1, r2, r3, r4, r5, r6, r7, u0, u1, u2, u3, u4, u5, u6, u7, rl⟩ := rowc8 HR4.out
       obtain ⟨St', hSt'⟩ : ∃ St' : Nat → Prop, St' = fun b => St b ∨ (wr.heap.size ≤ b ∧ b < V4.heap.size) := ⟨_, rfl⟩
       have HST := hide hSt'
       clear hSt'
       go_wp2_with (at_builtin; refine wpList_push (α := Ins) V4 [.int .i64 i.op, .int .i64 i.dst, .int .i64 i.a, .int .i64 i.b, .int .i64 i.imm, .int .i64 i.callee, .slice A2 n2 k2, .int .i64 i.many] 45 rfl (.tmp 52) (.tmp 54) 46 rfl (M + 1) 45 i0 _ 80 Tryz.underlying46 HI0.out HZ.out HZ1.out HZ2.out rfl (by decide) St St' (.slice A l.length k) l i rfl HW4.out.own V4.heap.size rfl rfl (Ins.mk_ HIN.out.1 HIN.out.2.1 HIN.out.2.2.1 HIN.out.2.2.2.1 HIN.out.2.2.2.2.1 HIN.out.2.2.2.2.2.1 (HO4.out.sl fun b hb h => by rw [HST.out]; rcases h with h | h; exact h.elim; exact .inr ⟨h, hb⟩) HIN.out.2.2.2.2.2.2) (fun b h => by rw [HST.out]; exact .inl h) (fun g e h => by rw [HST.out] at h; rcases h with h | h; (obtain ⟨_, _, _, h3⟩ := HW4.out.own; exact h3 g e h); (have := (HT.out.own.below_ g e).2; omega)) (fun b h => by rw [HST.out] at h; rcases h with h | h; exact (HW4.out.st b h).2; exact h.2) (by have := HLL.out; omega) (by have := HLL.out; omega) (by have := HW4.out.ya.xa.ml; omega) ?_; intro v' W5 ho1 hgr h5; obtain ⟨A', k', hv'⟩ := ho1.form; subst hv'; have HG := hide ((HW4.out.alloc (.cells #[.int .i64 i.op, .int .i64 i.dst, .int .i64 i.a, .int .i64 i.b, .int .i64 i.imm, .int .i64 i.callee, .slice A2 n2 k2, .int .i64 i.many] 45)).ya.grown hgr (fun g e => by have := (HW4.out.own.below_ g e).1; omega)); have HP := hide ((HW4.out.alloc (.cells #[.int .i64 i.op, .int .i64 i.dst, .int .i64 i.a, .int .i64 i.b, .int .i64 i.imm, .int .i64 i.callee, .slice A2 n2 k2, .int .i64 i.many] 45)).push hgr ho1 (fun b h => by have h7 := hgr.size; have h8 : V4.heap.size < (V4.alloc (.cells #[.int .i64 i.op, .int .i64 i.dst, .int .i64 i.a, .int .i64 i.b, .int .i64 i.imm, .int .i64 i.callee, .slice A2 n2 k2, .int .i64 i.many] 45)).heap.size := (by simp); rw [HST.out] at h; rcases h with h | h; (have := HW4.out.st b h; omega); (have := HT.out.ya.xa.ml; omega))); clear hgr h5 z0 z1 z2 z3 z4 y0 y1 y2 y3 y4 zl m0 m1 m2 m3 m4 f0 f1 f2 f3 f4 ml r0 r1 r2 r3 r4 r5 r6 r7 u0 u1 u2 u3 u4 u5 u6 u7 rl; obtain ⟨m0, m1, m2, m3, m4, f0, f1, f2, f3, f4, ml⟩ := rowc5 HG.out.xa.row)
       have hl : (l ++ [i]).length = l.length + 1 := by simp
       rw [hl] at HP
       have HLG := hide HP.out.ya.xa.ra.rd.cur.aliveM4
       clear ho1
       go_roundw
       case rel => exact ⟨A', k', l ++ [i], St', _, hl ▸ HP.out, HGO.out, by have := HLL.out; have := HDEC.out; simp only [List.length_append, List.length_singleton]; omega⟩
       case measure => rw [HLG.out, HLE.out]; exact HDEC.out
end Go.Proofs.YtljglhaeonbfoaaGreatDoor
