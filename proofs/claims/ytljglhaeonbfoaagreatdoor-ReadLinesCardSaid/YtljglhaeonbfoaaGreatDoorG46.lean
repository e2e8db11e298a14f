/- law04: what stands while the document reads a function. law04: walks: the document's Parse. Printed by gen_d4l.py. law04: walks: ReadParses. -/
import Derived.Test.YtljglhaeonbfoaaGreatDoorG45
import Derived.Test.YtljglhaeonbfoaaGreatDoorG36
import Derived.Test.YtljglhaeonbfoaaGreatDoorG40
import Derived.Deep.DeepCutAuto
import Derived.Test.YtljglhaeonbfoaaGreatDoorG19
import Derived.Test.YtljglhaeonbfoaaGreatDoorG37
set_option linter.unusedSimpArgs false
set_option linter.unusedVariables false
namespace Go.Proofs.YtljglhaeonbfoaaGreatDoor
open Go.RowKit
structure FD4 (w0 W : World) (C F c : Nat) (S : Nat → Prop) (vp vb : Value) (s : Cur) : Prop where
 zrow : W.heap[C]? = some (.cells #[.slice none 0 0, .slice none 0 0] 25 (0, 0))
 row : W.heap[F]? = some (.cells #[vp, vb] 25 (0, 0))
 rd : Dd4 W S c s
 low : Below C w0 W
 og : 6 ≤ C
 o1 : C < c
 o2 : c < F
 o4 : ∀ b, S b → C < b ∧ b < c
section
variable {w0 w W W' : World} {C F c D : Nat} {S Sp Sb Sb' : Nat → Prop} {vp vp' vb vb' : Value} {Ap : Option Addr} {np kp : Nat} {ps : List Int} {l l' : List Block} {s s' : Cur}
theorem FD4.fl (h : FD4 w0 W C F c S vp vb s) : F < W.heap.size := (Array.getElem?_eq_some_iff.1 h.row).1
theorem FD4.cl (h : FD4 w0 W C F c S vp vb s) : C < W.heap.size := (Array.getElem?_eq_some_iff.1 h.zrow).1
theorem FD4.call (h : FD4 w0 W C F c S vp vb s) (hon : Only c W W') (hat : DocAt W' S c s') : FD4 w0 W' C F c S vp vb s' where
 zrow := (hon.block C h.cl (by have := h.o1; omega)).trans h.zrow
 row := (hon.block F h.fl (by have := h.o2; omega)).trans h.row
 rd := h.rd.call hon hat
 low := h.low.trans (hon.below (by have := h.o1; omega) (by have := h.cl; omega))
 og := h.og
 o1 := h.o1
 o2 := h.o2
 o4 := h.o4
theorem FD4.set (h : FD4 w0 W C F c S vp vb s) {j : Nat} {x : Value} (hr : (#[vp, vb] : Array Value).setIfInBounds j x = #[vp', vb']) : FD4 w0 (W.setCell ⟨F, j, none⟩ x) C F c S vp' vb' s where
 zrow := (Below.heap_setCell W ⟨F, j, none⟩ x C (by show C ≠ F; have := h.o1; have := h.o2; omega)).trans h.zrow
 row := by rw [row_setB h.row, hr]
 rd := ⟨h.rd.cur.keep (by simp) (Below.heap_setCell W ⟨F, j, none⟩ x c (by show c ≠ F; have := h.o2; omega)) fun b hS _ => Below.heap_setCell W ⟨F, j, none⟩ x b (by show b ≠ F; have := (h.o4 b hS).2; have := h.o2; omega), h.rd.vars.keep (by simp) fun b hb => Below.heap_setCell W ⟨F, j, none⟩ x b (by show b ≠ F; have := h.og; have := h.o1; have := h.o2; omega), h.rd.og⟩
 low := h.low.setCell (p := ⟨F, j, none⟩) (by show C ≤ F; have := h.o1; have := h.o2; omega) x
 og := h.og
 o1 := h.o1
 o2 := h.o2
 o4 := h.o4
theorem FD4.grown {row : Option Nat} (h : FD4 w0 W C F c S vp vb s) (hg : W.grownBy W' row) (hr : ∀ g, row = some g → F < g) : FD4 w0 W' C F c S vp vb s := by
 have hk : ∀ b, b < W.heap.size → b ≤ F → W'.heap[b]? = W.heap[b]? := fun b hb hm => hg.block b hb (fun e => by have := hr b e.symm; omega)
 have o1 := h.o1; have o2 := h.o2; have fl := h.fl; have og := h.og
 have hb0 : Below (F + 1) W W' := (Below.refl _ _).grown hg (by omega) (fun r e => hr r e)
 exact ⟨(hk C h.cl (by omega)).trans h.zrow, (hk F fl (Nat.le_refl _)).trans h.row, ⟨h.rd.cur.keep hg.size (hk c (by omega) (by omega)) (fun b hS hb => hk b hb (by have := (h.o4 b hS).2; omega)), h.rd.vars.below hb0 (by omega), h.rd.og⟩, h.low.trans (hb0.mono (by omega)), og, o1, o2, h.o4⟩
theorem FD4.facts (h : FD4 w0 W C F c S vp vb s) : W.cell? ⟨F, 0, none⟩ = some vp ∧ W.cell? ⟨F, 1, none⟩ = some vb ∧ W.cell? ⟨C, 0, none⟩ = some (.slice none 0 0) ∧ W.cell? ⟨C, 1, none⟩ = some (.slice none 0 0) ∧ F < W.heap.size ∧ C < W.heap.size ∧ W.frozen? ⟨F, 0, none⟩ = false ∧ W.frozen? ⟨F, 1, none⟩ = false ∧ W.frozen? ⟨C, 0, none⟩ = false ∧ W.frozen? ⟨C, 1, none⟩ = false ∧ ¬ C = F ∧ ¬ F = C :=
 ⟨cell_of_row W F _ _ _ (0, 0) h.row, cell_of_row W F _ _ _ (0, 0) h.row, cell_of_row W C _ _ _ (0, 0) h.zrow, cell_of_row W C _ _ _ (0, 0) h.zrow, h.fl, h.cl, by simp [World.frozen?, h.row], by simp [World.frozen?, h.row], by simp [World.frozen?, h.zrow], by simp [World.frozen?, h.zrow], by have := h.o1; have := h.o2; omega, by have := h.o1; have := h.o2; omega⟩
structure FAtd (w0 W : World) (C F c D : Nat) (S Sp Sb : Nat → Prop) (Ap : Option Addr) (np kp : Nat) (vb : Value) (ps : List Int) (l : List Block) (s : Cur) : Prop where
 fb : FD4 w0 W C F c S (.slice Ap np kp) vb s
 pr : Sl W Sp Ap np kp ps
 ob : OwnL W (F + 1) 52 Sb vb l
 sp : ∀ b, Sp b → F < b ∧ b < D
 sb : ∀ b, Sb b → D ≤ b ∧ b < W.heap.size
 bb : ∀ b, vb.ownBlock = some b → D ≤ b
 d : D ≤ W.heap.size
 rd' : F < D
theorem FAtd.call (h : FAtd w0 W C F c D S Sp Sb Ap np kp vb ps l s) (hon : Only c W W') (hat : DocAt W' S c s') : FAtd w0 W' C F c D S Sp Sb Ap np kp vb ps l s' where
 fb := h.fb.call hon hat
 pr := hon.sl h.pr (fun e => by have := (h.sp c e).1; have := h.fb.o2; omega)
 ob := h.ob.keep hon.size (fun b hb hl => hon.block b hl (by have := (h.sb b hb).1; have := h.fb.o2; have := h.rd'; omega)) fun g hg => hon.block g (h.ob.below_ g hg).2 (by have := (h.ob.below_ g hg).1; have := h.fb.o2; omega)
 sp := h.sp
 sb := fun b hb => ⟨(h.sb b hb).1, Nat.lt_of_lt_of_le (h.sb b hb).2 hon.size⟩
 bb := h.bb
 d := Nat.le_trans h.d hon.size
 rd' := h.rd'
theorem FAtd.ext (h : FAtd w0 W C F c D S Sp Sb Ap np kp vb ps l s) (u : Ext) : FAtd w0 (W.ext u) C F c D S Sp Sb Ap np kp vb ps l s := h.call ((Only.refl c W).ext u) (h.fb.rd.cur.ext u)
theorem FAtd.push (h : FAtd w0 W C F c D S Sp Sb Ap np kp vb ps l s) (hg : W.grownBy W' vb.ownBlock) (ho : OwnL W' (F + 1) 52 Sb' vb' l') (sb : ∀ b, Sb' b → D ≤ b ∧ b < W'.heap.size) (bb : ∀ b, vb'.ownBlock = some b → D ≤ b) : FAtd w0 (W'.setCell ⟨F, 1, none⟩ vb') C F c D S Sp Sb' Ap np kp vb' ps l' s where
 fb := (h.fb.grown hg (fun g e => (h.ob.below_ g e).1)).set rfl
 pr := (h.pr.keep hg.size fun b hb hl => hg.block b hl (fun e => by have := h.bb b e.symm; have := (h.sp b hb).2; omega)).setCell (fun e => by have h5 : F < F := (h.sp _ e).1; omega) _
 ob := ho.setCell (fun e => by have h5 : D ≤ F := (sb _ e).1; have := h.rd'; omega) (fun e => by have h5 : F + 1 ≤ F := (ho.below_ _ e).1; omega) _
 sp := h.sp
 sb := fun b hb => by have := sb b hb; simpa using this
 bb := bb
 d := by have := h.d; have := hg.size; simp; omega
 rd' := h.rd'
theorem FD4.fin (h : FD4 w0 W C F c S vp vb s) (x y : Value) : ((W.setCell ⟨C, 0, none⟩ x).setCell ⟨C, 1, none⟩ y).heap[C]? = some (.cells #[x, y] 25 (0, 0)) ∧ Below C w0 ((W.setCell ⟨C, 0, none⟩ x).setCell ⟨C, 1, none⟩ y) :=
 ⟨by rw [row_setB (row_setB h.zrow 0 x) 1 y]; rfl, (h.low.setCell (p := ⟨C, 0, none⟩) (Nat.le_refl _) x).setCell (p := ⟨C, 1, none⟩) (Nat.le_refl _) y⟩
theorem FAtd.lists (h : FAtd w0 W C F c D S Sp Sb Ap np kp vb ps l s) (x y : Value) : Sl ((W.setCell ⟨C, 0, none⟩ x).setCell ⟨C, 1, none⟩ y) Sp Ap np kp ps ∧ OwnL ((W.setCell ⟨C, 0, none⟩ x).setCell ⟨C, 1, none⟩ y) (F + 1) 52 Sb vb l := by
 have o1 := h.fb.o1
 have o2 := h.fb.o2
 have rd := h.rd'
 have one : ∀ {W : World} (j : Nat) (x : Value), OwnL W (F + 1) 52 Sb vb l → OwnL (W.setCell ⟨C, j, none⟩ x) (F + 1) 52 Sb vb l := fun j x ho => ho.setCell (fun e => by have h5 : D ≤ C := (h.sb _ e).1; omega) (fun e => by have h5 : F + 1 ≤ C := (ho.below_ _ e).1; omega) _
 exact ⟨(h.pr.setCell (fun e => by have h5 : F < C := (h.sp _ e).1; omega) _).setCell (fun e => by have h5 : F < C := (h.sp _ e).1; omega) _, one 1 y (one 0 x h.ob)⟩
end
theorem fd4_start {w W0 V1 W3 : World} {C F c : Nat} {S0 : Nat → Prop} {s : Cur} (hC : w.heap.size = C) (hW0 : w.alloc (.cells #[.slice none 0 0, .slice none 0 0] 25) = W0) (hF : V1.heap.size = F) (hW3 : V1.alloc (.cells #[.slice none 0 0, .slice none 0 0] 25) = W3) (hS0 : S0 = fun b => W0.heap.size ≤ b ∧ b < c)
  (hat : DocAt V1 (fun b => W0.heap.size ≤ b ∧ b < c) c s) (hcz : W0.heap.size ≤ c) (hb : Below W0.heap.size W0 V1) (hg : 6 ≤ w.heap.size) (hv : VarsP V1) : FD4 w W3 C F c S0 (.slice none 0 0) (.slice none 0 0) s := by
 have hz : C + 1 = W0.heap.size := by rw [← hW0, ← hC]; simp
 have hcF : c < F := by rw [← hF]; exact hat.lt
 rw [← hS0] at hat
 have hzs := hb.size
 refine ⟨?_, by rw [← hW3, ← hF]; exact heap_alloc_new V1 _, ⟨by rw [← hW3]; exact hat.alloc4 _, by rw [← hW3]; exact hv.alloc _, by omega⟩, ?_, by omega, by omega, hcF, fun b h => by rw [hS0] at h; omega⟩
 ·rw [← hW3, Below.heap_alloc _ _ _ (by omega), hb.block C (by omega), ← hW0, ← hC]; exact heap_alloc_new w _
 ·have hb0 : Below C w W0 := by rw [← hW0, ← hC]; exact (Below.refl _ _).alloc (Nat.le_refl _) _
  rw [← hW3]
  exact (hb0.trans (hb.mono (by omega))).alloc (by omega) _
theorem fatd_start {w Wa V : World} {C F c : Nat} {S : Nat → Prop} {A : Option Addr} {n k : Nat} {ps : List Int} {s : Cur} (h : FD4 w V C F c S (.slice none 0 0) (.slice none 0 0) s) (ho : OwnL V Wa.heap.size 3 (fun _ => False) (.slice A n k) ps) (hs : Wa.heap.size ≤ V.heap.size) (hR : F < Wa.heap.size) :
  FAtd w (V.setCell ⟨F, 0, none⟩ (.slice A n k)) C F c V.heap.size S (fun b => Wa.heap.size ≤ b ∧ b < V.heap.size) (fun _ => False) A n k (.slice none 0 0) ps [] s where
 fb := h.set rfl
 pr := (ho.sl (S' := fun b => Wa.heap.size ≤ b ∧ b < V.heap.size) fun b hb hh => by rcases hh with hh | hh; exact hh.elim; exact ⟨hh, hb⟩).setCell (fun e => by have h5 : Wa.heap.size ≤ F := e.1; omega) _
 ob := OwnL.nil_ _ _ _ _
 sp := fun b hb => ⟨by omega, hb.2⟩
 sb := fun _ h => h.elim
 bb := fun _ h => by simp [Value.ownBlock] at h
 d := by simp
 rd' := by omega
def DWholeI (S : Nat → Prop) (c B : Nat) (q : Block × Cur) : Post := fun v w => ∃ A n k St, v = .agg (blCs (.slice A n k) q.1.term) ∧ OwnL w B 45 St (.slice A n k) q.1.ins ∧ (∀ b, St b → B ≤ b ∧ b < w.heap.size) ∧ TermIn q.1.term ∧ DocAt w S c q.2
theorem DWholeI.stable_ {F : World → Prop} {S : Nat → Prop} {c B : Nat} {q : Block × Cur} {mem : Bool} (hm : mem = true) : stable F mem (DWholeI S c B q) :=
 stable_mem hm fun _ w u ⟨A, n, k, St, hv, h1, h2, h3, h4⟩ => ⟨A, n, k, St, hv, h1.ext u, fun b hb => by have := h2 b hb; rw [size_ext]; omega, h3, h4.ext u⟩
def DWholeL (S : Nat → Prop) (c B : Nat) (q : Block × Cur) : Post := fun v w => ∃ g A n k St, v = .slice (some ⟨g, 0, none⟩) 1 1 ∧ B ≤ g ∧ w.heap[g]? = some (.cells (blCs (.slice A n k) q.1.term) 52 (0, 0)) ∧ OwnL w B 45 St (.slice A n k) q.1.ins ∧ (∀ b, St b → B ≤ b ∧ b < w.heap.size) ∧ TermIn q.1.term ∧ DocAt w S c q.2
theorem DWholeL.stable_ {F : World → Prop} {S : Nat → Prop} {c B : Nat} {q : Block × Cur} {mem : Bool} (hm : mem = true) : stable F mem (DWholeL S c B q) :=
 stable_mem hm fun _ w u ⟨g, A, n, k, St, hv, hg, h0, h1, h2, h3, h4⟩ => ⟨g, A, n, k, St, hv, hg, (by rw [ext_block w u g (Array.getElem?_eq_some_iff.1 h0).1]; exact h0), h1.ext u, fun b hb => by have := h2 b hb; rw [size_ext]; omega, h3, h4.ext u⟩
theorem alive_keyd (t : ByteArray) (s : Cur) : aliveC (keyC t s) ≤ aliveC s := by
 unfold keyC
 split
 ·exact alive_pop s
 ·rw [alive_fail (by decide)]; omega
theorem alive_somed (q u : Bool) (x : List Int × Cur) : aliveC (someC q u x).2 ≤ aliveC x.2 := alive_some _ _
end Go.Proofs.YtljglhaeonbfoaaGreatDoor
namespace Go.Proofs.YtljglhaeonbfoaaGreatDoor
open Go.RowKit
set_option maxRecDepth 100000 in
set_option maxHeartbeats 8000000 in
theorem dparse04_long (s : ByteArray) (w : World) (hbig : 262144 < s.size) : Calls Tryz.prog 15 #[.string s] w (FncP (⟨[], []⟩, 0, 0, 3) w) := by
 go_enter Tryz.func15, Tryz.ntmps15
 go_wp2_with fail
 refine bodyPost_ret (results_fn4 (g := w.heap.size) (a1 := .slice none 0 0) (a2 := .slice none 0 0) Tryz.results15 _ _ rfl ?_) rfl ⟨none, 0, 0, none, 0, 0, rfl, Sl.zero_, Sl.zero_, ?_⟩
 ·exact heap_alloc_new w _
 ·exact (Below.refl _ _).alloc (Nat.le_refl _) _
set_option maxRecDepth 100000 in
set_option maxHeartbeats 32000000 in
theorem dparse04_any (s : ByteArray) (w : World) (hv : VarsP w) : Calls Tryz.prog 15 #[.string s] w (FncP (parse04 true s) w) := by
 by_cases hbig : 262144 < s.size
 ·have hg : parse04 true s = (⟨[], []⟩, 0, 0, 3) := by unfold parse04; rw [if_pos hbig]
  rw [hg]
  exact dparse04_long s w hbig
 obtain ⟨i0, hi, hz, hz1, hz2⟩ := info_parts info_Block4
 have HI0 := hide hi; have HZ := hide hz; have HZ1 := hide hz1; have HZ2 := hide hz2
 clear hi hz hz1 hz2
 have hs : s.size ≤ 262144 := by omega
 have HWD := hide (wd_over s hs)
 obtain ⟨C, hC⟩ : ∃ C, w.heap.size = C := ⟨_, rfl⟩
 obtain ⟨W0, hW0⟩ : ∃ W0, w.alloc (.cells #[.slice none 0 0, .slice none 0 0] 25) = W0 := ⟨_, rfl⟩
 have HV0 := hide (show VarsP W0 from by rw [← hW0]; exact hv.alloc _)
 have HOV := hide (show Calls Tryz.prog 46 #[.string s] W0 (OverD s W0) from dOver1 s W0 (by omega))
 obtain ⟨s1, hs1⟩ : ∃ s1, keyC tFun (overT s) = s1 := ⟨_, rfl⟩
 obtain ⟨P, hP⟩ : ∃ P, someC true true ([], s1) = P := ⟨_, rfl⟩
 obtain ⟨Y, hY⟩ : ∃ Y, fnBlocksC true ([], endC P.2) = Y := ⟨_, rfl⟩
 have hp : parse04 true s = if (errC Y.2).2.2 ≠ 0 then (⟨[], []⟩, errC Y.2) else (⟨P.1, Y.1⟩, 0, 0, 0) := by
  unfold parse04 fnC
  rw [if_neg hbig]
  simp only
  rw [hs1, hP, hY]
 obtain ⟨Z, hZ⟩ : ∃ Z, parse04 true s = Z := ⟨_, rfl⟩
 rw [hZ] at hp ⊢
 have HPZ := hide hp
 clear hZ
 have HS1Q := hide hs1; have HPQ := hide hP; have HYQ := hide hY
 have HGL := hide hv.v.sz
 clear hp hs1 hP hY hv
 obtain ⟨b1, hb1⟩ : ∃ b, isC (.nm tFun) (overT s) = b := ⟨_, rfl⟩
 have HB1 := hide hb1
 clear hb1
 go_enter Tryz.func15, Tryz.ntmps15
 have HAL := hide (show aliveC (endC P.2) ≤ 1099511627771 from by
  refine Nat.le_trans (alive_end _) ?_
  rw [← HPQ.out]
  refine Nat.le_trans (alive_somed _ _ _) ?_
  simp only
  rw [← HS1Q.out]
  exact Nat.le_trans (alive_keyd _ _) HWD.out.alive)
 go_upto_region 5 with (go_at_call 46; (with_reducible refine HOV.out.mono ?_); rintro e V1 ⟨c, rfl, hat, hcz, hbb⟩; have HAT := hide hat; have HCZ := hide hcz; have HBB := hide hbb; clear hat hcz hbb; refine Hd.out ?_)
 have HV1 := hide (HV0.out.below HBB.out HV0.out.v.sz)
 obtain ⟨F, hF⟩ : ∃ R, V1.heap.size = R := ⟨_, rfl⟩
 obtain ⟨W3, hW3⟩ : ∃ W3, V1.alloc (.cells #[.slice none 0 0, .slice none 0 0] 25) = W3 := ⟨_, rfl⟩
 obtain ⟨S0, hS0⟩ : ∃ S0 : Nat → Prop, S0 = fun b => W0.heap.size ≤ b ∧ b < c := ⟨_, rfl⟩
 have HC0 := hide (fd4_start hC hW0 hF hW3 hS0 HAT.out HCZ.out HBB.out HGL.out HV1.out)
 clear hS0 HAT HCZ HBB
 refine hide ?_
 go_upto_region 5 with fail
 try rw [hW3]
 try rw [hF]
 have HCQ := hide hC
 clear hW0 hC hF hW3 HOV HV0 HV1
 obtain ⟨c0, c1, e0, e1, fl, cl, f0, f1, g0, g1, ne1, ne2⟩ := HC0.out.facts
 have HK := hide (show Calls Tryz.prog 47 #[.pointer (some ⟨c, 0, none⟩), .string ⟨#[102, 117, 110]⟩] W3 (DocP S0 c W3 (overC b1 (overT s)) (.bool b1)) from by have h := dKey HC0.out.rd.cur tFun; rw [HB1.out] at h; exact h)
 go_upto_if 20 with (go_at_call 47; (with_reducible refine HK.out.mono ?_); rintro e V2 ⟨rfl, hat, hon⟩; have HC2 := hide (HC0.out.call hon hat); clear hat hon c0 c1 e0 e1 fl cl f0 f1 g0 g1 ne1 ne2)
 clear HC0 HK
 obtain ⟨c0, c1, e0, e1, fl, cl, f0, f1, g0, g1, ne1, ne2⟩ := HC2.out.facts
 go_cut [] from 21 to 22 (fun wc => FD4 w wc C F c S0 (.slice none 0 0) (.slice none 0 0) s1)
 case first =>
  cases b1 with
  | true =>
   have HC3 := hide (show FD4 w V2 C F c S0 (.slice none 0 0) (.slice none 0 0) s1 from by rw [← HS1Q.out]; unfold keyC; rw [if_pos HB1.out]; exact HC2.out)
   go_wp2_with fail
   go_meet
   exact HC3.out
  | false =>
   have HF := hide (show Calls Tryz.prog 48 #[.pointer (some ⟨c, 0, none⟩), .int .i64 7] V2 (DocP S0 c V2 s1 (.tuple #[])) from by have h := dFail HC2.out.rd.cur 7; rw [← HS1Q.out]; unfold keyC; rw [if_neg (by rw [HB1.out]; decide)]; exact h)
   go_wp2_with (first | (go_at_call 48; (with_reducible refine HF.out.mono ?_); rintro e V ⟨rfl, hat, hon⟩; have HC3 := hide (HC2.out.call hon hat); clear hat hon))
   go_meet
   exact HC3.out
 case rest =>
  have HC3 := hide hcut
  obtain ⟨Wa, hWa⟩ : ∃ W, W = wc := ⟨_, rfl⟩
  subst hWa
  clear hcut HC2 c0 c1 e0 e1 fl cl f0 f1 g0 g1 ne1 ne2 HB1
  obtain ⟨c0, c1, e0, e1, fl, cl, f0, f1, g0, g1, ne1, ne2⟩ := HC3.out.facts
  have HSM := hide (show Calls Tryz.prog 49 #[.pointer (some ⟨c, 0, none⟩), .bool true] Wa (DListP S0 c Wa P) from HPQ.out ▸ dsome_any Wa S0 c s1 true HC3.out.rd)
  go_wp2_with (go_at_call 49; (with_reducible refine HSM.out.mono ?_); rintro e V3 ⟨Ap, np, kp, rfl, ho, hat, hon⟩; have HC4 := hide (HC3.out.call hon hat); have HFA := hide (fatd_start HC4.out ho hon.size HC3.out.fl); clear ho hat hon c0 c1 e0 e1 fl cl f0 f1 g0 g1 ne1 ne2; refine Hd.out ?_)
  obtain ⟨c0, c1, e0, e1, fl, cl, f0, f1, g0, g1, ne1, ne2⟩ := HC4.out.facts
  obtain ⟨Y1, hY1⟩ : ∃ Y, V3.setCell ⟨F, 0, none⟩ (.slice Ap np kp) = Y := ⟨_, rfl⟩
  rw [hY1] at HFA
  refine hide ?_
  go_upto_region 8 with fail
  try rw [hY1]
  clear hY1 c0 c1 e0 e1 fl cl f0 f1 g0 g1 ne1 ne2
  obtain ⟨c0, c1, e0, e1, fl, cl, f0, f1, g0, g1, ne1, ne2⟩ := HFA.out.fb.facts
  go_wp2_with (go_at_call 50; (with_reducible refine (dEnd HFA.out.fb.rd.cur).mono ?_); rintro e V4 ⟨rfl, hat, hon⟩; have HA1 := hide (HFA.out.call hon hat); clear hat hon c0 c1 e0 e1 fl cl f0 f1 g0 g1 ne1 ne2)
  clear HC3 HC4 HSM HFA
  obtain ⟨D, hD⟩ : ∃ D, V3.heap.size = D := ⟨_, rfl⟩
  obtain ⟨Sp, hSp⟩ : ∃ Sp : Nat → Prop, Sp = fun b => Wa.heap.size ≤ b ∧ b < D := ⟨_, rfl⟩
  rw [hD, ← hSp] at HA1
  clear hD hSp
  go_loopw [8] (fun i wr => ∃ (B : Option Addr) (j : Nat) (l : List Block) (Sb : Nat → Prop) (s' : Cur), i = .int .i64 l.length ∧ FAtd w wr C F c D S0 Sp Sb Ap np kp (.slice B l.length j) P.1 l s' ∧ fnBlocksC true (l, s') = Y ∧ l.length + fnM (l, s') ≤ 1099511627775) (fun i wr => aliveM c wr + (if intOf i = 0 then 1 else 0))
  case atStart => exact ⟨none, 0, [], _, _, rfl, HA1.out, HYQ.out, by have := HAL.out; unfold fnM; simp only [List.length_nil, if_true]; omega⟩
  case round =>
   obtain ⟨B, j, l, Sb, s', rfl, ht, hx, hll⟩ := hrel
   have HT := hide ht; have HXX := hide hx; have HLL := hide hll
   have HLE := hide ht.fb.rd.cur.aliveM4
   obtain ⟨c0, c1, e0, e1, fl, cl, f0, f1, g0, g1, ne1, ne2⟩ := ht.fb.facts
   clear ht hx hll HA1
   have HMO := hide (dMore HT.out.fb.rd.cur)
   obtain ⟨mo, hmo⟩ : ∃ b, moreC s' = b := ⟨_, rfl⟩
   rw [hmo] at HMO
   obtain ⟨bz, hbz⟩ : ∃ b, ((l.length : Int) == 0) = b := ⟨_, rfl⟩
   have HBZ := hide (show bz = true ↔ l = [] from by rw [← hbz]; simp)
   have HMQ := hide hmo
   clear hmo
   by_cases hgo : (bz || mo) = true
   ·have hcond : l = [] ∨ moreC s' = true := by
     rw [HMQ.out]
     cases bz with
     | true => exact .inl (HBZ.out.1 rfl)
     | false => exact .inr (by simpa using hgo)
    obtain ⟨q, hq⟩ : ∃ q, wholeC true l.length s' = q := ⟨_, rfl⟩
    have hstep : blocksG true (l, s') = some (l ++ [q.1], q.2) := by
     unfold blocksG
     rw [if_pos hcond]
     simp only
     rw [hq]
    have HGO := hide (show fnBlocksC true (l ++ [q.1], q.2) = Y from by rw [← HXX.out, fnBlocksC_go hstep])
    have HDEC := hide (show fnM (l ++ [q.1], q.2) < fnM (l, s') from blocksG_dec _ _ hstep)
    have HWH := hide (fun (W : World) (h : Dd4 W S0 c s') => show Calls Tryz.prog 52 #[.pointer (some ⟨c, 0, none⟩), .int .i64 l.length] W (DWholeP S0 c W q) from hq ▸ dblock_any W S0 c s' l.length (by have := HLL.out; omega) (by have := HLL.out; unfold fnM at this; simp only at this; omega) h)
    clear hq hstep hcond
    cases bz with
    | true =>
     go_wp2_with fail
     have hcF : F ≠ c := by have := HT.out.fb.o2; omega
     obtain ⟨E, hE⟩ : ∃ E, wr.heap.size = E := ⟨_, rfl⟩
     have HEQ := hide hE
     clear hE
     refine wp_region_cur c [4] [4, 5] 6 (by kernel_rfl) rfl (by kernel_rfl) (by kernel_rfl) ?_
     simp only [List.take_succ_cons, List.take_zero, List.drop_succ_cons, List.drop_zero]
     repeat (refine flowG_known (by kernel_rfl) (fun K hK => ?_); go_simp; (first | (refine hK _ ?_; clear hK K) | (apply Exists.intro; refine ⟨fun w' => ?_, hK _ ?_⟩; (fail); clear hK K)))
     refine flowG_knownF (by kernel_rfl) (fun K hK => ⟨.slice B l.length j, fun W' hW' => ?_, hK _ ?_⟩)
     ·have x0 : W'.cell? ⟨F, 1, none⟩ = some (.slice B l.length j) := (World.cell?_of_block (hW'.block F fl hcF)).trans c1
      have x1 : F < W'.heap.size := Nat.lt_of_lt_of_le fl hW'.size
      go_simp
     clear hK K
     repeat (refine flowG_known (by kernel_rfl) (fun K hK => ?_); go_simp; (first | (refine hK _ ?_; clear hK K) | (apply Exists.intro; refine ⟨fun w' => ?_, hK _ ?_⟩; (fail); clear hK K)))
     refine flowG_keep [] (DWholeI S0 c E q) (by kernel_rfl) (DWholeI.stable_ rfl) (by kernel_rfl) (fun u hF => ?_) ?_
     ·try simp only [List.nil_append, List.cons_append, useH_f, useH_t, useH_nil]
      go_simp
      refine (HWH.out _ (HT.out.fb.rd.ext u)).mono ?_
      rintro e w' ⟨A1, n1, k1, St1, rfl, ho1, hs1, hti, hat, hon⟩
      exact ⟨_, rfl, ⟨A1, n1, k1, St1, rfl, ho1.lower28 (by rw [size_ext]; have := HEQ.out; omega), fun b hb => by have h1 := hs1 b hb; rw [size_ext] at h1; have := HEQ.out; omega, hti, hat⟩, hF.trans hon, fun h => by cases h⟩
     refine flowG_keepF [true] (DWholeL S0 c E q) (by kernel_rfl) (DWholeL.stable_ rfl) (fun W' hW' => ?_) ?_
     ·try simp only [List.nil_append, List.cons_append, useH_f, useH_t, useH_nil]
      rintro _ ⟨A1, n1, k1, St1, rfl, ho1, hs1, hti, hat⟩
      go_simp
      exact ⟨⟨_, A1, n1, k1, St1, rfl, (by have := HEQ.out; have := hW'.size; omega), heap_alloc_new W' _, ho1.alloc _, fun b hb => by have := hs1 b hb; simp; omega, hti, hat.alloc4 _⟩, hW'.alloc _, fun _ => ext_alloc W' _⟩
     refine flowG_done [true, true] (by kernel_rfl) (fun W' hW' => ?_)
     simp only [List.nil_append, List.cons_append, endH_f, endH_t, endH_nil]
     rintro _ - _ ⟨g, A1, n1, k1, St1, rfl, hg, hrow, ho1, hst1, hti, hat⟩
     go_simp
     have HT7 := hide (HT.out.call hW' hat)
     have HRW := hide hrow; have HO1 := hide ho1; have HGB := hide hg; have HS1 := hide hst1; have HTI := hide hti
     have HSW := hide hW'.size
     clear c0 c1 e0 e1 fl cl f0 f1 g0 g1 ne1 ne2 hcF hat hrow ho1 hg hst1 hti
     obtain ⟨Sb', hSb'⟩ : ∃ Sb' : Nat → Prop, Sb' = fun b => Sb b ∨ (E ≤ b ∧ b < W'.heap.size) := ⟨_, rfl⟩
     have HST := hide hSb'
     clear hSb'
     refine wpList_push_at (α := Block) W' rfl (.tmp 37) (.tmp 41) 23 rfl (F + 1) 52 i0 _ 56 Tryz.underlying23 HI0.out HZ.out HZ1.out HZ2.out rfl (by decide) Sb Sb' (.slice B l.length j) l [q.1] rfl HT7.out.ob ⟨g, 0, none⟩ 1 1 [.slice A1 n1 k1, .int .i64 q.1.term.kind, .int .i64 q.1.term.a, .int .i64 q.1.term.to0, .int .i64 q.1.term.to1] rfl rfl
      (RepL.single (Block.mk_ (HO1.out.sl fun b hb h => by rw [HST.out]; rcases h with h | h; exact .inr (HS1.out b h); exact .inr ⟨h, hb⟩) HTI.out.1 HTI.out.2.1 HTI.out.2.2.1 HTI.out.2.2.2))
      (fun j u hj => lit_news (us := [.slice A1 n1 k1, .int .i64 q.1.term.kind, .int .i64 q.1.term.a, .int .i64 q.1.term.to0, .int .i64 q.1.term.to1]) HRW.out j u hj)
      (fun b _ h => by rw [HST.out]; exact .inl h)
      (fun x hx h => by
       rw [HST.out] at h
       rcases h with h | h
       ·obtain ⟨_, _, _, h3⟩ := HT7.out.ob
        exact h3 x hx h
       ·have := (HT.out.ob.below_ x hx).2; have := HEQ.out; omega)
      (fun b h => by
       rw [HST.out] at h
       rcases h with h | h
       ·exact (HT7.out.sb b h).2
       ·exact h.2)
      (by have := HLL.out; unfold maxLen; omega) (by have := HLL.out; omega) (by have := HT7.out.fb.fl; omega) ?_
     intro v' W2 ho2 hgr h5
     obtain ⟨A', k', hv'⟩ := ho2.form
     subst hv'
     have hl : (l ++ [q.1]).length = l.length + 1 := by simp
     have HBG := hide (HT7.out.fb.grown hgr (fun x e => (HT7.out.ob.below_ x e).1))
     have HTG := hide (HT7.out.push hgr ho2 (fun b h => by
       rw [HST.out] at h
       have := hgr.size
       rcases h with h | h
       ·have h1 := HT7.out.sb b h; omega
       ·have := HT.out.d; have := HEQ.out; omega)
      (fun b e => by
       rcases h5 with h5 | h5
       ·exact HT7.out.bb b (h5 ▸ e)
       ·rw [h5] at e; injection e with e; have := HT7.out.d; omega))
     clear ho2 hgr h5
     rw [hl] at HTG ⊢
     obtain ⟨c0, c1, e0, e1, fl, cl, f0, f1, g0, g1, ne1, ne2⟩ := HBG.out.facts
     obtain ⟨Y3, hY3⟩ : ∃ Y, W2.setCell ⟨F, 1, none⟩ (.slice A' (l.length + 1) k') = Y := ⟨_, rfl⟩
     rw [hY3] at HTG
     have hlw : IntKind.i64.wrap ((l.length : Int) + 1) = (l.length : Int) + 1 := IntWalk.i64_in _ (by have := HLL.out; omega)
     go_wp2_with fail
     try rw [hY3]
     have HLY := hide HTG.out.fb.rd.cur.aliveM4
     clear hY3
     go_roundw
     case rel => exact ⟨A', k', l ++ [q.1], Sb', q.2, by rw [hl]; go_num, hl ▸ HTG.out, HGO.out, by have := HLL.out; have := HDEC.out; rw [hl]; omega⟩
     case measure =>
      have hd := HDEC.out
      unfold fnM at hd
      rw [if_neg (by simp)] at hd
      have hz : (if intOf (Value.int IntKind.i64 (l.length : Int)) = 0 then 1 else 0) = (if l = [] then 1 else 0) := len_zero4 l
      rw [HLY.out, HLE.out, hz]
      show (aliveC q.2 + if (l.length : Int) + 1 = 0 then 1 else 0) < _
      rw [if_neg (by omega)]
      exact hd
    | false =>
     have hmt : mo = true := by simpa using hgo
     subst hmt
     go_wp2_with (first | (go_at_call 51; (with_reducible refine HMO.out.mono ?_); rintro e _ ⟨rfl, rfl⟩))
     have hcF : F ≠ c := by have := HT.out.fb.o2; omega
     obtain ⟨E, hE⟩ : ∃ E, wr.heap.size = E := ⟨_, rfl⟩
     have HEQ := hide hE
     clear hE
     refine wp_region_cur c [4] [4, 5] 6 (by kernel_rfl) rfl (by kernel_rfl) (by kernel_rfl) ?_
     simp only [List.take_succ_cons, List.take_zero, List.drop_succ_cons, List.drop_zero]
     repeat (refine flowG_known (by kernel_rfl) (fun K hK => ?_); go_simp; (first | (refine hK _ ?_; clear hK K) | (apply Exists.intro; refine ⟨fun w' => ?_, hK _ ?_⟩; (fail); clear hK K)))
     refine flowG_knownF (by kernel_rfl) (fun K hK => ⟨.slice B l.length j, fun W' hW' => ?_, hK _ ?_⟩)
     ·have x0 : W'.cell? ⟨F, 1, none⟩ = some (.slice B l.length j) := (World.cell?_of_block (hW'.block F fl hcF)).trans c1
      have x1 : F < W'.heap.size := Nat.lt_of_lt_of_le fl hW'.size
      go_simp
     clear hK K
     repeat (refine flowG_known (by kernel_rfl) (fun K hK => ?_); go_simp; (first | (refine hK _ ?_; clear hK K) | (apply Exists.intro; refine ⟨fun w' => ?_, hK _ ?_⟩; (fail); clear hK K)))
     refine flowG_keep [] (DWholeI S0 c E q) (by kernel_rfl) (DWholeI.stable_ rfl) (by kernel_rfl) (fun u hF => ?_) ?_
     ·try simp only [List.nil_append, List.cons_append, useH_f, useH_t, useH_nil]
      go_simp
      refine (HWH.out _ (HT.out.fb.rd.ext u)).mono ?_
      rintro e w' ⟨A1, n1, k1, St1, rfl, ho1, hs1, hti, hat, hon⟩
      exact ⟨_, rfl, ⟨A1, n1, k1, St1, rfl, ho1.lower28 (by rw [size_ext]; have := HEQ.out; omega), fun b hb => by have h1 := hs1 b hb; rw [size_ext] at h1; have := HEQ.out; omega, hti, hat⟩, hF.trans hon, fun h => by cases h⟩
     refine flowG_keepF [true] (DWholeL S0 c E q) (by kernel_rfl) (DWholeL.stable_ rfl) (fun W' hW' => ?_) ?_
     ·try simp only [List.nil_append, List.cons_append, useH_f, useH_t, useH_nil]
      rintro _ ⟨A1, n1, k1, St1, rfl, ho1, hs1, hti, hat⟩
      go_simp
      exact ⟨⟨_, A1, n1, k1, St1, rfl, (by have := HEQ.out; have := hW'.size; omega), heap_alloc_new W' _, ho1.alloc _, fun b hb => by have := hs1 b hb; simp; omega, hti, hat.alloc4 _⟩, hW'.alloc _, fun _ => ext_alloc W' _⟩
     refine flowG_done [true, true] (by kernel_rfl) (fun W' hW' => ?_)
     simp only [List.nil_append, List.cons_append, endH_f, endH_t, endH_nil]
     rintro _ - _ ⟨g, A1, n1, k1, St1, rfl, hg, hrow, ho1, hst1, hti, hat⟩
     go_simp
     have HT7 := hide (HT.out.call hW' hat)
     have HRW := hide hrow; have HO1 := hide ho1; have HGB := hide hg; have HS1 := hide hst1; have HTI := hide hti
     have HSW := hide hW'.size
     clear c0 c1 e0 e1 fl cl f0 f1 g0 g1 ne1 ne2 hcF hat hrow ho1 hg hst1 hti
     obtain ⟨Sb', hSb'⟩ : ∃ Sb' : Nat → Prop, Sb' = fun b => Sb b ∨ (E ≤ b ∧ b < W'.heap.size) := ⟨_, rfl⟩
     have HST := hide hSb'
     clear hSb'
     refine wpList_push_at (α := Block) W' rfl (.tmp 37) (.tmp 41) 23 rfl (F + 1) 52 i0 _ 56 Tryz.underlying23 HI0.out HZ.out HZ1.out HZ2.out rfl (by decide) Sb Sb' (.slice B l.length j) l [q.1] rfl HT7.out.ob ⟨g, 0, none⟩ 1 1 [.slice A1 n1 k1, .int .i64 q.1.term.kind, .int .i64 q.1.term.a, .int .i64 q.1.term.to0, .int .i64 q.1.term.to1] rfl rfl
      (RepL.single (Block.mk_ (HO1.out.sl fun b hb h => by rw [HST.out]; rcases h with h | h; exact .inr (HS1.out b h); exact .inr ⟨h, hb⟩) HTI.out.1 HTI.out.2.1 HTI.out.2.2.1 HTI.out.2.2.2))
      (fun j u hj => lit_news (us := [.slice A1 n1 k1, .int .i64 q.1.term.kind, .int .i64 q.1.term.a, .int .i64 q.1.term.to0, .int .i64 q.1.term.to1]) HRW.out j u hj)
      (fun b _ h => by rw [HST.out]; exact .inl h)
      (fun x hx h => by
       rw [HST.out] at h
       rcases h with h | h
       ·obtain ⟨_, _, _, h3⟩ := HT7.out.ob
        exact h3 x hx h
       ·have := (HT.out.ob.below_ x hx).2; have := HEQ.out; omega)
      (fun b h => by
       rw [HST.out] at h
       rcases h with h | h
       ·exact (HT7.out.sb b h).2
       ·exact h.2)
      (by have := HLL.out; unfold maxLen; omega) (by have := HLL.out; omega) (by have := HT7.out.fb.fl; omega) ?_
     intro v' W2 ho2 hgr h5
     obtain ⟨A', k', hv'⟩ := ho2.form
     subst hv'
     have hl : (l ++ [q.1]).length = l.length + 1 := by simp
     have HBG := hide (HT7.out.fb.grown hgr (fun x e => (HT7.out.ob.below_ x e).1))
     have HTG := hide (HT7.out.push hgr ho2 (fun b h => by
       rw [HST.out] at h
       have := hgr.size
       rcases h with h | h
       ·have h1 := HT7.out.sb b h; omega
       ·have := HT.out.d; have := HEQ.out; omega)
      (fun b e => by
       rcases h5 with h5 | h5
       ·exact HT7.out.bb b (h5 ▸ e)
       ·rw [h5] at e; injection e with e; have := HT7.out.d; omega))
     clear ho2 hgr h5
     rw [hl] at HTG ⊢
     obtain ⟨c0, c1, e0, e1, fl, cl, f0, f1, g0, g1, ne1, ne2⟩ := HBG.out.facts
     obtain ⟨Y3, hY3⟩ : ∃ Y, W2.setCell ⟨F, 1, none⟩ (.slice A' (l.length + 1) k') = Y := ⟨_, rfl⟩
     rw [hY3] at HTG
     have hlw : IntKind.i64.wrap ((l.length : Int) + 1) = (l.length : Int) + 1 := IntWalk.i64_in _ (by have := HLL.out; omega)
     go_wp2_with fail
     try rw [hY3]
     have HLY := hide HTG.out.fb.rd.cur.aliveM4
     clear hY3
     go_roundw
     case rel => exact ⟨A', k', l ++ [q.1], Sb', q.2, by rw [hl]; go_num, hl ▸ HTG.out, HGO.out, by have := HLL.out; have := HDEC.out; rw [hl]; omega⟩
     case measure =>
      have hd := HDEC.out
      unfold fnM at hd
      rw [if_neg (by simp)] at hd
      have hz : (if intOf (Value.int IntKind.i64 (l.length : Int)) = 0 then 1 else 0) = (if l = [] then 1 else 0) := len_zero4 l
      rw [HLY.out, HLE.out, hz]
      show (aliveC q.2 + if (l.length : Int) + 1 = 0 then 1 else 0) < _
      rw [if_neg (by omega)]
      exact hd
   ·have hbf : bz = false := by cases bz <;> simp at hgo ⊢
    have hmf : mo = false := by cases mo <;> simp at hgo ⊢
    subst hbf hmf
    have HY1 := hide (show Y = (l, s') from by
     rw [← HXX.out]
     refine fnBlocksC_stop (if_neg ?_)
     rintro (h | h)
     ·have := HBZ.out.2 h; cases this
     ·simp only at h; rw [HMQ.out] at h; cases h)
    clear hgo
    obtain ⟨⟨el, ec, ee⟩, he9⟩ : ∃ x, errC s' = x := ⟨_, rfl⟩
    have HZZ := hide (show Z = if ee ≠ 0 then (⟨[], []⟩, el, ec, ee) else (⟨P.1, l⟩, 0, 0, 0) from by rw [HPZ.out, HY1.out]; simp only; rw [he9])
    have HER := hide (show Calls Tryz.prog 53 #[.pointer (some ⟨c, 0, none⟩)] wr (RetX (.tuple #[.int .i64 el, .int .i64 ec, .int .i64 ee]) wr) from by have h := dErr HT.out.fb.rd.cur; unfold errV at h; rw [he9] at h; exact h)
    clear he9
    by_cases hee : ee = 0
    ·have heb : (ee != 0) = false := by simp [hee]
     have HZE := hide (show Z = (⟨P.1, l⟩, 0, 0, 0) from by rw [HZZ.out, if_neg (by simpa using hee)])
     clear hee
     go_wp2_with (first | (go_at_call 51; (with_reducible refine HMO.out.mono ?_); rintro e _ ⟨rfl, rfl⟩) | (go_at_call 53; (with_reducible refine HER.out.mono ?_); rintro e WE ⟨rfl, u9, hWE⟩; have HWE := hide hWE; clear hWE; refine Hd.out ?_))
     clear c0 c1 e0 e1 fl cl f0 f1 g0 g1 ne1 ne2
     have HFN := hide (HT.out.ext u9).fb
     have HFL := hide ((HT.out.ext u9).lists (.slice Ap np kp) (.slice B l.length j))
     have HSP := hide HT.out.sp; have HSB := hide HT.out.sb; have HRD := hide HT.out.rd'
     have HFF := hide (HFN.out.fin (.slice Ap np kp) (.slice B l.length j))
     rw [← HWE.out] at HFF HFL HFN
     obtain ⟨c0, c1, e0, e1, fl, cl, f0, f1, g0, g1, ne1, ne2⟩ := HFN.out.facts
     refine hide ?_
     go_wp2_with fail
     refine bodyPost_ret (results_fn4 Tryz.results15 _ _ rfl HFF.out.1) rfl ?_
     rw [HZE.out]
     have hC := HCQ.out
     exact ⟨Ap, np, kp, B, l.length, j, rfl, HFL.out.1.more fun b _ h => by have := HSP.out b h; have := HFN.out.o1; have := HFN.out.o2; omega, HFL.out.2.sl fun b _ h => by have := HFN.out.o1; have := HFN.out.o2; have := HRD.out; rcases h with h | h; (have := (HSB.out b h).1; omega); omega, hC ▸ HFF.out.2⟩
    ·have heb : (ee != 0) = true := by simpa using hee
     have HZE := hide (show Z = (⟨[], []⟩, el, ec, ee) from by rw [HZZ.out, if_pos hee])
     clear hee
     go_wp2_with (first | (go_at_call 51; (with_reducible refine HMO.out.mono ?_); rintro e _ ⟨rfl, rfl⟩) | (go_at_call 53; (with_reducible refine HER.out.mono ?_); rintro e WE ⟨rfl, u9, hWE⟩; have HWE := hide hWE; clear hWE; refine Hd.out ?_))
     clear c0 c1 e0 e1 fl cl f0 f1 g0 g1 ne1 ne2
     have HFF := hide ((HT.out.ext u9).fb.fin (.slice none 0 0) (.slice none 0 0))
     have HFN := hide (HT.out.ext u9).fb
     rw [← HWE.out] at HFF HFN
     obtain ⟨c0, c1, e0, e1, fl, cl, f0, f1, g0, g1, ne1, ne2⟩ := HFN.out.facts
     refine hide ?_
     go_wp2_with fail
     refine bodyPost_ret (results_fn4 Tryz.results15 _ _ rfl HFF.out.1) rfl ?_
     rw [HZE.out]
     have hC := HCQ.out
     exact ⟨none, 0, 0, none, 0, 0, rfl, Sl.zero_, Sl.zero_, hC ▸ HFF.out.2⟩
end Go.Proofs.YtljglhaeonbfoaaGreatDoor
namespace Go.Proofs.YtljglhaeonbfoaaGreatDoor
open Go.RowKit
set_option maxRecDepth 100000 in
set_option maxHeartbeats 16000000 in
theorem readParses_any (s : ByteArray) (w : World) (hv : VarsP w) : Calls Tryz.prog 4 #[.string s] w (RetX (.bool true) w) := by
 by_cases hbig : 3000 < s.size
 ·have hb : decide ((3000 : Int) < (s.size : Int)) = true := by simp; omega
  have HAW := hide (awake04_any w hv)
  clear hv hbig
  go_enter Tryz.func4, Tryz.ntmps4
  go_wp2_with (go_at_call 9; (with_reducible refine HAW.out.mono ?_); rintro e _ ⟨rfl, u1, rfl⟩)
  go_ret
  exact RetX.b rfl (by repeat (first | exact Below.refl _ _ | assumption | refine Below.alloc ?_ (by simp [size_ext]; try omega) _ | refine Below.ext ?_ (by simp [size_ext]; try omega) _ | refine Below.drew ?_ | refine Below.setCell ?_ (by simp [size_ext]; try omega) _))
 have hb : decide ((3000 : Int) < (s.size : Int)) = false := by simp; omega
 obtain ⟨⟨f, l, k, e0⟩, hr⟩ : ∃ r, parse04 false s = r := ⟨_, rfl⟩
 have HA := hide (show Calls Tryz.prog 14 #[.string s] w (FncP (f, l, k, e0) w) from hr ▸ parse04_any s w hv)
 have HB := hide (fun (W : World) (h : VarsP W) => show Calls Tryz.prog 15 #[.string s] W (FncP (f, l, k, e0) W) from by
  have h := dparse04_any s W h
  rw [parse_alike04, hr] at h
  exact h)
 have HV := hide hv
 clear hv hbig hr
 go_enter Tryz.func4, Tryz.ntmps4
 go_upto_region 4 with (go_at_call 14; (with_reducible refine HA.out.mono ?_); rintro e W2 ⟨A2, n2, k2, B2, m2, j2, rfl, hp, hb, hw⟩; dsimp only at hp hb ⊢; have HS1 := hide hp; have HS2 := hide hb; have HB2 := hide hw; clear hp hb hw)
 obtain ⟨D, hD⟩ : ∃ D, W2.heap.size = D := ⟨_, rfl⟩
 obtain ⟨W3, hW3⟩ : ∃ W, W2.alloc (.cells #[.slice A2 n2 k2, .slice B2 m2 j2] 25) = W := ⟨_, rfl⟩
 rw [hW3]
 try rw [hD]
 have HB3 := hide (show Below w.heap.size w W3 from by rw [← hW3]; exact HB2.out.alloc HB2.out.size _)
 have HRD := hide (show W3.heap[D]? = some (.cells #[.slice A2 n2 k2, .slice B2 m2 j2] 25 (0, 0)) from by rw [← hW3, ← hD]; exact heap_alloc_new W2 _)
 have HQ3 := hide (show Sl W3 (fun b => w.heap.size ≤ b) A2 n2 k2 f.params from by rw [← hW3]; exact HS1.out.alloc _)
 have HQ4 := hide (show Sl W3 (fun b => w.heap.size ≤ b) B2 m2 j2 f.blocks from by rw [← hW3]; exact HS2.out.alloc _)
 have HV3 := hide (show VarsP W3 from HV.out.below HB3.out HV.out.v.sz)
 have dl3 : D < W3.heap.size := (Array.getElem?_eq_some_iff.1 HRD.out).1
 clear HS1 HS2 HB2 hW3 hD HA
 go_upto_region 5 with (go_at_call 15; (with_reducible refine (HB.out _ HV3.out).mono ?_); rintro e W4 ⟨A3, n3, k3, B3, m3, j3, rfl, hp, hb, hw⟩; dsimp only at hp hb ⊢; have HS1 := hide hp; have HS2 := hide hb; have HB4 := hide hw; clear hp hb hw)
 obtain ⟨E, hE⟩ : ∃ D, W4.heap.size = D := ⟨_, rfl⟩
 obtain ⟨W5, hW5⟩ : ∃ W, W4.alloc (.cells #[.slice A3 n3 k3, .slice B3 m3 j3] 25) = W := ⟨_, rfl⟩
 rw [hW5]
 try rw [hE]
 have HB5 := hide (show Below W3.heap.size W3 W5 from by rw [← hW5]; exact HB4.out.alloc HB4.out.size _)
 have HRE := hide (show W5.heap[E]? = some (.cells #[.slice A3 n3 k3, .slice B3 m3 j3] 25 (0, 0)) from by rw [← hW5, ← hE]; exact heap_alloc_new W4 _)
 have HU3 := hide (show Sl W5 (fun b => W3.heap.size ≤ b) A3 n3 k3 f.params from by rw [← hW5]; exact HS1.out.alloc _)
 have HU4 := hide (show Sl W5 (fun b => W3.heap.size ≤ b) B3 m3 j3 f.blocks from by rw [← hW5]; exact HS2.out.alloc _)
 have HR5 := hide ((HB5.out.block D dl3).trans HRD.out)
 have d0 : W5.cell? ⟨D, 0, none⟩ = some (.slice A2 n2 k2) := cell_of_row W5 D _ _ _ (0, 0) HR5.out
 have d1 : W5.cell? ⟨D, 1, none⟩ = some (.slice B2 m2 j2) := cell_of_row W5 D _ _ _ (0, 0) HR5.out
 have e0' : W5.cell? ⟨E, 0, none⟩ = some (.slice A3 n3 k3) := cell_of_row W5 E _ _ _ (0, 0) HRE.out
 have e1' : W5.cell? ⟨E, 1, none⟩ = some (.slice B3 m3 j3) := cell_of_row W5 E _ _ _ (0, 0) HRE.out
 have dl5 : D < W5.heap.size := (Array.getElem?_eq_some_iff.1 HR5.out).1
 have el5 : E < W5.heap.size := (Array.getElem?_eq_some_iff.1 HRE.out).1
 have hn : n3 = n2 := HU3.out.len.symm.trans HQ3.out.len
 have hm : m3 = m2 := HU4.out.len.symm.trans HQ4.out.len
 subst hn
 subst hm
 have HSF := hide (sameFunc_any f W5 (fun b => w.heap.size ≤ b) (fun b => W3.heap.size ≤ b) (fun b => w.heap.size ≤ b) (fun b => W3.heap.size ≤ b) A2 A3 B2 B3 n3 k2 k3 m3 j2 j3 (HQ3.out.belowAll HB5.out) HU3.out (HQ4.out.belowAll HB5.out) HU4.out)
 have HBF := hide (show Below w.heap.size w W5 from HB3.out.trans (HB5.out.mono HB3.out.size))
 have HVF := hide (show VarsP W5 from HV3.out.below HB5.out HV3.out.v.sz)
 have HAW := hide (fun u : Ext => awake04_any (W5.ext u) (HVF.out.ext u))
 clear HS1 HS2 HB4 hW5 hE HB HRD HRE HQ3 HQ4 HU3 HU4 HR5 dl3
 go_wp2_with (first | (go_at_call 16; (with_reducible refine HSF.out.mono ?_); rintro e _ ⟨rfl, u9, rfl⟩) | (go_at_call 9; (with_reducible refine (HAW.out _).mono ?_); rintro e _ ⟨rfl, u8, rfl⟩))
 go_ret
 exact RetX.b rfl ((HBF.out.ext HBF.out.size u9).ext (by rw [size_ext]; have := HBF.out.size; omega) u8)
end Go.Proofs.YtljglhaeonbfoaaGreatDoor
