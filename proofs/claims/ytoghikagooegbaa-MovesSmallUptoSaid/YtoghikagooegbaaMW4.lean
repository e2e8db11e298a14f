/- Walks: the document's moves: the row. Printed by gen_mw4.py. -/
import Derived.Test.YtoghikagooegbaaMW3
import Derived.Test.YtoghikagooegbaaFlow7
import Derived.Deep.RegionLaw
import Derived.Deep.DeepCutAuto
import Derived.Deep.CutBlock
set_option linter.unusedSimpArgs false
set_option linter.unusedVariables false
namespace Go.Proofs.Ytoghikagooegbaa
open Go.RowKit Go.Maps

/-- The row so far, what is left: where they lie. -/
structure RowE (w : World) (R L : List Move) (vo vl : Value) (wr : World) : Prop where
  out : OwnL wr w.heap.size 54 (fun _ => False) vo (R.map insM)
  left : OwnL wr w.heap.size 69 (fun _ => False) vl L
  apart : ∀ b, vo.ownBlock = some b → vl.ownBlock ≠ some b
  below : Below w.heap.size w wr
theorem RowE.ext {w wr : World} {R L : List Move} {vo vl : Value} (h : RowE w R L vo vl wr) (u : Ext) : RowE w R L vo vl (wr.ext u) :=
  ⟨h.out.ext u, h.left.ext u, h.apart, h.below.ext h.below.size u⟩
theorem RowE.alloc {w wr : World} {R L : List Move} {vo vl : Value} (h : RowE w R L vo vl wr) (o : Obj) : RowE w R L vo vl (wr.alloc o) :=
  ⟨h.out.alloc o, h.left.alloc o, h.apart, h.below.alloc h.below.size o⟩
theorem RowE.push {w W w1 : World} {R L : List Move} {vo vl v' : Value} {m : Move} {o : Obj} (h : RowE w R L vo vl W) (h1 : OwnL w1 w.heap.size 54 (fun _ => False) v' (R.map insM ++ [insM m])) (hg : (W.alloc o).grownBy w1 vo.ownBlock) (h3 : v'.ownBlock = vo.ownBlock ∨ v'.ownBlock = some (W.heap.size + 1)) :
    RowE w (R ++ [m]) L v' vl w1 := by
  have hs := h.below.size
  have hsz := hg.size
  simp only [World.size_alloc] at hsz
  refine ⟨by rw [List.map_append]; exact h1, (h.left.alloc o).keep hg.size (fun _ hf => hf.elim) fun g hgo => hg.block g (by have := (h.left.below_ g hgo).2; simp; omega) (fun e => h.apart g e.symm hgo), fun b hb hl => ?_, (h.below.alloc hs o).grown hg (by simp; omega) fun r e => (h.out.below_ r e).1⟩
  rcases h3 with e | e
  · exact h.apart b (by rw [← e]; exact hb) hl
  · rw [e] at hb
    injection hb with hb
    have := (h.left.below_ b hl).2
    omega
theorem RowE.pushed {w W w1 : World} {R L : List Move} {vo vl v' : Value} {m : Move} (h : RowE w R L vo vl W) (h1 : OwnL w1 w.heap.size 54 (fun _ => False) v' (R.map insM ++ [insM m])) (hg : W.grownBy w1 vo.ownBlock) (h3 : v'.ownBlock = vo.ownBlock ∨ ∃ g, v'.ownBlock = some g ∧ W.heap.size ≤ g) :
    RowE w (R ++ [m]) L v' vl w1 := by
  have hs := h.below.size
  refine ⟨by rw [List.map_append]; exact h1, h.left.keep hg.size (fun _ hf => hf.elim) fun g hgo => hg.block g (h.left.below_ g hgo).2 (fun e => h.apart g e.symm hgo), fun b hb hl => ?_, h.below.grown hg hs fun r e => (h.out.below_ r e).1⟩
  rcases h3 with e | ⟨g, e, hle⟩
  · exact h.apart b (by rw [← e]; exact hb) hl
  · rw [e] at hb
    injection hb with hb
    have := (h.left.below_ b hl).2
    omega
theorem RowE.change {w W w1 : World} {R L L' : List Move} {vo vl vl' : Value} {g : Nat} (h : RowE w R L vo vl W) (hl : vl.ownBlock = some g) (hl' : vl'.ownBlock = some g) (h1 : OwnL w1 w.heap.size 69 (fun _ => False) vl' L') (hg : W.grownBy w1 (some g)) :
    RowE w R L' vo vl' w1 :=
  ⟨h.out.keep hg.size (fun _ hf => hf.elim) fun b hb => hg.block b (h.out.below_ b hb).2 (fun e => h.apart b hb (hl.trans e.symm)), h1, fun b hb e => h.apart b hb (hl.trans (hl'.symm.trans e)), h.below.grown hg h.below.size fun r e => by injection e with e; subst e; exact (h.left.below_ _ hl).1⟩
theorem Sl.drop_ {α : Type} [Rep α] {w : World} {S : Nat → Prop} {b off n c j : Nat} {xs : List α} (h : Sl w S (some ⟨b, off, none⟩) n c xs) (hj : j ≤ n) : Sl w S (if c = j then some ⟨b, off, none⟩ else some ⟨b, off + j * Rep.size α, none⟩) (n - j) (c - j) (xs.drop j) := by
  obtain ⟨h1, h2, h3, h4, h5⟩ := h
  refine ⟨by rw [List.length_drop, h1], by omega, by omega, fun e => (by split at e <;> cases e), fun hn => ?_⟩
  have hne : c ≠ j := by omega
  obtain ⟨b', off', e, hb, hS, hx⟩ := h5 (by omega)
  injection e with e
  injection e with e1 e2
  subst e1 e2
  rw [if_neg hne]
  refine ⟨b, off + j * Rep.size α, rfl, hb, hS, fun i x hi => ?_⟩
  rw [List.getElem?_drop] at hi
  obtain ⟨us, hus, hc⟩ := hx (j + i) x hi
  refine ⟨us, hus, fun q u hq => ?_⟩
  have := hc q u hq
  rw [show off + j * Rep.size α + (i * Rep.size α + q) = off + ((j + i) * Rep.size α + q) by rw [Nat.add_mul]; omega]
  exact this
theorem insM_args (m : Move) : (insM m).args = [] := by unfold insM; split; · rfl
                                                        · split <;> rfl
theorem insM_rep {w : World} {S : Nat → Prop} (m : Move) (h1 : InI m.src.n) (h2 : InI m.dst.n) : Rep.is w S (insM m) [.int .i64 (insM m).op, .int .i64 (insM m).dst, .int .i64 (insM m).a, .int .i64 (insM m).b, .int .i64 (insM m).imm, .int .i64 (insM m).callee, .slice none 0 0, .int .i64 (insM m).many] := by
  have z : ∀ k : Int, -9223372036854775808 ≤ k ∧ k ≤ 9223372036854775807 → InI k := fun k h => ini_ h
  refine Ins.mk_ ?_ ?_ ?_ ?_ ?_ ?_ (by rw [insM_args]; exact Sl.nil) ?_
  all_goals
    rcases insM_cases m with ⟨_, e⟩ | ⟨_, e⟩ | ⟨_, e⟩
    all_goals
      rw [e]
      first | exact h1 | exact h2 | exact z _ ⟨by simp, by simp⟩
def sliceLen : Value → Nat
  | .slice _ n _ => n
  | _ => 0
theorem ringsN_snoc (s : Loc) (r : List Move) (m : Move) : ringsN s (r ++ [m]) = ringsN s r + if m.dst = s then 1 else 0 := by
  unfold ringsN
  rw [List.countP_append]
  by_cases hx : m.dst = s <;> simp [hx]
/-- A row of instructions of the call's own, and a number. -/
def RetRowN (xs : List Ins) (e : Int) (w : World) (en : Ending) (w' : World) : Prop := ∃ A n c, en = .returned (.tuple #[.slice A n c, .int .i64 e]) ∧ OwnL w' w.heap.size 54 (fun _ => False) (.slice A n c) xs ∧ ∃ u, w' = w.ext u
theorem OwnL.ap {α : Type} [Rep α] {w : World} {base : Nat} {T : TypeId} {S : Nat → Prop} {v : Value} {xs : List α} (h : OwnL w base T S v xs) : ∀ g, v.ownBlock = some g → ¬ S g := by
  obtain ⟨_, _, _, ha⟩ := h; exact ha
/-- What is left is laid anew. -/
theorem RowE.anew {w w1 X w2 w3 : World} {R L L' : List Move} {vo vl v2 v3 : Value} {g r0 : Nat} (h : RowE w R L vo vl w1) (hX : w1.grownBy X none) (hr0 : w1.heap.size ≤ r0) (h2 : X.grownBy w2 (some r0)) (h3 : w2.grownBy w3 v2.ownBlock) (e2 : v2.ownBlock = some r0 ∨ v2.ownBlock = some X.heap.size)
    (e3 : v3.ownBlock = v2.ownBlock ∨ v3.ownBlock = some w2.heap.size) (ho : OwnL w3 w.heap.size 69 (fun b => b = g) v3 L') : RowE w R L' vo v3 w3 := by
  have hs := h.below.size
  have s1 := hX.size; have s2 := h2.size; have s3 := h3.size
  have hv2 : ∀ b, v2.ownBlock = some b → w1.heap.size ≤ b := fun b hb => by
    rcases e2 with e | e <;> rw [e] at hb <;> injection hb with hb <;> omega
  have hv3 : ∀ b, v3.ownBlock = some b → w1.heap.size ≤ b := fun b hb => by
    rcases e3 with e | e
    · rw [e] at hb; exact hv2 b hb
    · rw [e] at hb; injection hb with hb; omega
  have hk : ∀ b, b < w1.heap.size → w3.heap[b]? = w1.heap[b]? := fun b hb =>
    (h3.block b (by omega) (fun e => by have := hv2 b e.symm; omega)).trans ((h2.block b (by omega) (fun e => by injection e with e; omega)).trans (hX.block b hb (fun e => by cases e)))
  have hbl : Below w1.heap.size w1 w3 := ((Below.refl _ _).grown hX (Nat.le_refl _) (fun _ e => by cases e)).grown h2 s1 (fun r e => by injection e with e; omega) |>.grown h3 (by omega) fun r e => hv2 r e
  exact ⟨h.out.keep (by omega) (fun _ hf => hf.elim) fun b hb => hk b (h.out.below_ b hb).2, ho.flat (fun x us hx => by obtain ⟨rfl, h1, h2⟩ := Move.open_ hx; exact Move.mk_ h1 h2), fun b hb e => by have := (h.out.below_ b hb).2; have := hv3 b e; omega, h.below.trans (hbl.mono hs)⟩
set_option maxRecDepth 100000 in
set_option maxHeartbeats 16000000 in
theorem rowD_any (w : World) (S : Nat → Prop) (A : Option Addr) (n c : Nat) (xs : List Move) (h : Sl w S A n c xs) (hm : n ≤ 1048576) (t : Int) (ht : InI t) (hs : Sound xs (spL t)) :
    Calls Try.prog 28 #[.slice A n c, .int .i64 t] w (RetRowN ((rowOf (spL t) (busyM xs)).map insM) (ringsN (spL t) (rowOf (spL t) (busyM xs)) : Nat) w) := by
  have HBU := hide (busyD_any w S A n c xs h hm)
  have hbl := busy_le xs
  rw [h.len] at hbl
  have HT := hide ht
  have HST := hide (StatM.of hs rfl)
  obtain ⟨L0, hL0⟩ : ∃ L, busyM xs = L := ⟨_, rfl⟩
  rw [hL0] at HBU HST hbl ⊢
  obtain ⟨N, hN⟩ : ∃ N, (rowOf (spL t) L0).length = N := ⟨_, rfl⟩
  have HN := hide hN
  have hNb : N ≤ 2 * n + 1 := by have := rowOf_le (spL t) L0; omega
  obtain ⟨i0, hi, hz, hz1, hz2⟩ := info_parts info_Ins
  have HI0 := hide hi; have HZ := hide hz; have HZ1 := hide hz1; have HZ2 := hide hz2
  obtain ⟨j0, hi', hz', hz1', hz2'⟩ := info_parts info_DMove
  have HJ0 := hide hi'; have HY := hide hz'; have HY1 := hide hz1'; have HY2 := hide hz2'
  clear h hL0 hs ht hN hi hz hz1 hz2 hi' hz' hz1' hz2'
  go_enter Try.func28, Try.ntmps28
  go_wp2_with (go_at_call 16; (with_reducible refine HBU.out.mono ?_); rintro e _ ⟨A2, n2, d2, S2, rfl, ho, hS, u2', rfl⟩; have HO := hide ho; have HSS := hide hS; clear ho hS)
  go_loopw [6, 7, 8] (fun o r v wr => ∃ R L : List Move, r = .int .i64 (ringsN (spL t) R : Nat) ∧ RowE w R L o v wr ∧ rowOf (spL t) L0 = R ++ rowOf (spL t) L ∧ StatM (spL t) L ∧ L.length ≤ L0.length) (fun o _ _ _ => N - sliceLen o)
  case atStart => exact ⟨[], L0, rfl, ⟨OwnL.nil_ _ _ _ _, HO.out.flat (fun x us hx => by obtain ⟨rfl, h1, h2⟩ := Move.open_ hx; exact Move.mk_ h1 h2), fun b h => by simp [Value.ownBlock] at h, Below.of_ext w u2' (Nat.le_refl _)⟩, rfl, HST.out, Nat.le_refl _⟩
  clear HBU HO HSS HST
  case round =>
    obtain ⟨R, L, rfl, hme, hrow, hst, hll⟩ := hrel
    have HM := hide hme; have HROW := hide hrow; have HSTA := hide hst; have HLL := hide hll
    have hRN : R.length + (rowOf (spL t) L).length = N := by have h := HN.out; rw [hrow, List.length_append] at h; exact h
    have hrR : ringsN (spL t) R ≤ R.length := List.countP_le_length
    clear hme hrow hst hll
    by_cases hL : L = []
    · subst hL
      obtain ⟨A1, c1, rfl⟩ := HM.out.left.form
      obtain ⟨A3, c3, rfl⟩ := HM.out.out.form
      obtain ⟨n3, hn3⟩ : ∃ n3, (R.map insM).length = n3 := ⟨_, rfl⟩
      have HN3 := hide hn3
      rw [hn3]
      clear hn3
      go_wp2_with fail
      go_ret2
      have hr : rowOf (spL t) L0 = R := by rw [HROW.out, rowOf_nil, List.append_nil]
      rw [hr, ← HN3.out]
      exact ⟨A3, _, c3, rfl, HM.out.out, Below.to_ext HM.out.below⟩
    · obtain ⟨g, cl, rfl⟩ := HM.out.left.cons_form hL
      obtain ⟨nl, hnl⟩ : ∃ nl, L.length = nl := ⟨_, rfl⟩
      have HNL := hide hnl
      have hnl0 : 0 < nl := by rw [← hnl]; exact List.length_pos_iff.2 hL
      have hnlb : nl ≤ 1048576 := by have := HLL.out; omega
      have hcl : nl ≤ cl ∧ cl ≤ 9223372036854775807 := by
        obtain ⟨_, h2, h3, _⟩ := HM.out.left.form_at
        rw [hnl] at h2
        exact ⟨h2, h3⟩
      obtain ⟨A3, c3, rfl⟩ := HM.out.out.form
      obtain ⟨n3, hn3⟩ : ∃ n3, (R.map insM).length = n3 := ⟨_, rfl⟩
      have HLR := hide (show R.length = n3 by rw [← hn3, List.length_map])
      rw [hn3] at HM ⊢
      rw [hnl] at HM ⊢
      have HFD := hide (firstD_any wr (fun _ => True) (some ⟨g, 0, none⟩) nl cl L (HM.out.left.sl fun _ _ _ => trivial) HSTA.out.ne)
      have hnlp : (0 : Int) < nl := by omega
      clear hnl hL hn3
      cases hrd : readyM L with
      | some k =>
        obtain ⟨m, hmk, hgm⟩ := readyM_some hrd
        have hk : k < nl := by rw [← HNL.out]; exact (List.getElem?_eq_some_iff.1 hmk).1
        have HNX := hide (show nxtM (spL t) L = some (m, L.eraseIdx k) by unfold nxtM; rw [hrd]; simp [hmk])
        have HMK := hide hmk
        have e : readyI L = (k : Int) := by unfold readyI; rw [hrd]
        rw [e] at HFD
        clear hmk hgm hrd e
        go_wp2_with (go_at_call 41; (with_reducible refine HFD.out.mono ?_); rintro e _ ⟨rfl, u1, rfl⟩; refine Hd.out ?_)
        have HM1 := hide (HM.out.ext u1)
        obtain ⟨W1, hW1⟩ : ∃ W, wr.ext u1 = W := ⟨_, rfl⟩
        rw [hW1] at HM1 ⊢
        clear hW1 HFD
        obtain ⟨b, off, x, eA, hb, hx, hx1, hx2, c0, c1, c2, c3'⟩ := at_Move (w := W1) (S := fun _ => True) (HM1.out.left.sl fun _ _ _ => trivial) hk
        injection eA with eA
        simp only [Addr.mk.injEq, and_true] at eA
        obtain ⟨rfl, rfl⟩ := eA
        obtain rfl : x = m := by have := hx.symm.trans HMK.out; injection this
        have HX1 := hide hx1; have HX2 := hide hx2
        simp only [Nat.zero_add] at c0 c1 c2 c3'
        have HIN := hide (fun W => show Calls Try.prog 42 #[.agg #[.bool x.src.slot, .int .i64 x.src.n, .bool x.dst.slot, .int .i64 x.dst.n]] W (RetX (.agg #[.int .i64 (insM x).op, .int .i64 (insM x).dst, .int .i64 (insM x).a, .int .i64 (insM x).b, .int .i64 (insM x).imm, .int .i64 (insM x).callee, .slice none 0 0, .int .i64 (insM x).many]) W) from insD_any W x)
        have hki : (k : Int) < nl := by omega
        have hk0 : (0 : Int) ≤ k := by omega
        have hwr : IntKind.i64.wrap ((k : Int) + 1) = (k : Int) + 1 := IntWalk.i64_in _ (by omega)
        have hp0 : (0 : Int) ≤ (k : Int) + 1 := by omega
        have hp1 : (k : Int) + 1 ≤ (nl : Int) := by omega
        have hp2 : ((k : Int) + 1).toNat = k + 1 := by omega
        have hkc : k ≤ cl := by omega
        have hlrb : n3 ≤ 2 * n + 1 := by have := HLR.out; omega
        have HRB := hide (show (R.map insM).length ≤ 2097153 by rw [List.length_map, HLR.out]; omega)
        clear hx hx1 hx2
        refine hide ?_
        go_wp2_with (first
          | (go_at_call 42; (with_reducible refine (HIN.out _).mono ?_); rintro e _ ⟨rfl, u2', rfl⟩)
          | (at_builtin; refine wpList_push (α := Ins) (W1.ext u2') [.int .i64 (insM x).op, .int .i64 (insM x).dst, .int .i64 (insM x).a, .int .i64 (insM x).b, .int .i64 (insM x).imm, .int .i64 (insM x).callee, .slice none 0 0, .int .i64 (insM x).many] 54 rfl (.tmp 22) (.tmp 28) 24 rfl w.heap.size 54 i0 _ 80 Try.underlying24 HI0.out HZ.out HZ1.out HZ2.out rfl (by decide) (fun _ => False) (fun _ => False) (.slice A3 n3 c3) _ (insM x) rfl (HM1.out.ext u2').out _ rfl (by simp only [size_ext]) (insM_rep x HX1.out HX2.out) (fun _ h => h) (fun _ _ h => h) (fun _ h => h.elim) (by have := HRB.out; omega) (by have := HRB.out; omega) (HM1.out.ext u2').below.size ?_; intro v' w1 hown' hg h3; have HMP := hide ((HM1.out.ext u2').push hown' hg h3); clear hown' hg h3; refine Hd.out ?_))
        have hmps := HMP.out.below.size
        have hgw1 : g < w1.heap.size := (HMP.out.left.below_ g rfl).2
        clear c0 c1 c2 c3' hb HIN HM1
        refine hide ?_
        go_wp2_with fail
        obtain ⟨X, hX⟩ : ∃ X, (w1.alloc (.cells #[] 69)).drew = X := ⟨_, rfl⟩
        obtain ⟨r0, hr0⟩ : ∃ r0, w1.heap.size = r0 := ⟨_, rfl⟩
        have HGX := hide (show w1.grownBy X none by rw [← hX]; exact ⟨rfl, rfl, rfl, by show w1.heap.size ≤ (w1.alloc _).heap.size; simp, fun i hi _ => Below.heap_alloc w1 _ i hi⟩)
        have HEX := hide (show OwnL X w.heap.size 69 (fun _ => False) (.slice (some ⟨r0, 0, none⟩) 0 0) ([] : List Move) by
          rw [← hX]
          exact (OwnL.of_block (xs := ([] : List Move)) (n := 0) (c := 0) (cur := #[]) rfl (Nat.le_refl _) (by unfold maxLen; omega) (by omega) id (by rw [← hr0]; exact heap_alloc_new w1 _) rfl rfl).drew)
        have HLX := hide (show OwnL X w.heap.size 69 (fun _ => False) (.slice (some ⟨g, 0, none⟩) nl cl) L by rw [← hX]; exact (HMP.out.left.alloc _).drew)
        have hXs : w1.heap.size < X.heap.size := by rw [← hX]; show w1.heap.size < (w1.alloc _).heap.size; simp
        have hgX : g < X.heap.size := by omega
        have hgr : g ≠ r0 := by omega
        have HSA := hide (show Sl X (fun b => b = g) (some ⟨g, 0, none⟩) k cl (L.take k) from Sl.take_ (HLX.out.slo (S' := fun b => b = g) fun b _ h => h.elim (fun h => h.elim) fun h => by simp [Value.ownBlock] at h; exact h.symm) (by omega))
        obtain ⟨A8, hA8⟩ : ∃ A8 : Addr, (if cl = k + 1 then some (⟨g, 0, none⟩ : Addr) else some ⟨g, (k + 1) * 4, none⟩) = some A8 := by split <;> exact ⟨_, rfl⟩
        have HSD := hide (fun (W : World) (ho : OwnL W w.heap.size 69 (fun _ => False) (.slice (some ⟨g, 0, none⟩) nl cl) L) => show Sl W (fun b => b = g) (some A8) (nl - (k + 1)) (cl - (k + 1)) (L.drop (k + 1)) by
          have h := Sl.drop_ (j := k + 1) (ho.slo (S' := fun b => b = g) fun b _ h => h.elim (fun h => h.elim) fun h => by simp [Value.ownBlock] at h; exact h.symm) (by omega)
          simp only [Nat.zero_add] at h
          rw [show Rep.size Move = 4 from rfl, hA8] at h
          exact h)
        have hLT : ([] ++ L.take k).length = k := by rw [List.nil_append, List.length_take, HNL.out]; omega
        have HLT := hide hLT
        clear hLT
        have HXW := hide hX
        clear hX
        go_region_law (first
          | (rw [HXW.out]; (try rw [hr0]); refine step_push_sl (α := Move) X rfl (.tmp 30) (.tmp 33) 29 rfl w.heap.size 69 j0 _ 32 Try.underlying29 HJ0.out HY.out HY1.out HY2.out rfl (by decide) (fun _ => False) (fun b => b = g) (fun b => b = g) (.slice (some ⟨r0, 0, none⟩) 0 0) [] (L.take k) (by simp [Act.eval, Act.put]) HEX.out (some ⟨g, 0, none⟩) k cl (by simp [Act.eval, Act.put]) HSA.out (fun _ h => h.elim) (fun _ _ h => h) (fun q hq e => by simp [Value.ownBlock] at hq; omega) (fun b e => by omega) (by simp only [List.length_nil]; omega) (by simp only [List.length_nil]; omega) (by omega) ?_; intro v2 w2 ho2 hg2 he2; have HO2 := hide ho2; have HG2 := hide hg2; have HE2 := hide he2; clear ho2 hg2 he2)
          | (refine step_push_sl (α := Move) w2 rfl (.tmp 34) (.tmp 38) 29 rfl w.heap.size 69 j0 _ 32 Try.underlying29 HJ0.out HY.out HY1.out HY2.out rfl (by decide) (fun b => b = g) (fun b => b = g) (fun b => b = g) v2 ([] ++ L.take k) (L.drop (k + 1)) (by simp [Act.eval, Act.put]) HO2.out (some A8) (nl - (k + 1)) (cl - (k + 1)) (by simp [Act.eval, Act.put]) (HSD.out w2 (HLX.out.keep HG2.out.size (fun _ hf => hf.elim) fun q hq => HG2.out.block q (HLX.out.below_ q hq).2 (fun e => by simp [Value.ownBlock] at hq e; omega))) (fun _ h => h) (fun _ _ h => h) HO2.out.ap (fun b e => by have := HG2.out.size; omega) (by rw [HLT.out]; omega) (by rw [HLT.out]; omega) (by have := HG2.out.size; omega) ?_; intro v3 w3 ho3 hg3 he3; have HO3 := hide ho3; have HG3 := hide hg3; have HE3 := hide he3; clear ho3 hg3 he3))
        have HO4 := hide (show OwnL w3 w.heap.size 69 (fun b => b = g) v3 (L.eraseIdx k) by
          have h := HO3.out
          rw [List.nil_append, ← List.eraseIdx_eq_take_drop_succ] at h
          exact h)
        have HME := hide (HMP.out.anew HGX.out (Nat.le_of_eq hr0) HG2.out HG3.out HE2.out HE3.out HO4.out)
        have hn3N : n3 < N := by
          have := hRN
          rw [rowOf_cons HSTA.out.fr HNX.out, HLR.out, List.length_cons] at this
          omega
        obtain ⟨A9, c9, rfl⟩ := HME.out.out.form
        have hn9 : ((R ++ [x]).map insM).length = n3 + 1 := by rw [List.length_map, List.length_append, HLR.out]; rfl
        rw [hn9] at HME ⊢
        clear hn9
        have HRG := hide (show ringsN (spL t) (R ++ [x]) = ringsN (spL t) R by rw [ringsN_snoc, if_neg (HSTA.out.fr x (List.mem_of_getElem? HMK.out))]; rfl)
        have HRW := hide (show rowOf (spL t) L0 = (R ++ [x]) ++ rowOf (spL t) (L.eraseIdx k) by rw [HROW.out, rowOf_cons HSTA.out.fr HNX.out, List.append_assoc]; rfl)
        have HSN := hide (HSTA.out.next HNX.out).1
        have HLN := hide (Nat.le_trans (List.length_eraseIdx_le L k) HLL.out)
        clear HO2 HO3 HO4 HG2 HG3 HE2 HE3 HGX HEX HLX HSA HSD HLT HXW HMP hRN hA8
        go_simp
        go_wp2_with fail
        first
          | (go_roundw; case rel => exact ⟨R ++ [x], L.eraseIdx k, by rw [HRG.out], HME.out, HRW.out, HSN.out, HLN.out⟩; case measure => show N - (n3 + 1) < N - n3; omega)
          | exact ⟨⟨R ++ [x], L.eraseIdx k, by rw [HRG.out], HME.out, HRW.out, HSN.out, HLN.out⟩, by show N - (n3 + 1) < N - n3; omega⟩
      | none =>
        obtain ⟨m0, hm0⟩ : ∃ m0, L[0]? = some m0 := ⟨_, List.getElem?_eq_getElem (by rw [HNL.out]; exact hnl0)⟩
        have HNX := hide (show nxtM (spL t) L = some (⟨m0.dst, spL t⟩, L.map (redir m0.dst (spL t))) by unfold nxtM; rw [hrd]; simp [List.head?_eq_getElem?, hm0])
        have HM0 := hide hm0
        have e : readyI L = -1 := by unfold readyI; rw [hrd]
        rw [e] at HFD
        clear hm0 hrd e
        go_wp2_with (go_at_call 41; (with_reducible refine HFD.out.mono ?_); rintro e _ ⟨rfl, u1, rfl⟩; refine Hd.out ?_)
        have HM1 := hide (HM.out.ext u1)
        obtain ⟨W1, hW1⟩ : ∃ W, wr.ext u1 = W := ⟨_, rfl⟩
        rw [hW1] at HM1 ⊢
        clear hW1 HFD
        obtain ⟨b, off, x, eA, hb, hx, hx1, hx2, c0, c1, c2, c3'⟩ := at_Move (w := W1) (S := fun _ => True) (HM1.out.left.sl fun _ _ _ => trivial) hnl0
        injection eA with eA
        simp only [Addr.mk.injEq, and_true] at eA
        obtain ⟨rfl, rfl⟩ := eA
        obtain rfl : x = m0 := by have := hx.symm.trans HM0.out; injection this
        have HX1 := hide hx1; have HX2 := hide hx2
        simp only [Nat.zero_add, Nat.zero_mul] at c0 c1 c2 c3'
        obtain ⟨ms, hms⟩ : ∃ ms : Move, (⟨x.dst, spL t⟩ : Move) = ms := ⟨_, rfl⟩
        have HMS := hide hms
        have HIN := hide (fun W => show Calls Try.prog 42 #[.agg #[.bool x.dst.slot, .int .i64 x.dst.n, .bool true, .int .i64 t]] W (RetX (.agg #[.int .i64 (insM ms).op, .int .i64 (insM ms).dst, .int .i64 (insM ms).a, .int .i64 (insM ms).b, .int .i64 (insM ms).imm, .int .i64 (insM ms).callee, .slice none 0 0, .int .i64 (insM ms).many]) W) from hms ▸ insD_any W ⟨x.dst, spL t⟩)
        obtain ⟨rg, hrg⟩ : ∃ rg, ringsN (spL t) R = rg := ⟨_, rfl⟩
        have HRGS := hide hrg
        rw [hrg] at hrR ⊢
        have hlrb : n3 ≤ 2 * n + 1 := by have := HLR.out; omega
        have hwr : IntKind.i64.wrap ((rg : Int) + 1) = (rg : Int) + 1 := IntWalk.i64_in _ (by have := HLR.out; omega)
        have HRB := hide (show (R.map insM).length ≤ 2097153 by rw [List.length_map, HLR.out]; omega)
        have hg1 : g < W1.heap.size := hb
        have hn3N : n3 < N := by
          have := hRN
          rw [rowOf_cons HSTA.out.fr HNX.out, HLR.out, List.length_cons] at this
          omega
        clear hx hx1 hx2 hms hrg hRN hb
        refine hide ?_
        go_upto_region 12 with (fail)
        obtain ⟨tb, htb⟩ : ∃ tb, W1.heap.size = tb := ⟨_, rfl⟩
        obtain ⟨W2, hW2⟩ : ∃ W, (W1.alloc (.cells #[.bool x.dst.slot, .int .i64 x.dst.n] 40)).alloc (.cells #[.bool true, .int .i64 t] 40) = W := ⟨_, rfl⟩
        have HM2 := hide (show RowE w R L (.slice A3 n3 c3) (.slice (some ⟨g, 0, none⟩) nl cl) W2 by rw [← hW2]; exact (HM1.out.alloc _).alloc _)
        have HBX := hide (show W2.heap[tb]? = some (.cells #[.bool x.dst.slot, .int .i64 x.dst.n] 40 (0, 0)) by rw [← hW2, ← htb]; exact (Below.heap_alloc _ _ _ (by simp)).trans (heap_alloc_new W1 _))
        have HBY := hide (show W2.heap[tb + 1]? = some (.cells #[.bool true, .int .i64 t] 40 (0, 0)) by
          rw [← hW2]
          have h := heap_alloc_new (W1.alloc (.cells #[.bool x.dst.slot, .int .i64 x.dst.n] 40)) (.cells #[.bool true, .int .i64 t] 40)
          rw [World.size_alloc, htb] at h
          exact h)
        have htb2 : tb + 1 < W2.heap.size := (Array.getElem?_eq_some_iff.1 HBY.out).1
        have htv : ∀ r, (Value.slice A3 n3 c3).ownBlock = some r → r < tb := fun r hr => by have := (HM1.out.out.below_ r hr).2; omega
        have hgt : g < tb := by omega
        have b0 : W2.cell? ⟨tb, 0, none⟩ = some (.bool x.dst.slot) := cell_of_row W2 _ _ _ _ (0, 0) HBX.out
        have b1 : W2.cell? ⟨tb, 1, none⟩ = some (.int .i64 x.dst.n) := cell_of_row W2 _ _ _ _ (0, 0) HBX.out
        have b2 : W2.cell? ⟨tb + 1, 0, none⟩ = some (.bool true) := cell_of_row W2 _ _ _ _ (0, 0) HBY.out
        have b3 : W2.cell? ⟨tb + 1, 1, none⟩ = some (.int .i64 t) := cell_of_row W2 _ _ _ _ (0, 0) HBY.out
        rw [hW2]
        clear hW2 HM1 c0 c1 c2 c3'
        go_wp2_with (first
          | (go_at_call 42; (with_reducible refine (HIN.out _).mono ?_); rintro e _ ⟨rfl, u2', rfl⟩)
          | (at_builtin; refine wpList_push (α := Ins) (W2.ext u2') [.int .i64 (insM ms).op, .int .i64 (insM ms).dst, .int .i64 (insM ms).a, .int .i64 (insM ms).b, .int .i64 (insM ms).imm, .int .i64 (insM ms).callee, .slice none 0 0, .int .i64 (insM ms).many] 54 rfl (.tmp 48) (.tmp 53) 24 rfl w.heap.size 54 i0 _ 80 Try.underlying24 HI0.out HZ.out HZ1.out HZ2.out rfl (by decide) (fun _ => False) (fun _ => False) (.slice A3 n3 c3) _ (insM ms) rfl (HM2.out.ext u2').out _ rfl (by simp only [size_ext]) (insM_rep ms (by rw [← HMS.out]; exact HX2.out) (by rw [← HMS.out]; exact HT.out)) (fun _ h => h) (fun _ _ h => h) (fun _ h => h.elim) (by have := HRB.out; omega) (by have := HRB.out; omega) (HM2.out.ext u2').below.size ?_; intro v' w1 hown' hg h3; have HMP := hide ((HM2.out.ext u2').push hown' hg h3); have HGP := hide hg; clear hown' hg h3; refine Hd.out ?_))
        have hk1 : ∀ b, b < W2.heap.size → (∀ r, (Value.slice A3 n3 c3).ownBlock = some r → r ≠ b) → w1.heap[b]? = W2.heap[b]? := fun b hb hne =>
          (HGP.out.block b (by simp only [World.size_alloc, size_ext]; omega) (fun e => hne b e.symm rfl)).trans ((Below.heap_alloc _ _ _ (by rw [size_ext]; omega)).trans (ext_block W2 u2' b hb))
        have HB3 := hide ((hk1 tb (by omega) (fun r hr e => by have := htv r hr; omega)).trans HBX.out)
        have HB4 := hide ((hk1 (tb + 1) htb2 (fun r hr e => by have := htv r hr; omega)).trans HBY.out)
        obtain ⟨A9, c9, rfl⟩ := HMP.out.out.form
        have hn9 : ((R ++ [ms]).map insM).length = n3 + 1 := by rw [List.length_map, List.length_append, HLR.out]; rfl
        rw [hn9] at HMP ⊢
        clear hn9 hk1 HGP HM2 HBX HBY b0 b1 b2 b3 htb2 htv HIN HRB
        refine hide ?_
        go_wp2_with fail
        go_loopw [12] (fun i wq => ∃ k : Nat, k ≤ nl ∧ i = .int .i64 k ∧ RowE w (R ++ [ms]) ((L.take k).map (redir x.dst (spL t)) ++ L.drop k) (.slice A9 (n3 + 1) c9) (.slice (some ⟨g, 0, none⟩) nl cl) wq ∧ wq.heap[tb]? = some (.cells #[.bool x.dst.slot, .int .i64 x.dst.n] 40 (0, 0)) ∧ wq.heap[tb + 1]? = some (.cells #[.bool true, .int .i64 t] 40 (0, 0))) (fun i _ => nl - (intOf i).toNat)
        case atStart => exact ⟨0, Nat.zero_le _, rfl, HMP.out, HB3.out, HB4.out⟩
        clear HMP HB3 HB4
        case round =>
          obtain ⟨k, hk, rfl, hmq, hbq, hbq2⟩ := hrel
          have HMQ := hide hmq; have HBQ := hide hbq; have HBR := hide hbq2
          have b0 : wr.cell? ⟨tb, 0, none⟩ = some (.bool x.dst.slot) := cell_of_row wr _ _ _ _ (0, 0) hbq
          have b1 : wr.cell? ⟨tb, 1, none⟩ = some (.int .i64 x.dst.n) := cell_of_row wr _ _ _ _ (0, 0) hbq
          clear hmq hbq hbq2
          by_cases hlt : k < nl
          · have hki : (k : Int) < nl := by omega
            obtain ⟨b, off, y, eA, hb, hy, hy1, hy2, c0, c1, c2, c4⟩ := at_Move (w := wr) (S := fun _ => True) (HMQ.out.left.sl fun _ _ _ => trivial) hlt
            injection eA with eA
            simp only [Addr.mk.injEq, and_true] at eA
            obtain ⟨rfl, rfl⟩ := eA
            have HY9 := hide ((mixed_at (redir x.dst (spL t)) (by rw [HNL.out]; exact hlt)).symm.trans hy)
            have HYM := hide hy
            have htb2 : tb < wr.heap.size := (Array.getElem?_eq_some_iff.1 HBQ.out).1
            simp only [Nat.zero_add] at c0 c1 c2 c4
            clear hy hy1 hy2 c2 c4
            obtain ⟨q, hq⟩ : ∃ q, decide (y.src = x.dst) = q := ⟨_, rfl⟩
            have EQ : ∀ w : World, (Op.equalIn 10000 40 (.agg #[.bool y.src.slot, .int .i64 y.src.n]) (.agg #[.bool x.dst.slot, .int .i64 x.dst.n])).run Try.prog w = .ok q w := fun w => hq ▸ eq_loc_run y.src x.dst w
            have HQ := hide hq
            clear hq
            go_wp2_with fail
            refine wp_region_flow_ext [] [] (by kernel_rfl) rfl (by kernel_rfl) ?_
            repeat (refine flow_known (by kernel_rfl) (fun K hK => ?_); go_simp; (first | (refine hK _ ?_; clear hK K) | (apply Exists.intro; refine ⟨fun _ => ?_, hK _ ?_⟩; (fail); clear hK K)))
            refine flow_done [] (by kernel_rfl) ?_
            intro u
            simp only [List.nil_append, List.cons_append, endH_f, endH_t, endH_nil]
            have HM4 := hide (HMQ.out.ext u)
            have HB4 := hide (show (wr.ext u).heap[tb]? = some (.cells #[.bool x.dst.slot, .int .i64 x.dst.n] 40 (0, 0)) from (ext_block wr u tb htb2).trans HBQ.out)
            have HB5 := hide (show (wr.ext u).heap[tb + 1]? = some (.cells #[.bool true, .int .i64 t] 40 (0, 0)) from (ext_block wr u (tb + 1) (Array.getElem?_eq_some_iff.1 HBR.out).1).trans HBR.out)
            obtain ⟨W4, hW4⟩ : ∃ W, wr.ext u = W := ⟨_, rfl⟩
            rw [hW4] at HM4 HB4 HB5 ⊢
            clear hW4 HMQ HBQ HBR b0 b1 c0 c1 EQ htb2 hb
            cases q with
            | true =>
              obtain ⟨us, hus, hcu, hfu⟩ := HM4.out.left.cell_at HYM.out
              obtain ⟨rfl, _, _⟩ := Move.open_ hus
              have d0 : W4.cell? ⟨g, k * 4, none⟩ = some (.bool y.src.slot) := hcu 0 _ rfl
              have d1 : W4.cell? ⟨g, k * 4 + 1, none⟩ = some (.int .i64 y.src.n) := hcu 1 _ rfl
              have f0 : W4.frozen? ⟨g, k * 4, none⟩ = false := hfu _
              have f1 : W4.frozen? ⟨g, k * 4 + 1, none⟩ = false := hfu _
              have z0 : W4.cell? ⟨tb + 1, 0, none⟩ = some (.bool true) := cell_of_row W4 _ _ _ _ (0, 0) HB5.out
              have z1 : W4.cell? ⟨tb + 1, 1, none⟩ = some (.int .i64 t) := cell_of_row W4 _ _ _ _ (0, 0) HB5.out
              have hsx : y.src = x.dst := by simpa using HQ.out
              have hgr : W4.grownBy ((W4.setCell ⟨g, k * 4, none⟩ (.bool true)).setCell ⟨g, k * 4 + 1, none⟩ (.int .i64 t)) (some g) := setCells_grown g [.bool true, .int .i64 t] (k * 4) W4
              have s1 := HM4.out.left.set (i := k) (j := 0) (v := .bool true) (y := (⟨⟨true, y.src.n⟩, y.dst⟩ : Move)) HYM.out (by decide) (fun us hus => by obtain ⟨rfl, h1, h2⟩ := Move.open_ hus; exact Move.mk_ (x := ⟨⟨true, y.src.n⟩, y.dst⟩) h1 h2)
              have s2 := s1.set (i := k) (j := 1) (v := .int .i64 t) (x := (⟨⟨true, y.src.n⟩, y.dst⟩ : Move)) (y := (⟨spL t, y.dst⟩ : Move)) (by rw [List.getElem?_set_self]; exact (List.getElem?_eq_some_iff.1 HYM.out).1) (by decide) (fun us hus => by obtain ⟨rfl, h1, h2⟩ := Move.open_ hus; exact Move.mk_ (x := ⟨spL t, y.dst⟩) HT.out h2)
              have er : redir x.dst (spL t) y = ⟨spL t, y.dst⟩ := by unfold redir; rw [if_pos hsx]
              rw [List.set_set, ← er, map_set_at _ HY9.out] at s2
              have HM6 := hide (HM4.out.change rfl rfl s2 hgr)
              have HB6 := hide ((hgr.block tb (Array.getElem?_eq_some_iff.1 HB4.out).1 (by intro e; injection e with e; omega)).trans HB4.out)
              have HB7 := hide ((hgr.block (tb + 1) (Array.getElem?_eq_some_iff.1 HB5.out).1 (by intro e; injection e with e; omega)).trans HB5.out)
              clear s1 s2 er hgr hsx hus hcu hfu
              go_wp2_with fail
              first
                | (go_roundw; case rel => exact ⟨k + 1, by omega, by go_num, HM6.out, HB6.out, HB7.out⟩; case measure => simp [intOf]; omega)
                | exact ⟨⟨k + 1, by omega, by go_num, HM6.out, HB6.out, HB7.out⟩, by simp [intOf]; omega⟩
            | false =>
              have HR := hide (redir_same (s := spL t) HY9.out (by simpa using HQ.out))
              rw [HR.out] at HM4
              go_wp2_with fail
              first
                | (go_roundw; case rel => exact ⟨k + 1, by omega, by go_num, HM4.out, HB4.out, HB5.out⟩; case measure => simp [intOf]; omega)
                | exact ⟨⟨k + 1, by omega, by go_num, HM4.out, HB4.out, HB5.out⟩, by simp [intOf]; omega⟩
          · have hkn : k = nl := by omega
            have hlk2 : decide ((k : Int) < nl) = false := by simp; omega
            have hlm : (L.take k).map (redir x.dst (spL t)) ++ L.drop k = L.map (redir x.dst (spL t)) := by
              rw [List.take_of_length_le (by rw [HNL.out]; omega), List.drop_of_length_le (by rw [HNL.out]; omega), List.append_nil]
            rw [hlm] at HMQ
            have HRG := hide (show ringsN (spL t) (R ++ [ms]) = rg + 1 by rw [ringsN_snoc, HRGS.out, if_pos (by rw [← HMS.out])])
            have HRW := hide (show rowOf (spL t) L0 = (R ++ [ms]) ++ rowOf (spL t) (L.map (redir x.dst (spL t))) by rw [HROW.out, rowOf_cons HSTA.out.fr HNX.out, HMS.out, List.append_assoc]; rfl)
            have HSN := hide (HSTA.out.next HNX.out).1
            have HLN := hide (show (L.map (redir x.dst (spL t))).length ≤ L0.length by rw [List.length_map]; exact HLL.out)
            clear hlm hkn HBQ HBR b0 b1
            go_wp2_with fail
            first
              | (go_roundw; case rel => exact ⟨R ++ [ms], L.map (redir x.dst (spL t)), by rw [HRG.out]; go_num, HMQ.out, HRW.out, HSN.out, HLN.out⟩; case measure => show N - (n3 + 1) < N - n3; omega)
              | exact ⟨⟨R ++ [ms], L.map (redir x.dst (spL t)), by rw [HRG.out]; go_num, HMQ.out, HRW.out, HSN.out, HLN.out⟩, by show N - (n3 + 1) < N - n3; omega⟩
end Go.Proofs.Ytoghikagooegbaa
