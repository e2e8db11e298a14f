/- Walks: the program's moves: the row. Printed by gen_mv7.py. -/
import Derived.Test.YtoghikagooegbaaMV6
import Derived.Test.YtoghikagooegbaaFlow7
import Derived.Test.YtoghikagooegbaaGoto
set_option linter.unusedSimpArgs false
set_option linter.unusedVariables false
namespace Go.Proofs.Ytoghikagooegbaa
open Go.RowKit Go.Maps

/-- A step, where it lies. -/
structure Stp where
  m : Move
instance : Rep Stp where
  size := 1
  is _ _ x vs := vs = [stepV x.m] ∧ InI x.m.src.n ∧ InI x.m.dst.n
  len h := by rw [h.1]; rfl
  keep h _ _ := h
  more h _ := h
  one h := by
    rw [h.1]
    intro u hu
    simp only [List.mem_cons, List.not_mem_nil, or_false] at hu
    subst hu
    unfold stepV
    split
    · rfl
    · split <;> rfl
theorem stepV_form (m : Move) : ∃ th vh, stepV m = .iface th vh := by
  unfold stepV
  split
  · exact ⟨_, _, rfl⟩
  · split <;> exact ⟨_, _, rfl⟩
theorem eq_loc_run (a b : Loc) (w : World) : (Op.equalIn 10000 40 (.agg #[.bool a.slot, .int .i64 a.n]) (.agg #[.bool b.slot, .int .i64 b.n])).run Try.prog w = .ok (decide (a = b)) w := by
  rw [← locEq a b]
  obtain ⟨s1, n1⟩ := a
  obtain ⟨s2, n2⟩ := b
  dsimp only
  go_simp
  by_cases h1 : s1 = s2 <;> by_cases h2 : n1 = n2 <;> simp_all
theorem info_step : (Try.prog.info? 65).map (fun i => (i.zero, i.size, i.bytes)) = some (some .nilIface, 1, 16) := by kernel_rfl
theorem OwnL.flat {α : Type} [Rep α] {w : World} {base : Nat} {T : TypeId} {S : Nat → Prop} {v : Value} {xs : List α} (hf : ∀ (x : α) (us : List Value), Rep.is w S x us → Rep.is w (fun _ => False) x us) (h : OwnL w base T S v xs) : OwnL w base T (fun _ => False) v xs := by
  obtain ⟨vals, h1, h2, h3⟩ := h
  refine ⟨vals, h1, ?_, fun _ _ => id⟩
  clear h1
  induction xs generalizing vals with
  | nil => exact h2
  | cons x l ih => obtain ⟨us, ts, rfl, g1, g2⟩ := h2; exact ⟨us, ts, rfl, hf x us g1, ih ts g2⟩
theorem OwnL.moves {w : World} {base : Nat} {T : TypeId} {S : Nat → Prop} {v : Value} {xs : List Move} (h : OwnL w base T S v xs) : OwnL w base T (fun _ => False) v xs :=
  h.flat fun x us hx => by obtain ⟨rfl, h1, h2⟩ := Move.open_ hx; exact Move.mk_ h1 h2
/-- The row so far, what is left: where they lie. -/
structure RowM (w : World) (R L : List Move) (vo vl : Value) (wr : World) : Prop where
  out : OwnL wr w.heap.size 65 (fun _ => False) vo (R.map Stp.mk)
  left : OwnL wr w.heap.size 42 (fun _ => False) vl L
  apart : ∀ b, vo.ownBlock = some b → vl.ownBlock ≠ some b
  below : Below w.heap.size w wr
theorem RowM.ext {w wr : World} {R L : List Move} {vo vl : Value} (h : RowM w R L vo vl wr) (u : Ext) : RowM w R L vo vl (wr.ext u) :=
  ⟨h.out.ext u, h.left.ext u, h.apart, h.below.ext h.below.size u⟩
theorem RowM.alloc {w wr : World} {R L : List Move} {vo vl : Value} (h : RowM w R L vo vl wr) (o : Obj) : RowM w R L vo vl (wr.alloc o) :=
  ⟨h.out.alloc o, h.left.alloc o, h.apart, h.below.alloc h.below.size o⟩
theorem RowM.push {w W w1 : World} {R L : List Move} {vo vl v' : Value} {m : Move} {o : Obj} (h : RowM w R L vo vl W) (h1 : OwnL w1 w.heap.size 65 (fun _ => False) v' (R.map Stp.mk ++ [Stp.mk m])) (hg : (W.alloc o).grownBy w1 vo.ownBlock) (h3 : v'.ownBlock = vo.ownBlock ∨ v'.ownBlock = some (W.heap.size + 1)) :
    RowM w (R ++ [m]) L v' vl w1 := by
  have hs := h.below.size
  have hsz := hg.size
  simp only [World.size_alloc] at hsz
  refine ⟨by rw [List.map_append]; exact h1, (h.left.alloc o).keep hg.size (fun _ hf => hf.elim) fun g hgo => hg.block g (by have := (h.left.below_ g hgo).2; simp; omega) (fun e => h.apart g e.symm hgo), fun b hb hl => ?_, (h.below.alloc hs o).grown hg (by simp; omega) fun r e => (h.out.below_ r e).1⟩
  rcases h3 with e | e
  · exact h.apart b (by rw [← e]; exact hb) hl
  · rw [e] at hb
    injection hb with hb
    have := (h.left.below_ b hl).2
    omega
theorem RowM.pushed {w W w1 : World} {R L : List Move} {vo vl v' : Value} {m : Move} (h : RowM w R L vo vl W) (h1 : OwnL w1 w.heap.size 65 (fun _ => False) v' (R.map Stp.mk ++ [Stp.mk m])) (hg : W.grownBy w1 vo.ownBlock) (h3 : v'.ownBlock = vo.ownBlock ∨ ∃ g, v'.ownBlock = some g ∧ W.heap.size ≤ g) :
    RowM w (R ++ [m]) L v' vl w1 := by
  have hs := h.below.size
  refine ⟨by rw [List.map_append]; exact h1, h.left.keep hg.size (fun _ hf => hf.elim) fun g hgo => hg.block g (h.left.below_ g hgo).2 (fun e => h.apart g e.symm hgo), fun b hb hl => ?_, h.below.grown hg hs fun r e => (h.out.below_ r e).1⟩
  rcases h3 with e | ⟨g, e, hle⟩
  · exact h.apart b (by rw [← e]; exact hb) hl
  · rw [e] at hb
    injection hb with hb
    have := (h.left.below_ b hl).2
    omega
theorem map_set_at {α : Type} (f : α → α) {l : List α} {k : Nat} {x : α} (h : l[k]? = some x) : ((l.take k).map f ++ l.drop k).set k (f x) = (l.take (k + 1)).map f ++ l.drop (k + 1) := by
  have hk : k < l.length := (List.getElem?_eq_some_iff.1 h).1
  have hl : ((l.take k).map f).length = k := by rw [List.length_map, List.length_take]; omega
  have e : l[k] = x := by rw [List.getElem?_eq_getElem hk] at h; injection h
  have hd : l.drop k = x :: l.drop (k + 1) := by rw [List.drop_eq_getElem_cons hk, e]
  rw [List.set_append_right _ _ (by omega), hl, Nat.sub_self, take_at h, List.map_append, hd]
  simp only [List.set_cons_zero, List.map_cons, List.map_nil, List.append_assoc, List.cons_append, List.nil_append]
theorem mixed_at {α : Type} (f : α → α) {l : List α} {k : Nat} (hk : k < l.length) : ((l.take k).map f ++ l.drop k)[k]? = l[k]? := by
  have hl : ((l.take k).map f).length = k := by rw [List.length_map, List.length_take]; omega
  rw [List.getElem?_append_right (by omega), hl, Nat.sub_self, List.getElem?_drop, Nat.add_zero]
theorem redir_same {p s : Loc} {l : List Move} {k : Nat} {x : Move} (h : l[k]? = some x) (hx : x.src ≠ p) : (l.take k).map (redir p s) ++ l.drop k = (l.take (k + 1)).map (redir p s) ++ l.drop (k + 1) := by
  have hk : k < l.length := (List.getElem?_eq_some_iff.1 h).1
  have e : l[k] = x := by rw [List.getElem?_eq_getElem hk] at h; injection h
  have e2 : redir p s x = x := by unfold redir; rw [if_neg hx]
  rw [take_at h, List.map_append, List.drop_eq_getElem_cons hk, e]
  simp [e2]
theorem RowM.change {w W w1 : World} {R L L' : List Move} {vo vl vl' : Value} {g : Nat} (h : RowM w R L vo vl W) (hl : vl.ownBlock = some g) (hl' : vl'.ownBlock = some g) (h1 : OwnL w1 w.heap.size 42 (fun _ => False) vl' L') (hg : W.grownBy w1 (some g)) :
    RowM w R L' vo vl' w1 :=
  ⟨h.out.keep hg.size (fun _ hf => hf.elim) fun b hb => hg.block b (h.out.below_ b hb).2 (fun e => h.apart b hb (hl.trans e.symm)), h1, fun b hb e => h.apart b hb (hl.trans (hl'.symm.trans e)), h.below.grown hg h.below.size fun r e => by injection e with e; subst e; exact (h.left.below_ _ hl).1⟩
/-- What holds at each jump. -/
structure RowW (w : World) (s : Loc) (L0 : List Move) (R L : List Move) (vo vl : Value) (wr : World) : Prop where
  mem : RowM w R L vo vl wr
  row : rowOf s L0 = R ++ rowOf s L
  dst : ∀ m ∈ L, m.dst ≠ s
  len : L.length ≤ L0.length
theorem rowN_len (s : Loc) : ∀ (f : Nat) (l : List Move), (rowN s f l).length ≤ f := by
  intro f
  induction f with
  | zero => intro l; simp [rowN]
  | succ f ih =>
    intro l
    unfold rowN
    cases nxtM s l with
    | none => simp
    | some p => have := ih p.2; simp; omega
theorem RowW.lenR {w : World} {s : Loc} {L0 R L : List Move} {vo vl : Value} {wr : World} (h : RowW w s L0 R L vo vl wr) : R.length ≤ 2 * L0.length + 1 := by
  have h1 := rowN_len s (2 * L0.length + 1) L0
  have h2 := h.row
  have : (rowOf s L0).length = R.length + (rowOf s L).length := by rw [h2, List.length_append]
  unfold rowOf at this
  omega
theorem OwnL.cons_form {α : Type} [Rep α] {w : World} {base : Nat} {T : TypeId} {S : Nat → Prop} {v : Value} {xs : List α} (h : OwnL w base T S v xs) (hx : xs ≠ []) : ∃ g c, v = .slice (some ⟨g, 0, none⟩) xs.length c := by
  obtain ⟨vals, ⟨_, h⟩, _⟩ := h
  rcases h with ⟨rfl, h0⟩ | ⟨g, cap, cur, rfl, _⟩
  · exact absurd (List.eq_nil_of_length_eq_zero h0) hx
  · exact ⟨_, _, rfl⟩
set_option maxRecDepth 100000 in
set_option maxHeartbeats 16000000 in
theorem row_any (w : World) (S : Nat → Prop) (A : Option Addr) (n c : Nat) (xs : List Move) (h : Sl w S A n c xs) (hm : n ≤ 1048576) (t : Int) (ht : InI t) (hs : ∀ m ∈ busyM xs, m.dst ≠ spL t) :
    Calls Try.prog 27 #[.slice A n c, .int .i64 t] w (RetO 65 ((rowOf (spL t) (busyM xs)).map Stp.mk) w) := by
  have HBU := hide (busy_any w S A n c xs h hm)
  have hbl := busy_le xs
  rw [h.len] at hbl
  have HT := hide ht
  have HDS := hide hs
  obtain ⟨L0, hL0⟩ : ∃ L, busyM xs = L := ⟨_, rfl⟩
  rw [hL0] at HBU HDS hbl ⊢
  clear h hL0 hs ht
  go_enter Try.func27, Try.ntmps27
  go_wp2_with fail
  refine wp_scope_head 0 (fun (g : List Move × List Move) a' wr => ∃ (vo vl u2 u3 u6 u7 u8 u9 u10 u11 u12 u13 u14 u15 u16 u17 u18 u19 u20 u21 u22 u23 u24 u25 u26 u27 u28 u29 u30 u31 u32 u33 u34 u35 u36 u37 u38 u39 u40 u41 u42 u43 u44 u45 u46 u47 u48 u49 u50 u51 u52 u53 u54 u55 u56 u57 u58 u59 u60 u61 u62 : Value), a' = { tmps := #[.slice A n c, .int .i64 t, u2, u3, vo, vl, u6, u7, u8, u9, u10, u11, u12, u13, u14, u15, u16, u17, u18, u19, u20, u21, u22, u23, u24, u25, u26, u27, u28, u29, u30, u31, u32, u33, u34, u35, u36, u37, u38, u39, u40, u41, u42, u43, u44, u45, u46, u47, u48, u49, u50, u51, u52, u53, u54, u55, u56, u57, u58, u59, u60, u61, u62], defers := [] } ∧ RowW w (spL t) L0 g.1 g.2 vo vl wr) (fun g => measM g.2) rfl ?_ ?_
  · rintro ⟨R, L⟩ a' wr ⟨vo, vl, u2, u3, u6, u7, u8, u9, u10, u11, u12, u13, u14, u15, u16, u17, u18, u19, u20, u21, u22, u23, u24, u25, u26, u27, u28, u29, u30, u31, u32, u33, u34, u35, u36, u37, u38, u39, u40, u41, u42, u43, u44, u45, u46, u47, u48, u49, u50, u51, u52, u53, u54, u55, u56, u57, u58, u59, u60, u61, u62, rfl, hjw⟩
    dsimp only at hjw
    have HJ := hide hjw
    clear hjw
    obtain ⟨i0, hi, hz, hz1, hz2⟩ := info_parts info_step
    have HI0 := hide hi; have HZ := hide hz; have HZ1 := hide hz1; have HZ2 := hide hz2
    clear hi hz hz1 hz2 HBU
    by_cases hL : L = []
    · subst hL
      obtain ⟨A1, c1, rfl⟩ := HJ.out.mem.left.form
      obtain ⟨A3, c3, rfl⟩ := HJ.out.mem.out.form
      obtain ⟨n3, hn3⟩ : ∃ n3, (R.map Stp.mk).length = n3 := ⟨_, rfl⟩
      have HN3 := hide hn3
      rw [hn3]
      clear hn3
      go_wp2_with fail
      go_ret
      have hr : rowOf (spL t) L0 = R := by rw [HJ.out.row, rowOf_nil, List.append_nil]
      rw [hr, ← HN3.out]
      exact RetO.mk_ HJ.out.mem.out (fun _ h => h.elim) HJ.out.mem.below
    · obtain ⟨g, cl, rfl⟩ := HJ.out.mem.left.cons_form hL
      obtain ⟨nl, hnl⟩ : ∃ nl, L.length = nl := ⟨_, rfl⟩
      have HNL := hide hnl
      have hnl0 : 0 < nl := by rw [← hnl]; exact List.length_pos_iff.2 hL
      have hnlb : nl ≤ 1048576 := by have := HJ.out.len; omega
      rw [hnl] at HJ ⊢
      have HRD := hide (ready_any wr (fun _ => True) (some ⟨g, 0, none⟩) nl cl L (HJ.out.mem.left.sl fun _ _ _ => trivial) hnlb)
      clear hnl hL
      cases hrd : readyM L with
      | some k =>
        obtain ⟨m, hmk, hgm⟩ := readyM_some hrd
        have hk : k < nl := by rw [← HNL.out]; exact (List.getElem?_eq_some_iff.1 hmk).1
        have HNX := hide (show nxtM (spL t) L = some (m, L.eraseIdx k) by unfold nxtM; rw [hrd]; simp [hmk])
        have HMK := hide hmk
        have e : readyI L = (k : Int) := by unfold readyI; rw [hrd]
        rw [e] at HRD
        clear hmk hgm hrd e
        go_wp2_with (go_at_call 38; (with_reducible refine HRD.out.mono ?_); rintro e _ ⟨rfl, u1, rfl⟩; refine Hd.out ?_)
        have HM1 := hide (HJ.out.mem.ext u1)
        obtain ⟨b, off, x, eA, hb, hx, hx1, hx2, c0, c1, c2, c3⟩ := at_Move (w := wr.ext u1) (S := fun _ => True) (HM1.out.left.sl fun _ _ _ => trivial) hk
        injection eA with eA
        simp only [Addr.mk.injEq, and_true] at eA
        obtain ⟨rfl, rfl⟩ := eA
        have exm : x = m := by have := hx.symm.trans HMK.out; injection this
        subst exm
        have HX1 := hide hx1; have HX2 := hide hx2
        obtain ⟨th, vh, eh⟩ := stepV_form x
        have HEH := hide eh
        have HOF := hide (fun W => eh ▸ of_any' W x)
        clear eh
        simp only [Nat.zero_add] at c0 c1 c2 c3
        have hlR := HJ.out.lenR
        have HRL := hide (show (R.map Stp.mk).length ≤ 2097153 by rw [List.length_map]; omega)
        have hki : (k : Int) < nl := by omega
        have hk0 : (0 : Int) ≤ k := by omega
        have hwr : IntKind.i64.wrap ((k : Int) + 1) = (k : Int) + 1 := IntWalk.i64_in _ (by omega)
        clear hx hx1 hx2 HRD hlR
        refine hide ?_
        go_wp2_with (first
          | (go_at_call 39; (with_reducible refine (HOF.out _).mono ?_); rintro e _ ⟨rfl, u2', rfl⟩)
          | (at_builtin; refine wpList_push (α := Stp) ((wr.ext u1).ext u2') [.iface th vh] 65 rfl (.tmp 19) (.tmp 25) 62 rfl w.heap.size 65 i0 _ 16 Try.underlying62 HI0.out HZ.out HZ1.out HZ2.out rfl (by decide) (fun _ => False) (fun _ => False) vo _ ⟨x⟩ rfl (HM1.out.ext u2').out _ rfl (by simp only [size_ext]) ⟨by rw [HEH.out], HX1.out, HX2.out⟩ (fun _ h => h) (fun _ _ h => h) (fun _ h => h.elim) (by have := HRL.out; omega) (by have := HRL.out; omega) (HM1.out.ext u2').below.size ?_; intro v' w1 hown' hg h3; have HMP := hide ((HM1.out.ext u2').push hown' hg h3); clear hown' hg h3)
          | (go_at_call 40; (with_reducible refine (del_any w1 w.heap.size _ _ nl cl k L HMP.out.left hk).mono ?_); rintro e w3 ⟨rfl, hdl, hdg⟩; have HM3 := hide (HMP.out.change rfl rfl hdl hdg); clear hdl hdg))
        refine wp_goto ?_
        have HNL2 := HNL.out
        refine ⟨rfl, (R ++ [x], L.eraseIdx k), nxtM_meas HJ.out.dst HNX.out, v', .slice (some ⟨g, 0, none⟩) (nl - 1) cl, _, _, _, _, _, _, _, _, _, _, _, _, _, _, _, _, _, _, _, _, _, _, _, _, _, _, _, _, _, _, _, _, _, _, _, _, _, _, _, _, _, _, _, _, _, _, _, _, _, _, _, _, _, _, _, _, _, _, _, rfl, HM3.out, ?_, fun y hy => HJ.out.dst y (List.mem_of_mem_eraseIdx hy), Nat.le_trans (List.length_eraseIdx_le _ _) HJ.out.len⟩
        rw [HJ.out.row, rowOf_cons HJ.out.dst HNX.out, List.append_assoc]; rfl
      | none =>
        obtain ⟨m0, hm0⟩ : ∃ m0, L[0]? = some m0 := ⟨_, List.getElem?_eq_getElem (by rw [HNL.out]; exact hnl0)⟩
        have HNX := hide (show nxtM (spL t) L = some (⟨m0.dst, spL t⟩, L.map (redir m0.dst (spL t))) by unfold nxtM; rw [hrd]; simp [List.head?_eq_getElem?, hm0])
        have HM0 := hide hm0
        have e : readyI L = -1 := by unfold readyI; rw [hrd]
        rw [e] at HRD
        clear hm0 hrd e
        go_wp2_with (go_at_call 38; (with_reducible refine HRD.out.mono ?_); rintro e _ ⟨rfl, u1, rfl⟩; refine Hd.out ?_)
        have HM1 := hide (HJ.out.mem.ext u1)
        obtain ⟨W1, hW1⟩ : ∃ W, wr.ext u1 = W := ⟨_, rfl⟩
        rw [hW1] at HM1 ⊢
        clear hW1
        obtain ⟨b, off, x, eA, hb, hx, hx1, hx2, c0, c1, c2, c3⟩ := at_Move (w := W1) (S := fun _ => True) (HM1.out.left.sl fun _ _ _ => trivial) hnl0
        injection eA with eA
        simp only [Addr.mk.injEq, and_true] at eA
        obtain ⟨rfl, rfl⟩ := eA
        have exm : x = m0 := by have := hx.symm.trans HM0.out; injection this
        subst exm
        have HX1 := hide hx1; have HX2 := hide hx2
        simp only [Nat.zero_add, Nat.zero_mul] at c0 c1 c2 c3
        have hlR := HJ.out.lenR
        have HRL := hide (show (R.map Stp.mk).length ≤ 2097153 by rw [List.length_map]; omega)
        have hln : (0 : Int) < nl := by omega
        clear hx hx1 hx2 HRD hlR
        refine hide ?_
        go_wp2_with fail
        obtain ⟨tb, htb⟩ : ∃ tb, W1.heap.size = tb := ⟨_, rfl⟩
        obtain ⟨W2, hW2⟩ : ∃ W, W1.alloc (.cells #[.bool x.dst.slot, .int .i64 x.dst.n] 40) = W := ⟨_, rfl⟩
        have HM2 := hide (show RowM w R L vo (.slice (some ⟨g, 0, none⟩) nl cl) W2 by rw [← hW2]; exact HM1.out.alloc _)
        have HBX := hide (show W2.heap[tb]? = some (.cells #[.bool x.dst.slot, .int .i64 x.dst.n] 40 (0, 0)) by rw [← hW2, ← htb]; exact heap_alloc_new W1 _)
        have htb2 : tb < W2.heap.size := (Array.getElem?_eq_some_iff.1 HBX.out).1
        have htv : ∀ r, vo.ownBlock = some r → r < tb := fun r hr => by have := (HM1.out.out.below_ r hr).2; omega
        have hgt : g < tb := by omega
        have hwt : w.heap.size ≤ tb := by rw [← htb]; exact HM1.out.below.size
        have b0 : W2.cell? ⟨tb, 0, none⟩ = some (.bool x.dst.slot) := cell_of_row W2 _ _ _ _ (0, 0) HBX.out
        have b1 : W2.cell? ⟨tb, 1, none⟩ = some (.int .i64 x.dst.n) := cell_of_row W2 _ _ _ _ (0, 0) HBX.out
        rw [hW2]
        clear hW2 HM1 c0 c1 c2 c3 hb
        obtain ⟨th, vh, eh⟩ := stepV_form ⟨x.dst, spL t⟩
        have HEH := hide eh
        have HOF := hide (fun W => show Calls Try.prog 39 #[.agg #[.bool x.dst.slot, .int .i64 x.dst.n, .bool true, .int .i64 t]] W (RetX (.iface th vh) W) from eh ▸ of_any' W ⟨x.dst, spL t⟩)
        have HSP := hide (fun W => spare_any W t)
        clear eh
        refine wp_region_row_lastD (vo.ownBlock) [7] [6, 7] 8 (by kernel_rfl) rfl rfl rfl (by kernel_rfl) (by kernel_rfl) ?_
        simp only [List.take_succ_cons, List.take_zero]
        repeat (refine flowG_known0 (by kernel_rfl) (by kernel_rfl) (fun K hK => ?_); go_simp; (first | (refine hK _ ?_; clear hK K) | (apply Exists.intro; refine ⟨fun _ => ?_, hK _ ?_⟩; (first | (go_at_call 31; exact (HSP.out _)) | (go_at_call 39; exact (HOF.out _))); clear hK K)))
        refine flowG_keep [] (LitP 65 [.iface th vh] 1) (by kernel_rfl) (LitP.stable_ rfl) (by kernel_rfl) ?_ ?_
        · intro u hu
          try simp only [List.nil_append, List.cons_append, useH_f, useH_t, useH_nil]
          go_simp
          exact ⟨LitP.mk_ (us := [.iface th vh]) (by rw [size_ext]), onW_row_alloc hu⟩
        refine flowG_keep [true] (PushP w.heap.size 65 (fun _ => False) vo.ownBlock W2.heap.size (R.map Stp.mk ++ [Stp.mk ⟨x.dst, spL t⟩])) (by kernel_rfl) (PushP.stable_ rfl) (by kernel_rfl) ?_ ?_
        · intro u hu
          try simp only [List.nil_append, List.cons_append, useH_f, useH_t, useH_nil]
          intro v1 hv1
          have hMu := HM2.out.ext u
          exact HeldAt.push_own (α := Stp) rfl (.tmp 36) (.tmp 42) 62 rfl w.heap.size 65 i0 _ 16 Try.underlying62 HI0.out HZ.out HZ1.out HZ2.out rfl (by decide) (fun _ => False) (fun _ => False) vo _ ⟨⟨x.dst, spL t⟩⟩ [.iface th vh] 65 rfl hMu.out (by go_simp) hv1
            ⟨by rw [HEH.out], HX2.out, HT.out⟩ (fun _ h => h.elim) (fun g hg h => h) (fun b h => h.elim) (by have := HRL.out; omega) (by have := HRL.out; omega) (by rw [size_ext]; omega) hu
        refine flowG_done [false, true] (by kernel_rfl) ?_
        intro w6 h6
        simp only [List.nil_append, List.cons_append, endH_f, endH_t, endH_nil]
        rintro v8 v9 ⟨hown9, hv9, _⟩
        have HM3 := hide (HM2.out.pushed hown9 h6 hv9)
        have HB3 := hide (show w6.heap[tb]? = some (.cells #[.bool x.dst.slot, .int .i64 x.dst.n] 40 (0, 0)) from (h6.block tb htb2 (fun e => by have := htv tb e.symm; omega)).trans HBX.out)
        clear hown9 hv9 h6 HM2 HBX b0 b1 htb2 htv HOF HRL
        go_wp2_with fail
        go_loopw [46] (fun i wq => ∃ k : Nat, k ≤ nl ∧ i = .int .i64 k ∧ RowM w (R ++ [⟨x.dst, spL t⟩]) ((L.take k).map (redir x.dst (spL t)) ++ L.drop k) v9 (.slice (some ⟨g, 0, none⟩) nl cl) wq ∧ wq.heap[tb]? = some (.cells #[.bool x.dst.slot, .int .i64 x.dst.n] 40 (0, 0))) (fun i _ => nl - (intOf i).toNat)
        case atStart => exact ⟨0, Nat.zero_le _, rfl, HM3.out, HB3.out⟩
        clear HM3 HB3
        case round =>
          obtain ⟨k, hk, rfl, hmq, hbq⟩ := hrel
          have HMQ := hide hmq; have HBQ := hide hbq
          have b0 : wr.cell? ⟨tb, 0, none⟩ = some (.bool x.dst.slot) := cell_of_row wr _ _ _ _ (0, 0) hbq
          have b1 : wr.cell? ⟨tb, 1, none⟩ = some (.int .i64 x.dst.n) := cell_of_row wr _ _ _ _ (0, 0) hbq
          clear hmq hbq
          by_cases hlt : k < nl
          · have hki : (k : Int) < nl := by omega
            obtain ⟨b, off, y, eA, hb, hy, hy1, hy2, c0, c1, c2, c3⟩ := at_Move (w := wr) (S := fun _ => True) (HMQ.out.left.sl fun _ _ _ => trivial) hlt
            injection eA with eA
            simp only [Addr.mk.injEq, and_true] at eA
            obtain ⟨rfl, rfl⟩ := eA
            have HY := hide ((mixed_at (redir x.dst (spL t)) (by rw [HNL.out]; exact hlt)).symm.trans hy)
            have HYM := hide hy
            have HY1 := hide hy1; have HY2 := hide hy2
            have htb2 : tb < wr.heap.size := (Array.getElem?_eq_some_iff.1 HBQ.out).1
            simp only [Nat.zero_add] at c0 c1 c2 c3
            clear hy hy1 hy2 c2 c3
            obtain ⟨q, hq⟩ : ∃ q, decide (y.src = x.dst) = q := ⟨_, rfl⟩
            have EQ : ∀ w : World, (Op.equalIn 10000 40 (.agg #[.bool y.src.slot, .int .i64 y.src.n]) (.agg #[.bool x.dst.slot, .int .i64 x.dst.n])).run Try.prog w = .ok q w := fun w => hq ▸ eq_loc_run y.src x.dst w
            have HQ := hide hq
            clear hq
            go_wp2_with fail
            refine wp_region_flow_ext [] [] (by kernel_rfl) rfl (by kernel_rfl) ?_
            repeat (refine flow_known (by kernel_rfl) (fun K hK => ?_); go_simp; (first | (refine hK _ ?_; clear hK K) | (apply Exists.intro; refine ⟨fun _ => ?_, hK _ ?_⟩; (fail); clear hK K)))
            refine flow_done [] (by kernel_rfl) ?_
            intro u
            simp only [List.nil_append, List.cons_append, endH_f, endH_t, endH_nil]
            have HM4 := hide (HMQ.out.ext u)
            have HB4 := hide (show (wr.ext u).heap[tb]? = some (.cells #[.bool x.dst.slot, .int .i64 x.dst.n] 40 (0, 0)) from (ext_block wr u tb htb2).trans HBQ.out)
            obtain ⟨W4, hW4⟩ : ∃ W, wr.ext u = W := ⟨_, rfl⟩
            rw [hW4] at HM4 HB4 ⊢
            clear hW4 HMQ HBQ b0 b1 c0 c1 EQ htb2 hb
            cases q with
            | true =>
              go_wp2_with (go_at_call 31; (with_reducible refine (HSP.out _).mono ?_); rintro e _ ⟨rfl, u2, rfl⟩; refine Hd.out ?_)
              have HM5 := hide (HM4.out.ext u2)
              have HB5 := hide (show (W4.ext u2).heap[tb]? = some (.cells #[.bool x.dst.slot, .int .i64 x.dst.n] 40 (0, 0)) from (ext_block W4 u2 tb (Array.getElem?_eq_some_iff.1 HB4.out).1).trans HB4.out)
              obtain ⟨W5, hW5⟩ : ∃ W, W4.ext u2 = W := ⟨_, rfl⟩
              rw [hW5] at HM5 HB5 ⊢
              clear hW5 HM4 HB4
              obtain ⟨us, hus, hcu, hfu⟩ := HM5.out.left.cell_at HYM.out
              obtain ⟨rfl, _, _⟩ := Move.open_ hus
              have d0 : W5.cell? ⟨g, k * 4, none⟩ = some (.bool y.src.slot) := hcu 0 _ rfl
              have d1 : W5.cell? ⟨g, k * 4 + 1, none⟩ = some (.int .i64 y.src.n) := hcu 1 _ rfl
              have f0 : W5.frozen? ⟨g, k * 4, none⟩ = false := hfu _
              have f1 : W5.frozen? ⟨g, k * 4 + 1, none⟩ = false := hfu _
              clear hus hcu hfu
              refine hide ?_
              have hsx : y.src = x.dst := by simpa using HQ.out
              have hgr : W5.grownBy ((W5.setCell ⟨g, k * 4, none⟩ (.bool true)).setCell ⟨g, k * 4 + 1, none⟩ (.int .i64 t)) (some g) := setCells_grown g [.bool true, .int .i64 t] (k * 4) W5
              have s1 := HM5.out.left.set (i := k) (j := 0) (v := .bool true) (y := (⟨⟨true, y.src.n⟩, y.dst⟩ : Move)) HYM.out (by decide) (fun us hus => by obtain ⟨rfl, h1, h2⟩ := Move.open_ hus; exact Move.mk_ (x := ⟨⟨true, y.src.n⟩, y.dst⟩) h1 h2)
              have s2 := s1.set (i := k) (j := 1) (v := .int .i64 t) (x := (⟨⟨true, y.src.n⟩, y.dst⟩ : Move)) (y := (⟨spL t, y.dst⟩ : Move)) (by rw [List.getElem?_set_self]; exact (List.getElem?_eq_some_iff.1 HYM.out).1) (by decide) (fun us hus => by obtain ⟨rfl, h1, h2⟩ := Move.open_ hus; exact Move.mk_ (x := ⟨spL t, y.dst⟩) HT.out h2)
              have er : redir x.dst (spL t) y = ⟨spL t, y.dst⟩ := by unfold redir; rw [if_pos hsx]
              rw [List.set_set, ← er, map_set_at _ HY.out] at s2
              have HM6 := hide (HM5.out.change rfl rfl s2 hgr)
              have HB6 := hide ((hgr.block tb (Array.getElem?_eq_some_iff.1 HB5.out).1 (by intro e; injection e with e; omega)).trans HB5.out)
              clear s1 s2 er hgr hsx
              go_wp2_with fail
              first
                | (go_roundw; case rel => exact ⟨k + 1, by omega, by go_num, HM6.out, HB6.out⟩; case measure => simp [intOf]; omega)
                | exact ⟨⟨k + 1, by omega, by go_num, HM6.out, HB6.out⟩, by simp [intOf]; omega⟩
            | false =>
              have HR := hide (redir_same (s := spL t) HY.out (by simpa using HQ.out))
              rw [HR.out] at HM4
              go_wp2_with fail
              first
                | (go_roundw; case rel => exact ⟨k + 1, by omega, by go_num, HM4.out, HB4.out⟩; case measure => simp [intOf]; omega)
                | exact ⟨⟨k + 1, by omega, by go_num, HM4.out, HB4.out⟩, by simp [intOf]; omega⟩
          · have hkn : k = nl := by omega
            subst hkn
            go_wp2_with fail
            refine wp_goto ?_
            have hlm : (L.take k).map (redir x.dst (spL t)) ++ L.drop k = L.map (redir x.dst (spL t)) := by
              rw [List.take_of_length_le (by rw [HNL.out]; exact Nat.le_refl _), List.drop_of_length_le (by rw [HNL.out]; exact Nat.le_refl _), List.append_nil]
            rw [hlm] at HMQ
            refine ⟨rfl, (R ++ [⟨x.dst, spL t⟩], L.map (redir x.dst (spL t))), nxtM_meas HJ.out.dst HNX.out, v9, .slice (some ⟨g, 0, none⟩) k cl, _, _, _, _, _, _, _, _, _, _, _, _, _, _, _, _, _, _, _, _, _, _, _, _, _, _, _, _, _, _, _, _, _, _, _, _, _, _, _, _, _, _, _, _, _, _, _, _, _, _, _, _, _, _, _, _, _, _, _, rfl, HMQ.out, ?_, fun y hy => ?_, by rw [List.length_map]; exact HJ.out.len⟩
            · rw [HJ.out.row, rowOf_cons HJ.out.dst HNX.out, List.append_assoc]; rfl
            · obtain ⟨z, hz, rfl⟩ := List.mem_map.1 hy
              rw [redir_dst]; exact HJ.out.dst z hz
  · intro K hK
    have HK := hide hK
    clear hK
    go_wp2_with (go_at_call 11; (with_reducible refine HBU.out.mono ?_); rintro e _ ⟨A2, n2, d2, S2, rfl, ho, hS, u2', rfl⟩; have HO := hide ho; have HSS := hide hS; clear ho hS)
    refine HK.out (([] : List Move), L0) _ _ ⟨.slice none 0 0, .slice A2 n2 d2, _, _, _, _, _, _, _, _, _, _, _, _, _, _, _, _, _, _, _, _, _, _, _, _, _, _, _, _, _, _, _, _, _, _, _, _, _, _, _, _, _, _, _, _, _, _, _, _, _, _, _, _, _, _, _, _, _, _, _, rfl, ?_⟩
    exact ⟨⟨OwnL.nil_ _ _ _ _, HO.out.moves, fun b h => by simp [Value.ownBlock] at h, Below.of_ext w u2' (Nat.le_refl _)⟩, rfl, HDS.out, Nat.le_refl _⟩
end Go.Proofs.Ytoghikagooegbaa
