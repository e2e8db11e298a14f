/- law24: walk: the registers of parts. -/
import Derived.Test.YtbppamjogdjfkaaIT10
set_option linter.unusedSimpArgs false
set_option linter.unusedVariables false
namespace Go.Proofs.Ytbppamjogdjfkaa
open Go.RowKit Go.Shelf Go.Maps

/-- A pointer to a block. -/
structure Ptr24 where
  b : Nat
instance : Rep Ptr24 where
  size := 1
  is _ _ x vs := vs = [.pointer (some ⟨x.b, 0, none⟩)]
  len h := by rw [h]; rfl
  keep h _ _ := h
  more h _ := h
  one h := by rw [h]; simp [Value.oneCell']
/-- It returns rows that it has made, and an error. -/
def RetOf24 (x : List (List Int) × Int) (w : World) (e : Ending) (w' : World) : Prop :=
  ∃ (v : Value) (hs : List Hdr), e = .returned (.tuple #[v, .int .i64 x.2]) ∧ hs.length = x.1.length ∧ OwnL w' w.heap.size 22 (fun _ => False) v hs ∧ RowsO w' w.heap.size hs (fun k => (x.1[k]?).getD []) ∧ Below w.heap.size w w'
/-- Between two parts. -/
structure OfI (B : Nat) (S : Nat → Prop) (W0 : World) (done : List (Part × List (Int × Int))) (vo : Value) (hs : List Hdr) (va : Value) (gs : List Ptr24) (W : World) : Prop where
  lo : hs.length = done.length
  la : gs.length = done.length
  out : OwnL W B 22 (fun _ => False) vo hs
  rows : RowsO W B hs (fun k => ((done[k]?).map told24).getD [])
  all : OwnL W B 45 (fun _ => False) va gs
  bd : ∀ (i : Nat) (g : Ptr24) (q : Part) (acc : List (Int × Int)), gs[i]? = some g → done[i]? = some (q, acc) → ∃ mr mh par N, BdAt W S g.b q mr mh par N acc ∧ B ≤ g.b ∧ B ≤ mr
  below : Below B W0 W
section
variable {B : Nat} {S : Nat → Prop} {W0 W W' : World} {done : List (Part × List (Int × Int))} {vo va : Value} {hs : List Hdr} {gs : List Ptr24}
theorem OfI.after (h : OfI B S W0 done vo hs va gs W) (hb : Below W.heap.size W W') (hB : B ≤ W.heap.size) : OfI B S W0 done vo hs va gs W' :=
  ⟨h.lo, h.la, h.out.keep hb.size (fun _ f => f.elim) fun g e => hb.block g (h.out.below_ g e).2, h.rows.belowAll hb, h.all.keep hb.size (fun _ f => f.elim) fun g e => hb.block g (h.all.below_ g e).2,
   fun i g q acc hg hd => by
     obtain ⟨mr, mh, par, N, h1, h2, h3⟩ := h.bd i g q acc hg hd
     exact ⟨mr, mh, par, N, h1.belowAll hb, h2, h3⟩, h.below.trans (hb.mono hB)⟩
end
/-- The own block of a list holds cells of the list's type. -/
theorem OwnL.kind {α : Type} [Rep α] {w : World} {B : Nat} {T : TypeId} {S : Nat → Prop} {v : Value} {xs : List α} (h : OwnL w B T S v xs) {g : Nat} (e : v.ownBlock = some g) : ∃ cur z, w.heap[g]? = some (.cells cur T z) := by
  obtain ⟨vals, hrow, _, _⟩ := h
  rcases hrow.2 with ⟨rfl, _⟩ | ⟨g', cap, cur, rfl, _, hg, _⟩
  · cases e
  · injection e with e; subst e; exact ⟨_, _, hg⟩
theorem kind_ne {w : World} {g g' : Nat} {T T' : TypeId} (h : ∃ cur z, w.heap[g]? = some (.cells cur T z)) (h' : ∃ cur z, w.heap[g']? = some (.cells cur T' z)) (hT : T ≠ T') : g ≠ g' := by
  rintro rfl
  obtain ⟨_, _, h⟩ := h; obtain ⟨_, _, h'⟩ := h'
  rw [h] at h'; injection h' with h'; injection h' with _ h' _
  exact hT h'
/-- In a round, once the part's bound has been appended. -/
structure OfJ (B : Nat) (W0 : World) (done : List (Part × List (Int × Int))) (vo : Value) (hs : List Hdr) (gs : List Ptr24) (W : World) : Prop where
  out : OwnL W B 22 (fun _ => False) vo hs
  rows : RowsO W B hs (fun k => ((done[k]?).map told24).getD [])
  bd : ∀ (i : Nat) (g : Ptr24) (q : Part) (acc : List (Int × Int)), gs[i]? = some g → done[i]? = some (q, acc) → ∃ mr mh par N, BdAt W (fun b => b < B) g.b q mr mh par N acc ∧ B ≤ g.b ∧ B ≤ mr
  below : Below B W0 W
theorem bd_grown {B : Nat} {W W' : World} {g mr mh N : Nat} {q : Part} {par : Option Nat} {acc : List (Int × Int)} {v : Value} {T : TypeId} {o : Obj} (hb : BdAt W (fun b => b < B) g q mr mh par N acc) (hB : B ≤ W.heap.size) (hk : ∀ r, v.ownBlock = some r → B ≤ r ∧ ∃ cur z, W.heap[r]? = some (.cells cur T z)) (hT : T ≠ 48) (hg : (W.alloc o).grownBy W' v.ownBlock) : BdAt W' (fun b => b < B) g q mr mh par N acc := by
  have hz := hg.size
  have kp : ∀ b, b < W.heap.size → v.ownBlock ≠ some b → W'.heap[b]? = W.heap[b]? := fun b hl hne => (hg.block b (by simp; omega) fun e => hne e.symm).trans (Below.heap_alloc W o b hl)
  refine hb.keep (by simp at hz; omega) (kp g hb.lt fun e => ?_) (kp mr hb.regs.lt fun e => ?_) fun b hS hl => kp b hl fun e => ?_
  · obtain ⟨_, cur, z, h⟩ := hk g e
    obtain ⟨_, _, _, _, _, _, hr, _⟩ := hb.row
    rw [hr] at h; injection h with h; injection h with _ h _
    exact hT h.symm
  · obtain ⟨_, cur, z, h⟩ := hk mr e
    obtain ⟨D, ⟨es, clock, hes, _⟩, _⟩ := hb.regs
    rw [hes] at h; injection h with h; cases h
  · have := (hk b e).1; omega
section
variable {B : Nat} {W0 W W' : World} {done : List (Part × List (Int × Int))} {vo va : Value} {hs : List Hdr} {gs : List Ptr24}
theorem OfJ.after (h : OfJ B W0 done vo hs gs W) (hb : Below W.heap.size W W') (hB : B ≤ W.heap.size) : OfJ B W0 done vo hs gs W' :=
  ⟨h.out.keep hb.size (fun _ f => f.elim) fun g e => hb.block g (h.out.below_ g e).2, h.rows.belowAll hb,
   fun i g q acc hg hd => by
     obtain ⟨mr, mh, par, N, h1, h2, h3⟩ := h.bd i g q acc hg hd
     exact ⟨mr, mh, par, N, h1.belowAll hb, h2, h3⟩, h.below.trans (hb.mono hB)⟩
theorem OfI.toJ (h : OfI B (fun b => b < B) W0 done vo hs va gs W) (hB : B ≤ W.heap.size) {o : Obj} (hg : (W.alloc o).grownBy W' va.ownBlock) : OfJ B W0 done vo hs gs W' := by
  have hz := hg.size
  have kp : ∀ b, b < W.heap.size → va.ownBlock ≠ some b → W'.heap[b]? = W.heap[b]? := fun b hl hne => (hg.block b (by simp; omega) fun e => hne e.symm).trans (Below.heap_alloc W o b hl)
  have hk : ∀ r, va.ownBlock = some r → B ≤ r ∧ ∃ cur z, W.heap[r]? = some (.cells cur 45 z) := fun r e => ⟨(h.all.below_ r e).1, h.all.kind e⟩
  refine ⟨h.out.keep (by simp at hz; omega) (fun _ f => f.elim) fun g e => kp g (h.out.below_ g e).2 fun e2 => kind_ne (h.out.kind e) (hk g e2).2 (by decide) rfl, h.rows.keep (by simp at hz; omega) fun k x g hx e => kp g (h.rows.lt hx e).2 fun e2 => kind_ne ((h.rows.own k x hx).kind e) (hk g e2).2 (by decide) rfl, fun i g q acc hgi hd => ?_, ?_⟩
  · obtain ⟨mr, mh, par, N, h1, h2, h3⟩ := h.bd i g q acc hgi hd
    exact ⟨mr, mh, par, N, bd_grown h1 hB hk (by decide) hg, h2, h3⟩
  · exact h.below.trans ⟨by rw [hg.os]; rfl, by rw [hg.tape]; rfl, by rw [hg.output]; rfl, by simp at hz; omega, fun b hb => kp b (by omega) fun e => by have := (hk b e).1; omega⟩
theorem OfJ.close (h : OfJ B W0 done vo hs gs W) (hB : B ≤ W.heap.size) (lo : hs.length = done.length) (la : gs.length = done.length) {g : Nat} {q : Part} {mr mh N : Nat} {par : Option Nat} {acc : List (Int × Int)} (ha : OwnL W B 45 (fun _ => False) va (gs ++ [⟨g⟩])) (hbd : BdAt W (fun b => b < B) g q mr mh par N acc) (hg0 : B ≤ g) (hm0 : B ≤ mr)
    {r : Hdr} (hr : OwnL W B 3 (fun _ => False) r.v (told24 (q, acc))) (hne : ∀ (k : Nat) (x : Hdr) (b : Nat), hs[k]? = some x → x.v.ownBlock = some b → r.v.ownBlock ≠ some b) {o : Obj} {vo' : Value} (ho : OwnL W' B 22 (fun _ => False) vo' (hs ++ [r])) (hg : (W.alloc o).grownBy W' vo.ownBlock) :
    OfI B (fun b => b < B) W0 (done ++ [(q, acc)]) vo' (hs ++ [r]) va (gs ++ [⟨g⟩]) W' := by
  have hz := hg.size
  have hz' : W.heap.size ≤ W'.heap.size := by simp at hz; omega
  have kp : ∀ b, b < W.heap.size → vo.ownBlock ≠ some b → W'.heap[b]? = W.heap[b]? := fun b hl hne => (hg.block b (by simp; omega) fun e => hne e.symm).trans (Below.heap_alloc W o b hl)
  have hk : ∀ r, vo.ownBlock = some r → B ≤ r ∧ ∃ cur z, W.heap[r]? = some (.cells cur 22 z) := fun r e => ⟨(h.out.below_ r e).1, h.out.kind e⟩
  have hrows : RowsO W B (hs ++ [r]) (fun k => (((done ++ [(q, acc)])[k]?).map told24).getD []) := by
    refine ⟨fun k x hx => ?_, fun j k x y b hj hkk hjk e e2 => ?_⟩
    · by_cases hl : k < hs.length
      · rw [List.getElem?_append_left hl] at hx
        have := h.rows.own k x hx
        rw [List.getElem?_append_left (by omega)]
        exact this
      · have hlt := (List.getElem?_eq_some_iff.1 hx).1
        rw [List.length_append, List.length_singleton] at hlt
        obtain rfl : k = hs.length := by omega
        simp at hx
        subst hx
        rw [lo]
        simpa using hr
    · by_cases hl : j < hs.length
      · rw [List.getElem?_append_left hl] at hj
        by_cases hl2 : k < hs.length
        · rw [List.getElem?_append_left hl2] at hkk
          exact h.rows.ne j k x y b hj hkk hjk e e2
        · have hlt := (List.getElem?_eq_some_iff.1 hkk).1
          rw [List.length_append, List.length_singleton] at hlt
          obtain rfl : k = hs.length := by omega
          simp at hkk
          subst hkk
          exact hne j x b hj e e2
      · have hlt := (List.getElem?_eq_some_iff.1 hj).1
        rw [List.length_append, List.length_singleton] at hlt
        obtain rfl : j = hs.length := by omega
        simp at hj
        subst hj
        have hlt2 := (List.getElem?_eq_some_iff.1 hkk).1
        rw [List.length_append, List.length_singleton] at hlt2
        rw [List.getElem?_append_left (by omega)] at hkk
        exact hne k y b hkk e2 e
  refine ⟨by simp [lo], by simp [la], ho, hrows.keep hz' fun k x b hx e => kp b (hrows.lt hx e).2 fun e2 => kind_ne ((hrows.own k x hx).kind e) (hk b e2).2 (by decide) rfl, ha.keep hz' (fun _ f => f.elim) fun b e => kp b (ha.below_ b e).2 fun e2 => kind_ne (ha.kind e) (hk b e2).2 (by decide) rfl, fun i g' q' acc' hgi hd => ?_, ?_⟩
  · by_cases hl : i < gs.length
    · rw [List.getElem?_append_left hl] at hgi
      rw [List.getElem?_append_left (by omega)] at hd
      obtain ⟨mr', mh', par', N', h1, h2, h3⟩ := h.bd i g' q' acc' hgi hd
      exact ⟨mr', mh', par', N', bd_grown h1 hB hk (by decide) hg, h2, h3⟩
    · have hlt := (List.getElem?_eq_some_iff.1 hgi).1
      rw [List.length_append, List.length_singleton] at hlt
      obtain rfl : i = gs.length := by omega
      rw [la] at hd
      simp at hgi hd
      obtain ⟨rfl, rfl⟩ := hd
      subst hgi
      exact ⟨mr, mh, par, N, bd_grown hbd hB hk (by decide) hg, hg0, hm0⟩
  · exact h.below.trans ⟨by rw [hg.os]; rfl, by rw [hg.tape]; rfl, by rw [hg.output]; rfl, hz', fun b hb => kp b (by omega) fun e => by have := (hk b e).1; omega⟩
end
theorem at_ptr24 {w : World} {S : Nat → Prop} {n c : Nat} {A : Option Addr} {xs : List Ptr24} (h : Sl w S A n c xs) {k : Nat} (hk : k < n) :
    ∃ b off x, A = some ⟨b, off, none⟩ ∧ b < w.heap.size ∧ xs[k]? = some x ∧ w.cell? ⟨b, off + k, none⟩ = some (.pointer (some ⟨x.b, 0, none⟩)) := by
  obtain ⟨b, off, x, us, e, hb, _, hx, hus, hc⟩ := h.at_ hk
  obtain rfl : us = _ := hus
  refine ⟨b, off, x, e, hb, hx, ?_⟩
  have := hc 0 _ rfl
  simpa [Rep.size] using this
theorem bound_made (wr : World) (S : Nat → Prop) (hS : ∀ b, S b → b < wr.heap.size) (x : Part) (o : Obj) (A1 A2 A3 : Option Addr) (c1 c2 c3 : Nat) (s1 : Sl wr S A1 x.vars.length c1 x.vars) (s2 : Sl wr S A2 x.colors.length c2 x.colors) (s3 : Sl wr S A3 x.wish.length c3 x.wish) (par : Option Nat) :
    ∀ Wa, (((wr.alloc o).alloc (.map #[] 0)).alloc (.map #[] 0)).alloc (.cells #[.int .i64 x.parent, .slice A1 x.vars.length c1, .slice A2 x.colors.length c2, .slice A3 x.wish.length c3, .map (some (wr.heap.size + 1)), .map (some (wr.heap.size + 1 + 1)), .pointer (par.map fun b => ⟨b, 0, none⟩)] 48) = Wa →
    BdAt Wa S (wr.heap.size + 1 + 1 + 1) x (wr.heap.size + 1) (wr.heap.size + 1 + 1) par 0 [] ∧ IMapI Wa (wr.heap.size + 1 + 1) 0 (hadF []) ∧ Below wr.heap.size wr Wa ∧ Wa.heap.size = wr.heap.size + 4 ∧ Wa.heap[wr.heap.size]? = some o := by
  rintro Wa hWa
  have hb : Below wr.heap.size wr Wa := by rw [← hWa]; exact ((((Below.refl _ _).alloc (Nat.le_refl _) _).alloc (by simp) _).alloc (by simp; omega) _).alloc (by simp; omega) _
  have hs : Wa.heap.size = wr.heap.size + 4 := by rw [← hWa]; simp
  have hm1 := MapP.made (K := iK) (E := iE) (wr.alloc o)
  have hm2 := MapP.made (K := iK) (E := iE) ((wr.alloc o).alloc (.map #[] 0))
  simp only [World.size_alloc] at hm1 hm2
  have hrow : Wa.heap[wr.heap.size + 1 + 1 + 1]? = some (.cells #[.int .i64 x.parent, .slice A1 x.vars.length c1, .slice A2 x.colors.length c2, .slice A3 x.wish.length c3, .map (some (wr.heap.size + 1)), .map (some (wr.heap.size + 1 + 1)), .pointer (par.map fun b => ⟨b, 0, none⟩)] 48 (0, 0)) := by
    have := heap_alloc_new (((wr.alloc o).alloc (.map #[] 0)).alloc (.map #[] 0)) (.cells #[.int .i64 x.parent, .slice A1 x.vars.length c1, .slice A2 x.colors.length c2, .slice A3 x.wish.length c3, .map (some (wr.heap.size + 1)), .map (some (wr.heap.size + 1 + 1)), .pointer (par.map fun b => ⟨b, 0, none⟩)] 48)
    simp only [World.size_alloc] at this
    rw [← hWa]
    exact this
  refine ⟨⟨⟨A1, c1, A2, c2, A3, c3, hrow, s1.keep hb.size (fun b hS' _ => hb.block b (hS b hS')), s2.keep hb.size (fun b hS' _ => hb.block b (hS b hS')), s3.keep hb.size (fun b hS' _ => hb.block b (hS b hS'))⟩, ?_⟩, ?_, hb, hs, ?_⟩
  · rw [← hWa]
    exact (hm1.alloc _).alloc _
  · have e : hadF [] = fun _ => none := by funext r; unfold hadF; simp
    rw [e, ← hWa]
    exact hm2.alloc _
  · rw [← hWa, Below.heap_alloc _ _ _ (by simp; omega), Below.heap_alloc _ _ _ (by simp; omega), Below.heap_alloc _ _ _ (by simp)]
    exact heap_alloc_new wr o
theorem size_part24 : (Try.prog.info? 38).map (·.size) = some 4 := by kernel_rfl
theorem size_bound24 : (Try.prog.info? 48).map (·.size) = some 7 := by kernel_rfl
theorem info_ptr24 : (Try.prog.info? 45).map (fun i => (i.zero, i.size, i.bytes)) = some (some (.pointer none), 1, 8) := by kernel_rfl
theorem info_sl24 : (Try.prog.info? 22).map (fun i => (i.zero, i.size, i.bytes)) = some (some (.slice none 0 0), 1, 24) := by kernel_rfl
set_option maxRecDepth 100000 in
set_option maxHeartbeats 4000000 in
theorem of24_any (w : World) (S1 S2 S : Nat → Prop) (m : Machine) (A1 A2 : Option Addr) (n1 c1 n2 c2 : Nat) (h1 : Sl w S1 A1 n1 c1 m.args) (h2 : Sl w S2 A2 n2 c2 m.saved) (hi : InI m.ret) (many : Int) (A : Option Addr) (n c : Nat) (l : List Part) (h : Sl w S A n c l) (hn : n ≤ 1048576) :
    Calls Try.prog 8 #[.agg #[.int .i64 m.regs, .slice A1 n1 c1, .int .i64 m.ret, .slice A2 n2 c2], .int .i64 many, .slice A n c] w (RetOf24 (of24 m many l) w) := by
  obtain ⟨W0, hW0⟩ : ∃ W0, w.alloc (.cells #[.int .i64 m.regs, .slice A1 n1 c1, .int .i64 m.ret, .slice A2 n2 c2] 24) = W0 := ⟨_, rfl⟩
  obtain ⟨g0, hg0⟩ : ∃ g, w.heap.size = g := ⟨_, rfl⟩
  have HROW := hide (show MRow W0 g0 m A1 n1 c1 A2 n2 c2 by rw [← hW0, ← hg0]; exact heap_alloc_new w _)
  have hz0 : W0.heap.size = g0 + 1 := by rw [← hW0, ← hg0]; simp
  have hb0 : Below g0 w W0 := by rw [← hW0, ← hg0]; exact (Below.refl _ _).alloc (Nat.le_refl _) _
  have HM := hide (fun (W : World) (hb : Below W0.heap.size W0 W) => (show MRow W g0 m A1 n1 c1 A2 n2 c2 from (hb.block g0 (by omega)).trans HROW.out).cells)
  have HB0 := hide hb0
  have H1 := hide (show Sl W0 S1 A1 n1 c1 m.args by rw [← hW0]; exact h1.alloc _)
  have H2 := hide (show Sl W0 S2 A2 n2 c2 m.saved by rw [← hW0]; exact h2.alloc _)
  have HS := hide (show Sl W0 (fun b => b < W0.heap.size) A n c l by rw [← hW0]; exact (h.alloc _).more fun b hb _ => hb)
  have HRG := hide (rightL24_any W0 S1 S2 _ m A1 A2 n1 c1 n2 c2 H1.out H2.out hi many A n c l HS.out)
  have HPO := hide (fun (W : World) (hb : Below W0.heap.size W0 W) => pools24_any W S1 S2 m A1 A2 n1 c1 n2 c2 (H1.out.belowAll hb) (H2.out.belowAll hb) hi many)
  have HLN := hide h.len
  obtain ⟨m0, m1, m2, m3, hgl⟩ := HM.out W0 (Below.refl _ _)
  clear h1 h2 h hb0
  cases hr : rightP24 m many l with
  | false =>
    rw [hr] at HRG
    rw [show of24 m many l = ([], 2) by unfold of24; rw [if_neg (by rw [hr]; decide)]]
    clear hr
    go_enter Try.func8, Try.ntmps8
    go_wp2_with (go_at_call 9; (with_reducible refine HRG.out.mono ?_); rintro e _ ⟨rfl, u1, rfl⟩)
    go_ret2
    exact ⟨_, [], rfl, rfl, OwnL.nil_ _ _ _ _, ⟨fun k h hk => by simp at hk, fun j k x y g hj => by simp at hj⟩, by rw [hg0]; exact HB0.out.ext (by omega) _⟩
  | true =>
    rw [hr] at HRG
    obtain ⟨sf, hsf⟩ : ∃ sf, safe24 m many = sf := ⟨_, rfl⟩
    obtain ⟨pl, hpl⟩ : ∃ pl, plain24 m many = pl := ⟨_, rfl⟩
    obtain ⟨rg, hrg⟩ : ∃ rg, m.regs.toNat = rg := ⟨_, rfl⟩
    rw [show of24 m many l = ((parts24 sf pl rg [] l).map told24, 0) by unfold of24; rw [if_pos hr, hsf, hpl, hrg]]
    rw [hsf, hpl] at HPO
    have HR := hide hr
    have HSF := hide hsf; have HPL := hide hpl; have HRGS := hide hrg
    clear hr hsf hpl hrg
    go_enter Try.func8, Try.ntmps8
    go_wp2_with (go_at_call 9; (with_reducible refine HRG.out.mono ?_); rintro e _ ⟨rfl, u1, rfl⟩; refine Hd.out ?_)
    obtain ⟨W1, hW1⟩ : ∃ W1, W0.ext u1 = W1 := ⟨_, rfl⟩
    have hb1 : Below W0.heap.size W0 W1 := by rw [← hW1]; exact (Below.refl _ _).ext (Nat.le_refl _) _
    rw [hW1]
    obtain ⟨m0, m1, m2, m3, hgl⟩ := HM.out W1 hb1
    have HB1 := hide hb1
    have hs1 := hb1.size
    have HPW := hide (HPO.out W1 hb1)
    clear hW1 hW0 hb1 HRG HPO
    refine hide ?_
    go_wp2_with (go_at_call 10; (with_reducible refine HPW.out.mono ?_); rintro e W2 ⟨v1, v2, rfl, ho1, ho2, hap, hb2⟩; obtain ⟨As, cs, rfl⟩ := ho1.form; obtain ⟨Ap, cp, rfl⟩ := ho2.form; refine Hd.out ?_)
    obtain ⟨Ns, hNs⟩ : ∃ N, sf.length = N := ⟨_, rfl⟩
    obtain ⟨Np, hNp⟩ : ∃ N, pl.length = N := ⟨_, rfl⟩
    rw [hNs] at ho1 ⊢
    rw [hNp] at ho2 ⊢
    have HO1 := hide (ho1.slo (S' := fun b => b < W2.heap.size) (fun b hb _ => hb))
    have HO2 := hide (ho2.slo (S' := fun b => b < W2.heap.size) (fun b hb _ => hb))
    have hbW2 : Below W0.heap.size W0 W2 := HB1.out.trans (hb2.mono (by omega))
    have HB2 := hide hbW2
    have hs2 := hbW2.size
    have HNS := hide hNs
    clear ho1 ho2 hap hb2 hbW2 hNs hNp m0 m1 m2 m3 hgl HPW
    refine hide ?_
    go_wp2_with fail
    have hmm := @run_makeMap Try.prog
    obtain ⟨B, hB⟩ : ∃ B, W2.heap.size = B := ⟨_, rfl⟩
    rw [hB] at HO1 HO2
    have HBB := hide hB
    go_loopw [6, 10, 32] (fun vo va i wr => ∃ (k co ca : Nat) (Ao Aa : Option Addr) (hs : List Hdr) (gs : List Ptr24), k ≤ n ∧ i = .int .i64 k ∧ vo = .slice Ao k co ∧ va = .slice Aa k ca ∧ OfI B (fun b => b < B) W2 (parts24 sf pl rg [] (l.take k)) (.slice Ao k co) hs (.slice Aa k ca) gs wr) (fun _ _ i _ => n - (Go.RowKit.intOf i).toNat)
    case atStart =>
      refine ⟨0, 0, 0, none, none, [], [], Nat.zero_le _, rfl, rfl, rfl, rfl, rfl, OwnL.nil_ _ _ _ _, ⟨fun k h hk => by simp at hk, fun j k x y g hj => by simp at hj⟩, OwnL.nil_ _ _ _ _, fun i g q acc hg => by simp at hg, Below.refl _ _⟩
    case round =>
      obtain ⟨k, co, ca, Ao, Aa, hs, gs, hk, rfl, rfl, rfl, hI⟩ := hrel
      obtain ⟨wo, hwo⟩ : ∃ y, y = wr := ⟨_, rfl⟩; subst hwo
      have HI := hide hI
      have hzw := hI.below.size
      have hb0w : Below W0.heap.size W0 wo := HB2.out.trans (hI.below.mono (by omega))
      obtain ⟨m0, m1, m2, m3, hgl⟩ := HM.out wo hb0w
      have HB0W := hide hb0w
      have hs3 := HS.out.below hb0w (fun b hb => hb)
      clear hI hb0w
      by_cases hlt : k < n
      · obtain ⟨b, off, x, B1, q1, r1, B2, q2, r2, B3, q3, r3, rfl, hb, hx, hxi, s1, s2, s3, e0, e1, e2, e3⟩ := at_Part hs3 hlt
        have hX := parts24_snoc sf pl rg (l.take k) [] x
        rw [← take_at hx] at hX
        obtain ⟨hRx, R, hRR, hTold, hRb⟩ := told_at24 HR.out (X := parts24 (safe24 m many) (plain24 m many) m.regs.toNat [] l) rfl hx
        have HX := hide hX; have HRX := hide hRx
        have l1 := s1.len; have l2 := s2.len; have l3 := s3.len
        obtain ⟨pp, hpp⟩ : ∃ pp, x.parent = pp := ⟨_, rfl⟩
        have hp0 := hRx.p0; have hp1 := hRx.p1
        rw [hpp] at e0 hp0 hp1
        have HPP := hide hpp
        have HS1 := hide s1; have HS2 := hide s2; have HS3 := hide s3
        clear hx hX hRx R hRR hTold hRb s1 s2 s3 hs3 hpp
        obtain ⟨parF, hparF⟩ : ∃ f, par24 (parts24 sf pl rg [] (l.take k)) x = f := ⟨_, rfl⟩
        have HPF := hide hparF
        clear hparF
        have hBw : B ≤ wo.heap.size := by omega
        have hwB : W2.heap.size = B := HBB.out
        by_cases hneg : pp < 0
        · go_wp2_with (go_at_call 19; refine Hd.out ?_)
          obtain ⟨Wa, hWa⟩ : ∃ Wa, (((wo.alloc (.cells #[.int .i64 pp, .slice B1 q1 r1, .slice B2 q2 r2, .slice B3 q3 r3] 38)).alloc (.map #[] 0)).alloc (.map #[] 0)).alloc (.cells #[.int .i64 pp, .slice B1 q1 r1, .slice B2 q2 r2, .slice B3 q3 r3, .map (some (wo.heap.size + 1)), .map (some (wo.heap.size + 1 + 1)), .pointer none] 48) = Wa := ⟨_, rfl⟩
          rw [hWa]
          obtain ⟨hbd, hhd, hba, hsa, hrp⟩ := bound_made wo (fun b => b < B) (fun b hb => by omega) x _ B1 B2 B3 r1 r2 r3 (by rw [l1]; exact HS1.out.more fun b _ hb => by omega) (by rw [l2]; exact HS2.out.more fun b _ hb => by omega) (by rw [l3]; exact HS3.out.more fun b _ hb => by omega) none Wa (by rw [HPP.out, l1, l2, l3]; exact hWa)
          obtain ⟨par, hpar⟩ : ∃ par : Option Nat, none = par := ⟨_, rfl⟩
          have HPAR := hide (show (par = none ∧ parF = fun _ => -1) ∨ ∃ gp q mr' mh' par' N' acc', par = some gp ∧ BdAt wo (fun b => b < B) gp q mr' mh' par' N' acc' ∧ q.vars.Pairwise (· < ·) ∧ q.colors.length = q.vars.length ∧ q.vars.length ≤ 1048576 ∧ (∀ c ∈ q.colors, InI c) ∧ parF = fun v => regOf24 q.vars q.colors acc' v from
            .inl ⟨hpar.symm, by rw [← HPF.out]; funext v; unfold par24; rw [if_pos (by rw [HPP.out]; exact hneg)]⟩)
          rw [hpar] at hbd
          clear hWa hpar
          obtain ⟨g, hg⟩ : ∃ g, wo.heap.size + 1 + 1 + 1 = g := ⟨_, rfl⟩
          obtain ⟨mr, hmr⟩ : ∃ mr, wo.heap.size + 1 = mr := ⟨_, rfl⟩
          obtain ⟨mh, hmh⟩ : ∃ mh, wo.heap.size + 1 + 1 = mh := ⟨_, rfl⟩
          rw [hg, hmh, hmr] at hbd
          rw [hmh] at hhd
          rw [hg]
          have hgz : g = wo.heap.size + 3 := by omega
          have hmrz : mr = wo.heap.size + 1 := by omega
          have hmhz : mh = wo.heap.size + 2 := by omega
          have hpc : Wa.cell? ⟨wo.heap.size, 2, none⟩ = some (.slice B2 q2 r2) := cell_of_row Wa _ _ _ _ (0, 0) hrp
          have hpv : Wa.cell? ⟨wo.heap.size, 1, none⟩ = some (.slice B1 q1 r1) := cell_of_row Wa _ _ _ _ (0, 0) hrp
          have HRP := hide hrp
          have HBD := hide hbd; have HHD := hide hhd; have HBA := hide hba
          have hq1 : q1 ≤ 201 := by rw [← l1]; exact vars_few24 HRX.out HRX.out.v
          have hq2 : q2 = q1 := by rw [← l1, ← l2]; exact HRX.out.lc
          have hsc : Sl Wa (fun b => b < W0.heap.size) B2 q2 r2 x.colors := HS2.out.below HBA.out (fun b hb => by omega)
          have HV := hide ((callsIn_wide (n := 1)).1 (values_in Fence.wide 1 trivial rfl B2 q2 r2 Wa))
          have HSO := hide ((callsIn_wide (n := 8)).1 (sortedVals_in 8 (by omega) _ B2 q2 r2 _ Wa hsc (by omega)))
          clear hbd hhd hrp hg hmr hmh hsc hba
          have HSA := hide hsa; have HQ2 := hide hq2; have HL := hide (show x.vars.length = q1 ∧ x.colors.length = q2 ∧ x.wish.length = q3 from ⟨l1, l2, l3⟩)
          have HGZ := hide (show g = wo.heap.size + 3 ∧ mr = wo.heap.size + 1 ∧ mh = wo.heap.size + 2 from ⟨hgz, hmrz, hmhz⟩)
          clear hq2 l1 l2 l3 hgz hmrz hmhz hsa
          refine hide ?_
          go_wp2_with (first
            | (go_at_call 19; (with_reducible refine HV.out.mono ?_); rintro e _ ⟨rfl, rfl⟩)
            | (go_at_call 18; (with_reducible refine HSO.out.mono ?_); rintro e W3 ⟨v3, rfl, ho3, hb3⟩; obtain ⟨A3, c3, rfl⟩ := ho3.form; refine Hd.out ?_))
          have hsa := HSA.out; have hq2 := HQ2.out; obtain ⟨l1, l2, l3⟩ := HL.out; obtain ⟨hgz, hmrz, hmhz⟩ := HGZ.out
          have hsl3 := sortI_len x.colors
          obtain ⟨Z3, hZ3⟩ : ∃ Z, sortI x.colors = Z := ⟨_, rfl⟩
          have hb3a : Below Wa.heap.size Wa W3 := ((Below.refl _ Wa).alloc (Nat.le_refl _) _).trans (hb3.mono (by simp))
          have hcm : ∀ y, y ∈ Z3 ↔ y ∈ x.colors := fun y => by rw [← hZ3]; exact mem_sortI
          have hcs : Z3.Pairwise (· ≤ ·) := hZ3 ▸ sortI_le x.colors
          rw [hZ3] at ho3 hsl3 ⊢
          have ho3' := ho3.lowB (b' := Wa.heap.size) (by simp)
          have HCP := hide (compact24 W3 Wa.heap.size A3 c3 Z3 ho3' (by rw [hsl3, l2]; omega) hcs)
          obtain ⟨hL1, hL2⟩ := compact_sorted hcs
          obtain ⟨L, hLL⟩ : ∃ L, Lib.compact Z3 = L := ⟨_, rfl⟩
          rw [hLL] at HCP hL1 hL2
          have hLlen : L.length ≤ Z3.length := hLL ▸ Lib.compact_length_le Z3
          have hown3 := ho3'.below_
          have HLM := hide (fun y => (hL2 y).trans (hcm y))
          have HL1 := hide hL1
          have hM2 : L.length ≤ q2 := by omega
          have HB3A := hide hb3a
          have HOW3 := hide hown3
          have hgm1 : wo.heap.size < mr := by omega
          have hgm2 : mr < mh := by omega
          have hgm3 : mh < g := by omega
          have hgm4 : g < Wa.heap.size := by omega
          have hq21 : q2 ≤ 201 := by omega
          clear hsa hq2 hgz hmrz hmhz l1 l2 l3
          clear ho3 ho3' hb3 hcm hcs hL1 hL2 hLL hLlen hsl3 hZ3 hb3a hown3 HV HSO
          refine hide ?_
          go_wp2_with (go_at_call 17; (with_reducible refine HCP.out.mono ?_); rintro e W4 ⟨A4, c4, rfl, ho4, hg4⟩; refine Hd.out ?_)
          obtain ⟨M, hM⟩ : ∃ M, L.length = M := ⟨_, rfl⟩
          rw [hM] at ho4 hM2 ⊢
          have hb4 : Below Wa.heap.size Wa W4 := HB3A.out.grown hg4 HB3A.out.size fun r e => (HOW3.out r e).1
          have hz4 := hb4.size
          have hb4r : Below wo.heap.size wo W4 := HBA.out.trans (hb4.mono (by omega))
          have HB4 := hide hb4; have HB4R := hide hb4r
          have HSL4 := hide (ho4.slo (S' := fun b => Wa.heap.size ≤ b ∧ b < W4.heap.size) (fun b hb h => h.elim (fun f => f.elim) fun e => ho4.below_ b e))
          have HML := hide hM
          have HBD4 := hide (HBD.out.belowAll hb4); have HHD4 := hide (HHD.out.keep (hb4.block mh HHD.out.lt))
          clear ho4 hg4 hb4 hb4r hM HCP HBD HHD hpc
          refine hide ?_
          go_wp2_with fail
          go_loopw [58] (fun i wq => ∃ (j N : Nat) (acc : List (Int × Int)), j ≤ M ∧ i = .int .i64 j ∧ N ≤ 2 * j ∧ acc = bind24 x parF sf pl [] (neg24 (L.take j)) ∧ BdAt wq (fun b => b < B) g x mr mh par N acc ∧ IMapI wq mh N (hadF (acc.map (·.2))) ∧ Below wo.heap.size wo wq ∧ W4.heap.size ≤ wq.heap.size ∧ ∀ b, b < W4.heap.size → b ≠ mr → b ≠ mh → wq.heap[b]? = W4.heap[b]?) (fun i _ => M - (Go.RowKit.intOf i).toNat)
          case atStart => exact ⟨0, 0, [], Nat.zero_le _, rfl, Nat.le_refl _, rfl, HBD4.out, HHD4.out, HB4R.out, Nat.le_refl _, fun _ _ _ _ => rfl⟩
          case round =>
            obtain ⟨j, N, acc, hj, rfl, hN, hacc, hbd, hhd, hbq, hzq, hold⟩ := hrel
            have HACC := hide hacc; have HBDQ := hide hbd; have HHDQ := hide hhd; have HBQ := hide hbq; have HOLD := hide hold
            have hs4 := HSL4.out.keep (w' := wr) hzq (fun b hb _ => hold b hb.2 (by omega) (by omega))
            have hzr := hbq.size
            clear hacc hbd hhd hbq hold
            by_cases hlj : j < M
            · obtain ⟨b9, o9, cc, rfl, hb9, hc9, hci, d9⟩ := at_int hs4 hlj
              have HTK := hide (take_at hc9); have HCI := hide hci
              have hpw := HL1.out.sublist (List.take_sublist (j + 1) L)
              rw [HTK.out] at hpw
              have HCL := hide (show cc ∉ acc.map (·.1) by
                rw [HACC.out, bind24_fst]
                intro h
                have := (List.pairwise_append.1 hpw).2.2 cc (List.mem_filter.1 h).1 cc (by simp)
                omega)
              have HE := hide (show WEnv wr (fun b => b < B) g x mr mh par N acc parF from ⟨HBDQ.out, HRX.out.lc, HRX.out.lw, by rw [HL.out.1]; omega, HRX.out.vr, fun b hb => by omega, HPAR.out.imp id fun ⟨gp, q, a1, a2, a3, a4, a5, e1, e2, e3⟩ => ⟨gp, q, a1, a2, a3, a4, a5, e1, e2.belowAll HBQ.out, e3⟩⟩)
              have HB2Q := hide (show Below W2.heap.size W2 wr by rw [HBB.out]; exact HI.out.below.trans (HBQ.out.mono hBw))
              clear hc9 hci hpw hs4
              by_cases hcn : cc < 0
              · go_wp2_with fail
                go_roundw
                case rel => exact ⟨j + 1, N, acc, by omega, by go_num, by omega, by rw [HTK.out, neg24_snoc, if_pos hcn, List.append_nil]; exact HACC.out, HBDQ.out, HHDQ.out, HBQ.out, hzq, HOLD.out⟩
                case measure => simp [Go.RowKit.intOf]; omega
              · by_cases hcs : cc < (Ns : Int)
                · have HG := hide (get24_any wr (fun b => b < B) (fun b => b < B) g x mr mh par N N acc parF HE.out (by omega) (by omega) (by omega) (fun b hb => ⟨by omega, by omega⟩) ⟨by omega, by omega⟩ HHDQ.out cc HCI.out HCL.out As Ns cs sf (HO1.out.below HB2Q.out fun b hb => by rw [HBB.out]; exact hb) (fun y hy => (left_in24 (safe_in24 (by rw [HSF.out]; exact hy)).2.1).1))
                  clear HE
                  go_wp2_with (go_at_call 20; (with_reducible refine HG.out.mono ?_); rintro e w9 ⟨⟨v9, rfl⟩, hG⟩; have HGG := hide hG; clear hG)
                  have hz9 := HGG.out.size
                  go_roundw
                  case rel => exact ⟨j + 1, N + 2, _, by omega, by go_num, by omega, by rw [HTK.out, neg24_snoc, if_neg (by omega), bind24_snoc, ← HACC.out]; unfold pool24; rw [if_pos (by rw [HNS.out]; omega)], HGG.out.bd, HGG.out.had, HBQ.out.trans ⟨HGG.out.os, HGG.out.tape, HGG.out.output, HGG.out.size, fun b hb => HGG.out.block b (by omega) (by omega) (by omega)⟩, by omega, fun b hb h1 h2 => (HGG.out.block b (by omega) h1 h2).trans (HOLD.out b hb h1 h2)⟩
                  case measure => simp [Go.RowKit.intOf]; omega
                · have HG := hide (get24_any wr (fun b => b < B) (fun b => b < B) g x mr mh par N N acc parF HE.out (by omega) (by omega) (by omega) (fun b hb => ⟨by omega, by omega⟩) ⟨by omega, by omega⟩ HHDQ.out cc HCI.out HCL.out Ap Np cp pl (HO2.out.below HB2Q.out fun b hb => by rw [HBB.out]; exact hb) (fun y hy => (left_in24 (plain_in24 (by rw [HPL.out]; exact hy)).2.1).1))
                  clear HE
                  go_wp2_with (go_at_call 20; (with_reducible refine HG.out.mono ?_); rintro e w9 ⟨⟨v9, rfl⟩, hG⟩; have HGG := hide hG; clear hG)
                  have hz9 := HGG.out.size
                  go_roundw
                  case rel => exact ⟨j + 1, N + 2, _, by omega, by go_num, by omega, by rw [HTK.out, neg24_snoc, if_neg (by omega), bind24_snoc, ← HACC.out]; unfold pool24; rw [if_neg (by rw [HNS.out]; omega)], HGG.out.bd, HGG.out.had, HBQ.out.trans ⟨HGG.out.os, HGG.out.tape, HGG.out.output, HGG.out.size, fun b hb => HGG.out.block b (by omega) (by omega) (by omega)⟩, by omega, fun b hb h1 h2 => (HGG.out.block b (by omega) h1 h2).trans (HOLD.out b hb h1 h2)⟩
                  case measure => simp [Go.RowKit.intOf]; omega
            · obtain rfl : j = M := by omega
              have htk : L.take j = L := List.take_of_length_le (by rw [HML.out]; exact Nat.le_refl _)
              have hm0 := (by have := HR.out; unfold rightP24 fits24 at this; simp only [Bool.and_eq_true, decide_eq_true_eq] at this; exact this.1.2.1 : (0 : Int) ≤ many)
              have hcl24 : neg24 L = colors24 x rg := by rw [← HRGS.out]; exact colors_eq24 HRX.out (by omega) HL1.out HLM.out
              have hR : acc = bind24 x parF sf pl [] (colors24 x rg) := by rw [HACC.out, htk, hcl24]
              have HX2 := hide (show parts24 sf pl rg [] (l.take (k + 1)) = parts24 sf pl rg [] (l.take k) ++ [(x, acc)] by rw [hR, ← HPF.out]; exact HX.out)
              obtain ⟨i0, hi0, hz, hz1, hz2⟩ := info_parts info_ptr24
              have HI0 := hide hi0; have HZ := hide hz; have HZ1 := hide hz1; have HZ2 := hide hz2
              have HJ := hide (HI.out.after HBQ.out hBw)
              have HLD := hide (show (parts24 sf pl rg [] (l.take k)).length = k by rw [parts24_len, List.length_take, HLN.out]; simp; omega)
              have HRPQ := hide ((HOLD.out _ (by omega) (by omega) (by omega)).trans ((HB4.out.block _ (by omega)).trans HRP.out))
              have hBr : B ≤ wr.heap.size := by omega
              have hwr : wo.heap.size < wr.heap.size := by omega
              have HGB := hide (show B ≤ g ∧ B ≤ mr by omega)
              clear htk hcl24 hR hi0 hz hz1 hz2 hs4 HACC HOLD HBD4 HHD4 HSL4 HHDQ hm0
              go_wp2_with (at_builtin; refine wpList_push (α := Ptr24) wr [.pointer (some ⟨g, 0, none⟩)] 45 rfl (.tmp 79) (.tmp 81) 44 rfl B 45 i0 _ 8 Try.underlying44 HI0.out HZ.out HZ1.out HZ2.out rfl (by decide) (fun _ => False) (fun _ => False) (.slice Aa k ca) gs ⟨g⟩ rfl HJ.out.all wr.heap.size rfl rfl rfl (fun _ h => h) (fun _ _ h => h) (fun _ h => h.elim) (by rw [HJ.out.la, HLD.out]; omega) (by rw [HJ.out.la, HLD.out]; omega) hBr ?_; intro v' w1 ho1 hgr h6; obtain ⟨Ab, cb, rfl⟩ := ho1.form; rw [show (gs ++ [(⟨g⟩ : Ptr24)]).length = k + 1 by rw [List.length_append, HJ.out.la, HLD.out]; rfl] at ho1 h6 ⊢; have HGR := hide hgr; have HAO := hide ho1; have hw1 : wo.heap.size < w1.heap.size := (by have := HGR.out.size; simp at this; omega); have hpv : w1.cell? ⟨wo.heap.size, 1, none⟩ = some (.slice B1 q1 r1) := cell_of_row w1 wo.heap.size 1 _ _ (0, 0) ((HGR.out.block _ (by simp; omega) (fun e => kind_ne (HJ.out.all.kind e.symm) ⟨_, _, HRPQ.out⟩ (by decide) rfl)).trans ((Below.heap_alloc wr _ _ hwr).trans HRPQ.out)); clear ho1 hgr h6)
              have HJ1 := hide (HJ.out.toJ hBr HGR.out)
              have HBD1 := hide (bd_grown HBDQ.out hBr (fun r e => ⟨(HJ.out.all.below_ r e).1, HJ.out.all.kind e⟩) (by decide) HGR.out)
              have hB1 : B ≤ w1.heap.size := by omega
              obtain ⟨W5, hW5⟩ : ∃ W5, w1.alloc (.cells #[] 3) = W5 := ⟨_, rfl⟩
              have HO5 := hide (show OwnL W5 w1.heap.size 3 (fun _ => False) (.slice (some ⟨w1.heap.size, 0, none⟩) 0 0) ((x.vars.take 0).map (regOf24 x.vars x.colors acc)) by rw [← hW5]; exact OwnL.lit0 w1 _ _ (fun f => f))
              have HBL5 := hide (show Below w1.heap.size w1 W5 by rw [← hW5]; exact (Below.refl _ _).alloc (Nat.le_refl _) _)
              obtain ⟨i2, hi2, hz2, hz12, hz22⟩ := info_parts info_int2
              have HI2 := hide hi2; have HZ2' := hide hz2; have HZ12 := hide hz12; have HZ22 := hide hz22
              have HINI := hide (fun v => HBDQ.out.look_in v)
              obtain ⟨bz, hbz⟩ : ∃ bz, w1.heap.size = bz := ⟨_, rfl⟩
              rw [hbz] at HO5 HBL5 hB1 hw1
              have HBZ := hide hbz
              have HV1 := hide (HS1.out.keep (w' := w1) (by omega) (fun b hb _ => (HJ1.out.below.block b (by omega)).trans (HI.out.below.block b (by omega)).symm))
              have HW5 := hide hW5
              have HCOL := hide (show ∀ c ∈ x.colors, InI c by
                intro c hc
                have h1 := HRX.out.c c hc
                have := HR.out
                unfold rightP24 fits24 at this
                simp only [Bool.and_eq_true, decide_eq_true_eq] at this
                have h2 := (right24 this.1.1).r64
                have h3 := this.1.2.1
                unfold InI; omega)
              clear hi2 hz2 hz12 hz22 hW5 HJ HGR HRPQ HBDQ hbz
              go_loopw [16, 87] (fun vl i wr => ∃ (j cr : Nat) (Ar : Option Addr), j ≤ q1 ∧ i = .int .i64 j ∧ vl = .slice Ar j cr ∧ OwnL wr bz 3 (fun _ => False) (.slice Ar j cr) ((x.vars.take j).map (regOf24 x.vars x.colors acc)) ∧ Below bz w1 wr) (fun _ i _ => q1 - (Go.RowKit.intOf i).toNat)
              case atStart =>
                refine ⟨0, 0, some ⟨bz, 0, none⟩, Nat.zero_le _, rfl, by rw [← HBZ.out], ?_, ?_⟩
                · rw [HW5.out]; exact HO5.out
                · rw [HW5.out]; exact HBL5.out
              case round =>
                obtain ⟨t, cr, Ar, ht, rfl, rfl, ho, hbt⟩ := hrel
                have HO := hide ho; have HBT := hide hbt
                have hzt := hbt.size
                have hbzr : bz ≤ wr.heap.size := by rw [← HBZ.out]; exact hzt
                have hvt := HV1.out.below hbt (fun b hb => by omega)
                have HBDT := hide (HBD1.out.belowAll (by rw [HBZ.out]; exact hbt))
                have HLT := hide (show ((x.vars.take t).map (regOf24 x.vars x.colors acc)).length = t by rw [List.length_map, List.length_take, HL.out.1]; omega)
                clear ho hbt
                by_cases hlt3 : t < q1
                · obtain ⟨b7, o7, vv, rfl, hb7, hv7, hvi, d7⟩ := at_int hvt hlt3
                  have HTK := hide (take_at hv7)
                  have HRE := hide (reg24_any wr _ g x mr mh par N acc HBDT.out HRX.out.vr HRX.out.lc (by rw [HL.out.1]; omega) HCOL.out vv)
                  have HIV := hide (HINI.out vv)
                  obtain ⟨rv, hrv⟩ : ∃ rv, regOf24 x.vars x.colors acc vv = rv := ⟨_, rfl⟩
                  rw [hrv] at HRE HIV
                  have HRV := hide hrv
                  have HOE := hide (fun u : Ext => HO.out.ext u); have HBE := hide (fun u : Ext => HBT.out.ext hbzr u)
                  clear hv7 hvi hvt hrv
                  go_wp2_with (first
                    | (go_at_call 21; (with_reducible refine HRE.out.mono ?_); rintro e _ ⟨rfl, u7, rfl⟩)
                    | (at_builtin; refine wpList_push (α := Int) (wr.ext u7) [.int .i64 rv] 3 rfl (.tmp 91) (.tmp 95) 22 rfl bz 3 i2 _ 8 Try.underlying22 HI2.out HZ2'.out HZ12.out HZ22.out rfl (by decide) (fun _ => False) (fun _ => False) (.slice Ar t cr) _ rv rfl (HOE.out u7) (wr.heap.size + u7.blocks.size) rfl (size_ext wr u7).symm ⟨rfl, HIV.out⟩ (fun _ h => h) (fun _ _ h => h) (fun _ h => h.elim) (by rw [HLT.out]; omega) (by rw [HLT.out]; omega) (by rw [size_ext]; omega) ?_; intro v' w' ho1 hgr h6; obtain ⟨A9, c9, rfl⟩ := ho1.form; rw [show ((x.vars.take t).map (regOf24 x.vars x.colors acc) ++ [rv]).length = t + 1 by rw [List.length_append, HLT.out]; rfl] at ho1 h6 ⊢; have HOP := hide ho1; have HBP := hide (below_push (HBE.out u7) (HOE.out u7) (by rw [size_ext]; omega) hgr); clear ho1 hgr h6))
                  go_roundw
                  case rel => exact ⟨t + 1, c9, A9, by omega, by go_num, rfl, by rw [HTK.out, List.map_append]; simp only [List.map_cons, List.map_nil, HRV.out]; exact HOP.out, HBP.out⟩
                  case measure => simp [Go.RowKit.intOf]; omega
                · obtain rfl : t = q1 := by omega
                  have htk : x.vars.take t = x.vars := List.take_of_length_le (by rw [HL.out.1]; exact Nat.le_refl _)
                  have HOT := hide (show OwnL wr bz 3 (fun _ => False) (.slice Ar t cr) (told24 (x, acc)) by have := HO.out; rw [htk] at this; exact this)
                  obtain ⟨i3, hi3, hz3, hz13, hz23⟩ := info_parts info_sl24
                  have HI3 := hide hi3; have HZ3 := hide hz3; have HZ13 := hide hz13; have HZ23 := hide hz23
                  have hbw1 : Below w1.heap.size w1 wr := by rw [HBZ.out]; exact HBT.out
                  have HJ2 := hide (HJ1.out.after hbw1 (by rw [HBZ.out]; exact hB1))
                  have HAO2 := hide (HAO.out.keep hbw1.size (fun _ f => f.elim) fun r e => hbw1.block r (HAO.out.below_ r e).2)
                  have HJ1B := hide (fun (k : Nat) (x : Hdr) (b : Nat) (h1 : hs[k]? = some x) (h2 : x.v.ownBlock = some b) => (by have := (HJ1.out.rows.lt h1 h2).2; rw [HBZ.out] at this; exact this : b < bz))
                  have hBt : B ≤ wr.heap.size := by omega
                  have HLH := hide (show hs.length = k by rw [HI.out.lo, HLD.out])
                  clear htk hi3 hz3 hz13 hz23 hbw1 hvt HO HJ1 HAO HBD1 HINI HV1 HBT
                  go_wp2_with (at_builtin; refine wpList_push (α := Hdr) wr [.slice Ar t cr] 22 rfl (.tmp 98) (.tmp 100) 29 rfl B 22 i3 _ 24 Try.underlying29 HI3.out HZ3.out HZ13.out HZ23.out rfl (by decide) (fun _ => False) (fun _ => False) (.slice Ao k co) hs ⟨Ar, t, cr⟩ rfl HJ2.out.out wr.heap.size rfl rfl rfl (fun _ h => h) (fun _ _ h => h) (fun _ h => h.elim) (by rw [HLH.out]; omega) (by rw [HLH.out]; omega) hBt ?_; intro v' w' ho1 hgr h6; obtain ⟨A9, c9, rfl⟩ := ho1.form; rw [show (hs ++ [(⟨Ar, t, cr⟩ : Hdr)]).length = k + 1 by rw [List.length_append, HLH.out]; rfl] at ho1 h6 ⊢; have HOP := hide ho1; have HGR := hide hgr; clear ho1 hgr h6)
                  go_roundw
                  case rel => exact ⟨k + 1, c9, cb, A9, Ab, hs ++ [⟨Ar, t, cr⟩], gs ++ [⟨g⟩], by omega, by go_num, rfl, rfl, by rw [HX2.out]; exact HJ2.out.close hBt HI.out.lo HI.out.la HAO2.out HBDT.out HGB.out.1 HGB.out.2 (HOT.out.lowB hB1) (fun k x b h1 h2 e => by have := HJ1B.out k x b h1 h2; have := (HOT.out.below_ b e).1; omega) HOP.out HGR.out⟩
                  case measure => simp [Go.RowKit.intOf]; omega
        · obtain ⟨pi, rfl⟩ := Int.eq_ofNat_of_zero_le (show 0 ≤ pp by omega)
          have hpik : pi < k := by omega
          have hlen24 : (parts24 sf pl rg [] (l.take k)).length = k := by rw [parts24_len, List.length_take, HLN.out]; simp; omega
          obtain ⟨ba, oa, y, rfl, hba9, hy9, dy9⟩ := at_ptr24 (HI.out.all.slo (S' := fun _ => True) fun _ _ _ => trivial) hpik
          have HY := hide hy9
          clear hy9
          go_wp2_with (go_at_call 19; refine Hd.out ?_)
          obtain ⟨Wa, hWa⟩ : ∃ Wa, (((wo.alloc (.cells #[.int .i64 (pi : Int), .slice B1 q1 r1, .slice B2 q2 r2, .slice B3 q3 r3] 38)).alloc (.map #[] 0)).alloc (.map #[] 0)).alloc (.cells #[.int .i64 (pi : Int), .slice B1 q1 r1, .slice B2 q2 r2, .slice B3 q3 r3, .map (some (wo.heap.size + 1)), .map (some (wo.heap.size + 1 + 1)), .pointer (some ⟨y.b, 0, none⟩)] 48) = Wa := ⟨_, rfl⟩
          rw [hWa]
          obtain ⟨hbd, hhd, hba, hsa, hrp⟩ := bound_made wo (fun b => b < B) (fun b hb => by omega) x _ B1 B2 B3 r1 r2 r3 (by rw [l1]; exact HS1.out.more fun b _ hb => by omega) (by rw [l2]; exact HS2.out.more fun b _ hb => by omega) (by rw [l3]; exact HS3.out.more fun b _ hb => by omega) (some y.b) Wa (by rw [HPP.out, l1, l2, l3]; exact hWa)
          obtain ⟨par, hpar⟩ : ∃ par : Option Nat, some y.b = par := ⟨_, rfl⟩
          have hq0 : pi < l.length := by rw [HLN.out]; omega
          obtain ⟨q, hq⟩ : ∃ q, l[pi]? = some q := ⟨_, List.getElem?_eq_getElem hq0⟩
          have hRq := (told_at24 HR.out rfl hq).1
          have hqt : (l.take k)[pi]? = some q := by rw [List.getElem?_take_of_lt hpik]; exact hq
          have hdone := (parts_at24 sf pl rg (l.take k) [] _ rfl).2.2 pi q hqt
          rw [List.length_nil, Nat.zero_add] at hdone
          obtain ⟨acc', hacc'⟩ : ∃ a, bind24 q (par24 (List.take pi (parts24 sf pl rg [] (List.take k l))) q) sf pl [] (colors24 q rg) = a := ⟨_, rfl⟩
          rw [hacc'] at hdone
          clear hacc'
          obtain ⟨mr', mh', par', N', hb1, hb2, hb3⟩ := HI.out.bd pi y q _ HY.out hdone
          have hcol : ∀ c ∈ q.colors, InI c := by
            intro c hc
            have h1 := hRq.c c hc
            have := HR.out
            unfold rightP24 fits24 at this
            simp only [Bool.and_eq_true, decide_eq_true_eq] at this
            have h2 := (right24 this.1.1).r64
            have h3 := this.1.2.1
            unfold InI; omega
          have HPAR := hide (show (par = none ∧ parF = fun _ => -1) ∨ ∃ gp q mr' mh' par' N' acc', par = some gp ∧ BdAt wo (fun b => b < B) gp q mr' mh' par' N' acc' ∧ q.vars.Pairwise (· < ·) ∧ q.colors.length = q.vars.length ∧ q.vars.length ≤ 1048576 ∧ (∀ c ∈ q.colors, InI c) ∧ parF = fun v => regOf24 q.vars q.colors acc' v from
            .inr ⟨y.b, q, mr', mh', par', N', _, hpar.symm, hb1, hRq.vr, hRq.lc, by have := vars_few24 hRq hRq.v; omega, hcol, by rw [← HPF.out]; funext v; unfold par24; rw [if_neg (by rw [HPP.out]; omega), HPP.out, Int.toNat_natCast, hdone]⟩)
          rw [hpar] at hbd
          clear hWa hpar hq0 hq hRq hqt hdone hb1 hb2 hb3 hcol hlen24 dy9 hba9
          obtain ⟨g, hg⟩ : ∃ g, wo.heap.size + 1 + 1 + 1 = g := ⟨_, rfl⟩
          obtain ⟨mr, hmr⟩ : ∃ mr, wo.heap.size + 1 = mr := ⟨_, rfl⟩
          obtain ⟨mh, hmh⟩ : ∃ mh, wo.heap.size + 1 + 1 = mh := ⟨_, rfl⟩
          rw [hg, hmh, hmr] at hbd
          rw [hmh] at hhd
          rw [hg]
          have hgz : g = wo.heap.size + 3 := by omega
          have hmrz : mr = wo.heap.size + 1 := by omega
          have hmhz : mh = wo.heap.size + 2 := by omega
          have hpc : Wa.cell? ⟨wo.heap.size, 2, none⟩ = some (.slice B2 q2 r2) := cell_of_row Wa _ _ _ _ (0, 0) hrp
          have hpv : Wa.cell? ⟨wo.heap.size, 1, none⟩ = some (.slice B1 q1 r1) := cell_of_row Wa _ _ _ _ (0, 0) hrp
          have HRP := hide hrp
          have HBD := hide hbd; have HHD := hide hhd; have HBA := hide hba
          have hq1 : q1 ≤ 201 := by rw [← l1]; exact vars_few24 HRX.out HRX.out.v
          have hq2 : q2 = q1 := by rw [← l1, ← l2]; exact HRX.out.lc
          have hsc : Sl Wa (fun b => b < W0.heap.size) B2 q2 r2 x.colors := HS2.out.below HBA.out (fun b hb => by omega)
          have HV := hide ((callsIn_wide (n := 1)).1 (values_in Fence.wide 1 trivial rfl B2 q2 r2 Wa))
          have HSO := hide ((callsIn_wide (n := 8)).1 (sortedVals_in 8 (by omega) _ B2 q2 r2 _ Wa hsc (by omega)))
          clear hbd hhd hrp hg hmr hmh hsc hba
          have HSA := hide hsa; have HQ2 := hide hq2; have HL := hide (show x.vars.length = q1 ∧ x.colors.length = q2 ∧ x.wish.length = q3 from ⟨l1, l2, l3⟩)
          have HGZ := hide (show g = wo.heap.size + 3 ∧ mr = wo.heap.size + 1 ∧ mh = wo.heap.size + 2 from ⟨hgz, hmrz, hmhz⟩)
          clear hq2 l1 l2 l3 hgz hmrz hmhz hsa
          refine hide ?_
          go_wp2_with (first
            | (go_at_call 19; (with_reducible refine HV.out.mono ?_); rintro e _ ⟨rfl, rfl⟩)
            | (go_at_call 18; (with_reducible refine HSO.out.mono ?_); rintro e W3 ⟨v3, rfl, ho3, hb3⟩; obtain ⟨A3, c3, rfl⟩ := ho3.form; refine Hd.out ?_))
          have hsa := HSA.out; have hq2 := HQ2.out; obtain ⟨l1, l2, l3⟩ := HL.out; obtain ⟨hgz, hmrz, hmhz⟩ := HGZ.out
          have hsl3 := sortI_len x.colors
          obtain ⟨Z3, hZ3⟩ : ∃ Z, sortI x.colors = Z := ⟨_, rfl⟩
          have hb3a : Below Wa.heap.size Wa W3 := ((Below.refl _ Wa).alloc (Nat.le_refl _) _).trans (hb3.mono (by simp))
          have hcm : ∀ y, y ∈ Z3 ↔ y ∈ x.colors := fun y => by rw [← hZ3]; exact mem_sortI
          have hcs : Z3.Pairwise (· ≤ ·) := hZ3 ▸ sortI_le x.colors
          rw [hZ3] at ho3 hsl3 ⊢
          have ho3' := ho3.lowB (b' := Wa.heap.size) (by simp)
          have HCP := hide (compact24 W3 Wa.heap.size A3 c3 Z3 ho3' (by rw [hsl3, l2]; omega) hcs)
          obtain ⟨hL1, hL2⟩ := compact_sorted hcs
          obtain ⟨L, hLL⟩ : ∃ L, Lib.compact Z3 = L := ⟨_, rfl⟩
          rw [hLL] at HCP hL1 hL2
          have hLlen : L.length ≤ Z3.length := hLL ▸ Lib.compact_length_le Z3
          have hown3 := ho3'.below_
          have HLM := hide (fun y => (hL2 y).trans (hcm y))
          have HL1 := hide hL1
          have hM2 : L.length ≤ q2 := by omega
          have HB3A := hide hb3a
          have HOW3 := hide hown3
          have hgm1 : wo.heap.size < mr := by omega
          have hgm2 : mr < mh := by omega
          have hgm3 : mh < g := by omega
          have hgm4 : g < Wa.heap.size := by omega
          have hq21 : q2 ≤ 201 := by omega
          clear hsa hq2 hgz hmrz hmhz l1 l2 l3
          clear ho3 ho3' hb3 hcm hcs hL1 hL2 hLL hLlen hsl3 hZ3 hb3a hown3 HV HSO
          refine hide ?_
          go_wp2_with (go_at_call 17; (with_reducible refine HCP.out.mono ?_); rintro e W4 ⟨A4, c4, rfl, ho4, hg4⟩; refine Hd.out ?_)
          obtain ⟨M, hM⟩ : ∃ M, L.length = M := ⟨_, rfl⟩
          rw [hM] at ho4 hM2 ⊢
          have hb4 : Below Wa.heap.size Wa W4 := HB3A.out.grown hg4 HB3A.out.size fun r e => (HOW3.out r e).1
          have hz4 := hb4.size
          have hb4r : Below wo.heap.size wo W4 := HBA.out.trans (hb4.mono (by omega))
          have HB4 := hide hb4; have HB4R := hide hb4r
          have HSL4 := hide (ho4.slo (S' := fun b => Wa.heap.size ≤ b ∧ b < W4.heap.size) (fun b hb h => h.elim (fun f => f.elim) fun e => ho4.below_ b e))
          have HML := hide hM
          have HBD4 := hide (HBD.out.belowAll hb4); have HHD4 := hide (HHD.out.keep (hb4.block mh HHD.out.lt))
          clear ho4 hg4 hb4 hb4r hM HCP HBD HHD hpc
          refine hide ?_
          go_wp2_with fail
          go_loopw [58] (fun i wq => ∃ (j N : Nat) (acc : List (Int × Int)), j ≤ M ∧ i = .int .i64 j ∧ N ≤ 2 * j ∧ acc = bind24 x parF sf pl [] (neg24 (L.take j)) ∧ BdAt wq (fun b => b < B) g x mr mh par N acc ∧ IMapI wq mh N (hadF (acc.map (·.2))) ∧ Below wo.heap.size wo wq ∧ W4.heap.size ≤ wq.heap.size ∧ ∀ b, b < W4.heap.size → b ≠ mr → b ≠ mh → wq.heap[b]? = W4.heap[b]?) (fun i _ => M - (Go.RowKit.intOf i).toNat)
          case atStart => exact ⟨0, 0, [], Nat.zero_le _, rfl, Nat.le_refl _, rfl, HBD4.out, HHD4.out, HB4R.out, Nat.le_refl _, fun _ _ _ _ => rfl⟩
          case round =>
            obtain ⟨j, N, acc, hj, rfl, hN, hacc, hbd, hhd, hbq, hzq, hold⟩ := hrel
            have HACC := hide hacc; have HBDQ := hide hbd; have HHDQ := hide hhd; have HBQ := hide hbq; have HOLD := hide hold
            have hs4 := HSL4.out.keep (w' := wr) hzq (fun b hb _ => hold b hb.2 (by omega) (by omega))
            have hzr := hbq.size
            clear hacc hbd hhd hbq hold
            by_cases hlj : j < M
            · obtain ⟨b9, o9, cc, rfl, hb9, hc9, hci, d9⟩ := at_int hs4 hlj
              have HTK := hide (take_at hc9); have HCI := hide hci
              have hpw := HL1.out.sublist (List.take_sublist (j + 1) L)
              rw [HTK.out] at hpw
              have HCL := hide (show cc ∉ acc.map (·.1) by
                rw [HACC.out, bind24_fst]
                intro h
                have := (List.pairwise_append.1 hpw).2.2 cc (List.mem_filter.1 h).1 cc (by simp)
                omega)
              have HE := hide (show WEnv wr (fun b => b < B) g x mr mh par N acc parF from ⟨HBDQ.out, HRX.out.lc, HRX.out.lw, by rw [HL.out.1]; omega, HRX.out.vr, fun b hb => by omega, HPAR.out.imp id fun ⟨gp, q, a1, a2, a3, a4, a5, e1, e2, e3⟩ => ⟨gp, q, a1, a2, a3, a4, a5, e1, e2.belowAll HBQ.out, e3⟩⟩)
              have HB2Q := hide (show Below W2.heap.size W2 wr by rw [HBB.out]; exact HI.out.below.trans (HBQ.out.mono hBw))
              clear hc9 hci hpw hs4
              by_cases hcn : cc < 0
              · go_wp2_with fail
                go_roundw
                case rel => exact ⟨j + 1, N, acc, by omega, by go_num, by omega, by rw [HTK.out, neg24_snoc, if_pos hcn, List.append_nil]; exact HACC.out, HBDQ.out, HHDQ.out, HBQ.out, hzq, HOLD.out⟩
                case measure => simp [Go.RowKit.intOf]; omega
              · by_cases hcs : cc < (Ns : Int)
                · have HG := hide (get24_any wr (fun b => b < B) (fun b => b < B) g x mr mh par N N acc parF HE.out (by omega) (by omega) (by omega) (fun b hb => ⟨by omega, by omega⟩) ⟨by omega, by omega⟩ HHDQ.out cc HCI.out HCL.out As Ns cs sf (HO1.out.below HB2Q.out fun b hb => by rw [HBB.out]; exact hb) (fun y hy => (left_in24 (safe_in24 (by rw [HSF.out]; exact hy)).2.1).1))
                  clear HE
                  go_wp2_with (go_at_call 20; (with_reducible refine HG.out.mono ?_); rintro e w9 ⟨⟨v9, rfl⟩, hG⟩; have HGG := hide hG; clear hG)
                  have hz9 := HGG.out.size
                  go_roundw
                  case rel => exact ⟨j + 1, N + 2, _, by omega, by go_num, by omega, by rw [HTK.out, neg24_snoc, if_neg (by omega), bind24_snoc, ← HACC.out]; unfold pool24; rw [if_pos (by rw [HNS.out]; omega)], HGG.out.bd, HGG.out.had, HBQ.out.trans ⟨HGG.out.os, HGG.out.tape, HGG.out.output, HGG.out.size, fun b hb => HGG.out.block b (by omega) (by omega) (by omega)⟩, by omega, fun b hb h1 h2 => (HGG.out.block b (by omega) h1 h2).trans (HOLD.out b hb h1 h2)⟩
                  case measure => simp [Go.RowKit.intOf]; omega
                · have HG := hide (get24_any wr (fun b => b < B) (fun b => b < B) g x mr mh par N N acc parF HE.out (by omega) (by omega) (by omega) (fun b hb => ⟨by omega, by omega⟩) ⟨by omega, by omega⟩ HHDQ.out cc HCI.out HCL.out Ap Np cp pl (HO2.out.below HB2Q.out fun b hb => by rw [HBB.out]; exact hb) (fun y hy => (left_in24 (plain_in24 (by rw [HPL.out]; exact hy)).2.1).1))
                  clear HE
                  go_wp2_with (go_at_call 20; (with_reducible refine HG.out.mono ?_); rintro e w9 ⟨⟨v9, rfl⟩, hG⟩; have HGG := hide hG; clear hG)
                  have hz9 := HGG.out.size
                  go_roundw
                  case rel => exact ⟨j + 1, N + 2, _, by omega, by go_num, by omega, by rw [HTK.out, neg24_snoc, if_neg (by omega), bind24_snoc, ← HACC.out]; unfold pool24; rw [if_neg (by rw [HNS.out]; omega)], HGG.out.bd, HGG.out.had, HBQ.out.trans ⟨HGG.out.os, HGG.out.tape, HGG.out.output, HGG.out.size, fun b hb => HGG.out.block b (by omega) (by omega) (by omega)⟩, by omega, fun b hb h1 h2 => (HGG.out.block b (by omega) h1 h2).trans (HOLD.out b hb h1 h2)⟩
                  case measure => simp [Go.RowKit.intOf]; omega
            · obtain rfl : j = M := by omega
              have htk : L.take j = L := List.take_of_length_le (by rw [HML.out]; exact Nat.le_refl _)
              have hm0 := (by have := HR.out; unfold rightP24 fits24 at this; simp only [Bool.and_eq_true, decide_eq_true_eq] at this; exact this.1.2.1 : (0 : Int) ≤ many)
              have hcl24 : neg24 L = colors24 x rg := by rw [← HRGS.out]; exact colors_eq24 HRX.out (by omega) HL1.out HLM.out
              have hR : acc = bind24 x parF sf pl [] (colors24 x rg) := by rw [HACC.out, htk, hcl24]
              have HX2 := hide (show parts24 sf pl rg [] (l.take (k + 1)) = parts24 sf pl rg [] (l.take k) ++ [(x, acc)] by rw [hR, ← HPF.out]; exact HX.out)
              obtain ⟨i0, hi0, hz, hz1, hz2⟩ := info_parts info_ptr24
              have HI0 := hide hi0; have HZ := hide hz; have HZ1 := hide hz1; have HZ2 := hide hz2
              have HJ := hide (HI.out.after HBQ.out hBw)
              have HLD := hide (show (parts24 sf pl rg [] (l.take k)).length = k by rw [parts24_len, List.length_take, HLN.out]; simp; omega)
              have HRPQ := hide ((HOLD.out _ (by omega) (by omega) (by omega)).trans ((HB4.out.block _ (by omega)).trans HRP.out))
              have hBr : B ≤ wr.heap.size := by omega
              have hwr : wo.heap.size < wr.heap.size := by omega
              have HGB := hide (show B ≤ g ∧ B ≤ mr by omega)
              clear htk hcl24 hR hi0 hz hz1 hz2 hs4 HACC HOLD HBD4 HHD4 HSL4 HHDQ hm0
              go_wp2_with (at_builtin; refine wpList_push (α := Ptr24) wr [.pointer (some ⟨g, 0, none⟩)] 45 rfl (.tmp 79) (.tmp 81) 44 rfl B 45 i0 _ 8 Try.underlying44 HI0.out HZ.out HZ1.out HZ2.out rfl (by decide) (fun _ => False) (fun _ => False) (.slice (some ⟨ba, oa, none⟩) k ca) gs ⟨g⟩ rfl HJ.out.all wr.heap.size rfl rfl rfl (fun _ h => h) (fun _ _ h => h) (fun _ h => h.elim) (by rw [HJ.out.la, HLD.out]; omega) (by rw [HJ.out.la, HLD.out]; omega) hBr ?_; intro v' w1 ho1 hgr h6; obtain ⟨Ab, cb, rfl⟩ := ho1.form; rw [show (gs ++ [(⟨g⟩ : Ptr24)]).length = k + 1 by rw [List.length_append, HJ.out.la, HLD.out]; rfl] at ho1 h6 ⊢; have HGR := hide hgr; have HAO := hide ho1; have hw1 : wo.heap.size < w1.heap.size := (by have := HGR.out.size; simp at this; omega); have hpv : w1.cell? ⟨wo.heap.size, 1, none⟩ = some (.slice B1 q1 r1) := cell_of_row w1 wo.heap.size 1 _ _ (0, 0) ((HGR.out.block _ (by simp; omega) (fun e => kind_ne (HJ.out.all.kind e.symm) ⟨_, _, HRPQ.out⟩ (by decide) rfl)).trans ((Below.heap_alloc wr _ _ hwr).trans HRPQ.out)); clear ho1 hgr h6)
              have HJ1 := hide (HJ.out.toJ hBr HGR.out)
              have HBD1 := hide (bd_grown HBDQ.out hBr (fun r e => ⟨(HJ.out.all.below_ r e).1, HJ.out.all.kind e⟩) (by decide) HGR.out)
              have hB1 : B ≤ w1.heap.size := by omega
              obtain ⟨W5, hW5⟩ : ∃ W5, w1.alloc (.cells #[] 3) = W5 := ⟨_, rfl⟩
              have HO5 := hide (show OwnL W5 w1.heap.size 3 (fun _ => False) (.slice (some ⟨w1.heap.size, 0, none⟩) 0 0) ((x.vars.take 0).map (regOf24 x.vars x.colors acc)) by rw [← hW5]; exact OwnL.lit0 w1 _ _ (fun f => f))
              have HBL5 := hide (show Below w1.heap.size w1 W5 by rw [← hW5]; exact (Below.refl _ _).alloc (Nat.le_refl _) _)
              obtain ⟨i2, hi2, hz2, hz12, hz22⟩ := info_parts info_int2
              have HI2 := hide hi2; have HZ2' := hide hz2; have HZ12 := hide hz12; have HZ22 := hide hz22
              have HINI := hide (fun v => HBDQ.out.look_in v)
              obtain ⟨bz, hbz⟩ : ∃ bz, w1.heap.size = bz := ⟨_, rfl⟩
              rw [hbz] at HO5 HBL5 hB1 hw1
              have HBZ := hide hbz
              have HV1 := hide (HS1.out.keep (w' := w1) (by omega) (fun b hb _ => (HJ1.out.below.block b (by omega)).trans (HI.out.below.block b (by omega)).symm))
              have HW5 := hide hW5
              have HCOL := hide (show ∀ c ∈ x.colors, InI c by
                intro c hc
                have h1 := HRX.out.c c hc
                have := HR.out
                unfold rightP24 fits24 at this
                simp only [Bool.and_eq_true, decide_eq_true_eq] at this
                have h2 := (right24 this.1.1).r64
                have h3 := this.1.2.1
                unfold InI; omega)
              clear hi2 hz2 hz12 hz22 hW5 HJ HGR HRPQ HBDQ hbz
              go_loopw [16, 87] (fun vl i wr => ∃ (j cr : Nat) (Ar : Option Addr), j ≤ q1 ∧ i = .int .i64 j ∧ vl = .slice Ar j cr ∧ OwnL wr bz 3 (fun _ => False) (.slice Ar j cr) ((x.vars.take j).map (regOf24 x.vars x.colors acc)) ∧ Below bz w1 wr) (fun _ i _ => q1 - (Go.RowKit.intOf i).toNat)
              case atStart =>
                refine ⟨0, 0, some ⟨bz, 0, none⟩, Nat.zero_le _, rfl, by rw [← HBZ.out], ?_, ?_⟩
                · rw [HW5.out]; exact HO5.out
                · rw [HW5.out]; exact HBL5.out
              case round =>
                obtain ⟨t, cr, Ar, ht, rfl, rfl, ho, hbt⟩ := hrel
                have HO := hide ho; have HBT := hide hbt
                have hzt := hbt.size
                have hbzr : bz ≤ wr.heap.size := by rw [← HBZ.out]; exact hzt
                have hvt := HV1.out.below hbt (fun b hb => by omega)
                have HBDT := hide (HBD1.out.belowAll (by rw [HBZ.out]; exact hbt))
                have HLT := hide (show ((x.vars.take t).map (regOf24 x.vars x.colors acc)).length = t by rw [List.length_map, List.length_take, HL.out.1]; omega)
                clear ho hbt
                by_cases hlt3 : t < q1
                · obtain ⟨b7, o7, vv, rfl, hb7, hv7, hvi, d7⟩ := at_int hvt hlt3
                  have HTK := hide (take_at hv7)
                  have HRE := hide (reg24_any wr _ g x mr mh par N acc HBDT.out HRX.out.vr HRX.out.lc (by rw [HL.out.1]; omega) HCOL.out vv)
                  have HIV := hide (HINI.out vv)
                  obtain ⟨rv, hrv⟩ : ∃ rv, regOf24 x.vars x.colors acc vv = rv := ⟨_, rfl⟩
                  rw [hrv] at HRE HIV
                  have HRV := hide hrv
                  have HOE := hide (fun u : Ext => HO.out.ext u); have HBE := hide (fun u : Ext => HBT.out.ext hbzr u)
                  clear hv7 hvi hvt hrv
                  go_wp2_with (first
                    | (go_at_call 21; (with_reducible refine HRE.out.mono ?_); rintro e _ ⟨rfl, u7, rfl⟩)
                    | (at_builtin; refine wpList_push (α := Int) (wr.ext u7) [.int .i64 rv] 3 rfl (.tmp 91) (.tmp 95) 22 rfl bz 3 i2 _ 8 Try.underlying22 HI2.out HZ2'.out HZ12.out HZ22.out rfl (by decide) (fun _ => False) (fun _ => False) (.slice Ar t cr) _ rv rfl (HOE.out u7) (wr.heap.size + u7.blocks.size) rfl (size_ext wr u7).symm ⟨rfl, HIV.out⟩ (fun _ h => h) (fun _ _ h => h) (fun _ h => h.elim) (by rw [HLT.out]; omega) (by rw [HLT.out]; omega) (by rw [size_ext]; omega) ?_; intro v' w' ho1 hgr h6; obtain ⟨A9, c9, rfl⟩ := ho1.form; rw [show ((x.vars.take t).map (regOf24 x.vars x.colors acc) ++ [rv]).length = t + 1 by rw [List.length_append, HLT.out]; rfl] at ho1 h6 ⊢; have HOP := hide ho1; have HBP := hide (below_push (HBE.out u7) (HOE.out u7) (by rw [size_ext]; omega) hgr); clear ho1 hgr h6))
                  go_roundw
                  case rel => exact ⟨t + 1, c9, A9, by omega, by go_num, rfl, by rw [HTK.out, List.map_append]; simp only [List.map_cons, List.map_nil, HRV.out]; exact HOP.out, HBP.out⟩
                  case measure => simp [Go.RowKit.intOf]; omega
                · obtain rfl : t = q1 := by omega
                  have htk : x.vars.take t = x.vars := List.take_of_length_le (by rw [HL.out.1]; exact Nat.le_refl _)
                  have HOT := hide (show OwnL wr bz 3 (fun _ => False) (.slice Ar t cr) (told24 (x, acc)) by have := HO.out; rw [htk] at this; exact this)
                  obtain ⟨i3, hi3, hz3, hz13, hz23⟩ := info_parts info_sl24
                  have HI3 := hide hi3; have HZ3 := hide hz3; have HZ13 := hide hz13; have HZ23 := hide hz23
                  have hbw1 : Below w1.heap.size w1 wr := by rw [HBZ.out]; exact HBT.out
                  have HJ2 := hide (HJ1.out.after hbw1 (by rw [HBZ.out]; exact hB1))
                  have HAO2 := hide (HAO.out.keep hbw1.size (fun _ f => f.elim) fun r e => hbw1.block r (HAO.out.below_ r e).2)
                  have HJ1B := hide (fun (k : Nat) (x : Hdr) (b : Nat) (h1 : hs[k]? = some x) (h2 : x.v.ownBlock = some b) => (by have := (HJ1.out.rows.lt h1 h2).2; rw [HBZ.out] at this; exact this : b < bz))
                  have hBt : B ≤ wr.heap.size := by omega
                  have HLH := hide (show hs.length = k by rw [HI.out.lo, HLD.out])
                  clear htk hi3 hz3 hz13 hz23 hbw1 hvt HO HJ1 HAO HBD1 HINI HV1 HBT
                  go_wp2_with (at_builtin; refine wpList_push (α := Hdr) wr [.slice Ar t cr] 22 rfl (.tmp 98) (.tmp 100) 29 rfl B 22 i3 _ 24 Try.underlying29 HI3.out HZ3.out HZ13.out HZ23.out rfl (by decide) (fun _ => False) (fun _ => False) (.slice Ao k co) hs ⟨Ar, t, cr⟩ rfl HJ2.out.out wr.heap.size rfl rfl rfl (fun _ h => h) (fun _ _ h => h) (fun _ h => h.elim) (by rw [HLH.out]; omega) (by rw [HLH.out]; omega) hBt ?_; intro v' w' ho1 hgr h6; obtain ⟨A9, c9, rfl⟩ := ho1.form; rw [show (hs ++ [(⟨Ar, t, cr⟩ : Hdr)]).length = k + 1 by rw [List.length_append, HLH.out]; rfl] at ho1 h6 ⊢; have HOP := hide ho1; have HGR := hide hgr; clear ho1 hgr h6)
                  go_roundw
                  case rel => exact ⟨k + 1, c9, cb, A9, Ab, hs ++ [⟨Ar, t, cr⟩], gs ++ [⟨g⟩], by omega, by go_num, rfl, rfl, by rw [HX2.out]; exact HJ2.out.close hBt HI.out.lo HI.out.la HAO2.out HBDT.out HGB.out.1 HGB.out.2 (HOT.out.lowB hB1) (fun k x b h1 h2 e => by have := HJ1B.out k x b h1 h2; have := (HOT.out.below_ b e).1; omega) HOP.out HGR.out⟩
                  case measure => simp [Go.RowKit.intOf]; omega
      · obtain rfl : k = n := by omega
        have HLK := hide (show l.take k = l from List.take_of_length_le (by rw [HLN.out]; exact Nat.le_refl _))
        have HLP := hide (show (parts24 sf pl rg [] l).length = k by rw [parts24_len, HLN.out]; simp)
        go_wp2_with fail
        go_ret2
        have hI := HI.out
        rw [HLK.out] at hI
        have hb0 := HB0.out; have hb0w := HB0W.out
        have hz1 := hb0.size; have hz2 := hb0w.size; have hBB := HBB.out; have hs2 := HB2.out.size
        refine ⟨_, hs, rfl, ?_, hI.out.lowB (by omega), ⟨fun j h hj => ?_, fun i j x y b h1 h2 h3 h4 => hI.rows.ne i j x y b h1 h2 h3 h4⟩, by rw [hg0]; exact hb0.trans (hb0w.mono (by omega))⟩
        · show hs.length = ((parts24 sf pl rg [] l).map told24).length
          rw [List.length_map]; exact hI.lo
        · have := hI.rows.own j h hj
          show OwnL _ _ _ _ _ ((((parts24 sf pl rg [] l).map told24)[j]?).getD [])
          rw [List.getElem?_map]
          exact this.lowB (by omega)
end Go.Proofs.Ytbppamjogdjfkaa
