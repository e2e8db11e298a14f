/- law24: walk: the row of scratch registers. -/
import Derived.Test.YtbppamjogdjfkaaIT2
import Derived.Test.YtbppamjogdjfkaaN8
import Derived.Test.YtbppamjogdjfkaaNB
import Derived.Test.YtbppamjogdjfkaaNF
import Derived.Laws.EntriesVeiled
set_option linter.unusedSimpArgs false
set_option linter.unusedVariables false
namespace Go.Proofs.Ytbppamjogdjfkaa
open Go.RowKit Go.Shelf Go.Maps
attribute [local go_sem] Oper.semAt_some

def MRow (W : World) (g : Nat) (m : Machine) (A1 : Option Addr) (n1 c1 : Nat) (A2 : Option Addr) (n2 c2 : Nat) : Prop :=
  W.heap[g]? = some (.cells #[.int .i64 m.regs, .slice A1 n1 c1, .int .i64 m.ret, .slice A2 n2 c2] 24 (0, 0))
theorem MRow.cells {W : World} {g : Nat} {m : Machine} {A1 A2 : Option Addr} {n1 c1 n2 c2 : Nat} (h : MRow W g m A1 n1 c1 A2 n2 c2) :
    W.cell? ⟨g, 0, none⟩ = some (.int .i64 m.regs) ∧ W.cell? ⟨g, 1, none⟩ = some (.slice A1 n1 c1) ∧ W.cell? ⟨g, 2, none⟩ = some (.int .i64 m.ret) ∧ W.cell? ⟨g, 3, none⟩ = some (.slice A2 n2 c2) ∧ g < W.heap.size :=
  ⟨cell_of_row W g _ _ _ (0, 0) h, cell_of_row W g _ _ _ (0, 0) h, cell_of_row W g _ _ _ (0, 0) h, cell_of_row W g _ _ _ (0, 0) h, (Array.getElem?_eq_some_iff.1 h).1⟩
set_option maxHeartbeats 1000000 in
/-- is a register one of the arguments'? -/
theorem named24_any (w : World) (S : Nat → Prop) (m : Machine) (g : Nat) (A1 A2 : Option Addr) (n1 c1 n2 c2 : Nat) (hr : MRow w g m A1 n1 c1 A2 n2 c2) (h : Sl w S A1 n1 c1 m.args) (r : Int) :
    Calls Try.prog 36 #[.int .i64 r, .pointer (some ⟨g, 0, none⟩)] w (Ret (.bool (hasI r m.args)) w) := by
  have HS := hide h
  obtain ⟨k0, k1, k2, k3, hg⟩ := hr.cells
  clear h hr
  go_enter Try.func36, Try.ntmps36
  go_wp2_with (go_at_call 25; (with_reducible refine (contains5_any _ S A1 n1 c1 m.args r HS.out).mono ?_); rintro e w' ⟨rfl, rfl⟩)
  go_ret
  exact Ret.b rfl
theorem five_rows (w : World) (a b c d e : Obj) : ∀ W, ((((w.alloc a).alloc b).alloc c).alloc d).alloc e = W → W.heap[w.heap.size]? = some a ∧ W.heap[w.heap.size + 1]? = some b ∧ W.heap[w.heap.size + 1 + 1]? = some c ∧ W.heap[w.heap.size + 1 + 1 + 1]? = some d ∧ W.heap[w.heap.size + 1 + 1 + 1 + 1]? = some e ∧ W.heap.size = w.heap.size + 5 ∧ Below w.heap.size w W := by
  rintro _ rfl
  have hh : (((((w.alloc a).alloc b).alloc c).alloc d).alloc e).heap = ((((w.heap.push a).push b).push c).push d).push e := rfl
  refine ⟨?_, ?_, ?_, ?_, ?_, by simp, ((((((Below.refl _ _).alloc (Nat.le_refl _) _).alloc (by simp) _).alloc (by simp; omega) _).alloc (by simp; omega) _).alloc (by simp; omega) _)⟩ <;> rw [hh] <;> simp only [Array.getElem?_push, Array.size_push] <;> repeat (first | rfl | rw [if_pos (by omega)] | rw [if_neg (by omega)])
/-- Behind the statement that puts the lists together. -/
structure Row24E (w V W : World) (g D : Nat) (xs : List Int) (w' : World) : Prop where
  box : ∃ v, BoxV V.heap.size (g + 1) v xs w'
  below : Below g w w'
  size : V.heap.size ≤ w'.heap.size
  old : ∀ b, b < V.heap.size → b ≠ g + 1 → w'.heap[b]? = W.heap[b]?
  d : w'.heap[D]? = some (.deferred (some []))
theorem Row24E.mk_ {w V W w39 : World} {g D : Nat} {xs : List Int} {v4 v39 : Value} {X4 : List Int} {cs : Array Value} (hK : Below g w w39 ∧ W.heap.size ≤ w39.heap.size ∧ ∀ b, b < W.heap.size → v4.ownBlock ≠ some b → w39.heap[b]? = W.heap[b]?) (ho : OwnL w39 V.heap.size 3 (fun _ => False) v39 xs)
    (h4 : OwnL W V.heap.size 3 (fun _ => False) v4 X4) (hD : W.heap[D]? = some (.deferred (some []))) (hout : W.heap[g + 1]? = some (.cells cs 22 (0, 0))) (hg : g + 1 < V.heap.size) (hVW : V.heap.size ≤ W.heap.size) (hcs : cs.size = 1 := by rfl) : Row24E w V W g D xs (w39.setCell ⟨g + 1, 0, none⟩ v39) := by
  obtain ⟨k1, k2, k3⟩ := hK
  have hrow : w39.heap[g + 1]? = some (.cells cs 22 (0, 0)) := (k3 (g + 1) (by omega) fun e => by have := (h4.below_ _ e).1; omega).trans hout
  have hoth : ∀ r, r ≠ g + 1 → (w39.setCell ⟨g + 1, 0, none⟩ v39).heap[r]? = w39.heap[r]? := fun r hr => Below.heap_setCell w39 ⟨g + 1, 0, none⟩ v39 r hr
  have hset : (w39.setCell ⟨g + 1, 0, none⟩ v39).heap[g + 1]? = some (.cells #[v39] 22 (0, 0)) := by
    show (w39.heap.modify (g + 1) _)[g + 1]? = _
    rw [Array.getElem?_modify, if_pos rfl, hrow]
    obtain ⟨x, rfl⟩ : ∃ x, cs = #[x] := ⟨cs[0], Array.ext (by simp [hcs]) fun i h1 h2 => by have : i = 0 := by omega
                                                                                            subst this; rfl⟩
    rfl
  have hDl := (Array.getElem?_eq_some_iff.1 hD).1
  refine ⟨⟨v39, hset, ho.keep (by simp) (fun _ f => f.elim) fun r e => hoth r (by have := (ho.below_ r e).1; omega)⟩, k1.setCell (p := ⟨g + 1, 0, none⟩) (by show g ≤ g + 1; omega) _, by simp; omega, fun b hb hne => (hoth b hne).trans (k3 b (by omega) fun e => by have := (h4.below_ _ e).1; omega), ?_⟩
  have hDg : D ≠ g + 1 := fun e => by rw [e, hout] at hD; cases hD
  refine ((hoth D hDg).trans (k3 D hDl fun e => ?_)).trans hD
  obtain ⟨cur, hc⟩ := h4.cellsB e
  rw [hD] at hc; cases hc
theorem rowF_ext' {w0 : World} {row : Option Nat} (w : World) (o : Obj) (h : rowF w0 row w) : rowF w0 row (w.alloc o) := by
  obtain ⟨u, hu⟩ := ext_alloc w o
  rw [hu]; exact rowF_ext w u h
def arF (m : Machine) (l : List Int) : List Int := l.filter fun r => !decide (r = m.ret) && hasI r m.args
def frF (m : Machine) (l : List Int) : List Int := l.filter fun r => !decide (r = m.ret) && !hasI r m.args
/-- Between two rounds of the first loop. -/
structure Row24I (w V : World) (b3 b4 : Nat) (ar fr : List Int) (W : World) : Prop where
  ex : ∃ v3 v4, BoxV V.heap.size b3 v3 ar W ∧ BoxV V.heap.size b4 v4 fr W ∧ ∀ g, v3.ownBlock = some g → v4.ownBlock ≠ some g
  below : Below w.heap.size w W
  size : V.heap.size ≤ W.heap.size
  old : ∀ b, b < V.heap.size → b ≠ b3 → b ≠ b4 → W.heap[b]? = V.heap[b]?
theorem Row24I.own {m : Machine} {w V : World} {b3 b4 B g : Nat} (hg : w.heap.size = g) (hB : g ≤ B) {α : Type} {f h : α → List Int} (hBV : B = V.heap.size := by rfl) : OwnFrom B (fun x : α => Row24I w V b3 b4 (f x) (h x)) := fun pre W W' row ⟨⟨v3, v4, h3, h4, h5⟩, hb, hs, ho⟩ hgr hr => by
  subst hBV
  exact ⟨⟨v3, v4, h3.other hgr fun r e => (hr r e).2, h4.other hgr fun r e => (hr r e).2, h5⟩, hb.grown hgr hb.size fun r e => by have := (hr r e).1; omega, Nat.le_trans hs hgr.size,
    fun b hb3 h1 h2 => (hgr.block b (by omega) fun e => by have := (hr b e.symm).1; omega).trans (ho b hb3 h1 h2)⟩
theorem Row24I.swap {w V : World} {b3 b4 : Nat} {ar fr : List Int} {W : World} (h : Row24I w V b3 b4 ar fr W) : Row24I w V b4 b3 fr ar W := by
  obtain ⟨⟨v3, v4, h3, h4, h5⟩, hb, hs, ho⟩ := h
  exact ⟨⟨v4, v3, h4, h3, fun g e e' => h5 g e' e⟩, hb, hs, fun b hl h1 h2 => ho b hl h2 h1⟩
/-- One more in the first box. -/
theorem Row24I.push {w V W W2 : World} {b3 b4 : Nat} {ar fr : List Int} {v3 v4 v' : Value} {y : Int} {o : Obj} (h3 : BoxV V.heap.size b3 v3 ar W) (h4 : BoxV V.heap.size b4 v4 fr W) (h5 : ∀ g, v3.ownBlock = some g → v4.ownBlock ≠ some g) (hb : Below w.heap.size w W) (hs : V.heap.size ≤ W.heap.size)
    (ho : ∀ b, b < V.heap.size → b ≠ b3 → b ≠ b4 → W.heap[b]? = V.heap[b]?) (k1 : w.heap.size ≤ b3) (k2 : b3 < V.heap.size) (k3 : b3 ≠ b4) (k4 : b4 < V.heap.size) (ho1 : OwnL W2 V.heap.size 3 (fun _ => False) v' (ar ++ [y])) (hgr : (W.alloc o).grownBy W2 v3.ownBlock) (h6 : v'.ownBlock = v3.ownBlock ∨ v'.ownBlock = some (W.heap.size + 1)) :
    Row24I w V b3 b4 (ar ++ [y]) fr (W2.setCell ⟨b3, 0, none⟩ v') ∧ Chg (fun r => r = b3 ∨ v3.ownBlock = some r) W (W2.setCell ⟨b3, 0, none⟩ v') := by
  obtain ⟨_, _, _, p4, p5⟩ := h3.pushed ho1 hgr
  have hz := hb.size
  have l3 := h3.own.below_
  have l4 := h4.own.below_
  refine ⟨⟨⟨v', v4, p4, ?_, fun g e e' => ?_⟩, h3.pushed_below hb hz (by omega) k1 hgr, Nat.le_trans hs p5.size, fun b hl e1 e2 => ?_⟩, p5⟩
  · refine h4.keep p5.size (p5.block b4 h4.lt ?_) fun g e => p5.block g (l4 g e).2 ?_
    · rintro (e | e)
      · exact k3 e.symm
      · have := (l3 b4 e).1; omega
    · rintro (e1 | e1)
      · have := (l4 g e).1; omega
      · exact h5 g e1 e
  · rcases h6 with h6 | h6
    · exact h5 g (h6 ▸ e) e'
    · rw [h6] at e; injection e with e; have := (l4 g e').2; omega
  · refine (p5.block b (by omega) ?_).trans (ho b hl e1 e2)
    rintro (e | e)
    · exact e1 e
    · have := (l3 b e).1; omega
theorem arF_snoc (m : Machine) (l : List Int) (r : Int) : arF m (l ++ [r]) = arF m l ++ (if r = m.ret then [] else if hasI r m.args = true then [r] else []) := by
  unfold arF
  rw [List.filter_append]
  congr 1
  by_cases h : r = m.ret <;> cases h2 : hasI r m.args <;> simp [h, h2]
theorem frF_snoc (m : Machine) (l : List Int) (r : Int) : frF m (l ++ [r]) = frF m l ++ (if r = m.ret then [] else if hasI r m.args = true then [] else [r]) := by
  unfold frF
  rw [List.filter_append]
  congr 1
  by_cases h : r = m.ret <;> cases h2 : hasI r m.args <;> simp [h, h2]
theorem results_cell1 {P : Program} {fn : Func} {p : Tmp} {ty : TypeId} {a : Addr} {v : Value} (h : fn.results = #[.cell p ty]) (tmps : Array Value) (w : World)
    (hp : tmps.getD p undef = .pointer (some a)) (hl : (loadVar ty a).run P w = .ok v w) : (results fn tmps).run P w = .ok v w := by
  have hp' : tmps[p]?.getD undef = .pointer (some a) := by simpa using hp
  simp [results, h, hp', asAddr, hl]
/-- Between two rounds of the second loop. -/
structure Row24J (w : World) (g D B2 Bb Z : Nat) (A2 : Option Addr) (n2 c2 : Nat) (xs : List Int) (W : World) : Prop where
  box : ∃ v, BoxV Bb (g + 1) v xs W
  below : Below g w W
  bx : W.heap[B2]? = some (.cells #[.slice A2 n2 c2] 22 (0, 0))
  d : W.heap[D]? = some (.deferred (some []))
  size : Z ≤ W.heap.size
theorem Row24J.own {w : World} {g D B2 Bb Z B : Nat} {A2 : Option Addr} {n2 c2 : Nat} (hg : w.heap.size = g) (hgB : g + 1 < B) (hDB : D < B) {α : Type} {f : α → List Int} (hB2 : B2 < B := by omega) : OwnFrom B (fun x : α => Row24J w g D B2 Bb Z A2 n2 c2 (f x)) := fun pre W W' row ⟨⟨v, h⟩, hb, hx, hd, hs⟩ hgr hr =>
  ⟨⟨v, h.other hgr fun r e => (hr r e).2⟩, hb.grown hgr (by rw [← hg]; exact hb.size) fun r e => by have := (hr r e).1; omega, (hgr.block B2 (Array.getElem?_eq_some_iff.1 hx).1 fun e => by have := (hr B2 e.symm).1; omega).trans hx, (hgr.block D (Array.getElem?_eq_some_iff.1 hd).1 fun e => by have := (hr D e.symm).1; omega).trans hd, Nat.le_trans hs hgr.size⟩
set_option maxRecDepth 100000 in
set_option maxHeartbeats 4000000 in
theorem row24_any (w : World) (S1 S2 : Nat → Prop) (m : Machine) (A1 A2 : Option Addr) (n1 c1 n2 c2 : Nat) (h1 : Sl w S1 A1 n1 c1 m.args) (h2 : Sl w S2 A2 n2 c2 m.saved) (hi : InI m.ret) (hR : rightM m = true) :
    Calls Try.prog 24 #[.agg #[.int .i64 m.regs, .slice A1 n1 c1, .int .i64 m.ret, .slice A2 n2 c2]] w (RetInts (row24 m) w) := by
  have H1 := hide h1; have H2 := hide h2
  have hf1 : Fence.wide.fn 38 := trivial
  have hf2 : Fence.wide.fn 37 := trivial
  have hf3 : Fence.wide.fn 36 := trivial
  refine (callsIn_wide (n := 8)).1 ?_
  refine callsIn_of_wp_marks Try.func24 rfl trivial ?_ rfl
  simp only [Try.ntmps24, List.size_toArray, List.length_cons, List.length_nil, Nat.reduceAdd, Nat.reduceSub, Array.replicate_succ, Array.replicate_zero, List.push_toArray, List.append_toArray, List.nil_append, List.cons_append]
  have HL := hide (fun (W : World) (hb : Below w.heap.size w W) => lostm_any W S1 S2 m A1 A2 n1 c1 n2 c2 (H1.out.belowAll hb) (H2.out.belowAll hb) hi)
  have HW := hide (five_rows w)
  clear h1 h2
  gi_wp2_with (first
    | (gi_at_call 38; refine (callsIn_wide.2 (HL.out _ (HW.out _ _ _ _ _ _ rfl).2.2.2.2.2.2)).mono ?_; rintro e _ ⟨A, n, c, S, rfl, ho, hS, u1, rfl⟩)
    | (gi_at_call 37; refine (backward_in Fence.wide _ trivial rfl _ _ _ _).mono ?_; rintro e _ ⟨rfl, rfl⟩))
  obtain ⟨W0, hW0⟩ : ∃ W0, ((((w.alloc (.cells #[.int .i64 m.regs, .slice A1 n1 c1, .int .i64 m.ret, .slice A2 n2 c2] 24)).alloc (.cells #[.slice none 0 0] 22)).alloc (.cells #[.func (.func 36) #[] #[.pointer (some ⟨w.heap.size, 0, none⟩)]] 64)).alloc (.cells #[.slice none 0 0] 22)).alloc (.cells #[.slice none 0 0] 22) = W0 := ⟨_, rfl⟩
  rw [hW0] at ho hS ⊢
  obtain ⟨r0, r1, r2, r3, r4, hz0, hb0⟩ := HW.out _ _ _ _ _ _ hW0
  clear hW0
  obtain ⟨g, hg⟩ : ∃ g, w.heap.size = g := ⟨_, rfl⟩
  rw [hg] at r0 r1 r2 r3 r4 hz0 hb0 ⊢
  obtain ⟨V, hV⟩ : ∃ V, (W0.ext u1).alloc (.cells #[.slice A n c] 22) = V := ⟨_, rfl⟩
  obtain ⟨Bn, hBn⟩ : ∃ Bn, g + 1 + 1 + 1 + 1 + 1 + u1.blocks.size = Bn := ⟨_, rfl⟩
  rw [hV, hBn]
  have hs1 : (W0.ext u1).heap.size = Bn := by rw [size_ext, hz0, ← hBn]
  have hVs : V.heap.size = Bn + 1 := by rw [← hV, World.size_alloc, hs1]
  have hgB : g + 5 ≤ Bn := by omega
  have hbV0 : Below W0.heap.size W0 V := by rw [← hV]; exact ((Below.refl _ _).ext (Nat.le_refl _) _).alloc (by rw [hs1]; omega) _
  have hbV : Below g w V := hb0.trans (hbV0.mono (by omega))
  have hbx : V.heap[Bn]? = some (.cells #[.slice A n c] 22 (0, 0)) := by rw [← hV, ← hs1]; exact heap_alloc_new _ _
  have hsl : Sl V (fun b => g + 5 ≤ b ∧ b < Bn) A n c (lostM m) := by
    have h := ho.sl (S' := fun b => g + 5 ≤ b ∧ b < Bn) (fun b hb h => by
      rw [hs1] at hb
      rcases h with h | h
      · have := hS b h; omega
      · omega)
    rw [← hV]; exact h.alloc _
  have hn64 : n ≤ 64 := by
    rw [← ho.sl (fun _ _ _ => trivial) (S' := fun _ => True) |>.len, lost24 hR]
    have := List.length_filter_le (fun r => !hasI r m.saved) (regs24 m.regs.toNat)
    have h6 := (right24 hR).r64
    rw [regs24_len] at this
    omega
  have q0 : MRow V g m A1 n1 c1 A2 n2 c2 := (hbV0.block g (by omega)).trans r0
  have q1 := (hbV0.block (g + 1) (by omega)).trans r1
  have q2 := (hbV0.block (g + 1 + 1) (by omega)).trans r2
  have q3 : BoxV (Bn + 1) (g + 1 + 1 + 1) (.slice none 0 0) [] V := ⟨(hbV0.block (g + 1 + 1 + 1) (by omega)).trans r3, OwnL.nil_ _ _ _ _⟩
  have q4 : BoxV (Bn + 1) (g + 1 + 1 + 1 + 1) (.slice none 0 0) [] V := ⟨(hbV0.block (g + 1 + 1 + 1 + 1) (by omega)).trans r4, OwnL.nil_ _ _ _ _⟩
  have HG := hide hg
  have HS1 := hide (H1.out.more (S' := fun b => b < g) fun b hb _ => hg ▸ hb)
  have HS2 := hide (H2.out.more (S' := fun b => b < g) fun b hb _ => hg ▸ hb)
  clear HL HW r0 r1 r2 r3 r4 hV hBn ho hS hs1 hg
  obtain ⟨i0, hi0, hz, hz1, hz2⟩ := info_parts info_int2
  refine wpIn_rangeFunc_ownG rfl (by omega) (gf := 46) (lb := #[.pointer (some ⟨Bn, 0, none⟩)]) rfl trivial (enters_of Try.func46 (by kernel_rfl) rfl)
    (backward_stops Fence.wide _ trivial rfl (by omega) Bn (fun b => b < V.heap.size ∧ b ≠ g + 1 + 1 + 1 ∧ b ≠ g + 1 + 1 + 1 + 1) (fun b => g + 5 ≤ b ∧ b < Bn) (lostM m) V ⟨A, n, c, hbx, hsl⟩ (by omega) (fun b hb => by omega)) (fun h k => h.trans k) (keepX_b (fun b hb => hb.1)) (Below.refl _ _) (fun _ => rfl)
    (fun pre => Row24I w V (g + 1 + 1 + 1) (g + 1 + 1 + 1 + 1) (arF m (unIZ pre)) (frF m (unIZ pre))) (fun _ _ _ => False) (Row24I.own (m := m) HG.out (by omega)) (fun _ _ _ _ _ hs _ _ => hs) ⟨⟨_, _, by rw [hVs]; exact q3, by rw [hVs]; exact q4, fun _ h => by cases h⟩, by rw [HG.out]; exact hbV, Nat.le_refl _, fun _ _ _ _ => rfl⟩
    (fun x => { tmps := #[.agg #[.int .i64 m.regs, .slice A1 n1 c1, .int .i64 m.ret, .slice A2 n2 c2], .pointer (some ⟨g, 0, none⟩), .pointer (some ⟨g + 1, 0, none⟩), .pointer (some ⟨g + 1 + 1, 0, none⟩), .pointer (some ⟨g + 1 + 1 + 1, 0, none⟩), .pointer (some ⟨g + 1 + 1 + 1 + 1, 0, none⟩), undef, .int .i64 x.2.1, undef, undef, .func (.func 36) #[] #[.pointer (some ⟨g, 0, none⟩)], .agg #[.int .i64 m.regs, .slice A1 n1 c1, .int .i64 m.ret, .slice A2 n2 c2], .slice A n c, .func (.func 46) #[] #[.pointer (some ⟨Bn, 0, none⟩)], .int .i64 x.1, .int .i64 x.2.1, undef, undef, undef, undef, undef, undef, undef, undef, undef, undef, undef, undef, undef, undef, undef, undef, undef, undef, undef, undef, undef, undef, undef, undef, undef, undef, undef, undef, undef, undef, undef, undef, undef, undef], defers := [] }) ?assign ?body ?done ?stop
  case assign =>
    intro l x W K hK
    gi_wp2
    exact hK
  case body =>
    rintro l pre x W hI hlen
    obtain ⟨xi, r, hri⟩ := x
    dsimp only
    obtain ⟨⟨v3, v4, h3, h4, h5⟩, hbW, hsW, hoW⟩ := hI
    obtain ⟨A3, c3, rfl⟩ := h3.own.form
    obtain ⟨A4, c4, rfl⟩ := h4.own.form
    obtain ⟨N3, hN3⟩ : ∃ N, (arF m (unIZ pre)).length = N := ⟨_, rfl⟩
    obtain ⟨N4, hN4⟩ : ∃ N, (frF m (unIZ pre)).length = N := ⟨_, rfl⟩
    rw [hN3] at h3 h5
    rw [hN4] at h4 h5
    have hll : (lostM m).length = n := hsl.len
    have hp64 : (unIZ pre).length ≤ 64 := by rw [List.length_map]; omega
    have hn3 : N3 ≤ 64 := by rw [← hN3]; exact Nat.le_trans (List.length_filter_le _ _) hp64
    have hn4 : N4 ≤ 64 := by rw [← hN4]; exact Nat.le_trans (List.length_filter_le _ _) hp64
    have HB3 := hide h3; have HB4 := hide h4; have HB5 := hide h5; have HBW := hide hbW; have HOW := hide hoW
    have HRI := hide hri
    have hm : MRow W g m A1 n1 c1 A2 n2 c2 := (hoW g (by omega) (by omega) (by omega)).trans q0
    obtain ⟨d0, d1, d2, d3, hgl⟩ := hm.cells
    have hfn : W.cell? ⟨g + 1 + 1, 0, none⟩ = some (.func (.func 36) #[] #[.pointer (some ⟨g, 0, none⟩)]) := cell_of_row W _ _ _ _ (0, 0) ((hoW (g + 1 + 1) (by omega) (by omega) (by omega)).trans q2)
    have e3 : W.cell? ⟨g + 1 + 1 + 1, 0, none⟩ = some (.slice A3 N3 c3) := cell_of_row W _ _ _ _ (0, 0) h3.row
    have e4 : W.cell? ⟨g + 1 + 1 + 1 + 1, 0, none⟩ = some (.slice A4 N4 c4) := cell_of_row W _ _ _ _ (0, 0) h4.row
    have l3 := h3.lt; have l4 := h4.lt
    have HN := hide (named24_any W _ m g A1 A2 n1 c1 n2 c2 hm (HS1.out.below (B := g) (by rw [← HG.out]; exact hbW) (fun b hb => hb)) r)
    have hnx : unIZ (pre ++ [(xi, ⟨r, hri⟩)]) = unIZ pre ++ [r] := by unfold unIZ; rw [List.map_append]; rfl
    have HNX := hide hnx
    clear h3 h4 h5 hbW hoW hm hbx hsl q0 q1 q2 q3 q4 hN3 hN4 hnx hll
    by_cases hr1 : r = m.ret
    · have hb1 : ((r : Int) == m.ret) = true := by simpa using hr1
      have HR1 := hide hr1
      clear hr1
      gi_wp2
      refine ⟨KeepsFrom.refl _ _, KeepX.refl _ _, ?_⟩
      dsimp only
      rw [HNX.out, arF_snoc, frF_snoc, if_pos HR1.out, if_pos HR1.out, List.append_nil, List.append_nil]
      exact ⟨⟨_, _, HB3.out, HB4.out, HB5.out⟩, HBW.out, hsW, HOW.out⟩
    · have hb1 : ((r : Int) == m.ret) = false := by simpa using hr1
      have HR1 := hide hr1
      clear hr1
      cases hr2 : hasI r m.args with
      | true =>
        rw [hr2] at HN
        have HR2 := hide hr2
        clear hr2
        gi_wp2_with (first
          | (gi_at_call 36; refine (CallsIn.inRound l (callsIn_wide.2 HN.out)).mono ?_; rintro e _ ⟨rfl, rfl⟩)
          | (gi_at_builtin; refine wpListIn_push (α := Int) W [.int .i64 r] 3 rfl (.tmp 29) (.tmp 31) 22 rfl V.heap.size 3 i0 _ 8 Try.underlying22 hi0 hz hz1 hz2 rfl (by decide) (fun _ => False) (fun _ => False) (.slice A3 N3 c3) _ r rfl HB3.out.own W.heap.size rfl rfl ⟨rfl, HRI.out⟩ (fun _ h => h) (fun _ _ h => h) (fun _ h => h.elim) (by rw [HB3.out.own.sl (fun _ _ _ => trivial) (S' := fun _ => True) |>.len]; omega) (by rw [HB3.out.own.sl (fun _ _ _ => trivial) (S' := fun _ => True) |>.len]; omega) (by omega) ?_; intro v' w' ho1 hgr h6; obtain ⟨A9, c9, rfl⟩ := ho1.form; obtain ⟨N1, hN1⟩ : ∃ N1, (arF m (unIZ pre) ++ [r]).length = N1 := ⟨_, rfl⟩; rw [hN1] at ho1 h6 ⊢; clear hN1; obtain ⟨q1, q2, q3, -, -⟩ := HB3.out.pushed ho1 hgr; have HP := hide (Row24I.push HB3.out HB4.out HB5.out HBW.out hsW HOW.out (by have := HG.out; omega) (by omega) (by omega) (by omega) ho1 hgr h6); clear ho1 hgr h6))
        refine ⟨HP.out.2.keepsFrom _, HP.out.2.keepX fun b hb => ⟨by omega, ?_⟩, ?_⟩
        · rintro (e | e)
          · omega
          · have := (HB3.out.own.below_ b e).1; omega
        · dsimp only
          rw [HNX.out, arF_snoc, frF_snoc, if_neg HR1.out, if_neg HR1.out, if_pos HR2.out, if_pos HR2.out, List.append_nil]
          exact HP.out.1
      | false =>
        rw [hr2] at HN
        have HR2 := hide hr2
        clear hr2
        gi_wp2_with (first
          | (gi_at_call 36; refine (CallsIn.inRound l (callsIn_wide.2 HN.out)).mono ?_; rintro e _ ⟨rfl, rfl⟩)
          | (gi_at_builtin; refine wpListIn_push (α := Int) W [.int .i64 r] 3 rfl (.tmp 16) (.tmp 18) 22 rfl V.heap.size 3 i0 _ 8 Try.underlying22 hi0 hz hz1 hz2 rfl (by decide) (fun _ => False) (fun _ => False) (.slice A4 N4 c4) _ r rfl HB4.out.own W.heap.size rfl rfl ⟨rfl, HRI.out⟩ (fun _ h => h) (fun _ _ h => h) (fun _ h => h.elim) (by rw [HB4.out.own.sl (fun _ _ _ => trivial) (S' := fun _ => True) |>.len]; omega) (by rw [HB4.out.own.sl (fun _ _ _ => trivial) (S' := fun _ => True) |>.len]; omega) (by omega) ?_; intro v' w' ho1 hgr h6; obtain ⟨A9, c9, rfl⟩ := ho1.form; obtain ⟨N1, hN1⟩ : ∃ N1, (frF m (unIZ pre) ++ [r]).length = N1 := ⟨_, rfl⟩; rw [hN1] at ho1 h6 ⊢; clear hN1; obtain ⟨q1, q2, q3, -, -⟩ := HB4.out.pushed ho1 hgr; have HP := hide (Row24I.push HB4.out HB3.out (fun g e e2 => HB5.out g e2 e) HBW.out hsW (fun b h1 h2 h3 => HOW.out b h1 h3 h2) (by have := HG.out; omega) (by omega) (by omega) (by omega) ho1 hgr h6); clear ho1 hgr h6))
        refine ⟨HP.out.2.keepsFrom _, HP.out.2.keepX fun b hb => ⟨by omega, ?_⟩, ?_⟩
        · rintro (e | e)
          · omega
          · have := (HB4.out.own.below_ b e).1; omega
        · dsimp only
          rw [HNX.out, arF_snoc, frF_snoc, if_neg HR1.out, if_neg HR1.out, if_neg (by rw [HR2.out]; decide), if_neg (by rw [HR2.out]; decide), List.append_nil]
          exact HP.out.1.swap
  case done =>
    rintro D ys W hD hys ⟨⟨v3, v4, h3, h4, h5⟩, hbW, hsW, hoW⟩ hK
    have hys' : unIZ ys = (lostM m).reverse := hys
    rw [hys'] at h3 h4
    rw [hVs] at h3 h4
    obtain ⟨A3, c3, rfl⟩ := h3.own.form
    obtain ⟨A4, c4, rfl⟩ := h4.own.form
    obtain ⟨X3, hX3⟩ : ∃ X, arF m (lostM m).reverse = X := ⟨_, rfl⟩
    obtain ⟨X4, hX4⟩ : ∃ X, frF m (lostM m).reverse = X := ⟨_, rfl⟩
    have hll : (lostM m).reverse.length ≤ 64 := by rw [List.length_reverse, hsl.len]; exact hn64
    have hn3 : X3.length ≤ 64 := by rw [← hX3]; exact Nat.le_trans (List.length_filter_le _ _) hll
    have hn4 : X4.length ≤ 64 := by rw [← hX4]; exact Nat.le_trans (List.length_filter_le _ _) hll
    have HX := hide (show row24 m = X4 ++ X3 ++ [m.ret] ++ m.saved.reverse by rw [← hX3, ← hX4]; rfl)
    rw [hX3] at h3 h5
    rw [hX4] at h4 h5
    obtain ⟨N3, hN3⟩ : ∃ N, X3.length = N := ⟨_, rfl⟩
    obtain ⟨N4, hN4⟩ : ∃ N, X4.length = N := ⟨_, rfl⟩
    rw [hN3] at h3 h5 hn3
    rw [hN4] at h4 h5 hn4
    have hm : MRow W g m A1 n1 c1 A2 n2 c2 := (hoW g (by omega) (by omega) (by omega)).trans q0
    have hout := (hoW (g + 1) (by omega) (by omega) (by omega)).trans q1
    obtain ⟨d0, d1, d2, d3, hgl⟩ := hm.cells
    have e3 : W.cell? ⟨g + 1 + 1 + 1, 0, none⟩ = some (.slice A3 N3 c3) := cell_of_row W _ _ _ _ (0, 0) h3.row
    have e4 : W.cell? ⟨g + 1 + 1 + 1 + 1, 0, none⟩ = some (.slice A4 N4 c4) := cell_of_row W _ _ _ _ (0, 0) h4.row
    have l3 := h3.lt; have l4 := h4.lt
    have HB3 := hide h3; have HB4 := hide h4; have HB5 := hide h5; have HBW := hide hbW
    have HM := hide hm; have HOUT := hide hout; have HK := hide hK; have HN3 := hide hN3; have HN4 := hide hN4
    have HI := hide hi
    have hDl : D < W.heap.size := (Array.getElem?_eq_some_iff.1 hK).1
    clear h3 h4 h5 hbW hoW hm hbx hsl q0 q1 q2 q3 q4 hX3 hX4 hN3 hN4 hout hK hys hys' hll hi
    gi_wp2
    have HBW' := hide (show Below g w W from by have := HBW.out; rw [HG.out] at this; exact this)
    have HO4 := hide (HB4.out.own)
    have hr4 : ∀ r, (Value.slice A4 N4 c4).ownBlock = some r → Bn + 1 ≤ r ∧ r < W.heap.size := HB4.out.own.below_
    have hkeep : ∀ w', rowF W (Value.slice A4 N4 c4).ownBlock w' → ∀ b, b < Bn + 1 → w'.heap[b]? = W.heap[b]? := fun w' hw' b hb => hw'.block b (by omega) fun e => by have := (hr4 b e.symm).1; omega
    have HR4 := hide hr4; have HKP := hide hkeep
    have hS3 := HB3.out.own.slo (S' := fun _ => True) (fun _ _ _ => trivial)
    have HS3 := hide hS3
    clear hr4 hkeep hS3
    refine wp_region_Q_tail (RQ W (Bn + 1) 3 (Value.slice A4 N4 c4).ownBlock (N4 + N3) c4 (X4 ++ X3)) (rowF W (Value.slice A4 N4 c4).ownBlock) (extF W) [2] 6 (by kernel_rfl) rfl (by kernel_rfl) (by kernel_rfl) (by kernel_rfl) (fun w' u h => RQ.ext w' u (fun r e => (HR4.out r e).2) h.size) (fun w' u h => rowF_ext w' u h) (fun _ u ⟨x, hx⟩ => by rw [hx]; exact ext_ext W x u) (rowF_drew W _) (ext_drew W) ?_
    simp only [List.take_succ_cons, List.take_zero, List.drop_succ_cons, List.drop_zero]
    refine flowQ_known (by kernel_rfl) (fun K hK => ⟨.slice A4 N4 c4, fun w' hw' => ?_, hK _ ?_⟩)
    · have x1 : w'.cell? ⟨g + 1 + 1 + 1 + 1, 0, none⟩ = some (.slice A4 N4 c4) := (World.cell?_of_block (HKP.out w' hw' (g + 1 + 1 + 1 + 1) (by omega))).trans e4
      go_simp
    clear hK K
    refine flowQ_known (by kernel_rfl) (fun K hK => ⟨.slice A3 N3 c3, fun w' hw' => ?_, hK _ ?_⟩)
    · have x1 : w'.cell? ⟨g + 1 + 1 + 1, 0, none⟩ = some (.slice A3 N3 c3) := (World.cell?_of_block (HKP.out w' hw' (g + 1 + 1 + 1) (by omega))).trans e3
      go_simp
    clear hK K
    go_simp
    refine flowQ_keep0 [] (PQ W (Bn + 1) 3 (Value.slice A4 N4 c4).ownBlock (N4 + N3) c4 (X4 ++ X3)) (by kernel_rfl) PQ.stable_ (by kernel_rfl) (fun w' hw' hx => ?_) ?_
    · try simp only [List.nil_append, List.cons_append, useH_f, useH_t, useH_nil]
      obtain ⟨u, rfl⟩ := hx
      exact HeldAtQ.push_ints rfl (.tmp 33) (.tmp 34) 22 rfl (Bn + 1) 3 i0 _ 8 Try.underlying22 hi0 hz hz1 hz2 rfl A4 N4 c4 X4 X3 rfl (HO4.out.ext u) _ A3 N3 c3 rfl (HS3.out.ext u) (by omega) (by omega) (by rw [size_ext]; omega) hw' (fun r e => (HR4.out r e).2)
    refine flowQ_known (by kernel_rfl) (fun K hK => ⟨.pointer (some ⟨g, 2, none⟩), fun w' hw' => ?_, hK _ ?_⟩)
    · go_simp
    clear hK K
    refine flowQ_known (by kernel_rfl) (fun K hK => ⟨.int .i64 m.ret, fun w' hw' => ?_, hK _ ?_⟩)
    · have x1 : w'.cell? ⟨g, 2, none⟩ = some (.int .i64 m.ret) := (World.cell?_of_block (HKP.out w' hw' g (by omega))).trans d2
      go_simp
    clear hK K
    refine flowQ_keep [false] (LitB W.heap.size 3 [.int .i64 m.ret] 1) (by kernel_rfl) LitB.stableQ_ (fun w' hw' => ?_) ?_
    · try simp only [List.nil_append, List.cons_append, useH_f, useH_t, useH_nil]
      refine HeldAtQ.of rfl ?_
      go_simp
      refine ⟨⟨_, rfl, hw'.size, heap_alloc_new w' _⟩, (rowF_ext' w' _ hw'), ?_, fun _ => ext_alloc w' _⟩
      obtain ⟨u, hu⟩ := ext_alloc w' (.cells #[.int .i64 m.ret] 3)
      rw [hu]
      exact RQ.ext w' u (fun r e => (HR4.out r e).2) hw'.size
    refine flowQ_done [true, true] (by kernel_rfl) (fun w' hw' => ?_)
    simp only [List.nil_append, List.cons_append, endH_f, endH_t, endH_nil]
    rintro v35 ⟨ho35, hg35⟩ v38 ⟨g8, rfl, hg8, hrow8⟩
    go_simp
    have hws := hw'.size
    have HW6 := hide hw'; have HO35 := hide ho35; have HG35 := hide hg35; have HR8 := hide hrow8
    have hn35 : (X4 ++ X3).length ≤ 128 := by rw [List.length_append, HN3.out, HN4.out]; omega
    have HN35 := hide hn35
    have hg35' : ∀ r, v35.ownBlock = some r → Bn + 1 ≤ r := fun r e => (ho35.below_ r e).1
    have HX35 := hide hg35'
    clear hw' ho35 hg35 hrow8 hg35' hn35
    refine wpListIn_push_at (α := Int) w' rfl (.tmp 35) (.tmp 38) 22 rfl (Bn + 1) 3 i0 _ 8 Try.underlying22 hi0 hz hz1 hz2 rfl (by decide) (fun _ => False) (fun _ => False) v35 (X4 ++ X3) [m.ret] rfl HO35.out ⟨g8, 0, none⟩ 1 1 [.int .i64 m.ret] rfl rfl (RepL.single ⟨rfl, HI.out⟩) (lit_news HR8.out) (fun _ _ h => h) (fun _ _ h => h) (fun _ h => h.elim) (by have := HN35.out; unfold maxLen; omega) (by have := HN35.out; omega) (by omega) ?_
    intro v39 w7 ho39 hg39 h39
    obtain ⟨A39, c39, rfl⟩ := ho39.form
    obtain ⟨N39, hN39⟩ : ∃ N, (X4 ++ X3 ++ [m.ret]).length = N := ⟨_, rfl⟩
    rw [hN39] at ho39 h39 ⊢
    have hN39b : N39 ≤ 129 := by rw [← hN39, List.length_append]; have := HN35.out; simp; simp at this; omega
    have hsz7 := hg39.size
    have h7 : ∀ b, b < Bn + 1 → w7.heap[b]? = W.heap[b]? := fun b hb => (hg39.block b (by omega) fun e => by have := HX35.out b e.symm; omega).trans (HKP.out w' HW6.out b hb)
    have hD7 : w7.heap[D]? = some (.deferred (some [])) := by
      refine (hg39.block D (by omega) fun e => ?_).trans ((HW6.out.block D (by omega) fun e => ?_).trans HK.out)
      · obtain ⟨cur, hc⟩ := HO35.out.cellsB e.symm
        rw [HW6.out.block D (by omega) fun e2 => ?_, HK.out] at hc
        · cases hc
        · obtain ⟨cur, hc⟩ := HB4.out.own.cellsB e2.symm
          rw [HK.out] at hc; cases hc
      · obtain ⟨cur, hc⟩ := HB4.out.own.cellsB e.symm
        rw [HK.out] at hc; cases hc
    have hB7 : Below g w w7 := (HBW'.out.grown HW6.out (by omega) fun r e => by have := (HR4.out r e).1; omega).grown hg39 (by omega) fun r e => by have := HX35.out r e; omega
    have hrow7 : w7.heap[g + 1]? = some (.cells #[.slice none 0 0] 22 (0, 0)) := (h7 (g + 1) (by omega)).trans HOUT.out
    have hm7 : MRow w7 g m A1 n1 c1 A2 n2 c2 := (h7 g (by omega)).trans HM.out
    obtain ⟨d0', d1', d2', d3', hgl'⟩ := hm7.cells
    have x1 : w7.cell? ⟨g + 1, 0, none⟩ = some (.slice none 0 0) := cell_of_row w7 _ _ _ _ (0, 0) hrow7
    have x2 : w7.frozen? ⟨g + 1, 0, none⟩ = false := by simp [World.frozen?, hrow7]
    have x3 : g + 1 < w7.heap.size := by omega
    have HO39 := hide ho39; have HD7 := hide hD7; have HB7 := hide hB7; have HR7 := hide hrow7; have HM7 := hide hm7
    clear d0 d1 d2 d3 e3 e4 hgl ho39 hg39 h39 h7 hD7 hB7 hrow7 hm7 hN39
    gi_wp2_with (gi_at_call 37; refine (backward_in Fence.wide _ trivial rfl _ _ _ _).mono ?_; rintro e _ ⟨rfl, rfl⟩)
    obtain ⟨Y, hY⟩ : ∃ Y, w7.setCell ⟨g + 1, 0, none⟩ (.slice A39 N39 c39) = Y := ⟨_, rfl⟩
    rw [hY]
    obtain ⟨B2, hB2⟩ : ∃ B2, w7.heap.size = B2 := ⟨_, rfl⟩
    rw [hB2]
    have hYs : Y.heap.size = B2 := by rw [← hY]; simpa using hB2
    have hYo : ∀ b, b ≠ g + 1 → Y.heap[b]? = w7.heap[b]? := fun b hb => by rw [← hY]; exact Below.heap_setCell w7 ⟨g + 1, 0, none⟩ _ b hb
    have hYr : Y.heap[g + 1]? = some (.cells #[.slice A39 N39 c39] 22 (0, 0)) := by
      rw [← hY]
      show (w7.heap.modify (g + 1) _)[g + 1]? = _
      rw [Array.getElem?_modify, if_pos rfl, HR7.out]; rfl
    obtain ⟨Z, hZ⟩ : ∃ Z, Y.alloc (.cells #[.slice A2 n2 c2] 22) = Z := ⟨_, rfl⟩
    rw [hZ]
    have hZs : Z.heap.size = B2 + 1 := by rw [← hZ, World.size_alloc, hYs]
    have hZo : ∀ b, b < B2 → Z.heap[b]? = Y.heap[b]? := fun b hb => by rw [← hZ]; exact Below.heap_alloc Y _ b (by omega)
    have hbx2 : Z.heap[B2]? = some (.cells #[.slice A2 n2 c2] 22 (0, 0)) := by rw [← hZ, ← hYs]; exact heap_alloc_new _ _
    have hBZ : Below g w Z := by
      rw [← hZ, ← hY]
      exact (HB7.out.setCell (p := ⟨g + 1, 0, none⟩) (by show g ≤ g + 1; omega) _).alloc (by simp; omega) _
    have hDg : D ≠ g + 1 := fun e => by have := HD7.out; rw [e, HR7.out] at this; cases this
    have hDl7 := (Array.getElem?_eq_some_iff.1 HD7.out).1
    have hDZ : Z.heap[D]? = some (.deferred (some [])) := (hZo D (by omega)).trans ((hYo D hDg).trans HD7.out)
    have hboxZ : BoxV (Bn + 1) (g + 1) (.slice A39 N39 c39) (X4 ++ X3 ++ [m.ret]) Z := by
      have hne := HO39.out.below_
      refine ⟨(hZo (g + 1) (by omega)).trans hYr, HO39.out.keep (by omega) (fun _ f => f.elim) fun r e => ?_⟩
      have := hne r e
      exact (hZo r (by omega)).trans (hYo r (by omega))
    have hslZ : Sl Z (fun b => b < g) A2 n2 c2 m.saved := HS2.out.below hBZ (fun b hb => hb)
    have hn2 : n2 ≤ 64 := by
      rw [← HS2.out.len]
      have h1 := congrArg List.length (saved24 (right24 hR))
      have h2 := List.length_filter_le (fun r => hasI r m.saved) (regs24 m.regs.toNat)
      rw [regs24_len] at h2
      have h3 := (right24 hR).r64
      omega
    have hnl : (X4 ++ X3 ++ [m.ret]).length ≤ 129 := by rw [List.length_append]; have := HN35.out; simp; simp at this; omega
    clear hY hZ hYo hYr hZo d0' d1' d2' d3' hgl' x1 x2 x3 hYs
    refine wpIn_rangeFunc_ownG rfl (by omega) (gf := 46) (lb := #[.pointer (some ⟨B2, 0, none⟩)]) rfl trivial (enters_of Try.func46 (by kernel_rfl) rfl)
      (backward_stops Fence.wide _ trivial rfl (by omega) B2 (fun b => b < g ∨ b = B2) (fun b => b < g) m.saved Z ⟨A2, n2, c2, hbx2, hslZ⟩ (.inr rfl) (fun b hb => .inl hb)) (fun h k => h.trans k) (keepX_b (by rintro b (hb | hb) <;> omega)) (Below.refl _ _) (fun _ => rfl)
      (fun pre => Row24J w g D B2 (Bn + 1) (B2 + 1) A2 n2 c2 (X4 ++ X3 ++ [m.ret] ++ unIZ pre)) (fun _ _ _ => False) (Row24J.own HG.out (by omega) (by omega)) (fun _ _ _ _ _ hs _ _ => hs) ⟨⟨_, by simpa using hboxZ⟩, hBZ, hbx2, hDZ, by omega⟩
      (fun x => { tmps := #[.agg #[.int .i64 m.regs, .slice A1 n1 c1, .int .i64 m.ret, .slice A2 n2 c2], .pointer (some ⟨g, 0, none⟩), .pointer (some ⟨g + 1, 0, none⟩), .pointer (some ⟨g + 1 + 1, 0, none⟩), .pointer (some ⟨g + 1 + 1 + 1, 0, none⟩), .pointer (some ⟨g + 1 + 1 + 1 + 1, 0, none⟩), undef, undef, undef, .int .i64 x.2.1, .func (.func 36) #[] #[.pointer (some ⟨g, 0, none⟩)], .agg #[.int .i64 m.regs, .slice A1 n1 c1, .int .i64 m.ret, .slice A2 n2 c2], .slice A n c, .func (.func 46) #[] #[.pointer (some ⟨Bn, 0, none⟩)], undef, undef, undef, undef, undef, undef, undef, undef, undef, undef, undef, undef, undef, undef, undef, undef, undef, undef, undef, .slice A4 N4 c4, .slice A3 N3 c3, v35, .pointer (some ⟨g, 2, none⟩), .int .i64 m.ret, .slice (some ⟨g8, 0, none⟩) 1 1, .slice A39 N39 c39, .pointer (some ⟨g, 3, none⟩), .slice A2 n2 c2, .func (.func 46) #[] #[.pointer (some ⟨B2, 0, none⟩)], .int .i64 x.1, .int .i64 x.2.1, undef, undef, undef, undef, undef], defers := [] }) ?assign2 ?body2 ?done2 ?stop2
    case assign2 =>
      intro l x W K hK
      gi_wp2
      exact hK
    case body2 =>
      rintro l pre x W ⟨⟨v, hb⟩, hbW, hbxW, hDW, hsW⟩ hlen
      obtain ⟨xi, r, hri⟩ := x
      dsimp only
      obtain ⟨A0, c0, rfl⟩ := hb.own.form
      obtain ⟨N0, hN0⟩ : ∃ N, (X4 ++ X3 ++ [m.ret] ++ unIZ pre).length = N := ⟨_, rfl⟩
      rw [hN0] at hb
      have hl0 : N0 ≤ 1000 := by
        have h1 : (unIZ pre).length = pre.length := List.length_map _
        have h2 := HS2.out.len
        rw [← hN0, List.length_append, h1]; omega
      have c1 : W.cell? ⟨g + 1, 0, none⟩ = some (.slice A0 N0 c0) := cell_of_row W _ _ _ _ (0, 0) hb.row
      have hl := hb.lt
      have HBV := hide hb; have HBB := hide hbW; have HBX := hide hbxW; have HDW := hide hDW; have HN0 := hide hN0; have HRI := hide hri
      have hnx : X4 ++ X3 ++ [m.ret] ++ unIZ (pre ++ [(xi, ⟨r, hri⟩)]) = X4 ++ X3 ++ [m.ret] ++ unIZ pre ++ [r] := by unfold unIZ; rw [List.map_append, List.append_assoc _ (pre.map _)]; rfl
      have HNX := hide hnx
      have hgl := hbW.size
      clear hb hbW hbxW hDW hN0 hnx hboxZ hbx2 hslZ hDZ
      gi_wp2_with (gi_at_builtin; refine wpListIn_push (α := Int) W [.int .i64 r] 3 rfl (.tmp 45) (.tmp 47) 22 rfl (Bn + 1) 3 i0 _ 8 Try.underlying22 hi0 hz hz1 hz2 rfl (by decide) (fun _ => False) (fun _ => False) (.slice A0 N0 c0) _ r rfl HBV.out.own W.heap.size rfl rfl ⟨rfl, HRI.out⟩ (fun _ h => h) (fun _ _ h => h) (fun _ h => h.elim) (by rw [HN0.out]; omega) (by rw [HN0.out]; omega) (by omega) ?_; intro v' w' ho1 hgr h6; obtain ⟨A9, c9, rfl⟩ := ho1.form; obtain ⟨N1, hN1⟩ : ∃ N1, (X4 ++ X3 ++ [m.ret] ++ unIZ pre ++ [r]).length = N1 := ⟨_, rfl⟩; rw [hN1] at ho1 ⊢; clear hN1; obtain ⟨q1, q2, q3, q4, q5⟩ := HBV.out.pushed ho1 hgr; have HQ4 := hide q4; have HQ5 := hide q5; have HQ6 := hide (HBV.out.pushed_below (v' := .slice A9 N1 c9) HBB.out (by omega) (by omega) (by omega) hgr); clear ho1 hgr h6 q4 q5)
      have l0 := HBV.out.own.below_
      have hnb : (Value.slice A0 N0 c0).ownBlock ≠ some B2 := HBV.out.ne HBX.out
      have hnd : (Value.slice A0 N0 c0).ownBlock ≠ some D := fun e => by
        obtain ⟨cur, hc⟩ := HBV.out.own.cellsB e
        rw [HDW.out] at hc; cases hc
      refine ⟨HQ5.out.keepsFrom _, HQ5.out.keepX ?_, ?_⟩
      · rintro b (hb | rfl)
        · refine ⟨by omega, ?_⟩
          rintro (e | e)
          · omega
          · have := (l0 b e).1; omega
        · refine ⟨by omega, ?_⟩
          rintro (e | e)
          · omega
          · exact hnb e
      · dsimp only
        rw [HNX.out]
        refine ⟨⟨_, HQ4.out⟩, HQ6.out, (HQ5.out.block B2 (by omega) ?_).trans HBX.out, (HQ5.out.block D (Array.getElem?_eq_some_iff.1 HDW.out).1 ?_).trans HDW.out, by have := HQ5.out.size; omega⟩
        · rintro (e | e)
          · omega
          · exact hnb e
        · rintro (e | e)
          · exact hDg e
          · exact hnd e
    case done2 =>
      rintro D2 ys2 W hD2 hys2 ⟨⟨v, hb⟩, hbW, hbxW, hDW, hsW⟩ hK2
      have hys2' : unIZ ys2 = m.saved.reverse := hys2
      rw [hys2', ← HX.out] at hb
      obtain ⟨A0, c0, rfl⟩ := hb.own.form
      obtain ⟨N0, hN0⟩ : ∃ N, (row24 m).length = N := ⟨_, rfl⟩
      rw [hN0] at hb
      have c1 : W.cell? ⟨g + 1, 0, none⟩ = some (.slice A0 N0 c0) := cell_of_row W _ _ _ _ (0, 0) hb.row
      have c2 : W.frozen? ⟨g + 1, 0, none⟩ = false := by simp [World.frozen?, hb.row]
      have hl := hb.lt
      have HBV := hide hb; have HBB := hide hbW; have HDW := hide hDW; have HK2 := hide hK2
      clear hb hbW hbxW hDW hK2 hboxZ hbx2 hslZ hDZ hys2 hys2'
      gi_wp2
      obtain ⟨X, hX⟩ : ∃ X, W.setCell ⟨g + 1, 0, none⟩ (.slice A0 N0 c0) = X := ⟨_, rfl⟩
      rw [hX]
      have hXo : ∀ b, b ≠ g + 1 → X.heap[b]? = W.heap[b]? := fun b hb => by rw [← hX]; exact Below.heap_setCell W ⟨g + 1, 0, none⟩ _ b hb
      have hXr : X.heap[g + 1]? = some (.cells #[.slice A0 N0 c0] 22 (0, 0)) := by
        rw [← hX]
        show (W.heap.modify (g + 1) _)[g + 1]? = _
        rw [Array.getElem?_modify, if_pos rfl, HBV.out.row]; rfl
      have l0 := HBV.out.own.below_
      have hbX : BoxV (Bn + 1) (g + 1) (.slice A0 N0 c0) (row24 m) X := ⟨hXr, HBV.out.own.keep (by rw [← hX]; simp) (fun _ f => f.elim) fun r e => hXo r (by have := (l0 r e).1; omega)⟩
      have hBX : Below g w X := by rw [← hX]; exact HBB.out.setCell (p := ⟨g + 1, 0, none⟩) (by show g ≤ g + 1; omega) _
      have hD2g : D2 ≠ g + 1 := by omega
      have hdx : X.heap[D]? = some (.deferred (some [])) := (hXo D hDg).trans HDW.out
      have hd2x : X.heap[D2]? = some (.deferred (some [])) := (hXo D2 hD2g).trans HK2.out
      clear hX hXo hXr
      have hgw := HG.out
      refine leaves_marks (B := w.heap.size) (Q := fun Y => BoxV (Bn + 1) (g + 1) (.slice A0 N0 c0) (row24 m) Y ∧ Below g w Y) (by simp) ?_ ?_ [D2, D] X (by simp; omega) (by intro E hE; simp at hE; rcases hE with rfl | rfl; exact ⟨by omega, hd2x⟩; exact ⟨by omega, hdx⟩) ⟨hbX, hBX⟩
      · rintro Y E hE hK ⟨h1, h2⟩
        refine ⟨h1.other (grownBy_putObj' Y E (.deferred none)) (fun r e => by injection e with e; subst e; exact ⟨_, hK, rfl⟩), h2.grown (grownBy_putObj' Y E (.deferred none)) (by rw [← hgw]; exact h2.size) fun r e => by injection e with e; omega⟩
      · rintro Y ⟨h1, h2⟩
        refine ⟨_, results_cell1 Try.results24 _ _ rfl (v := .slice A0 N0 c0) ?_, .slice A0 N0 c0, rfl, h1.own.lowB (by omega), hgw ▸ h2⟩
        have y1 : Y.cell? ⟨g + 1, 0, none⟩ = some (.slice A0 N0 c0) := cell_of_row Y _ _ _ _ (0, 0) h1.row
        have y2 := h1.lt
        go_simp
    case stop2 =>
      rintro D c pre W _ _ h _
      exact h.elim
  case stop =>
    rintro D c pre W _ _ h _
    exact h.elim
end Go.Proofs.Ytbppamjogdjfkaa
