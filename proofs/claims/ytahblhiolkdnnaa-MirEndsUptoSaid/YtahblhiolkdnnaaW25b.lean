/- Walk: MirEnds: what its long block and its wide target read as. -/
import Derived.Test.YtahblhiolkdnnaaW25a
import Derived.Test.YtahblhiolkdnnaaW16
import Derived.Test.YtahblhiolkdnnaaOwn2
set_option linter.unusedSimpArgs false
set_option linter.unusedVariables false
namespace Go.Proofs.Ytahblhiolkdnnaa
open Go.RowKit
def endsL : List Int := [-1, 0, 1, 2, 3, 99, 100, 399, 400, 1099511627776, 1099511627777, -1099511627776, -1099511627777, 9223372036854775807, -9223372036854775808]
theorem endsL_in : ∀ x ∈ endsL, InI x := by unfold endsL InI; decide
theorem endsL_len : endsL.length = 15 := rfl
theorem ends_at {w : World} {e : Nat} {S : Nat → Prop} (h : Sl w S (some ⟨e, 0, none⟩) 15 15 endsL) {k : Nat} (hk : k < 15) : ∃ v : Int, InI v ∧ w.cell? ⟨e, k, none⟩ = some (.int .i64 v) := by
  obtain ⟨b, off, x, hA, _, _, hi, hc⟩ := at_int h hk
  simp only [Option.some.injEq, Addr.mk.injEq] at hA
  obtain ⟨rfl, rfl, _⟩ := hA
  exact ⟨x, hi, by simpa using hc⟩
/-- What stands from the first lines on. -/
structure EndsB (W : World) (e ea ev mB tB : Nat) : Prop where
  fe : e < W.heap.size
  fm : mB < W.heap.size
  ft : tB < W.heap.size
  m0 : W.cell? ⟨mB, 0, none⟩ = some (.int .i64 3)
  m1 : W.cell? ⟨mB, 1, none⟩ = some (.slice (some ⟨ea, 0, none⟩) 2 2)
  m2 : W.cell? ⟨mB, 2, none⟩ = some (.int .i64 1)
  m3 : W.cell? ⟨mB, 3, none⟩ = some (.slice (some ⟨ev, 0, none⟩) 1 1)
  t0 : W.cell? ⟨tB, 0, none⟩ = some (.int .i64 4)
  t1 : W.cell? ⟨tB, 1, none⟩ = some (.int .i64 0)
  t2 : W.cell? ⟨tB, 2, none⟩ = some (.int .i64 0)
  t3 : W.cell? ⟨tB, 3, none⟩ = some (.int .i64 0)
  se : Sl W (fun _ => True) (some ⟨e, 0, none⟩) 15 15 endsL
  sa : Sl W (fun _ => True) (some ⟨ea, 0, none⟩) 2 2 [(2 : Int), 0]
  sv : Sl W (fun _ => True) (some ⟨ev, 0, none⟩) 1 1 [(2 : Int)]
theorem EndsB.keep {W W' : World} {e ea ev mB tB : Nat} (h : EndsB W e ea ev mB tB) (hb : Below W.heap.size W W') : EndsB W' e ea ev mB tB := by
  obtain ⟨fe, fm, ft, m0, m1, m2, m3, t0, t1, t2, t3, se, sa, sv⟩ := h
  have hs := hb.size
  exact ⟨by omega, by omega, by omega, (hb.cell (p := ⟨mB, 0, none⟩) fm).trans m0, (hb.cell (p := ⟨mB, 1, none⟩) fm).trans m1, (hb.cell (p := ⟨mB, 2, none⟩) fm).trans m2, (hb.cell (p := ⟨mB, 3, none⟩) fm).trans m3,
    (hb.cell (p := ⟨tB, 0, none⟩) ft).trans t0, (hb.cell (p := ⟨tB, 1, none⟩) ft).trans t1, (hb.cell (p := ⟨tB, 2, none⟩) ft).trans t2, (hb.cell (p := ⟨tB, 3, none⟩) ft).trans t3, se.belowAll hb, sa.belowAll hb, sv.belowAll hb⟩
theorem EndsB.ext {W : World} {e ea ev mB tB : Nat} (h : EndsB W e ea ev mB tB) (u : Ext) : EndsB (W.ext u) e ea ev mB tB := h.keep (Below.of_ext W u (Nat.le_refl _))
def zeroI : Ins := ⟨0, 0, 0, 0, 0, 0, [], 0⟩
def zeroB : Block := ⟨[], ⟨0, 0, 0, 0⟩⟩
def trapB : Block := ⟨[], trapT⟩
/-- the first ones are told, the others not yet -/
def mixL {α : Type} (x z : α) (n i : Nat) : List α := List.replicate i x ++ List.replicate (n - i) z
theorem mix_len {α : Type} (x z : α) {n i : Nat} (h : i ≤ n) : (mixL x z n i).length = n := by simp [mixL]; omega
theorem mix_zero {α : Type} (x z : α) (n : Nat) : mixL x z n 0 = List.replicate n z := by simp [mixL]
theorem mix_all {α : Type} (x z : α) (n : Nat) : mixL x z n n = List.replicate n x := by simp [mixL]
theorem mix_at {α : Type} (x z : α) {n i : Nat} (h : i < n) : (mixL x z n i)[i]? = some z := by
  simp [mixL, List.getElem?_append_right, List.getElem?_replicate]; omega
theorem mix_set {α : Type} (x z : α) {n i : Nat} (h : i < n) : (mixL x z n i).set i x = mixL x z n (i + 1) := by
  unfold mixL
  rw [List.set_append_right _ _ (by simp), List.length_replicate, Nat.sub_self, show n - i = (n - (i + 1)) + 1 by omega, List.replicate_succ, List.set_cons_zero, List.replicate_succ', List.append_assoc]; rfl
def zIns : Array Value := #[.int .i64 0, .int .i64 0, .int .i64 0, .int .i64 0, .int .i64 0, .int .i64 0, .slice none 0 0, .int .i64 0]
def zBlk : Array Value := #[.slice none 0 0, .int .i64 0, .int .i64 0, .int .i64 0, .int .i64 0]
theorem rep_zI {w : World} {S : Nat → Prop} : Rep.is w S zeroI zIns.toList := Ins.mk_ (x := zeroI) z0_ z0_ z0_ z0_ z0_ z0_ Sl.nil z0_
theorem rep_zB {w : World} {S : Nat → Prop} : Rep.is w S zeroB zBlk.toList := Block.mk_ (x := zeroB) Sl.nil z0_ z0_ z0_ z0_
theorem run_mkI (N : Nat) (hN : N ≤ 5000) (u : World) : (Instr.makeSlice 36 (.int .i64 N) (.int .i64 N)).run Try.prog u = .ok (.slice (some ⟨u.heap.size, 0, none⟩) N N) (u.alloc (.cells (madeCells zIns (N * 8)) 30)) := by
  obtain ⟨i0, hi, hz, hz1, hz2⟩ := info_parts info_Ins
  have := run_make (P := Try.prog) u 36 30 i0 _ (by kernel_rfl) hi hz .i64 .i64 N N (by omega) (by omega) (by rw [hz2]; omega) (by omega)
  rw [hz1] at this
  simpa [Value.cells, zIns, zBlk] using this
theorem run_mkB (N : Nat) (hN : N ≤ 5000) (u : World) : (Instr.makeSlice 25 (.int .i64 N) (.int .i64 N)).run Try.prog u = .ok (.slice (some ⟨u.heap.size, 0, none⟩) N N) (u.alloc (.cells (madeCells zBlk (N * 5)) 42)) := by
  obtain ⟨i0, hi, hz, hz1, hz2⟩ := info_parts info_Block
  have := run_make (P := Try.prog) u 25 42 i0 _ (by kernel_rfl) hi hz .i64 .i64 N N (by omega) (by omega) (by rw [hz2]; omega) (by omega)
  rw [hz1] at this
  simpa [Value.cells, zIns, zBlk] using this
theorem made_I {W : World} {base n g : Nat} (hn : n ≤ 5000) (hb : base ≤ W.heap.size) (hg : g = W.heap.size) : OwnL (W.alloc (.cells (madeCells zIns (n * 8)) 30)) base 30 (fun _ => False) (.slice (some ⟨g, 0, none⟩) n n) (List.replicate n zeroI) :=
  OwnL.made (α := Ins) (z := zIns) rfl (by decide) rep_zI (by unfold maxLen; omega) hb (fun h => h) hg
theorem made_B {W : World} {base n g : Nat} (hn : n ≤ 5000) (hb : base ≤ W.heap.size) (hg : g = W.heap.size) : OwnL (W.alloc (.cells (madeCells zBlk (n * 5)) 42)) base 42 (fun _ => False) (.slice (some ⟨g, 0, none⟩) n n) (List.replicate n zeroB) :=
  OwnL.made (α := Block) (z := zBlk) rfl (by decide) rep_zB (by unfold maxLen; omega) hb (fun h => h) hg
/-- the box with the long block -/
structure LongAt (w : World) (base g L N : Nat) (xs : List Ins) : Prop where
  lt : g < w.heap.size
  ge : base ≤ g
  ne : g ≠ L
  c0 : w.cell? ⟨g, 0, none⟩ = some (.slice (some ⟨L, 0, none⟩) N N)
  c1 : w.cell? ⟨g, 1, none⟩ = some (.int .i64 4)
  c2 : w.cell? ⟨g, 2, none⟩ = some (.int .i64 0)
  c3 : w.cell? ⟨g, 3, none⟩ = some (.int .i64 0)
  c4 : w.cell? ⟨g, 4, none⟩ = some (.int .i64 0)
  own : OwnL w base 30 (fun _ => False) (.slice (some ⟨L, 0, none⟩) N N) xs
theorem LongAt.keep2 {w w' : World} {base g L N : Nat} {xs : List Ins} (h : LongAt w base g L N xs) (hs : w.heap.size ≤ w'.heap.size) (h1 : w'.heap[g]? = w.heap[g]?) (h2 : w'.heap[L]? = w.heap[L]?) : LongAt w' base g L N xs := by
  obtain ⟨l1, l2, l3, c0, c1, c2, c3, c4, h4⟩ := h
  have hc : ∀ j, w'.cell? ⟨g, j, none⟩ = w.cell? ⟨g, j, none⟩ := fun j => World.cell?_of_block h1
  refine ⟨by omega, l2, l3, (hc _).trans c0, (hc _).trans c1, (hc _).trans c2, (hc _).trans c3, (hc _).trans c4, ?_⟩
  exact h4.keep hs (fun b hb _ => hb.elim) fun k hk => by
    simp only [Value.ownBlock, Option.some.injEq] at hk; subst hk; exact h2
theorem LongAt.keep {w w' : World} {base g L N : Nat} {xs : List Ins} (h : LongAt w base g L N xs) (hb : Below w.heap.size w w') : LongAt w' base g L N xs :=
  h.keep2 hb.size (hb.block _ h.lt) (hb.block _ (h.own.below_ L rfl).2)
theorem LongAt.other {w : World} {base g L N M k : Nat} {v : Value} {xs : List Ins} (h : LongAt w base g L N xs) (h1 : g ≠ M) (h2 : L ≠ M) : LongAt (w.setCell ⟨M, k, none⟩ v) base g L N xs :=
  h.keep2 (by simp) (Below.heap_setCell w _ v g h1) (Below.heap_setCell w _ v L h2)
theorem long1 {W : World} {N : Nat} (hN : N ≤ 5000) : ∃ u : Ext, ((W.alloc (.cells (madeCells zIns (N * 8)) 30)).alloc (.cells #[.slice (some ⟨W.heap.size, 0, none⟩) N N, .int .i64 4, .int .i64 0, .int .i64 0, .int .i64 0] 42)).drew = W.ext u ∧
    LongAt (W.ext u) W.heap.size (W.heap.size + 1) W.heap.size N (mixL constI zeroI N 0) := by
  obtain ⟨u, hu⟩ := Below.to_ext ((((Below.refl W.heap.size W).alloc (Nat.le_refl _) (.cells (madeCells zIns (N * 8)) 30)).alloc (by simp) (.cells #[.slice (some ⟨W.heap.size, 0, none⟩) N N, .int .i64 4, .int .i64 0, .int .i64 0, .int .i64 0] 42)).drew)
  refine ⟨u, hu, ?_⟩
  rw [← hu]
  clear hu
  have ho := ((made_I (W := W) (base := W.heap.size) hN (Nat.le_refl _) rfl).alloc (.cells #[.slice (some ⟨W.heap.size, 0, none⟩) N N, .int .i64 4, .int .i64 0, .int .i64 0, .int .i64 0] 42)).drew
  rw [← mix_zero constI] at ho
  have HO := hide ho
  clear ho
  exact ⟨by simp, by omega, by omega, by go_simp, by go_simp, by go_simp, by go_simp, by go_simp, HO.out⟩
theorem long2 {W : World} {N : Nat} (hN : N ≤ 5000) : ∃ u : Ext, ((W.alloc (.cells #[.slice (some ⟨W.heap.size + 1, 0, none⟩) N N, .int .i64 4, .int .i64 0, .int .i64 0, .int .i64 0] 42)).alloc (.cells (madeCells zIns (N * 8)) 30)).drew = W.ext u ∧
    LongAt (W.ext u) W.heap.size W.heap.size (W.heap.size + 1) N (mixL constI zeroI N 0) := by
  obtain ⟨u, hu⟩ := Below.to_ext ((((Below.refl W.heap.size W).alloc (Nat.le_refl _) (.cells #[.slice (some ⟨W.heap.size + 1, 0, none⟩) N N, .int .i64 4, .int .i64 0, .int .i64 0, .int .i64 0] 42)).alloc (by simp) (.cells (madeCells zIns (N * 8)) 30)).drew)
  refine ⟨u, hu, ?_⟩
  rw [← hu]
  clear hu
  have ho := (made_I (W := W.alloc (.cells #[.slice (some ⟨W.heap.size + 1, 0, none⟩) N N, .int .i64 4, .int .i64 0, .int .i64 0, .int .i64 0] 42)) (base := W.heap.size) (g := W.heap.size + 1) hN (by simp) (by simp)).drew
  rw [← mix_zero constI] at ho
  have HO := hide ho
  clear ho
  exact ⟨by simp; omega, by omega, by omega, by go_simp, by go_simp, by go_simp, by go_simp, by go_simp, HO.out⟩
theorem LongAt.set {w : World} {base g L N i : Nat} (hi : i < N) (h : LongAt w base g L N (mixL constI zeroI N i)) : LongAt (w.setCell ⟨L, i * 8, none⟩ (.int .i64 1)) base g L N (mixL constI zeroI N (i + 1)) := by
  obtain ⟨h1, h2, h3, c0, c1, c2, c3, c4, h4⟩ := h
  have hc : ∀ j, (w.setCell ⟨L, i * 8, none⟩ (.int .i64 1)).cell? ⟨g, j, none⟩ = w.cell? ⟨g, j, none⟩ := fun j => World.cell?_of_block (Below.heap_setCell w _ _ g h3)
  refine ⟨by simpa using h1, h2, h3, (hc _).trans c0, (hc _).trans c1, (hc _).trans c2, (hc _).trans c3, (hc _).trans c4, ?_⟩
  have := h4.set (y := constI) (i := i) (j := 0) (v := .int .i64 1) (mix_at constI zeroI hi) (by decide) fun us hu => by
    obtain ⟨A, n, c, rfl, _, _, _, _, _, _, hs, _⟩ := Ins.open_ hu
    exact Ins.mk_ (x := constI) (int_ok (by decide)) z0_ z0_ z0_ z0_ z0_ hs z0_
  rw [mix_set constI zeroI hi] at this
  exact this
theorem wide_set {w : World} {base L N i : Nat} (hi : i < N) (h : OwnL w base 42 (fun _ => False) (.slice (some ⟨L, 0, none⟩) N N) (mixL trapB zeroB N i)) :
    OwnL ((((w.setCell ⟨L, i * 5 + 1, none⟩ (.int .i64 4)).setCell ⟨L, i * 5 + 2, none⟩ (.int .i64 0)).setCell ⟨L, i * 5 + 3, none⟩ (.int .i64 0)).setCell ⟨L, i * 5 + 4, none⟩ (.int .i64 0)) base 42 (fun _ => False) (.slice (some ⟨L, 0, none⟩) N N) (mixL trapB zeroB N (i + 1)) := by
  have s1 := h.set (y := trapB) (i := i) (j := 1) (v := .int .i64 4) (mix_at trapB zeroB hi) (by decide) fun us hu => by
    obtain ⟨A, n, c, rfl, hs, _, _, _, _⟩ := Block.open_ hu
    exact Block.mk_ (x := trapB) hs z4_ z0_ z0_ z0_
  rw [mix_set trapB zeroB hi] at s1
  have hx : (mixL trapB zeroB N (i + 1))[i]? = some trapB := by unfold mixL; rw [List.getElem?_append_left (by simp)]; simp
  have same : ∀ l : List Block, l[i]? = some trapB → l.set i trapB = l := fun l hl => by
    obtain ⟨h1, h2⟩ := List.getElem?_eq_some_iff.1 hl
    exact h2 ▸ List.set_getElem_self h1
  have s2 := s1.set (y := trapB) (i := i) (j := 2) (v := .int .i64 0) hx (by decide) fun us hu => by
    obtain ⟨A, n, c, rfl, hs, _, _, _, _⟩ := Block.open_ hu
    exact Block.mk_ (x := trapB) hs z4_ z0_ z0_ z0_
  rw [same _ hx] at s2
  have s3 := s2.set (y := trapB) (i := i) (j := 3) (v := .int .i64 0) hx (by decide) fun us hu => by
    obtain ⟨A, n, c, rfl, hs, _, _, _, _⟩ := Block.open_ hu
    exact Block.mk_ (x := trapB) hs z4_ z0_ z0_ z0_
  rw [same _ hx] at s3
  have s4 := s3.set (y := trapB) (i := i) (j := 4) (v := .int .i64 0) hx (by decide) fun us hu => by
    obtain ⟨A, n, c, rfl, hs, _, _, _, _⟩ := Block.open_ hu
    exact Block.mk_ (x := trapB) hs z4_ z0_ z0_ z0_
  rw [same _ hx] at s4
  exact s4
theorem small_wide {n : Nat} (h : n ≤ 5000) : SmallT 1048576 (List.replicate n trapB) :=
  ⟨by simp; omega, fun b hb => by rw [(List.mem_replicate.1 hb).2]; exact ⟨by simp [trapB], fun i hi => by simp [trapB] at hi⟩⟩
def longT (N : Nat) : Target := ⟨0, [⟨List.replicate N constI, trapT⟩]⟩
theorem small_long {n : Nat} (h : n ≤ 5000) : SmallT 1048576 (longT n).blocks :=
  ⟨by simp [longT], fun b hb => by
    simp only [longT, List.mem_singleton] at hb; subst hb
    exact ⟨by simp; omega, fun i hi => by rw [(List.mem_replicate.1 hi).2]; simp [constI, SmallI]⟩⟩
theorem size_long (n : Nat) : sizeT 1 (longT n).blocks = n + 1 := by simp [longT, sizeT]; omega
theorem tells_wide (W : World) (ea ev : Nat) (h1 : Sl W (fun _ => True) (some ⟨ea, 0, none⟩) 2 2 [(2 : Int), 0]) (h2 : Sl W (fun _ => True) (some ⟨ev, 0, none⟩) 1 1 [(2 : Int)]) (n : Nat) (A : Option Addr) (hx : Sl W (fun _ => True) A n n (List.replicate n trapB)) (hn : n ≤ 5000) (u : Ext) :
    Calls Try.prog 4 #[.agg #[.int .i64 3, .slice (some ⟨ea, 0, none⟩) 2 2, .int .i64 1, .slice (some ⟨ev, 0, none⟩) 1 1], .agg #[.int .i64 0, .slice A n n]] (W.ext u) (RetX (.bool true) (W.ext u)) :=
  tells_ends W ea ev h1 h2 _ A n n 0 hx z0_ (small_wide hn) u
def endsM : Machine := ⟨3, [2, 0], 1, [2]⟩
theorem right_long (W : World) (ea ev : Nat) (h1 : Sl W (fun _ => True) (some ⟨ea, 0, none⟩) 2 2 [(2 : Int), 0]) (h2 : Sl W (fun _ => True) (some ⟨ev, 0, none⟩) 1 1 [(2 : Int)]) (N : Nat) (A : Option Addr) (hx : Sl W (fun _ => True) A 1 1 (longT N).blocks) (x : Int) (hX : rightT endsM (longT N) = x) (u : Ext) :
    Calls Try.prog 11 #[.agg #[.int .i64 3, .slice (some ⟨ea, 0, none⟩) 2 2, .int .i64 1, .slice (some ⟨ev, 0, none⟩) 1 1], .agg #[.int .i64 0, .slice A 1 1]] (W.ext u) (RetX (.int .i64 x) (W.ext u)) :=
  right_val (W.ext u) _ _ _ endsM _ _ _ _ _ _ (h1.ext u) (h2.ext u) (int_ok (by decide)) (longT N) A 1 1 (hx.ext u) hX
theorem right6_long (W : World) (ea ev : Nat) (h1 : Sl W (fun _ => True) (some ⟨ea, 0, none⟩) 2 2 [(2 : Int), 0]) (h2 : Sl W (fun _ => True) (some ⟨ev, 0, none⟩) 1 1 [(2 : Int)]) (N : Nat) (A : Option Addr) (hx : Sl W (fun _ => True) A 1 1 (longT N).blocks) (x : Int) (hX : rightT endsM (longT N) = x) (u : Ext) :
    Calls Try.prog 16 #[.agg #[.int .i64 3, .slice (some ⟨ea, 0, none⟩) 2 2, .int .i64 1, .slice (some ⟨ev, 0, none⟩) 1 1], .agg #[.int .i64 0, .slice A 1 1]] (W.ext u) (RetX (.int .i64 x) (W.ext u)) := by
  have hg := right_eq (m := endsM) (t := longT N) z0_ (by decide) (good_of hx)
  exact (hg.symm.trans hX) ▸ right6_any (W.ext u) _ _ _ endsM _ _ _ _ _ _ (h1.ext u) (h2.ext u) (longT N) A 1 1 (hx.ext u)
theorem size_call (W : World) (N : Nat) (A : Option Addr) (hx : Sl W (fun _ => True) A 1 1 (longT N).blocks) (hN : N ≤ 5000) (u : Ext) :
    Calls Try.prog 17 #[.agg #[.int .i64 0, .slice A 1 1]] (W.ext u) (RetX (.int .i64 ((N : Int) + 1)) (W.ext u)) :=
  size_long N ▸ size_any (W.ext u) _ (longT N) A 1 1 (hx.ext u) (small_long hN)
theorem tells_none (W : World) (m : Machine) (A1 A2 : Option Addr) (n1 c1 n2 c2 : Nat) (h1 : Sl W (fun _ => True) A1 n1 c1 m.args) (h2 : Sl W (fun _ => True) A2 n2 c2 m.saved) (hi : InI m.ret) (hb : n1 ≤ 1048576 ∧ n2 ≤ 1048576) :
    Calls Try.prog 4 #[.agg #[.int .i64 m.regs, .slice A1 n1 c1, .int .i64 m.ret, .slice A2 n2 c2], .agg #[.int .i64 0, .slice none 0 0]] W (RetX (.bool true) W) :=
  tells_any W _ _ _ m A1 A2 n1 c1 n2 c2 h1 h2 hi ⟨0, []⟩ none 0 0 (Sl.nil (S := fun _ => True)) z0_ ⟨by simp, by simp⟩ hb
theorem long_sl {w : World} {base g L N : Nat} {k : Nat} (hk : k = N) (h : LongAt w base g L N (mixL constI zeroI N k)) : Sl w (fun _ => True) (some ⟨L, 0, none⟩) N N (List.replicate N constI) := by
  subst hk; have := h.own.sl (S' := fun _ => True) (fun _ _ _ => trivial); rwa [mix_all] at this
end Go.Proofs.Ytahblhiolkdnnaa
