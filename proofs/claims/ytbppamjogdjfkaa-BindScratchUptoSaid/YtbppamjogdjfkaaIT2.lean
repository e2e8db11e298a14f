/- Lists of the call's own in boxes; what an iterator hands on, collected, sorted. -/
import Derived.Test.YtbppamjogdjfkaaIT1
import Derived.Test.YtbppamjogdjfkaaShelfS
set_option linter.unusedSimpArgs false
set_option linter.unusedVariables false
namespace Go.Proofs.Ytbppamjogdjfkaa
open Go.RowKit Go.Shelf Go.Maps Go.Sort
attribute [local go_sem] Oper.semAt_some

/-- A step that turns only cells of some blocks. -/
structure Chg (R : Nat → Prop) (W W' : World) : Prop where
  size : W.heap.size ≤ W'.heap.size
  block : ∀ r, r < W.heap.size → ¬ R r → W'.heap[r]? = W.heap[r]?
  cells : ∀ r, r < W.heap.size → R r → ∃ cs T, W.heap[r]? = some (.cells cs T (0, 0))
theorem Chg.keepsFrom {R : Nat → Prop} {W W' : World} (h : Chg R W W') (B : Nat) : KeepsFrom B W W' :=
  ⟨h.size, fun k o _ hk ho => (h.block k (Array.getElem?_eq_some_iff.1 hk).1 fun e => by
    obtain ⟨cs, T, hc⟩ := h.cells k (Array.getElem?_eq_some_iff.1 hk).1 e
    rw [hk] at hc
    injection hc with hc
    subst hc
    cases ho).trans hk⟩
theorem Chg.keepX {R X : Nat → Prop} {W W' : World} (h : Chg R W W') (hX : ∀ r, X r → r < W.heap.size ∧ ¬ R r) : KeepX X W W' := ⟨h.size, fun b hb => h.block b (hX b hb).1 (hX b hb).2⟩
theorem KeepsFrom.of_cells {B : Nat} {W W' : World} {row : Option Nat} (hg : W.grownBy W' row) (hr : ∀ r, row = some r → ∃ cs T, W.heap[r]? = some (.cells cs T (0, 0))) : KeepsFrom B W W' :=
  ⟨hg.size, fun k o _ hk ho => (hg.block k (Array.getElem?_eq_some_iff.1 hk).1 fun e => by
    obtain ⟨cs, T, hc⟩ := hr k e.symm
    rw [hk] at hc
    injection hc with hc
    subst hc
    cases ho).trans hk⟩
/-- A box that holds v, a list of the call's own. -/
structure BoxV (B Bx : Nat) (v : Value) (xs : List Int) (W : World) : Prop where
  row : W.heap[Bx]? = some (.cells #[v] 22 (0, 0))
  own : OwnL W B 3 (fun _ => False) v xs
section
variable {B Bx : Nat} {v : Value} {xs : List Int} {W W' : World}
theorem BoxV.lt (h : BoxV B Bx v xs W) : Bx < W.heap.size := (Array.getElem?_eq_some_iff.1 h.row).1
theorem BoxV.ne (h : BoxV B Bx v xs W) {b : Nat} {cs : Array Value} (hb : W.heap[b]? = some (.cells cs 22 (0, 0))) : v.ownBlock ≠ some b := fun e => by
  obtain ⟨cur, hc⟩ := h.own.cellsB e
  rw [hb] at hc
  injection hc with hc
  injection hc with _ hc
  exact absurd hc (by decide)
theorem BoxV.keep (h : BoxV B Bx v xs W) (hs : W.heap.size ≤ W'.heap.size) (hb : W'.heap[Bx]? = W.heap[Bx]?) (hv : ∀ g, v.ownBlock = some g → W'.heap[g]? = W.heap[g]?) : BoxV B Bx v xs W' :=
  ⟨hb.trans h.row, h.own.keep hs (fun _ hf => hf.elim) hv⟩
theorem BoxV.belowAll (h : BoxV B Bx v xs W) (hb : Below W.heap.size W W') : BoxV B Bx v xs W' :=
  h.keep hb.size (hb.block _ h.lt) fun g hg => hb.block g (h.own.below_ g hg).2
theorem BoxV.other (h : BoxV B Bx v xs W) {row : Option Nat} (hg : W.grownBy W' row) (hr : ∀ r, row = some r → ∃ o : Obj, W.heap[r]? = some o ∧ o.isCells = false) : BoxV B Bx v xs W' := by
  have hne : ∀ g cs T, W.heap[g]? = some (.cells cs T (0, 0)) → some g ≠ row := fun g cs T hc e => by
    obtain ⟨o, ho, hn⟩ := hr g e.symm
    rw [hc] at ho
    injection ho with ho
    subst ho
    cases hn
  refine h.keep hg.size (hg.block Bx h.lt (hne Bx _ _ h.row)) fun g hgo => ?_
  obtain ⟨cur, hc⟩ := h.own.cellsB hgo
  exact hg.block g (h.own.below_ g hgo).2 (hne g _ _ hc)
/-- One element more: a literal laid, appended, and the box written. -/
theorem BoxV.pushed {W2 : World} {v' : Value} {y : Int} {o : Obj} (h : BoxV B Bx v xs W) (ho : OwnL W2 B 3 (fun _ => False) v' (xs ++ [y])) (hg : (W.alloc o).grownBy W2 v.ownBlock) :
    W2.cell? ⟨Bx, 0, none⟩ = some v ∧ W2.frozen? ⟨Bx, 0, none⟩ = false ∧ Bx < W2.heap.size ∧ BoxV B Bx v' (xs ++ [y]) (W2.setCell ⟨Bx, 0, none⟩ v') ∧ Chg (fun r => r = Bx ∨ v.ownBlock = some r) W (W2.setCell ⟨Bx, 0, none⟩ v') := by
  have hl := h.lt
  have hs := hg.size
  simp only [World.size_alloc] at hs
  have hrow : W2.heap[Bx]? = some (.cells #[v] 22 (0, 0)) := ((hg.block Bx (by simp; omega) fun e => h.ne h.row e.symm).trans (Below.heap_alloc W o Bx hl)).trans h.row
  have hset : (W2.setCell ⟨Bx, 0, none⟩ v').heap[Bx]? = some (.cells #[v'] 22 (0, 0)) := by
    show (W2.heap.modify Bx _)[Bx]? = _
    rw [Array.getElem?_modify, if_pos rfl, hrow]; rfl
  have hoth : ∀ r, r ≠ Bx → (W2.setCell ⟨Bx, 0, none⟩ v').heap[r]? = W2.heap[r]? := fun r hr => Below.heap_setCell W2 ⟨Bx, 0, none⟩ v' r hr
  have hne' : ∀ g, v'.ownBlock = some g → g ≠ Bx := fun g e hgb => by
    obtain ⟨cur, hc⟩ := ho.cellsB e
    rw [hgb, hrow] at hc
    injection hc with hc
    injection hc with _ hc
    exact absurd hc (by decide)
  refine ⟨cell_of_row W2 Bx _ _ _ (0, 0) hrow, by simp [World.frozen?, hrow], by omega, ⟨hset, ho.keep (by simp) (fun _ hf => hf.elim) fun g e => hoth g (hne' g e)⟩, ⟨by simp; omega, fun r hr hR => ?_, fun r hr hR => ?_⟩⟩
  · exact ((hoth r fun e => hR (.inl e)).trans (hg.block r (by simp; omega) fun e => hR (.inr e.symm))).trans (Below.heap_alloc W o r hr)
  · rcases hR with rfl | e
    · exact ⟨_, _, h.row⟩
    · obtain ⟨cur, hc⟩ := h.own.cellsB e
      exact ⟨_, _, hc⟩
/-- .. what lay below is as it was. -/
theorem BoxV.pushed_below {W2 : World} {w : World} {B0 : Nat} {v' : Value} {o : Obj} (h : BoxV B Bx v xs W) (hb : Below B0 w W) (hB : B0 ≤ W.heap.size) (h1 : B0 ≤ B) (h2 : B0 ≤ Bx) (hg : (W.alloc o).grownBy W2 v.ownBlock) :
    Below B0 w (W2.setCell ⟨Bx, 0, none⟩ v') :=
  ((hb.alloc hB o).grown hg (by simp; omega) fun r e => Nat.le_trans h1 (h.own.below_ r e).1).setCell (p := ⟨Bx, 0, none⟩) h2 v'
end
theorem RepL.ints_inv {w : World} {S : Nat → Prop} : ∀ {xs : List Int} {vs : List Value}, RepL w S xs vs → vs = xs.map (Value.int .i64) ∧ ∀ x ∈ xs, InI x
  | [], _, h => ⟨h, by simp⟩
  | x :: l, _, ⟨us, ts, e, h1, h2⟩ => by
    obtain ⟨h3, h4⟩ := RepL.ints_inv h2
    obtain ⟨h5, h6⟩ := h1
    subst e h5 h3
    refine ⟨rfl, fun y hy => ?_⟩
    rcases List.mem_cons.1 hy with rfl | hy
    · exact h6
    · exact h4 y hy
theorem info_int2 : (Try.prog.info? 3).map (fun i => (i.zero, i.size, i.bytes)) = some (some (.int .i64 0), 1, 8) := by kernel_rfl
/-- Between two rounds of a loop that collects. -/
def ColI (w : World) (Bx : Nat) (pre : List ZI) (W : World) : Prop := (∃ v, BoxV w.heap.size Bx v (unZ pre) W) ∧ Below w.heap.size w W
theorem ColI.own {w : World} {Bx B : Nat} (hB : w.heap.size ≤ B) : OwnFrom B (ColI w Bx) := fun pre W W' row ⟨⟨v, h1⟩, h3⟩ hg hr =>
  ⟨⟨v, h1.other hg fun r e => (hr r e).2⟩, h3.grown hg h3.size fun r e => Nat.le_trans hB (hr r e).1⟩
set_option maxRecDepth 100000 in
set_option maxHeartbeats 4000000 in
/-- slices.AppendSeq(nil, seq). -/
theorem appendSeq_in (n : Nat) (hn : 3 ≤ n) (g : Nat) (lb : Array Value) (eg : ∀ args w, (callFunc g args).run Try.prog w = .ok (.enter g args) w) (X : Nat → Prop) (Sp : List ZI → Prop) (xs : List Int) (hx : xs.length ≤ 1048576) (w : World)
    (hX : ∀ b, X b → b < w.heap.size) (hseq : ∀ m, 1 ≤ m → SeqStopsK Fence.wide m Try.prog g lb encZI (KeepX X) (fun ys => unZ ys = xs) Sp xs.length w) :
    CallsIn Fence.wide n Try.prog 41 #[.slice none 0 0, .func (.func g) #[] lb] w (RetInts xs w) := by
  refine callsIn_of_wp_marks Try.func41 rfl trivial ?_ rfl
  simp only [Try.ntmps41, List.size_toArray, List.length_cons, List.length_nil, Nat.reduceAdd, Nat.reduceSub, Array.replicate_succ, Array.replicate_zero, List.push_toArray, List.append_toArray, List.nil_append, List.cons_append]
  gi_wp2
  obtain ⟨V, hV⟩ : ∃ V, w.alloc (.cells #[.slice none 0 0] 22) = V := ⟨_, rfl⟩
  rw [hV]
  have hVs : V.heap.size = w.heap.size + 1 := by rw [← hV]; simp
  have hbV : Below w.heap.size w V := by rw [← hV]; exact (Below.refl _ _).alloc (Nat.le_refl _) _
  have hbox : BoxV w.heap.size w.heap.size (.slice none 0 0) [] V := ⟨by rw [← hV]; exact heap_alloc_new w _, OwnL.nil_ _ _ _ _⟩
  clear hV
  obtain ⟨i0, hi, hz, hz1, hz2⟩ := info_parts info_int2
  refine wpIn_rangeFunc_ownG rfl (by omega) (gf := g) (lb := lb) rfl trivial eg (hseq _ (by omega)) (fun h k => h.trans k) (keepX_b (fun b hb => by have := hX b hb; omega)) hbV (fun _ => rfl)
    (ColI w w.heap.size) (fun _ _ _ => False) (ColI.own (by omega)) (fun _ _ _ _ _ hs _ _ => hs) ⟨⟨_, hbox⟩, hbV⟩
    (fun x => { tmps := #[.slice none 0 0, .func (.func g) #[] lb, .pointer (some ⟨w.heap.size, 0, none⟩), undef, .slice none 0 0, .int .i64 x.1, .func (.func g) #[] lb, .int .i64 x.1, undef, undef, undef, undef, undef], defers := [] }) ?assign ?body ?done ?stop
  case assign =>
    intro l x W K hK
    gi_wp2
    exact hK
  case body =>
    rintro l pre x W ⟨⟨v, hb⟩, hB⟩ hlen
    obtain ⟨y, hy⟩ := x
    dsimp only
    obtain ⟨A0, c0, rfl⟩ := hb.own.form
    obtain ⟨N0, hN0⟩ : ∃ N0, (unZ pre).length = N0 := ⟨_, rfl⟩
    rw [hN0] at hb
    have hl0 : N0 ≤ 1048576 := by rw [← hN0, List.length_map]; omega
    have HN := hide hN0
    clear hN0
    have c1 : W.cell? ⟨w.heap.size, 0, none⟩ = some (.slice A0 N0 c0) := cell_of_row W _ _ _ _ (0, 0) hb.row
    have hl := hb.lt
    have HBV := hide hb; have HBB := hide hB; have HY := hide hy
    clear hb hB hbV hbox
    gi_wp2_with (gi_at_builtin; refine wpListIn_push (α := Int) W [.int .i64 y] 3 rfl (.tmp 8) (.tmp 10) 22 rfl w.heap.size 3 i0 _ 8 Try.underlying22 hi hz hz1 hz2 rfl (by decide) (fun _ => False) (fun _ => False) (.slice A0 N0 c0) (unZ pre) y rfl HBV.out.own W.heap.size rfl rfl ⟨rfl, HY.out⟩ (fun _ h => h) (fun _ _ h => h) (fun _ h => h.elim) (by rw [HN.out]; omega) (by rw [HN.out]; omega) (by omega) ?_; intro v' w' ho1 hgr h5; obtain ⟨A4, c4, rfl⟩ := ho1.form; obtain ⟨N1, hN1⟩ : ∃ N1, (unZ pre ++ [y]).length = N1 := ⟨_, rfl⟩; rw [hN1] at ho1 ⊢; clear hN1; obtain ⟨q1, q2, q3, q4, q5⟩ := HBV.out.pushed ho1 hgr; have HQ4 := hide q4; have HQ5 := hide q5; have HQ6 := hide (HBV.out.pushed_below (v' := .slice A4 N1 c4) HBB.out (by omega) (Nat.le_refl _) (Nat.le_refl _) hgr); clear ho1 hgr h5 q4 q5)
    refine ⟨HQ5.out.keepsFrom _, HQ5.out.keepX fun r hr => ?_, ⟨.slice A4 N1 c4, ?_⟩, HQ6.out⟩
    · have := hX r hr
      refine ⟨by omega, ?_⟩
      rintro (e | e)
      · omega
      · have := (HBV.out.own.below_ r e).1; omega
    · have := HQ4.out
      unfold unZ at this ⊢
      rw [List.map_append]
      exact this
  case done =>
    rintro D ys W hD hys ⟨⟨v, hb⟩, hB⟩ hK
    obtain ⟨A0, c0, rfl⟩ := hb.own.form
    obtain ⟨N0, hN0⟩ : ∃ N0, (unZ ys).length = N0 := ⟨_, rfl⟩
    rw [hN0] at hb
    clear hN0
    have c1 : W.cell? ⟨w.heap.size, 0, none⟩ = some (.slice A0 N0 c0) := cell_of_row W _ _ _ _ (0, 0) hb.row
    have hl := hb.lt
    obtain rfl : unZ ys = xs := hys
    have HBV := hide hb; have HBB := hide hB; have HK := hide hK
    clear hb hB hK hbV hbox
    gi_wp2
    refine ⟨by simp, .inl ⟨_, _, rfl, run_takeDeferred HK.out, ?_⟩⟩
    have h2 := HBV.out.other (grownBy_putObj' W D (.deferred none)) (fun r e => by injection e with e; subst e; exact ⟨_, HK.out, rfl⟩)
    exact ⟨_, results_tmp rfl _ _ _, .slice A0 N0 c0, rfl, h2.own, HBB.out.grown (grownBy_putObj' W D (.deferred none)) (by have := HBB.out.size; omega) fun r e => by injection e with e; omega⟩
  case stop =>
    rintro D c pre W _ _ h _
    exact h.elim
set_option maxHeartbeats 1000000 in
theorem collect_in (n : Nat) (hn : 4 ≤ n) (g : Nat) (lb : Array Value) (eg : ∀ args w, (callFunc g args).run Try.prog w = .ok (.enter g args) w) (X : Nat → Prop) (Sp : List ZI → Prop) (xs : List Int) (hx : xs.length ≤ 1048576) (w : World)
    (hX : ∀ b, X b → b < w.heap.size) (hseq : ∀ m, 1 ≤ m → SeqStopsK Fence.wide m Try.prog g lb encZI (KeepX X) (fun ys => unZ ys = xs) Sp xs.length w) :
    CallsIn Fence.wide n Try.prog 29 #[.func (.func g) #[] lb] w (RetInts xs w) := by
  have hf : Fence.wide.fn 41 := trivial
  have hn1 : 1 ≤ n := by omega
  refine callsIn_of_wp Try.func29 rfl trivial ?_ rfl
  simp only [Try.ntmps29, List.size_toArray, List.length_cons, List.length_nil, Nat.reduceAdd, Nat.reduceSub, Array.replicate_succ, Array.replicate_zero, List.push_toArray, List.append_toArray, List.nil_append, List.cons_append]
  gi_wp2_with (gi_at_call 41; refine (appendSeq_in (n - 1) (by omega) g lb eg X Sp xs hx w hX hseq).mono ?_; rintro e w' ⟨v, rfl, h1, h2⟩; obtain ⟨A0, c0, rfl⟩ := h1.form)
  go_ret
  exact ⟨_, rfl, h1, h2⟩
/-- A list in the order of its numbers. -/
def sortI (xs : List Int) : List Int := xs.mergeSort fun x y => decide (x ≤ y)
set_option maxHeartbeats 2000000 in
theorem sorted_of_in (n : Nat) (hn : 5 ≤ n) (g : Nat) (lb : Array Value) (eg : ∀ args w, (callFunc g args).run Try.prog w = .ok (.enter g args) w) (X : Nat → Prop) (Sp : List ZI → Prop) (xs : List Int) (hx : xs.length ≤ 1048576) (w : World)
    (hX : ∀ b, X b → b < w.heap.size) (hseq : ∀ m, 1 ≤ m → SeqStopsK Fence.wide m Try.prog g lb encZI (KeepX X) (fun ys => unZ ys = xs) Sp xs.length w) :
    CallsIn Fence.wide n Try.prog 18 #[.func (.func g) #[] lb] w (RetInts (sortI xs) w) := by
  have hf : Fence.wide.fn 29 := trivial
  have hn1 : 1 ≤ n := by omega
  have hf2 : Fence.wide.fn 30 := trivial
  refine callsIn_of_wp Try.func18 rfl trivial ?_ rfl
  simp only [Try.ntmps18, List.size_toArray, List.length_cons, List.length_nil, Nat.reduceAdd, Nat.reduceSub, Array.replicate_succ, Array.replicate_zero, List.push_toArray, List.append_toArray, List.nil_append, List.cons_append]
  gi_wp2_with (gi_at_call 29; refine (collect_in (n - 1) (by omega) g lb eg X Sp xs hx w hX hseq).mono ?_; rintro e w' ⟨v, rfl, h1, h2⟩; obtain ⟨A0, c0, rfl⟩ := h1.form)
  obtain ⟨vals, ⟨hlen, hrow⟩, hrep, hap⟩ := h1
  obtain ⟨rfl, hI⟩ := RepL.ints_inv hrep
  have hIs : ∀ x ∈ sortI xs, InI x := fun x hx' => hI x (List.mem_mergeSort.1 hx')
  rcases hrow with ⟨hv, hz⟩ | ⟨gb, cap, cur, hv, hbase, hgb, r1, r2, r3, r4⟩
  · obtain rfl : xs = [] := List.eq_nil_of_length_eq_zero hz
    injection hv with hv1 hv2 hv3
    subst hv1 hv3
    gi_wp2_with (gi_at_call 30; refine (callsIn_wide.2 (Try.slices_Sort_int_none none 0 w')).mono ?_; rintro e w' ⟨rfl, rfl⟩)
    go_ret
    refine ⟨.slice none 0 0, rfl, ?_, h2⟩
    rw [show sortI [] = [] by simp [sortI]]
    exact OwnL.nil_ _ _ _ _
  · injection hv with hv1 hv2 hv3
    subst hv1 hv3
    have hH : Holds encZ w' gb 0 xs.toArray := holds_of_block_i hgb (by simpa [Rep.size] using r4)
    have hgl : gb < w'.heap.size := (Array.getElem?_eq_some_iff.1 hgb).1
    have cS := Try.slices_Sort_int gb 0 c0 xs w' hH hgl (by omega)
    gi_wp2_with (gi_at_call 30; refine (callsIn_wide.2 cS).mono ?_; rintro e w' ⟨rfl, nn, os, rfl⟩)
    go_ret
    refine ⟨_, rfl, ⟨_, ?_, RepL.ints _ hIs, fun _ _ h => h⟩, h2.grown (grownBy_sorted_i _) h2.size fun j hj => by cases hj; exact hbase⟩
    have hl : (sortI xs).length = xs.length := List.length_mergeSort _
    rw [hl]
    exact ownsRow_sorted_i hl hbase hgb r1 r2 (by simpa [Rep.size] using r3)
theorem mem_sortI {xs : List Int} {x : Int} : x ∈ sortI xs ↔ x ∈ xs := List.mem_mergeSort
theorem sortI_len (xs : List Int) : (sortI xs).length = xs.length := List.length_mergeSort _
theorem sortI_le (xs : List Int) : (sortI xs).Pairwise (· ≤ ·) := by
  have := List.pairwise_mergeSort (le := fun x y : Int => decide (x ≤ y)) (by intro a b c; simp; omega) (by intro a b; simp; omega) xs
  exact this.imp fun h => by simpa using h
/-- slices.Sorted(slices.Values(xs)). -/
theorem sortedVals_in (n : Nat) (hn : 5 ≤ n) (S : Nat → Prop) (A : Option Addr) (m c : Nat) (xs : List Int) (w : World) (h : Sl w S A m c xs) (hm : m ≤ 1048576) :
    CallsIn Fence.wide n Try.prog 18 #[.func (.func 31) #[] #[.pointer (some ⟨w.heap.size, 0, none⟩)]] (w.alloc (.cells #[.slice A m c] 22)) (RetInts (sortI xs) (w.alloc (.cells #[.slice A m c] 22))) := by
  have hl := h.len
  refine sorted_of_in n hn _ _ (enters_of Try.func31 (by kernel_rfl) rfl) (fun b => b < w.heap.size + 1) (fun _ => True) xs (by omega) _ (fun b hb => by simpa using hb) fun k hk => ?_
  exact values_stops Fence.wide k trivial rfl hk w.heap.size _ (fun b => b < w.heap.size) xs _ ⟨A, m, c, heap_alloc_new _ _, (h.more fun b hb _ => hb).alloc _⟩ (by show _ < _; omega) (fun b hb => by show _ < _; omega)
end Go.Proofs.Ytbppamjogdjfkaa
