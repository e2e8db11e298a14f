/- law02: which items are ends; slices.CompactFunc with that. law02: rows of items that are written in place; ends one behind the other. law02: slices.CompactFunc over items, 'both are ends'. -/
import Derived.Test.YtljglhaeonbfoaaGreatDoorG16
import Derived.Laws.IdiomCopy
import Derived.BigQuiet
set_option linter.unusedSimpArgs false
set_option linter.unusedVariables false
namespace Go.Proofs.YtljglhaeonbfoaaGreatDoor
open Go.RowKit
def itV (x : Word) : Value := .agg #[.int .i64 x.line, .int .i64 x.col, (hasW x).v]
def endW (x : Word) : Bool := match hasW x with
 | .stop => true
 | _ => false
set_option maxRecDepth 100000 in
set_option maxHeartbeats 4000000 in
theorem cEnded (x : Word) (w : World) : Calls Tryz.prog 87 #[itV x] w (RetX (.bool (endW x)) w) := by
 unfold itV endW
 cases hasW x
 all_goals
  simp only [Has.v]
  go_enter Tryz.func87, Tryz.ntmps87
  go_wp2_with (first | (simp only [as_stop]) | (simp only [as_stop_no 123 (by decide), as_stop_no 179 (by decide), as_stop_no 3 (by decide)]))
  go_ret
  exact RetX.b rfl (((Below.refl _ _).alloc (Nat.le_refl _) _).alloc (by simp) _)
set_option maxRecDepth 100000 in
set_option maxHeartbeats 4000000 in
theorem cBoth (x y : Word) (w : World) : Calls Tryz.prog 86 #[itV x, itV y] w (RetX (.bool (endW x && endW y)) w) := by
 have HE := hide (fun z W => cEnded z W)
 unfold itV at HE ⊢
 obtain ⟨tx, vx, ex⟩ := (hasW x).form
 obtain ⟨ty, vy, ey⟩ := (hasW y).form
 have H1 := hide (HE.out x); have H2 := hide (HE.out y)
 rw [ex] at H1 ⊢
 rw [ey] at H2 ⊢
 clear HE ex ey
 obtain ⟨bx, hbx⟩ : ∃ b, endW x = b := ⟨_, rfl⟩
 obtain ⟨b2, hb2⟩ : ∃ b, endW y = b := ⟨_, rfl⟩
 rw [hbx] at H1 ⊢
 rw [hb2] at H2 ⊢
 clear hbx hb2
 cases bx
 ·go_enter Tryz.func86, Tryz.ntmps86
  go_wp2_with (first | (go_at_call 87; (with_reducible refine (H1.out _).mono ?_); rintro e _ ⟨rfl, u1, rfl⟩) | (go_at_call 87; (with_reducible refine (H2.out _).mono ?_); rintro e _ ⟨rfl, u2, rfl⟩))
  go_ret
  exact RetX.b (by simp) ((((Below.refl _ _).alloc (Nat.le_refl _) _).alloc (by simp) _).ext (by simp; omega) u1)
 ·go_enter Tryz.func86, Tryz.ntmps86
  go_wp2_with (first | (go_at_call 87; (with_reducible refine (H1.out _).mono ?_); rintro e _ ⟨rfl, u1, rfl⟩) | (go_at_call 87; (with_reducible refine (H2.out _).mono ?_); rintro e _ ⟨rfl, u2, rfl⟩))
  go_ret
  exact RetX.b (by simp) (((((Below.refl _ _).alloc (Nat.le_refl _) _).alloc (by simp) _).ext (by simp; omega) u1).ext (by simp [size_ext]; omega) u2)
end Go.Proofs.YtljglhaeonbfoaaGreatDoor
namespace Go.Proofs.YtljglhaeonbfoaaGreatDoor
open Go.RowKit
def compK : Bool → List Word → List Word
 | _, [] => []
 | b, x :: l => if b = true ∧ endW x = true then compK true l else x :: compK (endW x) l
theorem compK_cons (b : Bool) (x : Word) (l : List Word) : compK b (x :: l) = if b = true ∧ endW x = true then compK true l else x :: compK (endW x) l := rfl
def lastE (b : Bool) (l : List Word) : Bool := l.foldl (fun _ x => endW x) b
theorem lastE_snoc (b : Bool) (l : List Word) (x : Word) : lastE b (l ++ [x]) = endW x := by unfold lastE; rw [List.foldl_append]; rfl
theorem compK_snoc : ∀ (l : List Word) (b : Bool) (x : Word), compK b (l ++ [x]) = compK b l ++ if lastE b l = true ∧ endW x = true then [] else [x]
 | [], b, x => by
  rw [List.nil_append, compK_cons]
  show (if b = true ∧ endW x = true then [] else [x]) = [] ++ if b = true ∧ endW x = true then [] else [x]
  rfl
 | y :: l, b, x => by
  rw [List.cons_append, compK_cons, compK_cons]
  by_cases h : b = true ∧ endW y = true
  ·rw [if_pos h, if_pos h, compK_snoc l true x]
   have : lastE b (y :: l) = lastE true l := by show lastE (endW y) l = _; rw [h.2]
   rw [this]
  ·rw [if_neg h, if_neg h, compK_snoc l (endW y) x]; rfl
theorem compK_len : ∀ (l : List Word) (b : Bool), (compK b l).length ≤ l.length
 | [], _ => Nat.le_refl _
 | x :: l, b => by
  rw [compK_cons]
  split
  ·have := compK_len l true; simp only [List.length_cons]; omega
  ·have := compK_len l (endW x); simp only [List.length_cons]; omega
theorem compK_mem : ∀ (l : List Word) (b : Bool) (x : Word), x ∈ compK b l → x ∈ l
 | [], _, _, h => h
 | y :: l, b, x, h => by
  rw [compK_cons] at h
  split at h
  ·exact List.mem_cons_of_mem _ (compK_mem l true x h)
  ·rcases List.mem_cons.1 h with rfl | h
   ·simp
   ·exact List.mem_cons_of_mem _ (compK_mem l (endW y) x h)
theorem lastE_take {ys : List Word} {k : Nat} {y : Word} (h0 : 0 < k) (hy : ys[k - 1]? = some y) (b : Bool) : lastE b (ys.take k) = endW y := by
 obtain ⟨j, rfl⟩ : ∃ j, k = j + 1 := ⟨k - 1, by omega⟩
 rw [take_at (by simpa using hy), lastE_snoc]
theorem comp_step {ys : List Word} {k : Nat} {x y : Word} (h0 : 0 < k) (hx : ys[k]? = some x) (hy : ys[k - 1]? = some y) : compK false (ys.take (k + 1)) = compK false (ys.take k) ++ if endW y = true ∧ endW x = true then [] else [x] := by
 rw [take_at hx, compK_snoc, lastE_take h0 hy]
structure CompIn (ys : List Word) (m kk : Nat) (ds : List Word) : Prop where
 len : ds.length = ys.length
 lt : kk < m
 head : ds.take kk = compK false (ys.take m)
 high : ∀ j, m ≤ j + 1 → ds[j]? = ys[j]?
theorem CompIn.start {ys : List Word} {k : Nat} {x y : Word} (h0 : 0 < k) (hx : ys[k]? = some x) (hy : ys[k - 1]? = some y) (hd : endW x = true ∧ endW y = true) (hall : compK false (ys.take k) = ys.take k) : CompIn ys (k + 1) k ys :=
 ⟨rfl, by omega, by rw [comp_step h0 hx hy, if_pos ⟨hd.2, hd.1⟩, hall, List.append_nil], fun _ _ => rfl⟩
theorem CompIn.skip {ys ds : List Word} {m kk : Nat} {x y : Word} (h : CompIn ys m kk ds) (hx : ys[m]? = some x) (hy : ys[m - 1]? = some y) (hd : endW x = true ∧ endW y = true) : CompIn ys (m + 1) kk ds :=
 ⟨h.len, by have := h.lt; omega, by rw [h.head, comp_step (by have := h.lt; omega) hx hy, if_pos ⟨hd.2, hd.1⟩, List.append_nil], fun j hj => h.high j (by omega)⟩
theorem CompIn.keep {ys ds : List Word} {m kk : Nat} {x y : Word} (h : CompIn ys m kk ds) (hx : ys[m]? = some x) (hy : ys[m - 1]? = some y) (hd : ¬ (endW x = true ∧ endW y = true)) : CompIn ys (m + 1) (kk + 1) (ds.set kk x) := by
 have hm : m < ys.length := (List.getElem?_eq_some_iff.1 hx).1
 have hk : kk < ds.length := by have := h.lt; have := h.len; omega
 refine ⟨by simpa using h.len, by have := h.lt; omega, ?_, fun j hj => ?_⟩
 ·have e : (ds.set kk x)[kk]? = some x := by simp [hk]
  rw [take_at e, List.take_set_of_le (Nat.le_refl _), h.head, comp_step (by have := h.lt; omega) hx hy, if_neg (fun c => hd ⟨c.2, c.1⟩)]
 ·rw [List.getElem?_set_ne (by have := h.lt; omega)]
  exact h.high j (by omega)
def ItRow (w : World) (g : Nat) (ds : List Word) : Prop := ∃ cs, w.heap[g]? = some (.cells cs 118 (0, 0)) ∧ ds.length * 3 ≤ cs.size ∧
 ∀ i x, ds[i]? = some x → cs[i * 3]? = some (.int .i64 x.line) ∧ cs[i * 3 + 1]? = some (.int .i64 x.col) ∧ cs[i * 3 + 2]? = some (hasW x).v ∧ InI x.line ∧ InI x.col ∧ InI x.n ∧ x.text.size ≤ maxLen
section
variable {w w' : World} {g : Nat} {ds : List Word}
theorem ItRow.lt (h : ItRow w g ds) : g < w.heap.size := by obtain ⟨cs, h, _⟩ := h; exact (Array.getElem?_eq_some_iff.1 h).1
theorem ItRow.keep (h : ItRow w g ds) (hg : w'.heap[g]? = w.heap[g]?) : ItRow w' g ds := by obtain ⟨cs, h, r⟩ := h; exact ⟨cs, hg.trans h, r⟩
theorem ItRow.ext (h : ItRow w g ds) (u : Ext) : ItRow (w.ext u) g ds := h.keep (ext_block w u g h.lt)
theorem ItRow.at_ (h : ItRow w g ds) {i : Nat} {x : Word} (hx : ds[i]? = some x) : w.cell? ⟨g, i * 3, none⟩ = some (.int .i64 x.line) ∧ w.cell? ⟨g, i * 3 + 1, none⟩ = some (.int .i64 x.col) ∧ w.cell? ⟨g, i * 3 + 2, none⟩ = some (hasW x).v ∧ InI x.line ∧ InI x.col ∧ InI x.n ∧ x.text.size ≤ maxLen := by
 obtain ⟨cs, hg, _, hc⟩ := h
 obtain ⟨c0, c1, c2, r⟩ := hc i x hx
 exact ⟨(cell_of_row w g _ _ _ (0, 0) hg).trans c0, (cell_of_row w g _ _ _ (0, 0) hg).trans c1, (cell_of_row w g _ _ _ (0, 0) hg).trans c2, r⟩
theorem ItRow.fz (h : ItRow w g ds) (j : Nat) : w.frozen? ⟨g, j, none⟩ = false := by obtain ⟨cs, hg, _⟩ := h; simp [World.frozen?, hg]
theorem ItRow.set (h : ItRow w g ds) {i : Nat} {x : Word} (hi : i < ds.length) (hx : InI x.line ∧ InI x.col ∧ InI x.n ∧ x.text.size ≤ maxLen) :
  ItRow (((w.setCell ⟨g, i * 3, none⟩ (.int .i64 x.line)).setCell ⟨g, i * 3 + 1, none⟩ (.int .i64 x.col)).setCell ⟨g, i * 3 + 2, none⟩ (hasW x).v) g (ds.set i x) := by
 obtain ⟨cs, hg, hs, hc⟩ := h
 refine ⟨_, row_setB (row_setB (row_setB hg _ _) _ _) _ _, by simpa using hs, fun j y hy => ?_⟩
 by_cases hj : j = i
 ·subst hj
  obtain rfl : y = x := by simpa [hi] using hy.symm
  refine ⟨?_, ?_, ?_, hx⟩
  ·rw [Array.getElem?_setIfInBounds_ne (by omega), Array.getElem?_setIfInBounds_ne (by omega), Array.getElem?_setIfInBounds_self_of_lt (by omega)]
  ·rw [Array.getElem?_setIfInBounds_ne (by omega), Array.getElem?_setIfInBounds_self_of_lt (by simp; omega)]
  ·rw [Array.getElem?_setIfInBounds_self_of_lt (by simp; omega)]
 ·rw [List.getElem?_set_ne (by omega)] at hy
  obtain ⟨c0, c1, c2, r⟩ := hc j y hy
  refine ⟨?_, ?_, ?_, r⟩
  ·rw [Array.getElem?_setIfInBounds_ne (by omega), Array.getElem?_setIfInBounds_ne (by omega), Array.getElem?_setIfInBounds_ne (by omega)]; exact c0
  ·rw [Array.getElem?_setIfInBounds_ne (by omega), Array.getElem?_setIfInBounds_ne (by omega), Array.getElem?_setIfInBounds_ne (by omega)]; exact c1
  ·rw [Array.getElem?_setIfInBounds_ne (by omega), Array.getElem?_setIfInBounds_ne (by omega), Array.getElem?_setIfInBounds_ne (by omega)]; exact c2
theorem ItRow.sl (h : ItRow w g ds) {S : Nat → Prop} (hS : S g) {k c : Nat} (hk : k ≤ ds.length) (hc : k ≤ c) (hm : c ≤ maxLen) : Sl w S (some ⟨g, 0, none⟩) k c ((ds.take k).map Itm.mk) := by
 refine ⟨by rw [List.length_map, List.length_take]; omega, hc, hm, (fun e => nomatch e), fun h0 => ⟨g, 0, rfl, h.lt, hS, fun i x hx => ?_⟩⟩
 rw [List.getElem?_map] at hx
 obtain ⟨y, hy, rfl⟩ := Option.map_eq_some_iff.1 hx
 rw [List.getElem?_take] at hy
 split at hy
 ·obtain ⟨c0, c1, c2, r⟩ := h.at_ hy
  refine ⟨_, ⟨rfl, r⟩, fun j u hj => ?_⟩
  have hsz : Rep.size Itm = 3 := rfl
  rw [hsz, Nat.zero_add]
  match j, hj with
  | 0, hj => simp at hj; subst hj; exact c0
  | 1, hj => simp at hj; subst hj; exact c1
  | 2, hj => simp at hj; subst hj; exact c2
  | j + 3, hj => simp at hj
 ·cases hy
end
theorem setCells_only (g : Nat) : ∀ (vs : List Value) (o : Nat) (w : World), Only g w (w.setCells g o vs)
 | [], _, w => Only.refl g w
 | v :: vs, o, w => ((Only.refl g w).set rfl v).trans (setCells_only g vs (o + 1) _)
theorem setCells_row (g : Nat) : ∀ (vs : List Value) (o : Nat) (w : World) (cs : Array Value) (t : TypeId), w.heap[g]? = some (.cells cs t (0, 0)) → ∃ cs', (w.setCells g o vs).heap[g]? = some (.cells cs' t (0, 0)) ∧ cs'.size = cs.size ∧ ∀ j, j < o → cs'[j]? = cs[j]?
 | [], _, w, cs, t, h => ⟨cs, h, rfl, fun _ _ => rfl⟩
 | v :: vs, o, w, cs, t, h => by
  obtain ⟨cs', h1, h2, h3⟩ := setCells_row g vs (o + 1) (w.setCell ⟨g, o, none⟩ v) _ t (row_setB h o v)
  refine ⟨cs', h1, by rw [h2]; simp, fun j hj => ?_⟩
  rw [h3 j (by omega), Array.getElem?_setIfInBounds_ne (by omega)]
theorem zero_item : (Tryz.prog.info? 118).map (·.zero) = some (some (.agg #[.int .i64 0, .int .i64 0, .nilIface])) := by kernel_rfl
theorem zeroCells_len (z : Array Value) (n : Nat) : (Builtin.zeroCells z n).toList.length = n * z.size := by simp [Builtin.zeroCells]
theorem zeroCells_one (n : Nat) : ∀ v ∈ (Builtin.zeroCells #[.int .i64 0, .int .i64 0, .nilIface] n).toList, v.oneCell' = true := by
 intro v hv
 simp only [Builtin.zeroCells, Array.toList_map, List.mem_map] at hv
 obtain ⟨i, _, rfl⟩ := hv
 have : i % 3 = 0 ∨ i % 3 = 1 ∨ i % 3 = 2 := by omega
 rcases this with h | h | h
 ·show ((#[.int .i64 0, .int .i64 0, .nilIface] : Array Value)[i % 3]!).oneCell' = true; rw [h]; rfl
 ·show ((#[.int .i64 0, .int .i64 0, .nilIface] : Array Value)[i % 3]!).oneCell' = true; rw [h]; rfl
 ·show ((#[.int .i64 0, .int .i64 0, .nilIface] : Array Value)[i % 3]!).oneCell' = true; rw [h]; rfl
theorem clear_row {w : World} {g : Nat} {ds : List Word} (h : ItRow w g ds) {k m c : Nat} (hk : k + m = ds.length) : ∃ w', (∀ ty, (Builtin.clear_ #[103] ty #[.slice (some ⟨g, k * 3, none⟩) m c]).run Tryz.prog w = .ok (.tuple #[]) w') ∧ Only g w w' ∧ ItRow w' g (ds.take k) := by
 cases m with
 | zero =>
  refine ⟨w, fun ty => ?_, Only.refl _ _, ?_⟩
  ·simp [Builtin.clear_, run_underlying Tryz.underlying103]
  ·rw [List.take_of_length_le (by omega)]; exact h
 | succ m =>
  obtain ⟨i, e, z⟩ := Option.map_eq_some_iff.1 zero_item
  have hv : ∀ w, (zeroValue 118).run Tryz.prog w = .ok (.agg #[.int .i64 0, .int .i64 0, .nilIface]) w := fun w => by simp [zeroValue, typeInfo, e, z]
  obtain ⟨zs, hzs⟩ : ∃ zs, (Builtin.zeroCells #[.int .i64 0, .int .i64 0, .nilIface] (m + 1)).toList = zs := ⟨_, rfl⟩
  have hl : zs.length = (m + 1) * 3 := by rw [← hzs, zeroCells_len]; rfl
  have h1 : ∀ v ∈ zs, v.oneCell' = true := by rw [← hzs]; exact zeroCells_one _
  obtain ⟨cs, hg, hsz, hc⟩ := h
  have hst := run_storeCells_cells (P := Tryz.prog) g (k * 3) zs 0 w (fun j hj => by
   rw [cell_of_row w g _ _ _ (0, 0) hg]; simp; omega) (fun j hj => by simp [World.frozen?, hg]) h1
  refine ⟨w.setCells g (k * 3) zs, fun ty => ?_, setCells_only g zs _ w, ?_⟩
  ·have hz2 : Value.cells (.agg #[.int .i64 0, .int .i64 0, .nilIface]) = #[.int .i64 0, .int .i64 0, .nilIface] := rfl
   simp only [Nat.add_zero] at hst
   simp [Builtin.clear_, run_underlying Tryz.underlying103, hv, hz2, hzs, hst]
  ·obtain ⟨cs', h2, h3, h4⟩ := setCells_row g zs (k * 3) w cs _ hg
   refine ⟨cs', h2, by rw [List.length_take]; omega, fun i x hx => ?_⟩
   rw [List.getElem?_take] at hx
   split at hx
   ·obtain ⟨c0, c1, c2, r⟩ := hc i x hx
    exact ⟨(h4 _ (by omega)).trans c0, (h4 _ (by omega)).trans c1, (h4 _ (by omega)).trans c2, r⟩
   ·cases hx
end Go.Proofs.YtljglhaeonbfoaaGreatDoor
namespace Go.Proofs.YtljglhaeonbfoaaGreatDoor
open Go.RowKit
def CompP (g n c : Nat) (w : World) (ys : List Word) (e : Ending) (w' : World) : Prop := ∃ k ds, e = .returned (.slice (some ⟨g, 0, none⟩) k c) ∧ k ≤ n ∧ ItRow w' g ds ∧ k ≤ ds.length ∧ ds.take k = compK false ys ∧ Only g w w'
set_option maxRecDepth 100000 in
set_option maxHeartbeats 40000000 in
theorem compact_any (w : World) (g n c : Nat) (ys : List Word) (h : ItRow w g ys) (hn : ys.length = n) (hc : n ≤ c) (hm : c ≤ maxLen) : Calls Tryz.prog 85 #[.slice (some ⟨g, 0, none⟩) n c, .func (.func 86) #[] #[]] w (CompP g n c w ys) := by
 have hn9 : n ≤ 9223372036854775807 := by unfold maxLen at hm; omega
 have HR := hide h; have HN := hide hn
 have hgw := h.lt
 clear h hn
 have HB := hide (fun x y W => cBoth x y W)
 unfold itV at HB
 by_cases h2 : n < 2
 ·have HE := hide (show compK false ys = ys by
   have := HN.out
   match ys, this with
   | [], _ => rfl
   | [x], _ => rfl
   | x :: y :: l, h => simp at h; omega)
  go_enter Tryz.func85, Tryz.ntmps85
  go_wp2_with fail
  go_ret
  exact ⟨n, ys, rfl, Nat.le_refl _, HR.out, by have := HN.out; omega, by rw [HE.out, List.take_of_length_le (by have := HN.out; omega)], Only.refl _ _⟩
 go_enter Tryz.func85, Tryz.ntmps85
 go_wp2_with fail
 go_loopw [5] (fun i wr => ∃ (k : Nat) (u : Ext), i = .int .i64 k ∧ 1 ≤ k ∧ k ≤ n ∧ wr = w.ext u ∧ compK false (ys.take k) = ys.take k) (fun i _ => n - (intOf i).toNat)
 case atStart =>
  obtain ⟨u, hu⟩ := ext_refl w
  refine ⟨1, u, rfl, Nat.le_refl _, by omega, hu, ?_⟩
  have := HN.out
  match ys, this with
  | [], _ => rfl
  | x :: l, _ => rfl
 case round =>
  obtain ⟨k, u, rfl, hk1, hkn, rfl, hall⟩ := hrel
  have HALL := hide hall
  clear hall
  by_cases hlt : k < n
  ·obtain ⟨x, hx⟩ : ∃ x, ys[k]? = some x := ⟨_, List.getElem?_eq_getElem (by have := HN.out; omega)⟩
   obtain ⟨y, hy⟩ : ∃ y, ys[k - 1]? = some y := ⟨_, List.getElem?_eq_getElem (by have := HN.out; omega)⟩
   obtain ⟨c0, c1, c2, hxb⟩ := HR.out.at_ hx
   obtain ⟨d0, d1, d2, _⟩ := HR.out.at_ hy
   have HX := hide hx; have HY := hide hy
   have HC := hide (fun W => HB.out x y W)
   obtain ⟨tx, vx, ex⟩ := (hasW x).form
   obtain ⟨ty, vy, ey⟩ := (hasW y).form
   rw [ex] at c2 HC
   rw [ey] at d2 HC
   clear hx hy hxb ex ey
   by_cases hd : endW x = true ∧ endW y = true
   ·have hb : (endW x && endW y) = true := by simp [hd]
    rw [hb] at HC
    clear hb
    go_wp2_with fail
    refine wp_region_ext (by kernel_rfl) (by kernel_rfl) ?_
    repeat (any_goals (first | go_big_quiet_step (((go_at_call 86; exact quiet_retx (HC.out _)))) | quiet_step (((go_at_call 86; exact quiet_retx (HC.out _))))))
    refine wpQuiet_nil ?_
    rintro _ ⟨uq, rfl⟩
    go_wp2_with fail
    have HST := hide (CompIn.start (by omega) HX.out HY.out hd HALL.out)
    clear c0 c1 c2 d0 d1 d2 hd HC HX HY
    go_loopw [5, 7] (fun a b wr => ∃ (kk k2 : Nat) (ds : List Word), a = .int .i64 kk ∧ b = .int .i64 k2 ∧ 1 ≤ k2 ∧ k + k2 ≤ n ∧ CompIn ys (k + k2) kk ds ∧ ItRow wr g ds ∧ Only g w wr) (fun _ b _ => n - k - (intOf b).toNat)
    case atStart => exact ⟨k, 1, ys, rfl, rfl, Nat.le_refl _, by omega, HST.out, (HR.out.ext u).ext uq, ((Only.refl g w).ext u).ext uq⟩
    case round =>
     obtain ⟨kk, k2, ds, rfl, rfl, h1, hle, hci, hrow, hon⟩ := hrel
     have HCI := hide hci; have HROW := hide hrow; have HON := hide hon
     have hkk : kk < k + k2 := hci.lt
     have hgr := hrow.lt
     clear hci hrow hon
     by_cases hlt2 : k + k2 < n
     ·obtain ⟨x, hx⟩ : ∃ x, ys[k + k2]? = some x := ⟨_, List.getElem?_eq_getElem (by have := HN.out; omega)⟩
      obtain ⟨y, hy⟩ : ∃ y, ys[k + k2 - 1]? = some y := ⟨_, List.getElem?_eq_getElem (by have := HN.out; omega)⟩
      obtain ⟨z, hz⟩ : ∃ z, ds[kk]? = some z := ⟨_, List.getElem?_eq_getElem (by have := HN.out; have := HCI.out.len; omega)⟩
      obtain ⟨c0, c1, c2, hxb⟩ := HROW.out.at_ ((HCI.out.high (k + k2) (by omega)).trans hx)
      obtain ⟨d0, d1, d2, _⟩ := HROW.out.at_ ((HCI.out.high (k + k2 - 1) (by omega)).trans hy)
      obtain ⟨z0, z1, z2, _⟩ := HROW.out.at_ hz
      have f0 := HROW.out.fz (kk * 3); have f1 := HROW.out.fz (kk * 3 + 1); have f2 := HROW.out.fz (kk * 3 + 2)
      have HXB := hide hxb
      have HX := hide hx; have HY := hide hy
      have HC := hide (fun W => HB.out x y W)
      obtain ⟨tx, vx, ex⟩ := (hasW x).form
      obtain ⟨ty, vy, ey⟩ := (hasW y).form
      obtain ⟨tz, vz, ez⟩ := (hasW z).form
      rw [ex] at c2 HC
      rw [ey] at d2 HC
      rw [ez] at z2
      have HEX := hide ex
      rw [show (k + k2) * 3 = k * 3 + k2 * 3 by omega] at c0 c1 c2
      rw [show (k + k2 - 1) * 3 = k * 3 + (k2 - 1) * 3 by omega] at d0 d1 d2
      clear hx hy hz hxb ex ey ez
      by_cases hd : endW x = true ∧ endW y = true
      ·have hb : (endW x && endW y) = true := by simp [hd]
       rw [hb] at HC
       clear hb
       go_wp2_with fail
       refine wp_region_ext (by kernel_rfl) (by kernel_rfl) ?_
       repeat (any_goals (first | go_big_quiet_step (((go_at_call 86; exact quiet_retx (HC.out _)))) | quiet_step (((go_at_call 86; exact quiet_retx (HC.out _))))))
       refine wpQuiet_nil ?_
       rintro _ ⟨uq, rfl⟩
       go_wp2_with fail
       go_roundw
       case rel => exact ⟨kk, k2 + 1, ds, rfl, by go_num, by omega, by omega, HCI.out.skip HX.out HY.out hd, HROW.out.ext uq, HON.out.ext uq⟩
       case measure => simp [intOf]; omega
      ·have hb : (endW x && endW y) = false := by simpa using hd
       rw [hb] at HC
       clear hb
       go_wp2_with fail
       refine wp_region_ext (by kernel_rfl) (by kernel_rfl) ?_
       repeat (any_goals (first | go_big_quiet_step (((go_at_call 86; exact quiet_retx (HC.out _)))) | quiet_step (((go_at_call 86; exact quiet_retx (HC.out _))))))
       refine wpQuiet_nil ?_
       rintro _ ⟨uq, rfl⟩
       go_wp2_with fail
       go_roundw
       case rel =>
        have hrow2 := HROW.out.set (i := kk) (x := x) (by have := HN.out; have := HCI.out.len; omega) HXB.out
        rw [HEX.out] at hrow2
        exact ⟨kk + 1, k2 + 1, ds.set kk x, by go_num, by go_num, by omega, by omega, HCI.out.keep HX.out HY.out hd, hrow2.ext uq, ((((HON.out.set rfl _).set rfl _).set rfl _)).ext uq⟩
       case measure => simp [intOf]; omega
     ·have hk2 : k + k2 = n := by omega
      obtain ⟨w', hcl, hon', hrow'⟩ := clear_row HROW.out (k := kk) (m := n - kk) (c := c - kk) (by have := HN.out; have := HCI.out.len; omega)
      have HON' := hide hon'; have HROW' := hide hrow'
      clear hon' hrow'
      go_wp2_with (simp only [hcl])
      go_ret
      have hci := HCI.out
      rw [hk2, ] at hci
      have e : ys.take n = ys := List.take_of_length_le (by have := HN.out; omega)
      have hh := hci.head
      rw [e] at hh
      have hl := hci.len
      have := HN.out
      exact ⟨kk, ds.take kk, rfl, by omega, HROW'.out, by rw [List.length_take]; omega, by rw [List.take_take, Nat.min_self, hh], HON.out.trans HON'.out⟩
   ·have hb : (endW x && endW y) = false := by simpa using hd
    rw [hb] at HC
    clear hb
    go_wp2_with fail
    refine wp_region_ext (by kernel_rfl) (by kernel_rfl) ?_
    repeat (any_goals (first | go_big_quiet_step (((go_at_call 86; exact quiet_retx (HC.out _)))) | quiet_step (((go_at_call 86; exact quiet_retx (HC.out _))))))
    refine wpQuiet_nil ?_
    rintro _ ⟨uq, rfl⟩
    go_wp2_with fail
    go_roundw
    case rel =>
     obtain ⟨v, hv⟩ := ext_ext w u uq
     refine ⟨k + 1, v, by go_num, by omega, by omega, hv, ?_⟩
     rw [comp_step (by omega) HX.out HY.out, if_neg (fun c => hd ⟨c.2, c.1⟩), HALL.out, take_at HX.out]
    case measure => simp [intOf]; omega
  ·go_wp2_with fail
   go_ret
   obtain rfl : k = n := by omega
   have e : ys.take k = ys := List.take_of_length_le (by have := HN.out; omega)
   have := HALL.out
   rw [e] at this
   exact ⟨k, ys, rfl, Nat.le_refl _, HR.out.ext u, by have := HN.out; omega, by rw [e, this], (Only.refl g w).ext u⟩
set_option maxRecDepth 100000 in
set_option maxHeartbeats 4000000 in
theorem compact_nil (w : World) : Calls Tryz.prog 85 #[.slice none 0 0, .func (.func 86) #[] #[]] w (Ret (.slice none 0 0) w) := by
 go_enter Tryz.func85, Tryz.ntmps85
 go_wp2_with fail
 go_ret
 exact ⟨rfl, rfl⟩
theorem compK_nil {ws : List Word} (h : compK false ws = []) : ws = [] := by
 cases ws with
 | nil => rfl
 | cons y r => rw [compK_cons, if_neg (by simp)] at h; cases h
theorem compK_head {ws : List Word} {x : Word} {l : List Word} (h : compK false ws = x :: l) : compK true ws = if endW x = true then l else x :: l := by
 cases ws with
 | nil => cases h
 | cons y r =>
  rw [compK_cons, if_neg (by simp)] at h
  injection h with h1 h2
  subst h1
  rw [compK_cons]
  by_cases he : endW y = true
  ·rw [if_pos ⟨rfl, he⟩, if_pos he, ← h2, he]
  ·rw [if_neg (fun c => he c.2), if_neg he, h2]
end Go.Proofs.YtljglhaeonbfoaaGreatDoor
