/- law24: walk: a register for a color. -/
import Derived.Test.YtbppamjogdjfkaaIT8
import Derived.Test.YtbppamjogdjfkaaNE
import Derived.Laws.EntriesVeiled
import Derived.Scope
set_option linter.unusedSimpArgs false
set_option linter.unusedVariables false
namespace Go.Proofs.Ytbppamjogdjfkaa
open Go.RowKit Go.Shelf Go.Maps
attribute [local go_sem] Oper.semAt_some

theorem wishes_stops (n : Nat) (hn : 1 ≤ n) (Bb Bc : Nat) (X S : Nat → Prop) (w1 : World) (g : Nat) (p : Part) (mr mh : Nat) (par : Option Nat) (N : Nat) (acc : List (Int × Int)) (parF : Int → Int) (E : WEnv w1 S g p mr mh par N acc parF) (color : Int)
    (hX1 : ∀ b, b < w1.heap.size → X b) (hXb : X Bb) (hXc : X Bc) (w : World) (hXw : ∀ b, X b → b < w.heap.size) (hb : w.heap[Bb]? = some (.cells #[.pointer (some ⟨g, 0, none⟩)] 45 (0, 0))) (hc : w.heap[Bc]? = some (.cells #[.int .i64 color] 3 (0, 0))) (hw1 : KeepX (fun b => b < w1.heap.size) w1 w) :
    SeqStopsK Fence.wide n Try.prog 44 #[.pointer (some ⟨Bb, 0, none⟩), .pointer (some ⟨Bc, 0, none⟩)] encZI (KeepX X) (fun ys => unZ ys = wishes24 p parF color) (fun pre => unZ pre <+: wishes24 p parF color) (p.vars.length + p.vars.length) w := fun l J Jx W hW hJ _ hY h0 =>
  wishes1_in n hn l Bb Bc X S w1 g p mr mh par N acc parF E color hX1 hXb hXc J Jx hY W (fun b hb' => by have := hXw b hb'; have := hW.size; omega) hJ
    ((hW.block Bb (Array.getElem?_eq_some_iff.1 hb).1).trans hb) ((hW.block Bc (Array.getElem?_eq_some_iff.1 hc).1).trans hc) (hw1.trans ⟨hW.size, fun b hb' => hW.block b (by have := hw1.size; omega)⟩) h0
theorem six_rows (w : World) (a b c d e f : Obj) : ∀ W, (((((w.alloc a).alloc b).alloc c).alloc d).alloc e).alloc f = W → W.heap[w.heap.size]? = some a ∧ W.heap[w.heap.size + 1]? = some b ∧ W.heap[w.heap.size + 1 + 1]? = some c ∧ W.heap[w.heap.size + 1 + 1 + 1]? = some d ∧ W.heap[w.heap.size + 1 + 1 + 1 + 1]? = some e ∧ W.heap[w.heap.size + 1 + 1 + 1 + 1 + 1]? = some f ∧ W.heap.size = w.heap.size + 6 ∧ Below w.heap.size w W := by
  rintro _ rfl
  have hh : ((((((w.alloc a).alloc b).alloc c).alloc d).alloc e).alloc f).heap = (((((w.heap.push a).push b).push c).push d).push e).push f := rfl
  refine ⟨?_, ?_, ?_, ?_, ?_, ?_, by simp, (((((((Below.refl _ _).alloc (Nat.le_refl _) _).alloc (by simp) _).alloc (by simp; omega) _).alloc (by simp; omega) _).alloc (by simp; omega) _).alloc (by simp; omega) _)⟩ <;> rw [hh] <;> simp only [Array.getElem?_push, Array.size_push] <;> repeat (first | rfl | rw [if_pos (by omega)] | rw [if_neg (by omega)])
/-- Between two rounds. -/
structure GetI (w V : World) (Br : Nat) (r : Int) (W : World) : Prop where
  row : W.heap[Br]? = some (.cells #[.int .i64 r] 3 (0, 0))
  size : V.heap.size ≤ W.heap.size
  old : ∀ b, b < V.heap.size → b ≠ Br → W.heap[b]? = V.heap[b]?
  below : Below w.heap.size w W
section
variable {w V W W' : World} {Br : Nat} {r : Int}
theorem GetI.grown (h : GetI w V Br r W) (hBr : Br < V.heap.size) (hw : w.heap.size ≤ V.heap.size) {row : Option Nat} (hg : W.grownBy W' row) (hr : ∀ q, row = some q → V.heap.size ≤ q) : GetI w V Br r W' :=
  ⟨(hg.block Br (Array.getElem?_eq_some_iff.1 h.row).1 fun e => by have := hr Br e.symm; omega).trans h.row, Nat.le_trans h.size hg.size, fun b hb hn => (hg.block b (by have := h.size; omega) fun e => by have := hr b e.symm; omega).trans (h.old b hb hn), h.below.grown hg h.below.size fun q e => by have := hr q e; omega⟩
theorem GetI.ext (h : GetI w V Br r W) (hBr : Br < V.heap.size) (u : Ext) : GetI w V Br r (W.ext u) := by
  have hz := h.size
  exact ⟨(ext_block W u Br (by omega)).trans h.row, by rw [size_ext]; omega, fun b hb hn => (ext_block W u b (by omega)).trans (h.old b hb hn), h.below.ext h.below.size u⟩
theorem GetI.set (h : GetI w V Br r W) (hBr : Br < V.heap.size) (hwB : w.heap.size ≤ Br) (q : Int) : GetI w V Br q (W.setCell ⟨Br, 0, none⟩ (.int .i64 q)) := by
  refine ⟨?_, by simpa using h.size, fun b hb hn => (Below.heap_setCell W ⟨Br, 0, none⟩ _ b hn).trans (h.old b hb hn), h.below.setCell (p := ⟨Br, 0, none⟩) hwB _⟩
  show (W.heap.modify Br _)[Br]? = _
  rw [Array.getElem?_modify, if_pos rfl, h.row]; rfl
end
theorem idxF_find {α : Type} (f : α → Bool) : ∀ (l : List α) (k : Nat), (l.find? f = none ∧ idxF f k l = -1) ∨ ∃ (j : Nat) (x : α), l[j]? = some x ∧ l.find? f = some x ∧ idxF f k l = ((k + j : Nat) : Int)
  | [], k => .inl ⟨rfl, rfl⟩
  | x :: l, k => by
    unfold idxF
    cases h : f x with
    | true => exact .inr ⟨0, x, rfl, by rw [List.find?_cons_of_pos h], by simp⟩
    | false =>
      rcases idxF_find f l (k + 1) with ⟨h1, h2⟩ | ⟨j, y, h1, h2, h3⟩
      · exact .inl ⟨by rw [List.find?_cons_of_neg (by simp [h])]; exact h1, by simpa using h2⟩
      · exact .inr ⟨j + 1, y, by simpa using h1, by rw [List.find?_cons_of_neg (by simp [h])]; exact h2, by rw [if_neg (by simp), h3]; congr 1; omega⟩
def hadF (had : List Int) : Int → Option Int := fun r => if r ∈ had then some 1 else none
theorem hadF_can (had : List Int) (r : Int) : decide ((hadF had r).getD 0 = 0) = !hasI r had := by
  unfold hadF
  by_cases h : r ∈ had
  · rw [if_pos h, (hasI_iff _ _).2 h]; rfl
  · rw [if_neg h]
    have : hasI r had = false := Bool.eq_false_iff.2 fun e => h ((hasI_iff _ _).1 e)
    rw [this]; rfl
theorem hadF_snoc (had : List Int) (r : Int) : upd (hadF had) r (some 1) = hadF (had ++ [r]) := by
  funext z
  unfold upd hadF
  by_cases h : z = r
  · subst h; simp
  · simp [h]
/-- What get leaves. -/
structure GotP (w : World) (S : Nat → Prop) (g : Nat) (p : Part) (mr mh : Nat) (par : Option Nat) (N NH : Nat) (acc : List (Int × Int)) (w' : World) : Prop where
  bd : BdAt w' S g p mr mh par N acc
  had : IMapI w' mh NH (hadF (acc.map (·.2)))
  os : w'.os = w.os
  tape : w'.tape = w.tape
  output : w'.output = w.output
  size : w.heap.size ≤ w'.heap.size
  block : ∀ b, b < w.heap.size → b ≠ mr → b ≠ mh → w'.heap[b]? = w.heap[b]?
set_option maxRecDepth 100000 in
set_option maxHeartbeats 4000000 in
theorem get24_any (w : World) (S SP : Nat → Prop) (g : Nat) (p : Part) (mr mh : Nat) (par : Option Nat) (N NH : Nat) (acc : List (Int × Int)) (parF : Int → Int) (E : WEnv w S g p mr mh par N acc parF) (hN : N ≤ 1048576) (hNH : NH ≤ 1048576) (hmm : mr ≠ mh) (hSm : ∀ b, S b → b ≠ mr ∧ b ≠ mh) (hgm : g ≠ mr ∧ g ≠ mh)
    (HH : IMapI w mh NH (hadF (acc.map (·.2)))) (color : Int) (hci : InI color) (hcol : color ∉ acc.map (·.1)) (A : Option Addr) (n c : Nat) (pool : List Int) (hs : Sl w SP A n c pool) (hp0 : ∀ x ∈ pool, 0 ≤ x) :
    Calls Try.prog 20 #[.pointer (some ⟨g, 0, none⟩), .int .i64 color, .slice A n c] w (fun e w' => (∃ v, e = .returned v) ∧ GotP w S g p mr mh par (N + 2) (NH + 2) (acc ++ [(color, got24 (wishes24 p parF color) pool (acc.map (·.2)))]) w') := by
  obtain ⟨had, hhad⟩ : ∃ had, acc.map (·.2) = had := ⟨_, rfl⟩
  rw [hhad] at HH ⊢
  have HE := hide E; have HHH := hide HH
  have HS := hide (hs.more (S' := fun b => b < w.heap.size) fun b hb _ => hb)
  have hmhl := HH.lt
  have hf1 : Fence.wide.fn 33 := trivial
  have hf2 : Fence.wide.fn 25 := trivial
  have hf3 : Fence.wide.fn 32 := trivial
  have hf4 : Fence.wide.fn 34 := trivial
  have HSIX := hide (six_rows w)
  clear hs HH E
  refine (callsIn_wide (n := 8)).1 ?_
  refine callsIn_of_wp_marks Try.func20 rfl trivial ?_ rfl
  simp only [Try.ntmps20, List.size_toArray, List.length_cons, List.length_nil, Nat.reduceAdd, Nat.reduceSub, Array.replicate_succ, Array.replicate_zero, List.push_toArray, List.append_toArray, List.nil_append, List.cons_append]
  gi_wp2
  refine wpIn_wide.2 ?_
  refine wp_scope_straight ?_
  refine (wpIn_wide (n := 8)).1 ?_
  gi_wp2
  refine wpIn_label ?_
  gi_wp2_with (gi_at_call 33; refine (wishes_in _ _ _ _).mono ?_; rintro e _ ⟨rfl, rfl⟩)
  obtain ⟨V, hV⟩ : ∃ V, (((((w.alloc (.cells #[.pointer (some ⟨g, 0, none⟩)] 45)).alloc (.cells #[.slice A n c] 22)).alloc (.cells #[.func (.func 32) #[] #[.pointer (some ⟨w.heap.size, 0, none⟩)]] 64)).alloc (.cells #[.int .i64 (-1)] 3)).alloc (.cells #[.pointer (some ⟨g, 0, none⟩)] 45)).alloc (.cells #[.int .i64 color] 3) = V := ⟨_, rfl⟩
  rw [hV]
  obtain ⟨r0, r1, r2, r3, r4, r5, hVs, hbV⟩ := HSIX.out _ _ _ _ _ _ _ hV
  clear hV HSIX
  obtain ⟨z, hz⟩ : ∃ z, w.heap.size = z := ⟨_, rfl⟩
  have HZ := hide hz
  rw [hz] at r0 r1 r2 r3 r4 r5 hVs ⊢
  have hkV : KeepX (fun b => b < w.heap.size) w V := ⟨hbV.size, fun b hb => hbV.block b hb⟩
  have HKV := hide hkV
  have HBV := hide hbV
  have HR0 := hide r0; have HR1 := hide r1; have HR2 := hide r2
  have hml := HE.out.bd.lt
  have hrl := HE.out.bd.regs.lt
  have hlv := HE.out.lv
  clear hkV hbV
  refine wpIn_rangeFunc_ownG rfl (by omega) (gf := 44) (lb := #[.pointer (some ⟨z + 1 + 1 + 1 + 1, 0, none⟩), .pointer (some ⟨z + 1 + 1 + 1 + 1 + 1, 0, none⟩)]) rfl trivial (enters_of Try.func44 (by kernel_rfl) rfl)
    (wishes_stops _ (by omega) (z + 1 + 1 + 1 + 1) (z + 1 + 1 + 1 + 1 + 1) (fun b => b < V.heap.size ∧ b ≠ z + 1 + 1 + 1) S w g p mr mh par N acc parF HE.out color (fun b hb => by omega) (by omega) (by omega) V (fun b hb => hb.1) r4 r5 HKV.out) (fun h k => h.trans k) (keepX_b (fun b hb => hb.1)) (Below.refl _ _) (fun _ => rfl)
    (fun pre W => GetI w V (z + 1 + 1 + 1) (-1) W ∧ ∀ x ∈ unZ pre, okW24 pool had x = false) (fun c pre W => c = .exit 0 ∧ ∃ (pre0 : List Int) (x : Int), unZ pre = pre0 ++ [x] ∧ (∀ y ∈ pre0, okW24 pool had y = false) ∧ okW24 pool had x = true ∧ GetI w V (z + 1 + 1 + 1) x W) ?own1 ?own2 ⟨⟨r3, Nat.le_refl _, fun _ _ _ => rfl, HBV.out⟩, by simp⟩
    (fun x => { tmps := #[.pointer (some ⟨g, 0, none⟩), .int .i64 color, .slice A n c, .pointer (some ⟨z, 0, none⟩), undef, .pointer (some ⟨z + 1, 0, none⟩), .pointer (some ⟨z + 1 + 1, 0, none⟩), .pointer (some ⟨z + 1 + 1 + 1, 0, none⟩), .int .i64 x.1, undef, .func (.func 32) #[] #[.pointer (some ⟨z, 0, none⟩)], .pointer (some ⟨g, 0, none⟩), .int .i64 color, .func (.func 44) #[] #[.pointer (some ⟨z + 1 + 1 + 1 + 1, 0, none⟩), .pointer (some ⟨z + 1 + 1 + 1 + 1 + 1, 0, none⟩)], .int .i64 x.1, undef, undef, undef, undef, undef, undef, undef, undef, undef, undef, undef, undef, undef, undef, undef, undef, undef, undef, undef, undef, undef, undef, undef, undef, undef, undef, undef, undef, undef, undef, undef, undef, undef, undef, undef, undef, undef], defers := [] }) ?assign ?body ?done ?stop
  case own1 =>
    rintro pre W W' row ⟨h1, h2⟩ hg hr
    exact ⟨h1.grown (by omega) (by omega) hg (fun q e => (hr q e).1), h2⟩
  case own2 =>
    rintro c pre W W' row ⟨h0, pre0, x, h1, h2, h3, h4⟩ hg hr
    exact ⟨h0, pre0, x, h1, h2, h3, h4.grown (by omega) (by omega) hg (fun q e => (hr q e).1)⟩
  case assign =>
    intro l x W K hK
    gi_wp2
    exact hK
  case body =>
    rintro l pre x W ⟨hG, hno⟩ hlen
    obtain ⟨xv, hxi⟩ := x
    dsimp only
    have hzw := hG.size
    have e0 := (hG.old z (by omega) (by omega)).trans HR0.out
    have e1 := (hG.old (z + 1) (by omega) (by omega)).trans HR1.out
    have e2 := (hG.old (z + 1 + 1) (by omega) (by omega)).trans HR2.out
    have k0 : W.cell? ⟨z, 0, none⟩ = some (.pointer (some ⟨g, 0, none⟩)) := cell_of_row W _ _ _ _ (0, 0) e0
    have k1 : W.cell? ⟨z + 1, 0, none⟩ = some (.slice A n c) := cell_of_row W _ _ _ _ (0, 0) e1
    have k2 : W.cell? ⟨z + 1 + 1, 0, none⟩ = some (.func (.func 32) #[] #[.pointer (some ⟨z, 0, none⟩)]) := cell_of_row W _ _ _ _ (0, 0) e2
    have k3 : W.cell? ⟨z + 1 + 1 + 1, 0, none⟩ = some (.int .i64 (-1)) := cell_of_row W _ _ _ _ (0, 0) hG.row
    have kf : W.frozen? ⟨z + 1 + 1 + 1, 0, none⟩ = false := by simp [World.frozen?, hG.row]
    have hkw : KeepX (fun b => b < w.heap.size) w W := ⟨by omega, fun b hb => (hG.old b (by omega) (by omega)).trans (HKV.out.block b hb)⟩
    have HKW := hide hkw
    obtain ⟨A1, c1, A2, c2, A3, c3, hrow, _⟩ := HE.out.bd.row
    have hrowW := (hkw.block g hml).trans hrow
    have k5 : W.cell? ⟨g, 5, none⟩ = some (.map (some mh)) := cell_of_row W g _ _ _ (0, 0) hrowW
    have HCN := hide (contains5_any W _ A n c pool xv (HS.out.keep hkw.size (fun b hb _ => hkw.block b hb)))
    have HCA := hide (can24_any W z g mh NH (hadF had) k0 (by omega) k5 (by omega) (HHH.out.keep (hkw.block mh hmhl)) xv hxi)
    rw [hadF_can] at HCA
    have HG := hide hG; have HNO := hide hno
    have hnx : unZ (pre ++ [⟨xv, hxi⟩]) = unZ pre ++ [xv] := by unfold unZ; rw [List.map_append]; rfl
    have HNX := hide hnx
    clear hG hno hkw hrow hrowW e0 e1 e2 r0 r1 r2 r3 r4 r5 k5 hnx
    have hzl : z + 1 + 1 + 1 < W.heap.size := by omega
    have hzl0 : z + 1 < W.heap.size := by omega
    have hzl2 : z + 1 + 1 < W.heap.size := by omega
    have hnook : ∀ b, okW24 pool had xv = b → b = false → GetI w V (z + 1 + 1 + 1) (-1) W ∧ ∀ x ∈ unZ (pre ++ [⟨xv, hxi⟩]), okW24 pool had x = false := fun b hb1 hb2 => by
      refine ⟨HG.out, fun y hy => ?_⟩
      rw [HNX.out] at hy
      rcases List.mem_append.1 hy with hy | hy
      · exact HNO.out y hy
      · obtain rfl := List.mem_singleton.1 hy
        rw [hb1, hb2]
    have HNK := hide hnook
    clear hnook
    cases hp : hasI xv pool with
    | false =>
      rw [hp] at HCN
      have HP := hide (show okW24 pool had xv = false by unfold okW24; rw [hp]; rfl)
      clear hp
      gi_wp2_with (gi_at_call 25; refine (CallsIn.inRound l (callsIn_wide.2 HCN.out)).mono ?_; rintro e _ ⟨rfl, rfl⟩)
      refine ⟨fun _ h => (by cases h), ?_⟩
      gi_wp2
      exact ⟨KeepsFrom.refl _ _, KeepX.refl _ _, HNK.out _ HP.out rfl⟩
    | true =>
      rw [hp] at HCN
      cases hh : hasI xv had with
      | true =>
        rw [hh] at HCA
        have HP := hide (show okW24 pool had xv = false by unfold okW24; rw [hp, hh]; rfl)
        clear hp hh
        gi_wp2_with (first
          | (gi_at_call 25; refine (CallsIn.inRound l (callsIn_wide.2 HCN.out)).mono ?_; rintro e _ ⟨rfl, rfl⟩)
          | (gi_at_call 32; refine (CallsIn.inRound l (callsIn_wide.2 HCA.out)).mono ?_; rintro e _ ⟨rfl, rfl⟩))
        exact ⟨KeepsFrom.refl _ _, KeepX.refl _ _, HNK.out _ HP.out rfl⟩
      | false =>
        rw [hh] at HCA
        have HP := hide (show okW24 pool had xv = true by unfold okW24; rw [hp, hh]; rfl)
        clear hp hh
        gi_wp2_with (first
          | (gi_at_call 25; refine (CallsIn.inRound l (callsIn_wide.2 HCN.out)).mono ?_; rintro e _ ⟨rfl, rfl⟩)
          | (gi_at_call 32; refine (CallsIn.inRound l (callsIn_wide.2 HCA.out)).mono ?_; rintro e _ ⟨rfl, rfl⟩))
        exact ⟨(KeepsOthers.setCell _ _ _).from _, rfl, unZ pre, xv, HNX.out, HNO.out, HP.out, HG.out.set (by omega) (by omega) xv⟩
  case done =>
    rintro D ys W hD hys ⟨hG, hno⟩ hK
    have HNO := hide (show ∀ x ∈ wishes24 p parF color, okW24 pool had x = false from (show unZ ys = wishes24 p parF color from hys) ▸ hno)
    clear hno hys
    have hzw := hG.size
    have e0 := (hG.old z (by omega) (by omega)).trans HR0.out
    have e1 := (hG.old (z + 1) (by omega) (by omega)).trans HR1.out
    have e2 := (hG.old (z + 1 + 1) (by omega) (by omega)).trans HR2.out
    have k0 : W.cell? ⟨z, 0, none⟩ = some (.pointer (some ⟨g, 0, none⟩)) := cell_of_row W _ _ _ _ (0, 0) e0
    have k1 : W.cell? ⟨z + 1, 0, none⟩ = some (.slice A n c) := cell_of_row W _ _ _ _ (0, 0) e1
    have k2 : W.cell? ⟨z + 1 + 1, 0, none⟩ = some (.func (.func 32) #[] #[.pointer (some ⟨z, 0, none⟩)]) := cell_of_row W _ _ _ _ (0, 0) e2
    have hkw : KeepX (fun b => b < w.heap.size) w W := ⟨by omega, fun b hb => (hG.old b (by omega) (by omega)).trans (HKV.out.block b hb)⟩
    have HKW := hide hkw
    obtain ⟨A1, c1, A2, c2, A3, c3, hrow, _⟩ := HE.out.bd.row
    have hrowW := (hkw.block g hml).trans hrow
    have k4 : W.cell? ⟨g, 4, none⟩ = some (.map (some mr)) := cell_of_row W g _ _ _ (0, 0) hrowW
    have k5 : W.cell? ⟨g, 5, none⟩ = some (.map (some mh)) := cell_of_row W g _ _ _ (0, 0) hrowW
    have HHW := hide (HHH.out.keep (hkw.block mh hmhl))
    have HRW := hide (HE.out.bd.regs.keep (hkw.block mr hrl))
    have HSW := hide (HS.out.keep (w' := W) hkw.size (fun b hb _ => hkw.block b hb))
    have hgW : g < W.heap.size := by omega
    have HIX := hide (indexInts_any W _ A n c pool (fun r => !hasI r had) 32 #[.pointer (some ⟨z, 0, none⟩)] HSW.out (fun _ _ => by kernel_rfl) (fun x u hx => by
      have h := can24_any (W.ext u) z g mh NH (hadF had) ((cell?_ext W u _ (by show z < _; omega)).trans k0) (by rw [size_ext]; omega) ((cell?_ext W u _ hgW).trans k5) (by rw [size_ext]; omega) (HHW.out.ext u) x hx
      rw [hadF_can] at h
      exact Ret.retX h))
    have hDl := (Array.getElem?_eq_some_iff.1 hK).1
    have HG := hide hG; have HK := hide hK
    have HWE := hide (fun u : Ext => (⟨HG.out.ext (by omega) u, (ext_block W u D hDl).trans HK.out⟩ : GetI w V (z + 1 + 1 + 1) (-1) (W.ext u) ∧ (W.ext u).heap[D]? = some (.deferred (some []))))
    have hzl : z + 1 + 1 + 1 < W.heap.size := by omega
    have hzl0 : z + 1 < W.heap.size := by omega
    have hzl2 : z + 1 + 1 < W.heap.size := by omega
    have k3 : W.cell? ⟨z + 1 + 1 + 1, 0, none⟩ = some (.int .i64 (-1)) := cell_of_row W _ _ _ _ (0, 0) hG.row
    clear hG hK hkw hrow hrowW e0 e1 e2 r0 r1 r2 r3 r4 r5
    obtain ⟨ix, hix⟩ : ∃ ix, idxF (fun r => !hasI r had) 0 pool = ix := ⟨_, rfl⟩
    rw [hix] at HIX
    rcases idxF_find (fun r => !hasI r had) pool 0 with ⟨hf1', hf2'⟩ | ⟨j, x, hj1, hj2, hj3⟩
    · obtain rfl : ix = -1 := hix.symm.trans hf2'
      have HGOT := hide (show got24 (wishes24 p parF color) pool had = -1 by rw [got_none24 pool had HNO.out, hf1'])
      clear hix hf1' hf2'
      gi_wp2_with (gi_at_call 34; refine (callsIn_wide.2 HIX.out).mono ?_; rintro e _ ⟨rfl, u1, rfl⟩; refine Hd.out ?_)
      obtain ⟨W1, hW1⟩ : ∃ W1, W.ext u1 = W1 := ⟨_, rfl⟩
      have j0 : W1.cell? ⟨z, 0, none⟩ = some (.pointer (some ⟨g, 0, none⟩)) := by rw [← hW1]; exact (cell?_ext W u1 _ (by show z < _; omega)).trans k0
      have j1 : W1.cell? ⟨z + 1, 0, none⟩ = some (.slice A n c) := by rw [← hW1]; exact (cell?_ext W u1 _ (by show z + 1 < _; omega)).trans k1
      have j3 : W1.cell? ⟨z + 1 + 1 + 1, 0, none⟩ = some (.int .i64 (-1)) := by rw [← hW1]; exact (cell?_ext W u1 _ (by show z + 1 + 1 + 1 < _; omega)).trans k3
      have j4 : W1.cell? ⟨g, 4, none⟩ = some (.map (some mr)) := by rw [← hW1]; exact (cell?_ext W u1 _ (by show g < _; omega)).trans k4
      have j5 : W1.cell? ⟨g, 5, none⟩ = some (.map (some mh)) := by rw [← hW1]; exact (cell?_ext W u1 _ (by show g < _; omega)).trans k5
      have HG1 := hide (show GetI w V (z + 1 + 1 + 1) (-1) W1 ∧ W1.heap[D]? = some (.deferred (some [])) by rw [← hW1]; exact HWE.out u1)
      have HHW1 := hide (show IMapI W1 mh NH (hadF had) by rw [← hW1]; exact HHW.out.ext u1)
      have HRW1 := hide (show IMapI W1 mr N (fun c => acc.lookup c) by rw [← hW1]; exact HRW.out.ext u1)
      have hs1 := HG1.out.1.size
      have HSW1 := hide (show Sl W1 (fun b => b < w.heap.size) A n c pool by rw [← hW1]; exact HSW.out.ext u1)
      have hgl1 : g < W1.heap.size := by omega
      have hjf : W1.frozen? ⟨z + 1 + 1 + 1, 0, none⟩ = false := by simp [World.frozen?, HG1.out.1.row]
      rw [hW1]
      clear hW1 HIX HWE HG HK HHW HRW HSW k0 k1 k2 k3 k4 k5 hgW hDl hzl hzl0 hzl2 hzw HKW
      refine hide ?_
      gi_wp2
      have hrvi : InI (-1) := by unfold InI; omega
      have HGF := HG1; have HHWF := HHW1; have HRWF := HRW1
      have f0 : W1.cell? ⟨z, 0, none⟩ = some (.pointer (some ⟨g, 0, none⟩)) := j0
      have f3 : W1.cell? ⟨z + 1 + 1 + 1, 0, none⟩ = some (.int .i64 (-1)) := j3
      have f4 : W1.cell? ⟨g, 4, none⟩ = some (.map (some mr)) := j4
      have f5 : W1.cell? ⟨g, 5, none⟩ = some (.map (some mh)) := j5
      obtain ⟨lk, hlk⟩ : ∃ lk : Int → Option Int, (fun c => acc.lookup c) = lk := ⟨_, rfl⟩
      have HLK := hide hlk
      obtain ⟨lv, hlv⟩ : ∃ lv, (lk color).getD 0 = lv := ⟨_, rfl⟩
      have HLV := hide hlv
      have HMR := hide (show IMapI W1 mr N lk from hlk ▸ HRWF.out)
      have hmrW := HMR.out.lt
      have hmhW := HHWF.out.lt
      have HCF := hide (show ∀ w', rowF W1 (some mr) w' → w'.cell? ⟨z, 0, none⟩ = some (.pointer (some ⟨g, 0, none⟩)) ∧ w'.cell? ⟨z + 1 + 1 + 1, 0, none⟩ = some (.int .i64 (-1)) ∧ w'.cell? ⟨g, 4, none⟩ = some (.map (some mr)) ∧ w'.cell? ⟨g, 5, none⟩ = some (.map (some mh)) ∧ z < w'.heap.size ∧ z + 1 + 1 + 1 < w'.heap.size ∧ g < w'.heap.size from fun w' hw' => by
        have hzz := hw'.size
        exact ⟨(World.cell?_of_block (hw'.block z (by omega) fun e => by injection e with e; omega)).trans f0, (World.cell?_of_block (hw'.block (z + 1 + 1 + 1) (by omega) fun e => by injection e with e; omega)).trans f3, (World.cell?_of_block (hw'.block g (by omega) fun e => by injection e with e; omega)).trans f4, (World.cell?_of_block (hw'.block g (by omega) fun e => by injection e with e; omega)).trans f5, by omega, by omega, by omega⟩)
      have HRVI := hide (show InI (-1) from hrvi)
      clear hlk hlv hrvi f0 f3 f4 f5
      refine wpIn_wide.2 ?_
      refine wp_region_G_tail (rowF W1 (some mr)) (extF W1) [11, 13] [11, 12, 13] 14 (by kernel_rfl) rfl (by kernel_rfl) (by kernel_rfl) (fun w' u h => rowF_ext w' u h) (fun _ u ⟨x, hx⟩ => by rw [hx]; exact ext_ext W1 x u) (rowF_drew W1 _) (ext_drew W1) ?_
      simp only [List.take_succ_cons, List.take_zero, List.drop_succ_cons, List.drop_zero]
      repeat (refine flowG_knownF (by kernel_rfl) (fun K hK => ?_); go_simp; first | (refine hK _ ?_; clear hK K) | (apply Exists.intro; refine ⟨fun w' hw' => ?_, hK _ ?_⟩; (obtain ⟨q0, q1, q2, q3, q4, q5, q6⟩ := HCF.out w' hw'; clear hw'; go_simp; try rfl); clear hK K))
      refine flowG_keepG [] (Ent5I mr (N + 2) lk color (.int .i64 lv)) (by kernel_rfl) (Ent5I.stable_ rfl) (by kernel_rfl) ?_ ?_
      · rintro w' hw' ⟨u, rfl⟩
        try simp only [List.nil_append, List.cons_append, useH_f, useH_t, useH_nil]
        obtain ⟨stamp, w1, r1, r2, r3⟩ := entI_of (HMR.out.ext u) (by unfold maxLen; omega) (x := color) hci
        rw [HLV.out] at r1
        have HE2 := hide r2; have HE3 := hide r3
        have HW' := hide hw'
        clear r2 r3 hw'
        go_simp
        exact ⟨⟨stamp, rfl, HE2.out⟩, HW'.out.trans HE3.out, fun h => by cases h⟩
      refine flowG_keepF [true] (Ent6I mr (N + 2) lk color) (by kernel_rfl) (Ent6I.stable_ rfl) ?_ ?_
      · intro w' hw'
        try simp only [List.nil_append, List.cons_append, useH_f, useH_t, useH_nil]
        rintro v' ⟨stamp, rfl, hq⟩
        have HQ := hide hq
        clear hq
        go_simp
        exact ⟨⟨stamp, rfl, HQ.out⟩, hw', fun _ => ext_refl _⟩
      refine flowG_keepF [false, true] (Ent7I mr (N + 2) (upd lk color (some (-1)))) (by kernel_rfl) (Ent7I.stable_ rfl) ?_ ?_
      · intro w' hw'
        try simp only [List.nil_append, List.cons_append, useH_f, useH_t, useH_nil]
        rintro v' ⟨stamp, rfl, hq⟩
        obtain ⟨w3, e1, e2, e3⟩ := hq.2 w' (-1) HRVI.out rfl
        have HE2 := hide e2; have HE3 := hide e3; have HW' := hide hw'
        clear hq e2 e3 hw'
        go_simp
        exact ⟨HE2.out, HW'.out.trans HE3.out, fun h => by cases h⟩
      refine flowG_done [false, false, true] (by kernel_rfl) ?_
      intro w6 hw6
      simp only [List.nil_append, List.cons_append, endH_f, endH_t, endH_nil]
      rintro v1 v2 v3 hm6
      have hm6' : IMapI w6 mr (N + 2) (upd lk color (some (-1))) := hm6
      have hz6 := hw6.size
      have hh6 : IMapI w6 mh NH (hadF had) := HHWF.out.kept hw6 (fun e => by injection e with e; exact hmm e.symm)
      obtain ⟨st2, w7, t1, t2, t3⟩ := entI_of hh6 (by unfold maxLen; omega) (x := (-1)) HRVI.out
      obtain ⟨w8, t4, t5, t6⟩ := t2.2 w7 1 (by unfold InI; omega) rfl
      obtain ⟨hv6, hhv6⟩ : ∃ hv, (hadF had (-1)).getD 0 = hv := ⟨_, rfl⟩
      rw [hhv6] at t1
      have HW6 := hide hw6; have HM6 := hide hm6'; have HT3 := hide t3; have HT5 := hide t5; have HT6 := hide t6
      clear hm6 hm6' hw6 hh6 t2 t3 t5 t6 hhv6
      go_wp2_with fail
      have hz7 := HT3.out.size
      have hz8 := HT6.out.size
      have hblk : ∀ b, b < W1.heap.size → b ≠ mr → b ≠ mh → w8.heap[b]? = W1.heap[b]? := fun b hb h1 h2 => ((HT6.out.block b (by omega) fun e => by injection e with e; exact h2 e).trans (HT3.out.block b (by omega) fun e => by injection e with e; exact h2 e)).trans (HW6.out.block b (by omega) fun e => by injection e with e; exact h1 e)
      have hmr8 : w8.heap[mr]? = w6.heap[mr]? := (HT6.out.block mr (by omega) fun e => by injection e with e; exact hmm e).trans (HT3.out.block mr (by omega) fun e => by injection e with e; exact hmm e)
      have hG8 : GetI w V (z + 1 + 1 + 1) (-1) W1 := HGF.out.1
      have hzw := HZ.out
      have hold : ∀ b, b < w.heap.size → b ≠ mr → b ≠ mh → w8.heap[b]? = w.heap[b]? := fun b hb h1 h2 => ((hblk b (by omega) h1 h2).trans (hG8.old b (by omega) (by omega))).trans (HKV.out.block b hb)
      have hbelow := hG8.below
      have hP : GotP w S g p mr mh par (N + 2) (NH + 2) (acc ++ [(color, got24 (wishes24 p parF color) pool had)]) w8 := by
        obtain ⟨A1', c1', A2', c2', A3', c3', hr', s1', s2', s3'⟩ := HE.out.bd.row
        have hS : ∀ b, S b → b < w.heap.size → w8.heap[b]? = w.heap[b]? := fun b hb hl => hold b hl (hSm b hb).1 (hSm b hb).2
        rw [HGOT.out]
        refine ⟨⟨⟨A1', c1', A2', c2', A3', c3', (hold g hml hgm.1 hgm.2).trans hr', s1'.keep (by omega) hS, s2'.keep (by omega) hS, s3'.keep (by omega) hS⟩, ?_⟩, ?_, ?_, ?_, ?_, by omega, hold⟩
        · have h := HM6.out.keep (w' := w8) hmr8
          have hfe : (fun c => (acc ++ [(color, (-1))]).lookup c) = upd lk color (some (-1)) := by
            rw [← HLK.out]
            funext d
            show (acc ++ [(color, (-1))]).lookup d = _
            rw [lookup_snoc24 acc color (-1) d hcol]
            rfl
          exact hfe ▸ h
        · rw [List.map_append, hhad, List.map_cons, List.map_nil, ← hadF_snoc]
          exact HT5.out
        · exact ((HT6.out.os.trans HT3.out.os).trans HW6.out.os).trans hbelow.os
        · exact ((HT6.out.tape.trans HT3.out.tape).trans HW6.out.tape).trans hbelow.tape
        · exact ((HT6.out.output.trans HT3.out.output).trans HW6.out.output).trans hbelow.output
      have hD8 : w8.heap[D]? = some (.deferred (some [])) := (hblk D (Array.getElem?_eq_some_iff.1 HGF.out.2).1 (by omega) (by omega)).trans HGF.out.2
      refine ⟨by simp, .inl ⟨_, _, rfl, run_takeDeferred hD8, ?_⟩⟩
      refine ⟨_, results_none rfl _ _ _, ⟨_, rfl⟩, ?_⟩
      have hoth : ∀ b, b ≠ D → (w8.putObj D (.deferred none)).heap[b]? = w8.heap[b]? := fun b hb => World.putObj_heap_other (by omega)
      have hps : (w8.putObj D (.deferred none)).heap.size = w8.heap.size := by simp [World.putObj]
      exact ⟨hP.bd.keep (by omega) (hoth g (by omega)) (hoth mr (by omega)) (fun b hb _ => hoth b (by have := HE.out.sl b hb; omega)), hP.had.keep (hoth mh (by omega)), hP.os, hP.tape, hP.output, by have := hP.size; omega, fun b hb h1 h2 => (hoth b (by omega)).trans (hP.block b hb h1 h2)⟩
    · obtain rfl : ix = (j : Int) := by rw [← hix, hj3]; simp
      have HGOT := hide (show got24 (wishes24 p parF color) pool had = x by rw [got_none24 pool had HNO.out, hj2])
      have HJ1 := hide hj1
      have hjn : j < n := by rw [← HS.out.len]; exact (List.getElem?_eq_some_iff.1 hj1).1
      clear hix hj1 hj2 hj3
      gi_wp2_with (gi_at_call 34; refine (callsIn_wide.2 HIX.out).mono ?_; rintro e _ ⟨rfl, u1, rfl⟩; refine Hd.out ?_)
      obtain ⟨W1, hW1⟩ : ∃ W1, W.ext u1 = W1 := ⟨_, rfl⟩
      have j0 : W1.cell? ⟨z, 0, none⟩ = some (.pointer (some ⟨g, 0, none⟩)) := by rw [← hW1]; exact (cell?_ext W u1 _ (by show z < _; omega)).trans k0
      have j1 : W1.cell? ⟨z + 1, 0, none⟩ = some (.slice A n c) := by rw [← hW1]; exact (cell?_ext W u1 _ (by show z + 1 < _; omega)).trans k1
      have j3 : W1.cell? ⟨z + 1 + 1 + 1, 0, none⟩ = some (.int .i64 (-1)) := by rw [← hW1]; exact (cell?_ext W u1 _ (by show z + 1 + 1 + 1 < _; omega)).trans k3
      have j4 : W1.cell? ⟨g, 4, none⟩ = some (.map (some mr)) := by rw [← hW1]; exact (cell?_ext W u1 _ (by show g < _; omega)).trans k4
      have j5 : W1.cell? ⟨g, 5, none⟩ = some (.map (some mh)) := by rw [← hW1]; exact (cell?_ext W u1 _ (by show g < _; omega)).trans k5
      have HG1 := hide (show GetI w V (z + 1 + 1 + 1) (-1) W1 ∧ W1.heap[D]? = some (.deferred (some [])) by rw [← hW1]; exact HWE.out u1)
      have HHW1 := hide (show IMapI W1 mh NH (hadF had) by rw [← hW1]; exact HHW.out.ext u1)
      have HRW1 := hide (show IMapI W1 mr N (fun c => acc.lookup c) by rw [← hW1]; exact HRW.out.ext u1)
      have hs1 := HG1.out.1.size
      have HSW1 := hide (show Sl W1 (fun b => b < w.heap.size) A n c pool by rw [← hW1]; exact HSW.out.ext u1)
      have hgl1 : g < W1.heap.size := by omega
      have hjf : W1.frozen? ⟨z + 1 + 1 + 1, 0, none⟩ = false := by simp [World.frozen?, HG1.out.1.row]
      rw [hW1]
      clear hW1 HIX HWE HG HK HHW HRW HSW k0 k1 k2 k3 k4 k5 hgW hDl hzl hzl0 hzl2 hzw HKW
      refine hide ?_
      obtain ⟨b1, o1, x', rfl, hb1, hx', hxi, d1⟩ := at_int HSW1.out hjn
      obtain rfl : x = x' := by have := HJ1.out; rw [hx'] at this; injection this with this; exact this.symm
      have hrvi : InI x := hxi
      have hji : (j : Int) < n := by omega
      have hzl1 : z + 1 + 1 + 1 < W1.heap.size := by omega
      clear hx'
      gi_wp2
      obtain ⟨W2, hW2⟩ : ∃ W2, W1.setCell ⟨z + 1 + 1 + 1, 0, none⟩ (.int .i64 x) = W2 := ⟨_, rfl⟩
      have hset : ∀ b, b ≠ z + 1 + 1 + 1 → W2.heap[b]? = W1.heap[b]? := fun b hb => by rw [← hW2]; exact Below.heap_setCell W1 ⟨z + 1 + 1 + 1, 0, none⟩ _ b hb
      have HGF := hide (show GetI w V (z + 1 + 1 + 1) x W2 ∧ W2.heap[D]? = some (.deferred (some [])) by
        refine ⟨by rw [← hW2]; exact HG1.out.1.set (by omega) (by omega) x, (hset D (by omega)).trans HG1.out.2⟩)
      have HHWF := hide (HHW1.out.keep (hset mh (by omega)))
      have HRWF := hide (HRW1.out.keep (hset mr (by omega)))
      have hs2 := HGF.out.1.size
      have f0 : W2.cell? ⟨z, 0, none⟩ = some (.pointer (some ⟨g, 0, none⟩)) := (World.cell?_of_block (hset z (by omega))).trans j0
      have f3 : W2.cell? ⟨z + 1 + 1 + 1, 0, none⟩ = some (.int .i64 x) := cell_of_row W2 _ _ _ _ (0, 0) HGF.out.1.row
      have f4 : W2.cell? ⟨g, 4, none⟩ = some (.map (some mr)) := (World.cell?_of_block (hset g (by omega))).trans j4
      have f5 : W2.cell? ⟨g, 5, none⟩ = some (.map (some mh)) := (World.cell?_of_block (hset g (by omega))).trans j5
      rw [hW2]
      clear hW2 j0 j1 j3 j4 j5 d1 hset hjf HG1 HHW1 HRW1 HSW1 hzl1
      obtain ⟨lk, hlk⟩ : ∃ lk : Int → Option Int, (fun c => acc.lookup c) = lk := ⟨_, rfl⟩
      have HLK := hide hlk
      obtain ⟨lv, hlv⟩ : ∃ lv, (lk color).getD 0 = lv := ⟨_, rfl⟩
      have HLV := hide hlv
      have HMR := hide (show IMapI W2 mr N lk from hlk ▸ HRWF.out)
      have hmrW := HMR.out.lt
      have hmhW := HHWF.out.lt
      have HCF := hide (show ∀ w', rowF W2 (some mr) w' → w'.cell? ⟨z, 0, none⟩ = some (.pointer (some ⟨g, 0, none⟩)) ∧ w'.cell? ⟨z + 1 + 1 + 1, 0, none⟩ = some (.int .i64 x) ∧ w'.cell? ⟨g, 4, none⟩ = some (.map (some mr)) ∧ w'.cell? ⟨g, 5, none⟩ = some (.map (some mh)) ∧ z < w'.heap.size ∧ z + 1 + 1 + 1 < w'.heap.size ∧ g < w'.heap.size from fun w' hw' => by
        have hzz := hw'.size
        exact ⟨(World.cell?_of_block (hw'.block z (by omega) fun e => by injection e with e; omega)).trans f0, (World.cell?_of_block (hw'.block (z + 1 + 1 + 1) (by omega) fun e => by injection e with e; omega)).trans f3, (World.cell?_of_block (hw'.block g (by omega) fun e => by injection e with e; omega)).trans f4, (World.cell?_of_block (hw'.block g (by omega) fun e => by injection e with e; omega)).trans f5, by omega, by omega, by omega⟩)
      have HRVI := hide (show InI x from hrvi)
      clear hlk hlv hrvi f0 f3 f4 f5
      refine wpIn_wide.2 ?_
      refine wp_region_G_tail (rowF W2 (some mr)) (extF W2) [11, 13] [11, 12, 13] 14 (by kernel_rfl) rfl (by kernel_rfl) (by kernel_rfl) (fun w' u h => rowF_ext w' u h) (fun _ u ⟨x, hx⟩ => by rw [hx]; exact ext_ext W2 x u) (rowF_drew W2 _) (ext_drew W2) ?_
      simp only [List.take_succ_cons, List.take_zero, List.drop_succ_cons, List.drop_zero]
      repeat (refine flowG_knownF (by kernel_rfl) (fun K hK => ?_); go_simp; first | (refine hK _ ?_; clear hK K) | (apply Exists.intro; refine ⟨fun w' hw' => ?_, hK _ ?_⟩; (obtain ⟨q0, q1, q2, q3, q4, q5, q6⟩ := HCF.out w' hw'; clear hw'; go_simp; try rfl); clear hK K))
      refine flowG_keepG [] (Ent5I mr (N + 2) lk color (.int .i64 lv)) (by kernel_rfl) (Ent5I.stable_ rfl) (by kernel_rfl) ?_ ?_
      · rintro w' hw' ⟨u, rfl⟩
        try simp only [List.nil_append, List.cons_append, useH_f, useH_t, useH_nil]
        obtain ⟨stamp, w1, r1, r2, r3⟩ := entI_of (HMR.out.ext u) (by unfold maxLen; omega) (x := color) hci
        rw [HLV.out] at r1
        have HE2 := hide r2; have HE3 := hide r3
        have HW' := hide hw'
        clear r2 r3 hw'
        go_simp
        exact ⟨⟨stamp, rfl, HE2.out⟩, HW'.out.trans HE3.out, fun h => by cases h⟩
      refine flowG_keepF [true] (Ent6I mr (N + 2) lk color) (by kernel_rfl) (Ent6I.stable_ rfl) ?_ ?_
      · intro w' hw'
        try simp only [List.nil_append, List.cons_append, useH_f, useH_t, useH_nil]
        rintro v' ⟨stamp, rfl, hq⟩
        have HQ := hide hq
        clear hq
        go_simp
        exact ⟨⟨stamp, rfl, HQ.out⟩, hw', fun _ => ext_refl _⟩
      refine flowG_keepF [false, true] (Ent7I mr (N + 2) (upd lk color (some x))) (by kernel_rfl) (Ent7I.stable_ rfl) ?_ ?_
      · intro w' hw'
        try simp only [List.nil_append, List.cons_append, useH_f, useH_t, useH_nil]
        rintro v' ⟨stamp, rfl, hq⟩
        obtain ⟨w3, e1, e2, e3⟩ := hq.2 w' x HRVI.out rfl
        have HE2 := hide e2; have HE3 := hide e3; have HW' := hide hw'
        clear hq e2 e3 hw'
        go_simp
        exact ⟨HE2.out, HW'.out.trans HE3.out, fun h => by cases h⟩
      refine flowG_done [false, false, true] (by kernel_rfl) ?_
      intro w6 hw6
      simp only [List.nil_append, List.cons_append, endH_f, endH_t, endH_nil]
      rintro v1 v2 v3 hm6
      have hm6' : IMapI w6 mr (N + 2) (upd lk color (some x)) := hm6
      have hz6 := hw6.size
      have hh6 : IMapI w6 mh NH (hadF had) := HHWF.out.kept hw6 (fun e => by injection e with e; exact hmm e.symm)
      obtain ⟨st2, w7, t1, t2, t3⟩ := entI_of hh6 (by unfold maxLen; omega) (x := x) HRVI.out
      obtain ⟨w8, t4, t5, t6⟩ := t2.2 w7 1 (by unfold InI; omega) rfl
      obtain ⟨hv6, hhv6⟩ : ∃ hv, (hadF had x).getD 0 = hv := ⟨_, rfl⟩
      rw [hhv6] at t1
      have HW6 := hide hw6; have HM6 := hide hm6'; have HT3 := hide t3; have HT5 := hide t5; have HT6 := hide t6
      clear hm6 hm6' hw6 hh6 t2 t3 t5 t6 hhv6
      go_wp2_with fail
      have hz7 := HT3.out.size
      have hz8 := HT6.out.size
      have hblk : ∀ b, b < W2.heap.size → b ≠ mr → b ≠ mh → w8.heap[b]? = W2.heap[b]? := fun b hb h1 h2 => ((HT6.out.block b (by omega) fun e => by injection e with e; exact h2 e).trans (HT3.out.block b (by omega) fun e => by injection e with e; exact h2 e)).trans (HW6.out.block b (by omega) fun e => by injection e with e; exact h1 e)
      have hmr8 : w8.heap[mr]? = w6.heap[mr]? := (HT6.out.block mr (by omega) fun e => by injection e with e; exact hmm e).trans (HT3.out.block mr (by omega) fun e => by injection e with e; exact hmm e)
      have hG8 : GetI w V (z + 1 + 1 + 1) x W2 := HGF.out.1
      have hzw := HZ.out
      have hold : ∀ b, b < w.heap.size → b ≠ mr → b ≠ mh → w8.heap[b]? = w.heap[b]? := fun b hb h1 h2 => ((hblk b (by omega) h1 h2).trans (hG8.old b (by omega) (by omega))).trans (HKV.out.block b hb)
      have hbelow := hG8.below
      have hP : GotP w S g p mr mh par (N + 2) (NH + 2) (acc ++ [(color, got24 (wishes24 p parF color) pool had)]) w8 := by
        obtain ⟨A1', c1', A2', c2', A3', c3', hr', s1', s2', s3'⟩ := HE.out.bd.row
        have hS : ∀ b, S b → b < w.heap.size → w8.heap[b]? = w.heap[b]? := fun b hb hl => hold b hl (hSm b hb).1 (hSm b hb).2
        rw [HGOT.out]
        refine ⟨⟨⟨A1', c1', A2', c2', A3', c3', (hold g hml hgm.1 hgm.2).trans hr', s1'.keep (by omega) hS, s2'.keep (by omega) hS, s3'.keep (by omega) hS⟩, ?_⟩, ?_, ?_, ?_, ?_, by omega, hold⟩
        · have h := HM6.out.keep (w' := w8) hmr8
          have hfe : (fun c => (acc ++ [(color, x)]).lookup c) = upd lk color (some x) := by
            rw [← HLK.out]
            funext d
            show (acc ++ [(color, x)]).lookup d = _
            rw [lookup_snoc24 acc color x d hcol]
            rfl
          exact hfe ▸ h
        · rw [List.map_append, hhad, List.map_cons, List.map_nil, ← hadF_snoc]
          exact HT5.out
        · exact ((HT6.out.os.trans HT3.out.os).trans HW6.out.os).trans hbelow.os
        · exact ((HT6.out.tape.trans HT3.out.tape).trans HW6.out.tape).trans hbelow.tape
        · exact ((HT6.out.output.trans HT3.out.output).trans HW6.out.output).trans hbelow.output
      have hD8 : w8.heap[D]? = some (.deferred (some [])) := (hblk D (Array.getElem?_eq_some_iff.1 HGF.out.2).1 (by omega) (by omega)).trans HGF.out.2
      refine ⟨by simp, .inl ⟨_, _, rfl, run_takeDeferred hD8, ?_⟩⟩
      refine ⟨_, results_none rfl _ _ _, ⟨_, rfl⟩, ?_⟩
      have hoth : ∀ b, b ≠ D → (w8.putObj D (.deferred none)).heap[b]? = w8.heap[b]? := fun b hb => World.putObj_heap_other (by omega)
      have hps : (w8.putObj D (.deferred none)).heap.size = w8.heap.size := by simp [World.putObj]
      exact ⟨hP.bd.keep (by omega) (hoth g (by omega)) (hoth mr (by omega)) (fun b hb _ => hoth b (by have := HE.out.sl b hb; omega)), hP.had.keep (hoth mh (by omega)), hP.os, hP.tape, hP.output, by have := hP.size; omega, fun b hb h1 h2 => (hoth b (by omega)).trans (hP.block b hb h1 h2)⟩
  case stop =>
    rintro D c pre W hD hpre ⟨rfl, pre0, x, hpx, hno, hok, hG⟩ hK
    rw [hpx] at hpre
    obtain ⟨rest, hrest⟩ := hpre
    have hok' : hasI x pool = true := by unfold okW24 at hok; simp only [Bool.and_eq_true] at hok; exact hok.1
    have hx0 : 0 ≤ x := hp0 x ((hasI_iff _ _).1 hok')
    have HGOT := hide (show got24 (wishes24 p parF color) pool had = x by rw [← hrest, List.append_assoc, List.singleton_append, got_split24 pool had pre0 x rest hno hok])
    have hxm := (hasI_iff _ _).1 hok'
    obtain ⟨q, hq⟩ := List.mem_iff_getElem?.1 hxm
    have hqn : q < n := by rw [← HS.out.len]; exact (List.getElem?_eq_some_iff.1 hq).1
    obtain ⟨b1, o1, x', hA1, hb1, hx', hxi, d1⟩ := at_int HS.out hqn
    have hrvi : InI x := by rw [hx'] at hq; injection hq with hq; rw [← hq]; exact hxi
    have HRI := hide hrvi
    clear hpx hno hok hrest hok' hxm hq hqn hA1 hb1 hx' hxi d1 hrvi
    have hzw := hG.size
    have e0 := (hG.old z (by omega) (by omega)).trans HR0.out
    have e1 := (hG.old (z + 1) (by omega) (by omega)).trans HR1.out
    have e2 := (hG.old (z + 1 + 1) (by omega) (by omega)).trans HR2.out
    have k0 : W.cell? ⟨z, 0, none⟩ = some (.pointer (some ⟨g, 0, none⟩)) := cell_of_row W _ _ _ _ (0, 0) e0
    have k1 : W.cell? ⟨z + 1, 0, none⟩ = some (.slice A n c) := cell_of_row W _ _ _ _ (0, 0) e1
    have k2 : W.cell? ⟨z + 1 + 1, 0, none⟩ = some (.func (.func 32) #[] #[.pointer (some ⟨z, 0, none⟩)]) := cell_of_row W _ _ _ _ (0, 0) e2
    have hkw : KeepX (fun b => b < w.heap.size) w W := ⟨by omega, fun b hb => (hG.old b (by omega) (by omega)).trans (HKV.out.block b hb)⟩
    have HKW := hide hkw
    obtain ⟨A1, c1, A2, c2, A3, c3, hrow, _⟩ := HE.out.bd.row
    have hrowW := (hkw.block g hml).trans hrow
    have k4 : W.cell? ⟨g, 4, none⟩ = some (.map (some mr)) := cell_of_row W g _ _ _ (0, 0) hrowW
    have k5 : W.cell? ⟨g, 5, none⟩ = some (.map (some mh)) := cell_of_row W g _ _ _ (0, 0) hrowW
    have HHW := hide (HHH.out.keep (hkw.block mh hmhl))
    have HRW := hide (HE.out.bd.regs.keep (hkw.block mr hrl))
    have HSW := hide (HS.out.keep (w' := W) hkw.size (fun b hb _ => hkw.block b hb))
    have hgW : g < W.heap.size := by omega
    have HIX := hide (indexInts_any W _ A n c pool (fun r => !hasI r had) 32 #[.pointer (some ⟨z, 0, none⟩)] HSW.out (fun _ _ => by kernel_rfl) (fun x u hx => by
      have h := can24_any (W.ext u) z g mh NH (hadF had) ((cell?_ext W u _ (by show z < _; omega)).trans k0) (by rw [size_ext]; omega) ((cell?_ext W u _ hgW).trans k5) (by rw [size_ext]; omega) (HHW.out.ext u) x hx
      rw [hadF_can] at h
      exact Ret.retX h))
    have hDl := (Array.getElem?_eq_some_iff.1 hK).1
    have HG := hide hG; have HK := hide hK
    have HWE := hide (fun u : Ext => (⟨HG.out.ext (by omega) u, (ext_block W u D hDl).trans HK.out⟩ : GetI w V (z + 1 + 1 + 1) x (W.ext u) ∧ (W.ext u).heap[D]? = some (.deferred (some []))))
    have hzl : z + 1 + 1 + 1 < W.heap.size := by omega
    have hzl0 : z + 1 < W.heap.size := by omega
    have hzl2 : z + 1 + 1 < W.heap.size := by omega
    have k3 : W.cell? ⟨z + 1 + 1 + 1, 0, none⟩ = some (.int .i64 x) := cell_of_row W _ _ _ _ (0, 0) hG.row
    clear hG hK hkw hrow hrowW e0 e1 e2 r0 r1 r2 r3 r4 r5
    obtain ⟨ix, hix⟩ : ∃ ix, idxF (fun r => !hasI r had) 0 pool = ix := ⟨_, rfl⟩
    rw [hix] at HIX
    clear hix
    gi_wp2
    gi_wp2_with (gi_at_call 34; refine (callsIn_wide.2 HIX.out).mono ?_; rintro e _ ⟨rfl, u1, rfl⟩; refine Hd.out ?_)
    obtain ⟨W1, hW1⟩ : ∃ W1, W.ext u1 = W1 := ⟨_, rfl⟩
    have j0 : W1.cell? ⟨z, 0, none⟩ = some (.pointer (some ⟨g, 0, none⟩)) := by rw [← hW1]; exact (cell?_ext W u1 _ (by show z < _; omega)).trans k0
    have j1 : W1.cell? ⟨z + 1, 0, none⟩ = some (.slice A n c) := by rw [← hW1]; exact (cell?_ext W u1 _ (by show z + 1 < _; omega)).trans k1
    have j3 : W1.cell? ⟨z + 1 + 1 + 1, 0, none⟩ = some (.int .i64 x) := by rw [← hW1]; exact (cell?_ext W u1 _ (by show z + 1 + 1 + 1 < _; omega)).trans k3
    have j4 : W1.cell? ⟨g, 4, none⟩ = some (.map (some mr)) := by rw [← hW1]; exact (cell?_ext W u1 _ (by show g < _; omega)).trans k4
    have j5 : W1.cell? ⟨g, 5, none⟩ = some (.map (some mh)) := by rw [← hW1]; exact (cell?_ext W u1 _ (by show g < _; omega)).trans k5
    have HG1 := hide (show GetI w V (z + 1 + 1 + 1) x W1 ∧ W1.heap[D]? = some (.deferred (some [])) by rw [← hW1]; exact HWE.out u1)
    have HHW1 := hide (show IMapI W1 mh NH (hadF had) by rw [← hW1]; exact HHW.out.ext u1)
    have HRW1 := hide (show IMapI W1 mr N (fun c => acc.lookup c) by rw [← hW1]; exact HRW.out.ext u1)
    have hs1 := HG1.out.1.size
    have HSW1 := hide (show Sl W1 (fun b => b < w.heap.size) A n c pool by rw [← hW1]; exact HSW.out.ext u1)
    have hgl1 : g < W1.heap.size := by omega
    have hjf : W1.frozen? ⟨z + 1 + 1 + 1, 0, none⟩ = false := by simp [World.frozen?, HG1.out.1.row]
    rw [hW1]
    clear hW1 HIX HWE HG HK HHW HRW HSW k0 k1 k2 k3 k4 k5 hgW hDl hzl hzl0 hzl2 hzw HKW
    refine hide ?_
    gi_wp2
    have hrvi : InI x := HRI.out
    have HGF := HG1; have HHWF := HHW1; have HRWF := HRW1
    have f0 : W1.cell? ⟨z, 0, none⟩ = some (.pointer (some ⟨g, 0, none⟩)) := j0
    have f3 : W1.cell? ⟨z + 1 + 1 + 1, 0, none⟩ = some (.int .i64 (x)) := j3
    have f4 : W1.cell? ⟨g, 4, none⟩ = some (.map (some mr)) := j4
    have f5 : W1.cell? ⟨g, 5, none⟩ = some (.map (some mh)) := j5
    obtain ⟨lk, hlk⟩ : ∃ lk : Int → Option Int, (fun c => acc.lookup c) = lk := ⟨_, rfl⟩
    have HLK := hide hlk
    obtain ⟨lv, hlv⟩ : ∃ lv, (lk color).getD 0 = lv := ⟨_, rfl⟩
    have HLV := hide hlv
    have HMR := hide (show IMapI W1 mr N lk from hlk ▸ HRWF.out)
    have hmrW := HMR.out.lt
    have hmhW := HHWF.out.lt
    have HCF := hide (show ∀ w', rowF W1 (some mr) w' → w'.cell? ⟨z, 0, none⟩ = some (.pointer (some ⟨g, 0, none⟩)) ∧ w'.cell? ⟨z + 1 + 1 + 1, 0, none⟩ = some (.int .i64 x) ∧ w'.cell? ⟨g, 4, none⟩ = some (.map (some mr)) ∧ w'.cell? ⟨g, 5, none⟩ = some (.map (some mh)) ∧ z < w'.heap.size ∧ z + 1 + 1 + 1 < w'.heap.size ∧ g < w'.heap.size from fun w' hw' => by
      have hzz := hw'.size
      exact ⟨(World.cell?_of_block (hw'.block z (by omega) fun e => by injection e with e; omega)).trans f0, (World.cell?_of_block (hw'.block (z + 1 + 1 + 1) (by omega) fun e => by injection e with e; omega)).trans f3, (World.cell?_of_block (hw'.block g (by omega) fun e => by injection e with e; omega)).trans f4, (World.cell?_of_block (hw'.block g (by omega) fun e => by injection e with e; omega)).trans f5, by omega, by omega, by omega⟩)
    have HRVI := hide (show InI x from hrvi)
    clear hlk hlv hrvi f0 f3 f4 f5
    refine wpIn_wide.2 ?_
    refine wp_region_G_tail (rowF W1 (some mr)) (extF W1) [11, 13] [11, 12, 13] 14 (by kernel_rfl) rfl (by kernel_rfl) (by kernel_rfl) (fun w' u h => rowF_ext w' u h) (fun _ u ⟨x, hx⟩ => by rw [hx]; exact ext_ext W1 x u) (rowF_drew W1 _) (ext_drew W1) ?_
    simp only [List.take_succ_cons, List.take_zero, List.drop_succ_cons, List.drop_zero]
    repeat (refine flowG_knownF (by kernel_rfl) (fun K hK => ?_); go_simp; first | (refine hK _ ?_; clear hK K) | (apply Exists.intro; refine ⟨fun w' hw' => ?_, hK _ ?_⟩; (obtain ⟨q0, q1, q2, q3, q4, q5, q6⟩ := HCF.out w' hw'; clear hw'; go_simp; try rfl); clear hK K))
    refine flowG_keepG [] (Ent5I mr (N + 2) lk color (.int .i64 lv)) (by kernel_rfl) (Ent5I.stable_ rfl) (by kernel_rfl) ?_ ?_
    · rintro w' hw' ⟨u, rfl⟩
      try simp only [List.nil_append, List.cons_append, useH_f, useH_t, useH_nil]
      obtain ⟨stamp, w1, r1, r2, r3⟩ := entI_of (HMR.out.ext u) (by unfold maxLen; omega) (x := color) hci
      rw [HLV.out] at r1
      have HE2 := hide r2; have HE3 := hide r3
      have HW' := hide hw'
      clear r2 r3 hw'
      go_simp
      exact ⟨⟨stamp, rfl, HE2.out⟩, HW'.out.trans HE3.out, fun h => by cases h⟩
    refine flowG_keepF [true] (Ent6I mr (N + 2) lk color) (by kernel_rfl) (Ent6I.stable_ rfl) ?_ ?_
    · intro w' hw'
      try simp only [List.nil_append, List.cons_append, useH_f, useH_t, useH_nil]
      rintro v' ⟨stamp, rfl, hq⟩
      have HQ := hide hq
      clear hq
      go_simp
      exact ⟨⟨stamp, rfl, HQ.out⟩, hw', fun _ => ext_refl _⟩
    refine flowG_keepF [false, true] (Ent7I mr (N + 2) (upd lk color (some x))) (by kernel_rfl) (Ent7I.stable_ rfl) ?_ ?_
    · intro w' hw'
      try simp only [List.nil_append, List.cons_append, useH_f, useH_t, useH_nil]
      rintro v' ⟨stamp, rfl, hq⟩
      obtain ⟨w3, e1, e2, e3⟩ := hq.2 w' x HRVI.out rfl
      have HE2 := hide e2; have HE3 := hide e3; have HW' := hide hw'
      clear hq e2 e3 hw'
      go_simp
      exact ⟨HE2.out, HW'.out.trans HE3.out, fun h => by cases h⟩
    refine flowG_done [false, false, true] (by kernel_rfl) ?_
    intro w6 hw6
    simp only [List.nil_append, List.cons_append, endH_f, endH_t, endH_nil]
    rintro v1 v2 v3 hm6
    have hm6' : IMapI w6 mr (N + 2) (upd lk color (some x)) := hm6
    have hz6 := hw6.size
    have hh6 : IMapI w6 mh NH (hadF had) := HHWF.out.kept hw6 (fun e => by injection e with e; exact hmm e.symm)
    obtain ⟨st2, w7, t1, t2, t3⟩ := entI_of hh6 (by unfold maxLen; omega) (x := x) HRVI.out
    obtain ⟨w8, t4, t5, t6⟩ := t2.2 w7 1 (by unfold InI; omega) rfl
    obtain ⟨hv6, hhv6⟩ : ∃ hv, (hadF had x).getD 0 = hv := ⟨_, rfl⟩
    rw [hhv6] at t1
    have HW6 := hide hw6; have HM6 := hide hm6'; have HT3 := hide t3; have HT5 := hide t5; have HT6 := hide t6
    clear hm6 hm6' hw6 hh6 t2 t3 t5 t6 hhv6
    go_wp2_with fail
    have hz7 := HT3.out.size
    have hz8 := HT6.out.size
    have hblk : ∀ b, b < W1.heap.size → b ≠ mr → b ≠ mh → w8.heap[b]? = W1.heap[b]? := fun b hb h1 h2 => ((HT6.out.block b (by omega) fun e => by injection e with e; exact h2 e).trans (HT3.out.block b (by omega) fun e => by injection e with e; exact h2 e)).trans (HW6.out.block b (by omega) fun e => by injection e with e; exact h1 e)
    have hmr8 : w8.heap[mr]? = w6.heap[mr]? := (HT6.out.block mr (by omega) fun e => by injection e with e; exact hmm e).trans (HT3.out.block mr (by omega) fun e => by injection e with e; exact hmm e)
    have hG8 : GetI w V (z + 1 + 1 + 1) x W1 := HGF.out.1
    have hzw := HZ.out
    have hold : ∀ b, b < w.heap.size → b ≠ mr → b ≠ mh → w8.heap[b]? = w.heap[b]? := fun b hb h1 h2 => ((hblk b (by omega) h1 h2).trans (hG8.old b (by omega) (by omega))).trans (HKV.out.block b hb)
    have hbelow := hG8.below
    have hP : GotP w S g p mr mh par (N + 2) (NH + 2) (acc ++ [(color, got24 (wishes24 p parF color) pool had)]) w8 := by
      obtain ⟨A1', c1', A2', c2', A3', c3', hr', s1', s2', s3'⟩ := HE.out.bd.row
      have hS : ∀ b, S b → b < w.heap.size → w8.heap[b]? = w.heap[b]? := fun b hb hl => hold b hl (hSm b hb).1 (hSm b hb).2
      rw [HGOT.out]
      refine ⟨⟨⟨A1', c1', A2', c2', A3', c3', (hold g hml hgm.1 hgm.2).trans hr', s1'.keep (by omega) hS, s2'.keep (by omega) hS, s3'.keep (by omega) hS⟩, ?_⟩, ?_, ?_, ?_, ?_, by omega, hold⟩
      · have h := HM6.out.keep (w' := w8) hmr8
        have hfe : (fun c => (acc ++ [(color, x)]).lookup c) = upd lk color (some x) := by
          rw [← HLK.out]
          funext d
          show (acc ++ [(color, x)]).lookup d = _
          rw [lookup_snoc24 acc color x d hcol]
          rfl
        exact hfe ▸ h
      · rw [List.map_append, hhad, List.map_cons, List.map_nil, ← hadF_snoc]
        exact HT5.out
      · exact ((HT6.out.os.trans HT3.out.os).trans HW6.out.os).trans hbelow.os
      · exact ((HT6.out.tape.trans HT3.out.tape).trans HW6.out.tape).trans hbelow.tape
      · exact ((HT6.out.output.trans HT3.out.output).trans HW6.out.output).trans hbelow.output
    have hD8 : w8.heap[D]? = some (.deferred (some [])) := (hblk D (Array.getElem?_eq_some_iff.1 HGF.out.2).1 (by omega) (by omega)).trans HGF.out.2
    refine ⟨by simp, .inl ⟨_, _, rfl, run_takeDeferred hD8, ?_⟩⟩
    refine ⟨_, results_none rfl _ _ _, ⟨_, rfl⟩, ?_⟩
    have hoth : ∀ b, b ≠ D → (w8.putObj D (.deferred none)).heap[b]? = w8.heap[b]? := fun b hb => World.putObj_heap_other (by omega)
    have hps : (w8.putObj D (.deferred none)).heap.size = w8.heap.size := by simp [World.putObj]
    exact ⟨hP.bd.keep (by omega) (hoth g (by omega)) (hoth mr (by omega)) (fun b hb _ => hoth b (by have := HE.out.sl b hb; omega)), hP.had.keep (hoth mh (by omega)), hP.os, hP.tape, hP.output, by have := hP.size; omega, fun b hb h1 h2 => (hoth b (by omega)).trans (hP.block b hb h1 h2)⟩
end Go.Proofs.Ytbppamjogdjfkaa
