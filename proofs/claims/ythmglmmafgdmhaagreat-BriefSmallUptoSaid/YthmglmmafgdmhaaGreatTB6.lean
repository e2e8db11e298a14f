/- Walks: the rows of a brief's colors. -/
import Derived.Test.YthmglmmafgdmhaaGreatTB5
import Derived.Test.YthmglmmafgdmhaaGreatKY
import Derived.Test.YthmglmmafgdmhaaGreatFlowR2
set_option linter.unusedSimpArgs false
set_option linter.unusedVariables false
namespace Go.Proofs.YthmglmmafgdmhaaGreat
open Go.RowKit Go.Shelf Go.Maps
attribute [local go_sem] Oper.semAt_some

/-- It returns rows that it has made. -/
def RetRows (xss : List (List Int)) (w : World) (e : Ending) (w' : World) : Prop :=
  ∃ (v : Value) (hs : List Hdr), e = .returned v ∧ hs.length = xss.length ∧ OwnL w' w.heap.size 22 (fun _ => False) v hs ∧ RowsO w' w.heap.size hs (fun k => (xss[k]?).getD []) ∧ Below w.heap.size w w'
theorem zeroSl_run (w : World) : (zeroValue 22).run Tryz.prog w = .ok (.slice none 0 0) w := by kernel_rfl
noncomputable def rE : ElT Tryz.prog OHdr := ohdrE 22 zeroSl_run
abbrev IMapR (w : World) (b n : Nat) (f : Int → Option OHdr) : Prop := MapP iK rE w b n f
/-- The rows' headers, as the keys come. -/
def rowsH (F : Int → Option OHdr) (L : List Int) : List Hdr := L.map fun c => ((F c).getD ⟨none, 0, 0⟩).h
theorem info_sl : (Tryz.prog.info? 22).map (fun i => (i.zero, i.size, i.bytes)) = some (some (.slice none 0 0), 1, 24) := by kernel_rfl
/-- A step that turns a row of cells keeps whatever is no cells. -/
theorem KeepsFrom.of_cells {B : Nat} {W W' : World} {row : Option Nat} (hg : W.grownBy W' row) (hr : ∀ r, row = some r → ∃ cs T, W.heap[r]? = some (.cells cs T (0, 0))) : KeepsFrom B W W' :=
  ⟨hg.size, fun k o _ hk ho => (hg.block k (Array.getElem?_eq_some_iff.1 hk).1 fun e => by
    obtain ⟨cs, T, hc⟩ := hr k e.symm
    rw [hk] at hc
    injection hc with hc
    subst hc
    cases ho).trans hk⟩
/-- Between two rounds: the rows of what has come. -/
def RowsI (w : World) (mb : Nat) (pre : List VC) (W : World) : Prop :=
  mb + 3 ≤ W.heap.size ∧ W.heap[mb + 1]? = some (.cells #[.map (some mb)] 92 (0, 0)) ∧ (∃ F, IMapR W mb pre.length F ∧ RowsM W (mb + 3) F (fun c => rowC c (unVC pre))) ∧ Below w.heap.size w W
theorem RowsI.own {w : World} {mb B : Nat} (hB : w.heap.size ≤ B) (hm : mb + 3 ≤ B) (hwm : w.heap.size ≤ mb) : OwnFrom B (RowsI w mb) := fun pre W W' row ⟨hz, hc, ⟨F, h1, h2⟩, h3⟩ hg hr => by
  have hne : ∀ r, row = some r → B ≤ r := fun r e => (hr r e).1
  refine ⟨Nat.le_trans hz hg.size, (hg.block (mb + 1) (Array.getElem?_eq_some_iff.1 hc).1 fun e => by have := hne _ e.symm; omega).trans hc, ⟨F, h1.kept hg fun e => by have := hne _ e.symm; omega, h2.kept_other hg fun r e => (hr r e).2⟩, h3.grown hg h3.size fun r e => by have := hne r e; omega⟩
set_option maxRecDepth 100000 in
set_option maxHeartbeats 4000000 in
theorem apart_wrong (w : World) (S : Nat → Prop) (b : Brief) (A1 A2 A3 : Option Addr) (n1 c1 n2 c2 n3 c3 : Nat) (h1 : Sl w S A1 n1 c1 b.vars) (h2 : Sl w S A2 n2 c2 b.colors) (h3 : Sl w S A3 n3 c3 b.edge) (hr : rightB b = false) :
    Calls Tryz.prog 19 #[.agg #[.slice A1 n1 c1, .slice A2 n2 c2, .slice A3 n3 c3]] w (RetRows [] w) := by
  obtain ⟨W0, hW0⟩ : ∃ W0, w.alloc (.cells #[.slice A1 n1 c1, .slice A2 n2 c2, .slice A3 n3 c3] 43) = W0 := ⟨_, rfl⟩
  obtain ⟨g, hg⟩ : ∃ g, w.heap.size = g := ⟨_, rfl⟩
  have hrow : W0.heap[g]? = some (.cells #[.slice A1 n1 c1, .slice A2 n2 c2, .slice A3 n3 c3] 43 (0, 0)) := by rw [← hW0, ← hg]; exact heap_alloc_new w _
  have k0 : W0.cell? ⟨g, 0, none⟩ = some (.slice A1 n1 c1) := cell_of_row W0 g _ _ _ (0, 0) hrow
  have k1 : W0.cell? ⟨g, 1, none⟩ = some (.slice A2 n2 c2) := cell_of_row W0 g _ _ _ (0, 0) hrow
  have k2 : W0.cell? ⟨g, 2, none⟩ = some (.slice A3 n3 c3) := cell_of_row W0 g _ _ _ (0, 0) hrow
  have hgl : g < W0.heap.size := by rw [← hW0, ← hg]; simp
  have HB0 := hide (show Below w.heap.size w W0 by rw [← hW0]; exact (Below.refl _ _).alloc (Nat.le_refl _) _)
  have HR := hide (show Calls Tryz.prog 20 #[.agg #[.slice A1 n1 c1, .slice A2 n2 c2, .slice A3 n3 c3]] W0 (RetX (.bool false) W0) from hr ▸ rightB_any W0 S b A1 A2 A3 n1 c1 n2 c2 n3 c3 (by rw [← hW0]; exact h1.alloc _) (by rw [← hW0]; exact h2.alloc _) (by rw [← hW0]; exact h3.alloc _))
  clear h1 h2 h3 hrow
  have hf1 : Fence.wide.fn 20 := trivial
  have hf2 : Fence.wide.fn 40 := trivial
  have hf3 : Fence.wide.fn 43 := trivial
  have hf4 : Fence.wide.fn 41 := trivial
  refine (callsIn_wide (n := 8)).1 ?_
  refine callsIn_of_wp_marks Tryz.func19 rfl trivial ?_ rfl
  simp only [Tryz.ntmps19, List.size_toArray, List.length_cons, List.length_nil, Nat.reduceAdd, Nat.reduceSub, Array.replicate_succ, Array.replicate_zero, List.push_toArray, List.append_toArray, List.nil_append, List.cons_append]
  gi_wp2_with (gi_at_call 20; refine (callsIn_wide.2 HR.out).mono ?_; rintro e _ ⟨rfl, u1, rfl⟩)
  refine ⟨_, results_tmp rfl _ _ _, _, [], rfl, rfl, OwnL.nil_ _ _ _ _, ⟨fun k h hk => by simp at hk, fun j k x y g hj => by simp at hj⟩, HB0.out.ext HB0.out.size _⟩
set_option maxRecDepth 100000 in
set_option maxHeartbeats 4000000 in
theorem apart_right (w : World) (S : Nat → Prop) (b : Brief) (A1 A2 A3 : Option Addr) (n1 c1 n2 c2 n3 c3 : Nat) (h1 : Sl w S A1 n1 c1 b.vars) (h2 : Sl w S A2 n2 c2 b.colors) (h3 : Sl w S A3 n3 c3 b.edge) (hr : rightB b = true) :
    Calls Tryz.prog 19 #[.agg #[.slice A1 n1 c1, .slice A2 n2 c2, .slice A3 n3 c3]] w (RetRows (apartB b) w) := by
  have R := rightB_of hr
  obtain ⟨W0, hW0⟩ : ∃ W0, w.alloc (.cells #[.slice A1 n1 c1, .slice A2 n2 c2, .slice A3 n3 c3] 43) = W0 := ⟨_, rfl⟩
  obtain ⟨g, hg⟩ : ∃ g, w.heap.size = g := ⟨_, rfl⟩
  have hrow : W0.heap[g]? = some (.cells #[.slice A1 n1 c1, .slice A2 n2 c2, .slice A3 n3 c3] 43 (0, 0)) := by rw [← hW0, ← hg]; exact heap_alloc_new w _
  have k0 : W0.cell? ⟨g, 0, none⟩ = some (.slice A1 n1 c1) := cell_of_row W0 g _ _ _ (0, 0) hrow
  have k1 : W0.cell? ⟨g, 1, none⟩ = some (.slice A2 n2 c2) := cell_of_row W0 g _ _ _ (0, 0) hrow
  have k2 : W0.cell? ⟨g, 2, none⟩ = some (.slice A3 n3 c3) := cell_of_row W0 g _ _ _ (0, 0) hrow
  have hgl : g < W0.heap.size := by rw [← hW0, ← hg]; simp
  have HB0 := hide (show Below w.heap.size w W0 by rw [← hW0]; exact (Below.refl _ _).alloc (Nat.le_refl _) _)
  have HR := hide (show Calls Tryz.prog 20 #[.agg #[.slice A1 n1 c1, .slice A2 n2 c2, .slice A3 n3 c3]] W0 (RetX (.bool true) W0) from hr ▸ rightB_any W0 S b A1 A2 A3 n1 c1 n2 c2 n3 c3 (by rw [← hW0]; exact h1.alloc _) (by rw [← hW0]; exact h2.alloc _) (by rw [← hW0]; exact h3.alloc _))
  have H1 := hide h1; have H2 := hide h2; have H3 := hide h3
  have HROW := hide hrow
  clear h1 h2 h3 hrow
  have hmm := @run_makeMap Tryz.prog
  have hf1 : Fence.wide.fn 20 := trivial
  have hf2 : Fence.wide.fn 40 := trivial
  have hf3 : Fence.wide.fn 43 := trivial
  have hf4 : Fence.wide.fn 41 := trivial
  refine (callsIn_wide (n := 8)).1 ?_
  refine callsIn_of_wp_marks Tryz.func19 rfl trivial ?_ rfl
  simp only [Tryz.ntmps19, List.size_toArray, List.length_cons, List.length_nil, Nat.reduceAdd, Nat.reduceSub, Array.replicate_succ, Array.replicate_zero, List.push_toArray, List.append_toArray, List.nil_append, List.cons_append]
  gi_wp2_with (first
    | (gi_at_call 20; refine (callsIn_wide.2 HR.out).mono ?_; rintro e _ ⟨rfl, u1, rfl⟩)
    | (gi_at_call 40; refine (each_in Fence.wide _ trivial rfl _ _ _ _ _ _ _ _ _ _).mono ?_; rintro e _ ⟨rfl, rfl⟩))
  obtain ⟨W1, hW1⟩ : ∃ W1, W0.ext u1 = W1 := ⟨_, rfl⟩
  obtain ⟨mb, hmb⟩ : ∃ mb, W0.heap.size + u1.blocks.size = mb := ⟨_, rfl⟩
  have hs1 : W1.heap.size = mb := by rw [← hW1, size_ext, hmb]
  have hb1 : Below w.heap.size w W1 := by rw [← hW1]; exact HB0.out.ext HB0.out.size _
  rw [hW1, hmb]
  obtain ⟨V, hV⟩ : ∃ V, ((W1.alloc (.map #[] 0)).alloc (.cells #[.map (some mb)] 92)).alloc (.cells #[.slice A1 n1 c1, .slice A2 n2 c2, .slice A3 n3 c3] 43) = V := ⟨_, rfl⟩
  rw [hV]
  have hwm : w.heap.size ≤ mb := by have := hb1.size; omega
  have hVs : V.heap.size = mb + 3 := by rw [← hV]; simp; omega
  have hBV : Below w.heap.size w V := by rw [← hV]; exact ((hb1.alloc (by omega) _).alloc (by simp; omega) _).alloc (by simp; omega) _
  have hm0 : IMapR V mb 0 (fun _ => none) := by
    have h := (MapP.made (K := iK) (E := rE) W1)
    rw [hs1] at h
    rw [← hV]; exact (h.alloc _).alloc _
  have hc0 : V.heap[mb + 1]? = some (.cells #[.map (some mb)] 92 (0, 0)) := by
    have e : (W1.alloc (.map #[] 0)).heap.size = mb + 1 := by simp; omega
    rw [← hV, Below.heap_alloc _ _ _ (by simp; omega), ← e]
    exact heap_alloc_new _ _
  have hbx : BoxB V (mb + 2) (fun g => g < w.heap.size) b := by
    have e : ((W1.alloc (.map #[] 0)).alloc (.cells #[.map (some mb)] 92)).heap.size = mb + 2 := by simp; omega
    refine ⟨A1, n1, c1, A2, n2, c2, A3, n3, c3, ?_, (H1.out.more fun _ hb _ => hb).belowAll hBV, (H2.out.more fun _ hb _ => hb).belowAll hBV, (H3.out.more fun _ hb _ => hb).belowAll hBV⟩
    rw [← hV, ← e]
    exact heap_alloc_new _ _
  clear hV hW1 hmb
  have hwV : w.heap.size ≤ V.heap.size := hBV.size
  refine wpIn_rangeFunc_ownG rfl (by omega) (gf := 64) (lb := #[.pointer (some ⟨mb + 2, 0, none⟩)]) rfl trivial (enters_of Tryz.func64 (by kernel_rfl) rfl)
    (each_stops Fence.wide _ trivial rfl (by omega) (mb + 2) (fun g => g < w.heap.size ∨ g = mb + 2) _ b R V hbx (.inr rfl) (fun _ h => .inl h)) (fun h k => h.trans k) (keepX_b (by rintro g (h | h) <;> omega)) (Below.refl _ _) (fun _ => rfl)
    (RowsI w mb) (fun _ _ _ => False) (RowsI.own hwV (by omega) hwm) (fun _ _ _ _ _ hs _ _ => hs) ⟨by omega, hc0, ⟨_, hm0, RowsM.made _ _ fun _ => rfl⟩, hBV⟩
    (fun x => { tmps := #[.agg #[.slice A1 n1 c1, .slice A2 n2 c2, .slice A3 n3 c3], .pointer (some ⟨g, 0, none⟩), .slice none 0 0, .pointer (some ⟨mb + 1, 0, none⟩), .int .i64 x.1.1, .int .i64 x.1.2, undef, undef, .agg #[.slice A1 n1 c1, .slice A2 n2 c2, .slice A3 n3 c3], .bool true, .bool false, .map (some mb), .agg #[.slice A1 n1 c1, .slice A2 n2 c2, .slice A3 n3 c3], .func (.func 64) #[] #[.pointer (some ⟨mb + 2, 0, none⟩)], .int .i64 x.1.1, .int .i64 x.1.2, undef, undef, undef, undef, undef, undef, undef, undef, undef, undef, undef, undef, undef, undef, undef, undef, undef, undef, undef, undef, undef, undef, undef, undef, undef], defers := [] }) ?assign ?body ?done ?stop
  case assign =>
    intro l x W K hK
    gi_wp2
    exact hK
  case body =>
    rintro l pre x W ⟨hz, hc, ⟨F, hm, hR⟩, hB⟩ hlen
    obtain ⟨⟨v, c⟩, hxv, hxc⟩ := x
    dsimp only at hxv hxc ⊢
    have hIv : InI v := by unfold InI; omega
    have hIc : InI c := by unfold InI; omega
    have c1 : W.cell? ⟨mb + 1, 0, none⟩ = some (.map (some mb)) := cell_of_row W (mb + 1) _ _ _ (0, 0) hc
    have hcl : mb + 1 < W.heap.size := (Array.getElem?_eq_some_iff.1 hc).1
    obtain ⟨h0, hh0⟩ : ∃ h0, (F c).getD ⟨none, 0, 0⟩ = h0 := ⟨_, rfl⟩
    have hO := hR.getD c
    rw [hh0] at hO
    have hlen2 : (rowC c (unVC pre)).length ≤ 200 := by
      have := rising_few R.rise
      unfold rowC unVC
      rw [List.length_map]
      have h2 := List.length_filter_le (fun p : Int × Int => p.2 == c) (pre.map (·.1))
      rw [List.length_map] at h2
      omega
    have hq : ∀ u : Ext, (Instr.lookup 92 (.map (some mb)) (.int .i64 c) false).run Tryz.prog (W.ext u) = .ok h0.v (W.ext u) := fun u => by
      have h := MapP.get (K := iK) (E := rE) (hm.ext u) Tryz.underlying92 (x := c) hIc
      change _ = Result.ok (OHdr.v ((F c).getD ⟨none, 0, 0⟩)) _ at h
      rw [hh0] at h
      exact h
    have hOb : ∀ r, h0.v.ownBlock = some r → mb + 3 ≤ r ∧ r < W.heap.size := fun r e => hO.below_ r e
    have HC := hide hc; have HM := hide hm; have HRR := hide hR; have HBB := hide hB; have HO := hide hO; have HH := hide hh0
    clear hc hm hR hB hO hh0
    have hxcB : -1 ≤ c ∧ c ≤ 63 := hxc
    obtain ⟨i0, hi, hz, hz1, hz2⟩ := info_parts info_int
    have HI0 := hide hi; have HZ := hide hz; have HZ1 := hide hz1; have HZ2 := hide hz2
    clear hi hz hz1 hz2
    gi_wp2
    refine round_row_last (h0.v.ownBlock) [7] [6, 7] 8 (by kernel_rfl) (by kernel_rfl) rfl rfl rfl (by kernel_rfl) (by kernel_rfl) ?_
    simp only [List.take_succ_cons, List.take_zero]
    refine flowG_knownW (by kernel_rfl) (fun K hK => ?_)
    refine ⟨.map (some mb), fun w' hw' => ?_, hK _ ?_⟩
    · have c1' : w'.cell? ⟨mb + 1, 0, none⟩ = some (.map (some mb)) := cell_of_row w' (mb + 1) _ _ _ (0, 0) ((hw'.block (mb + 1) hcl fun e => by have := (hOb _ e.symm).1; omega).trans HC.out)
      go_simp
    clear hK K
    repeat (refine flowG_known (by kernel_rfl) (fun K hK => ?_); go_simp; (first | (refine hK _ ?_; clear hK K) | (apply Exists.intro; refine ⟨fun w' => ?_, hK _ ?_⟩; (fail); clear hK K)))
    repeat (refine flowG_known0 (by kernel_rfl) (by kernel_rfl) (fun K hK => ?_); go_simp; (first | (refine hK _ ?_; clear hK K) | (apply Exists.intro; refine ⟨fun _ => ?_, hK _ ?_⟩; (fail); clear hK K)))
    refine flowG_keep [] (LitP 3 [.int .i64 v] 1) (by kernel_rfl) (LitP.stable_ rfl) (by kernel_rfl) ?_ ?_
    · intro u hu
      try simp only [List.nil_append, List.cons_append, useH_f, useH_t, useH_nil]
      go_simp
      exact ⟨LitP.mk_ (us := [.int .i64 v]) (by rw [size_ext]), onW_row_alloc hu⟩
    refine flowG_keep [true] (PushP (mb + 3) 3 (fun _ => False) h0.v.ownBlock W.heap.size (rowC c (unVC pre) ++ [v])) (by kernel_rfl) (PushP.stable_ rfl) (by kernel_rfl) ?_ ?_
    · intro u hu
      try simp only [List.nil_append, List.cons_append, useH_f, useH_t, useH_nil]
      intro v1 hv1
      have hsz := HBB.out.size
      exact HeldAt.push_own (α := Int) rfl (.tmp 20) (.tmp 22) 22 rfl (mb + 3) 3 i0 _ 8 Tryz.underlying22 HI0.out HZ.out HZ1.out HZ2.out rfl (by decide) (fun _ => False) (fun _ => False) h0.v _ _ [.int .i64 v] 3 rfl (HO.out.ext u) (by go_simp) hv1 ⟨rfl, hIv⟩ (fun _ h => h) (fun _ _ h => h) (fun _ h => h.elim) (by omega) (by omega) (by rw [size_ext]; omega) hu
    refine flowG_done [false, true] (by kernel_rfl) ?_
    intro w6 h6
    simp only [List.nil_append, List.cons_append, endH_f, endH_t, endH_nil]
    rintro v8 v9 ⟨hown9, hv9, _⟩
    obtain ⟨h9, rfl, hn9⟩ := hown9.ohdr
    have hm6 := HM.out.kept h6 fun e => by have := (hOb _ e.symm).1; omega
    have HW9 := hide hown9; have HV9 := hide hv9; have H6 := hide h6
    clear hown9 hv9 h6
    go_simp
    refine wpList_put_map (K := iK) (E := rE) rfl (.tmp 16) (.tmp 17) (.tmp 23) 92 rfl Tryz.underlying92 rfl hm6 (by have := rising_few R.rise; unfold maxLen; omega) c rfl hIc h9 rfl trivial ?_
    intro w7 hm7 hg7
    have hb6 := H6.out.size
    have hb7 := hg7.size
    have hblk : ∀ r, r < mb + 3 → r ≠ mb → w7.heap[r]? = W.heap[r]? := fun r hr hne => (hg7.block r (by omega) fun e => hne (by injection e)).trans (H6.out.block r (by omega) fun e => by have := (hOb _ e.symm).1; omega)
    have hbW : Below w.heap.size w w7 := (HBB.out.grown H6.out (by omega) fun r e => by have := (hOb r e).1; omega).grown hg7 (by omega) fun r e => by injection e with e; omega
    refine ⟨rfl, ?_, ?_, ?_⟩
    · refine (KeepsFrom.of_cells H6.out fun r e => by obtain ⟨cur, h⟩ := HO.out.cellsB e; exact ⟨cur, _, h⟩).trans (KeepsFrom.of_grownBy hg7 fun j e => by injection e with e; omega)
    · exact ⟨by omega, fun r hr => hblk r (by omega) (by omega)⟩
    · refine ⟨by omega, (hblk (mb + 1) (by omega) (by omega)).trans HC.out, ⟨upd F c (some h9), ?_, ?_⟩, hbW⟩
      · rw [List.length_append]; exact hm7
      · have hne7 : ∀ r, h9.b = some r → r ≠ mb := fun r e => by have := (HW9.out.below_ r (by rw [OHdr.own]; exact e)).1; omega
        refine HRR.out.put (xs := rowC c (unVC pre) ++ [v]) (by omega) (fun r hB3 hr hne => ?_) ?_ ?_ ?_ ?_
        · have hr0 : some r ≠ h0.v.ownBlock := by
            rw [HH.out] at hne
            rw [OHdr.own]; exact fun e => hne e.symm
          have hrm : r ≠ mb := by omega
          exact (hg7.block r (by omega) fun e => hrm (by injection e)).trans (H6.out.block r hr hr0)
        · exact HW9.out.keep hb7 (fun _ h => h.elim) fun r hr => hg7.block r (HW9.out.below_ r hr).2 fun e => by rw [OHdr.own] at hr; injection e with e; exact hne7 r hr e
        · rw [HH.out]
          rcases HV9.out with h | ⟨r, h, hr⟩
          · rw [OHdr.own, OHdr.own] at h; exact .inl h
          · rw [OHdr.own] at h
            exact .inr fun r' e => by rw [h] at e; injection e with e; omega
        · intro d
          show rowC d (unVC (pre ++ [_])) = _
          unfold unVC
          rw [List.map_append]
          show rowC d (pre.map (·.1) ++ [(v, c)]) = _
          rw [rowC_snoc]
          by_cases hd : c = d
          · rw [if_pos hd, if_pos hd.symm, hd]
          · rw [if_neg hd, if_neg fun e => hd e.symm]
        · simp
  case done =>
    rintro D ys W hD hys ⟨hz, hc, ⟨F, hm, hR⟩, hB⟩ hK
    have c1 : W.cell? ⟨mb + 1, 0, none⟩ = some (.map (some mb)) := cell_of_row W (mb + 1) _ _ _ (0, 0) hc
    have hcl : mb + 1 < W.heap.size := (Array.getElem?_eq_some_iff.1 hc).1
    rw [hys] at hR
    have hlen : ys.length ≤ 200 := by
      have h1 := congrArg List.length hys
      rw [List.length_map, vc_len R] at h1
      have := rising_few R.rise
      omega
    have HC := hide hc; have HM := hide hm; have HRR := hide hR; have HBB := hide hB; have HKD := hide hK
    clear hc hm hR hB hK
    obtain ⟨w2, hdel, hm2, hg2⟩ := HM.out.del (K := iK) (E := rE) Tryz.underlying92 0 (x := (-1 : Int)) (by show InI (-1); unfold InI; omega)
    change (Builtin.delete_ #[92, 3] 0 #[.map (some mb), .int .i64 (-1)]).run Tryz.prog W = Result.ok (.tuple #[]) w2 at hdel
    have HM2 := hide hm2; have HG2 := hide hg2
    have c2 : w2.cell? ⟨mb + 1, 0, none⟩ = some (.map (some mb)) := cell_of_row w2 (mb + 1) _ _ _ (0, 0) ((hg2.block (mb + 1) hcl fun e => by injection e with e; omega).trans HC.out)
    have hcl2 : mb + 1 < w2.heap.size := by have := hg2.size; omega
    clear hm2 hg2
    gi_wp2_with (first
      | (gi_at_call 43; refine (keysA_in _ (by omega) _ _).mono ?_; rintro e _ ⟨rfl, rfl⟩)
      | (gi_at_call 41; refine (sortedA_in _ (by omega) w2 mb _ _ HM2.out (by omega)).mono ?_; rintro e w3 ⟨v3, L3, rfl, hL1, hL2, hL3, hL4⟩; obtain ⟨A4, c4, rfl⟩ := hL3.form))
    have hLc : L3 = colorsB b := lt_unique hL1 (colorsB_lt b) fun c => by
      rw [hL2, colorsB_mem R]
      constructor
      · intro h
        by_cases e : c = -1
        · simp [upd, e] at h
        · simp only [upd, if_neg e] at h
          obtain ⟨oh, hoh⟩ := Option.isSome_iff_exists.1 h
          have h1 := HRR.out.dom c oh hoh
          obtain ⟨p, hp, hpc⟩ := rowC_ne.1 (show (!(rowC c (vcB b)).isEmpty) = true by cases hh : rowC c (vcB b) with | nil => exact absurd hh h1 | cons => rfl)
          have := R.col _ (List.of_mem_zip hp).2
          exact ⟨by omega, p, hp, hpc⟩
      · rintro ⟨h0, h1⟩
        have e : c ≠ -1 := by omega
        simp only [upd, if_neg e]
        cases hf : F c with
        | some _ => rfl
        | none =>
          have h2 := HRR.out.non c hf
          have h3 := rowC_ne.2 h1
          rw [h2] at h3
          cases h3
    have HLC := hide hLc
    clear hLc
    have hg2s := HG2.out.size
    have hL4s := hL4.size
    simp only [World.size_alloc] at hL4 hL4s
    have hzD : D < W.heap.size := (Array.getElem?_eq_some_iff.1 HKD.out).1
    have hblk2 : ∀ r, r < W.heap.size → r ≠ mb → w3.heap[r]? = W.heap[r]? := fun r hr hne => ((hL4.block r (by omega)).trans (Below.heap_alloc w2 _ r (by omega))).trans (HG2.out.block r hr fun e => hne (by injection e))
    have HC3 := hide (show w3.heap[mb + 1]? = some (.cells #[.map (some mb)] 92 (0, 0)) from (hblk2 (mb + 1) hcl (by omega)).trans HC.out)
    have HK3 := hide (show w3.heap[D]? = some (.deferred (some [])) from (hblk2 D hzD (by omega)).trans HKD.out)
    have HM3 := hide ((HM2.out.alloc (.cells #[.map (some mb)] 92)).keep (hL4.block mb (by have := HM2.out.lt; omega)))
    have HR3 := hide (HRR.out.keep (w' := w3) (by omega) fun c h g hc hg => hblk2 g (HRR.out.lt hc hg).2 (by have := (HRR.out.lt hc hg).1; omega))
    have HB3 := hide (show Below w.heap.size w w3 from ((HBB.out.grown HG2.out (by omega) fun r e => by injection e with e; omega).alloc (by omega) _).trans (hL4.mono (by omega)))
    have HL3 := hide hL3
    clear hL1 hL2 hL3 hL4 c2 hdel hmm
    obtain ⟨i0, hi, hz', hz1, hz2⟩ := info_parts info_sl
    have HI0 := hide hi; have HZ := hide hz'; have HZ1 := hide hz1; have HZ2 := hide hz2
    clear hi hz' hz1 hz2
    gi_loopw [2, 29] (fun o i wr => ∃ q : Nat, q ≤ L3.length ∧ i = .int .i64 q ∧ OwnL wr w3.heap.size 22 (fun _ => False) o (rowsH F (L3.take q)) ∧ Below w3.heap.size w3 wr) (fun _ i _ => L3.length - (intOf i).toNat)
    case atStart => exact ⟨0, Nat.zero_le _, rfl, OwnL.nil_ _ _ _ _, Below.refl _ _⟩
    case round =>
      obtain ⟨q, hq, rfl, hoq, hbq⟩ := hrel
      have HOQ := hide hoq; have HBQ := hide hbq
      have hwq := hbq.size
      have hoB := hoq.below_
      have hcr : wr.heap[mb + 1]? = some (.cells #[.map (some mb)] 92 (0, 0)) := (hbq.block (mb + 1) (by omega)).trans HC3.out
      have c1r : wr.cell? ⟨mb + 1, 0, none⟩ = some (.map (some mb)) := cell_of_row wr (mb + 1) _ _ _ (0, 0) hcr
      have hclr : mb + 1 < wr.heap.size := by omega
      have hmr := HM3.out.keep (hbq.block mb HM3.out.lt)
      have hsl := (HL3.out.sl (S' := fun _ => True) (fun _ _ _ => trivial)).belowAll hbq
      have hL64 : L3.length ≤ 64 := by
        rw [HLC.out, colorsB_eq]
        have := List.length_filter_le (fun c : Int => !(rowC c (vcB b)).isEmpty) ((List.range 64).map fun i : Nat => (i : Int) + 0)
        simpa using this
      clear hoq hbq hcr
      by_cases hlt : q < L3.length
      · obtain ⟨b1, o1, c, rfl, hb1', hc, hci, d1⟩ := at_int hsl hlt
        have hcm : c ∈ colorsB b := by rw [← HLC.out]; exact List.mem_of_getElem? hc
        obtain ⟨hc0', hcp⟩ := (colorsB_mem R).1 hcm
        obtain ⟨oh, hoh⟩ : ∃ oh, F c = some oh := by
          cases hf : F c with
          | some oh => exact ⟨oh, rfl⟩
          | none =>
            have h2 := HR3.out.non c hf
            have h3 := rowC_ne.2 hcp
            rw [h2] at h3
            cases h3
        have hqr : (Instr.lookup 92 (.map (some mb)) (.int .i64 c) false).run Tryz.prog wr = Result.ok oh.v wr := by
          have h := MapP.get (K := iK) (E := rE) hmr Tryz.underlying92 (x := c) hci
          have e : upd F (-1) none c = some oh := by unfold upd; rw [if_neg (by omega), hoh]
          rw [e] at h
          exact h
        have HTK := hide (show rowsH F (L3.take (q + 1)) = rowsH F (L3.take q) ++ [oh.h] by rw [take_at hc]; unfold rowsH; rw [List.map_append]; simp [hoh])
        have hln : (rowsH F (L3.take q)).length ≤ 64 := by unfold rowsH; rw [List.length_map, List.length_take]; omega
        clear hc hci hmr hsl hcm hcp
        gi_wp2_with (gi_at_builtin; refine wpListIn_push (α := Hdr) wr [oh.v] 22 rfl (.tmp 33) (.tmp 37) 36 rfl w3.heap.size 22 i0 _ 24 Tryz.underlying36 HI0.out HZ.out HZ1.out HZ2.out rfl (by decide) (fun _ => False) (fun _ => False) u2 (rowsH F (L3.take q)) oh.h rfl HOQ.out wr.heap.size rfl rfl rfl (fun _ h => h) (fun _ _ h => h) (fun _ h => h.elim) (by omega) (by omega) (by omega) ?_; intro v' w' ho1 hgr h5; have HO1 := hide ho1; have HGR := hide hgr; clear ho1 hgr h5)
        go_roundw
        case rel => exact ⟨q + 1, by omega, by go_num, by rw [HTK.out]; exact HO1.out, (HBQ.out.alloc (by omega) _).grown HGR.out (by simp; omega) fun r e => (HOQ.out.below_ r e).1⟩
        case measure => simp [intOf]; omega
      · obtain rfl : q = L3.length := by omega
        have hkr := (HBQ.out.block D (by omega)).trans HK3.out
        gi_wp2
        refine ⟨by simp, .inl ⟨_, _, rfl, run_takeDeferred hkr, ?_⟩⟩
        have hDl : D < wr.heap.size := by omega
        have hother : ∀ r, r ≠ D → (wr.putObj D (.deferred none)).heap[r]? = wr.heap[r]? := fun r hr => World.putObj_heap_other (by omega)
        have hps : (wr.putObj D (.deferred none)).heap.size = wr.heap.size := by simp [World.putObj]
        refine ⟨_, results_tmp rfl _ _ _, _, rowsH F (colorsB b), rfl, ?_, ?_, ?_, ?_⟩
        · unfold rowsH; rw [List.length_map, apartB_len hr]
        · have h := HOQ.out
          rw [List.take_length, HLC.out] at h
          exact (h.keep (by omega) (fun _ hf => hf.elim) fun r hr => hother r (by have := (h.below_ r hr).1; omega)).lowB (by omega)
        · have hat : ∀ k h, (rowsH F (colorsB b))[k]? = some h → ∃ c oh, (colorsB b)[k]? = some c ∧ F c = some oh ∧ h = oh.h := fun k h hk => by
            unfold rowsH at hk
            rw [List.getElem?_map] at hk
            cases hc : (colorsB b)[k]? with
            | none => rw [hc] at hk; cases hk
            | some c =>
              rw [hc] at hk
              injection hk with hk
              cases hf : F c with
              | some oh => simp only [hf, Option.getD_some] at hk; exact ⟨c, oh, hc, hf, hk.symm⟩
              | none =>
                have h2 := HR3.out.non c hf
                have h3 := rowC_ne.2 ((colorsB_mem R).1 (List.mem_of_getElem? hc)).2
                rw [h2] at h3
                cases h3
          refine ⟨fun k h hk => ?_, fun j k x y r hj hk hne hx hy => ?_⟩
          · obtain ⟨c, oh, hc, hf, rfl⟩ := hat k h hk
            show OwnL _ _ _ _ _ (((apartB b)[k]?).getD [])
            rw [apartB_at hr hc]
            have ho := HR3.out.own c oh hf
            refine (ho.keep (by omega) (fun _ hf => hf.elim) fun r hr' => ?_).lowB (by omega)
            have hl := ho.below_ r hr'
            have hrD : r ≠ D := fun e => by
              obtain ⟨cur, hcur⟩ := ho.cellsB hr'
              rw [e, HK3.out] at hcur
              cases hcur
            exact (hother r hrD).trans (HBQ.out.block r hl.2)
          · obtain ⟨c, oh, hc, hf, rfl⟩ := hat j x hj
            obtain ⟨c', oh', hc', hf', rfl⟩ := hat k y hk
            have hx : oh.b = some r := by rw [← OHdr.own]; exact hx
            have hy : oh'.b = some r := by rw [← OHdr.own]; exact hy
            refine HR3.out.ne c c' oh oh' r hf hf' (fun e => hne ?_) hx hy
            exact (List.getElem?_inj (List.getElem?_eq_some_iff.1 hc).1 (colorsB_nodup b)).1 (by rw [hc, hc', e])
        · exact (HB3.out.trans (HBQ.out.mono (by omega))).trans (belowK_b (w := w) (Nat.le_refl _) wr D _ _ (by omega) hkr rfl rfl)
  case stop =>
    rintro D c pre W _ _ h _
    exact h.elim
theorem apart23_any (w : World) (S : Nat → Prop) (b : Brief) (A1 A2 A3 : Option Addr) (n1 c1 n2 c2 n3 c3 : Nat) (h1 : Sl w S A1 n1 c1 b.vars) (h2 : Sl w S A2 n2 c2 b.colors) (h3 : Sl w S A3 n3 c3 b.edge) :
    Calls Tryz.prog 19 #[.agg #[.slice A1 n1 c1, .slice A2 n2 c2, .slice A3 n3 c3]] w (RetRows (apartB b) w) := by
  cases hr : rightB b with
  | false =>
    have h := apart_wrong w S b A1 A2 A3 n1 c1 n2 c2 n3 c3 h1 h2 h3 hr
    have e : apartB b = [] := by unfold apartB; rw [hr]; rfl
    rw [e]; exact h
  | true => exact apart_right w S b A1 A2 A3 n1 c1 n2 c2 n3 c3 h1 h2 h3 hr
theorem used_any (w : World) (S : Nat → Prop) (b : Brief) (A1 A2 A3 : Option Addr) (n1 c1 n2 c2 n3 c3 : Nat) (h1 : Sl w S A1 n1 c1 b.vars) (h2 : Sl w S A2 n2 c2 b.colors) (h3 : Sl w S A3 n3 c3 b.edge) :
    Calls Tryz.prog 22 #[.agg #[.slice A1 n1 c1, .slice A2 n2 c2, .slice A3 n3 c3]] w (fun e w' => e = .returned (.int .i64 (apartB b).length) ∧ Below w.heap.size w w') := by
  obtain ⟨W0, hW0⟩ : ∃ W0, w.alloc (.cells #[.slice A1 n1 c1, .slice A2 n2 c2, .slice A3 n3 c3] 43) = W0 := ⟨_, rfl⟩
  obtain ⟨g, hg⟩ : ∃ g, w.heap.size = g := ⟨_, rfl⟩
  have hrow : W0.heap[g]? = some (.cells #[.slice A1 n1 c1, .slice A2 n2 c2, .slice A3 n3 c3] 43 (0, 0)) := by rw [← hW0, ← hg]; exact heap_alloc_new w _
  have k0 : W0.cell? ⟨g, 0, none⟩ = some (.slice A1 n1 c1) := cell_of_row W0 g _ _ _ (0, 0) hrow
  have k1 : W0.cell? ⟨g, 1, none⟩ = some (.slice A2 n2 c2) := cell_of_row W0 g _ _ _ (0, 0) hrow
  have k2 : W0.cell? ⟨g, 2, none⟩ = some (.slice A3 n3 c3) := cell_of_row W0 g _ _ _ (0, 0) hrow
  have hgl : g < W0.heap.size := by rw [← hW0, ← hg]; simp
  have HB0 := hide (show Below w.heap.size w W0 by rw [← hW0]; exact (Below.refl _ _).alloc (Nat.le_refl _) _)
  have HA := hide (apart23_any W0 S b A1 A2 A3 n1 c1 n2 c2 n3 c3 (by rw [← hW0]; exact h1.alloc _) (by rw [← hW0]; exact h2.alloc _) (by rw [← hW0]; exact h3.alloc _))
  clear h1 h2 h3 hrow
  go_enter Tryz.func22, Tryz.ntmps22
  go_wp2_with (go_at_call 19; (with_reducible refine HA.out.mono ?_); rintro e W ⟨v, hs, rfl, hl, ho, _, hb⟩; obtain ⟨A, c, rfl⟩ := ho.form; rw [hl])
  go_ret
  exact ⟨rfl, HB0.out.trans (hb.mono HB0.out.size)⟩
end Go.Proofs.YthmglmmafgdmhaaGreat
