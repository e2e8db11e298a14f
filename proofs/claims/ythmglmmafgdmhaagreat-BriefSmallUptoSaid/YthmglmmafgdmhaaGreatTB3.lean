/- Walks: what a brief's variables are worth is added. -/
import Derived.Test.YthmglmmafgdmhaaGreatTB2
import Derived.Test.YthmglmmafgdmhaaGreatPush2
import Derived.Lib.BufferOwn
set_option linter.unusedSimpArgs false
set_option linter.unusedVariables false
namespace Go.Proofs.YthmglmmafgdmhaaGreat
open Go.RowKit Go.Maps

theorem zeroInt_run (w : World) : (zeroValue 3).run Tryz.prog w = .ok (.int .i64 0) w := by kernel_rfl
noncomputable def iK : KeyT Tryz.prog Int := intK 3 Tryz.underlying3
noncomputable def iE : ElT Tryz.prog Int := intE 3 Tryz.underlying3 zeroInt_run
abbrev IMap (w : World) (b n : Nat) (f : Int → Option Int) : Prop := MapP iK iE w b n f
theorem addL_snoc (f : Int → Option Int) (l : List (Int × Int)) (p : Int × Int) : addL f (l ++ [p]) = addT (addL f l) p := by simp [addL, List.foldl_append]
theorem trip_at {b : Brief} {k : Nat} {v c e : Int} (h1 : b.vars[k]? = some v) (h2 : b.colors[k]? = some c) (h3 : b.edge[k]? = some e) : (trip b)[k]? = some (v, c, e) := by
  unfold trip
  exact (List.getElem?_zip_eq_some (z := (v, c, e))).2 ⟨h1, (List.getElem?_zip_eq_some (z := (c, e))).2 ⟨h2, h3⟩⟩
theorem pairs_at {b : Brief} {k : Nat} {v c e : Int} (h1 : b.vars[k]? = some v) (h2 : b.colors[k]? = some c) (h3 : b.edge[k]? = some e) : (pairsB b)[k]? = some (v, valE c e) := by
  unfold pairsB
  rw [List.getElem?_map, trip_at h1 h2 h3]; rfl
set_option maxHeartbeats 1000000 in
theorem add_any (w : World) (S : Nat → Prop) (b : Brief) (A1 A2 A3 : Option Addr) (n1 c1 n2 c2 n3 c3 : Nat) (h1 : Sl w S A1 n1 c1 b.vars) (h2 : Sl w S A2 n2 c2 b.colors) (h3 : Sl w S A3 n3 c3 b.edge) (R : RightB b)
    (mb K : Nat) (f : Int → Option Int) (hm : IMap w mb K f) (hS : ¬ S mb) (D : Int) (hD : ∀ v, -D ≤ (f v).getD 0 ∧ (f v).getD 0 ≤ D) (hD2 : D ≤ 4611686018427387904) (hK : K ≤ 1048576) :
    Calls Tryz.prog 33 #[.agg #[.slice A1 n1 c1, .slice A2 n2 c2, .slice A3 n3 c3, .map (some mb)]] w (fun e w' => e = .returned (.tuple #[]) ∧ IMap w' mb (K + n1) (addL f (pairsB b)) ∧ w.grownBy w' (some mb)) := by
  have hn := rising_few R.rise
  have L1 := h1.len; have L2 := h2.len; have L3 := h3.len
  have hn1 : n1 ≤ 200 := by omega
  have e2 : n2 = n1 := by have := R.lc; omega
  have e3 : n3 = n1 := by have := R.le; omega
  subst e2; subst e3
  have HBD := hide (fun k v => addL_bd (M := 1099511627776) (by decide) ((pairsB b).take k) f D hD (fun p hp => pairsB_bd R p (List.mem_of_mem_take hp)) v)
  have HPL := hide (pairsB_len R)
  obtain ⟨W0, hW0⟩ : ∃ W0, w.alloc (.cells #[.slice A1 n3 c1, .slice A2 n3 c2, .slice A3 n3 c3, .map (some mb)] 61) = W0 := ⟨_, rfl⟩
  obtain ⟨g, hg⟩ : ∃ g, w.heap.size = g := ⟨_, rfl⟩
  have hrow : W0.heap[g]? = some (.cells #[.slice A1 n3 c1, .slice A2 n3 c2, .slice A3 n3 c3, .map (some mb)] 61 (0, 0)) := by rw [← hW0, ← hg]; exact heap_alloc_new w _
  have HROW := hide hrow
  have hgl : g < W0.heap.size := by rw [← hW0, ← hg]; simp
  have HM0 := hide (show IMap W0 mb K f by rw [← hW0]; exact hm.alloc _)
  have hne : g ≠ mb := by have := hm.lt; omega
  have HG0 := hide (show w.grownBy W0 (some mb) by rw [← hW0]; exact World.grownBy_alloc w _ _)
  have H1 := hide (show Sl W0 S A1 n3 c1 b.vars by rw [← hW0]; exact h1.alloc _)
  have H2 := hide (show Sl W0 S A2 n3 c2 b.colors by rw [← hW0]; exact h2.alloc _)
  have H3 := hide (show Sl W0 S A3 n3 c3 b.edge by rw [← hW0]; exact h3.alloc _)
  have HR := hide R; have HS := hide hS
  have k0 : W0.cell? ⟨g, 0, none⟩ = some (.slice A1 n3 c1) := cell_of_row W0 g _ _ _ (0, 0) hrow
  clear h1 h2 h3 hrow hm hD R hS L2 L3
  go_enter Tryz.func33, Tryz.ntmps33
  go_wp2
  clear hW0 hg k0
  go_loopw [2, 3, 4, 9] (fun _ _ _ i wr => ∃ k : Nat, k ≤ n3 ∧ i = .int .i64 k ∧ IMap wr mb (K + k) (addL f ((pairsB b).take k)) ∧ W0.grownBy wr (some mb)) (fun _ _ _ i _ => n3 - (intOf i).toNat)
  case atStart => exact ⟨0, Nat.zero_le _, rfl, HM0.out, World.grownBy.refl _ _⟩
  case round =>
    obtain ⟨k, hk, rfl, hmk, hgk⟩ := hrel
    have HMK := hide hmk; have HGK := hide hgk
    have hrk : wr.heap[g]? = some (.cells #[.slice A1 n3 c1, .slice A2 n3 c2, .slice A3 n3 c3, .map (some mb)] 61 (0, 0)) := (hgk.block g hgl (by simp; exact hne)).trans HROW.out
    have k0 : wr.cell? ⟨g, 0, none⟩ = some (.slice A1 n3 c1) := cell_of_row wr g _ _ _ (0, 0) hrk
    have k1 : wr.cell? ⟨g, 1, none⟩ = some (.slice A2 n3 c2) := cell_of_row wr g _ _ _ (0, 0) hrk
    have k2 : wr.cell? ⟨g, 2, none⟩ = some (.slice A3 n3 c3) := cell_of_row wr g _ _ _ (0, 0) hrk
    have k3 : wr.cell? ⟨g, 3, none⟩ = some (.map (some mb)) := cell_of_row wr g _ _ _ (0, 0) hrk
    have hgw : g < wr.heap.size := by have := hgk.size; omega
    have S1 := H1.out.keep (w' := wr) hgk.size (fun b hb hl => hgk.block b hl (by intro e; injection e with e; exact HS.out (e ▸ hb)))
    have S2 := H2.out.keep (w' := wr) hgk.size (fun b hb hl => hgk.block b hl (by intro e; injection e with e; exact HS.out (e ▸ hb)))
    have S3 := H3.out.keep (w' := wr) hgk.size (fun b hb hl => hgk.block b hl (by intro e; injection e with e; exact HS.out (e ▸ hb)))
    clear hmk hgk hrk
    by_cases hlt : k < n3
    · obtain ⟨g1, o1, v, rfl, hb1, hv, hvi, d1⟩ := at_int S1 hlt
      obtain ⟨g2, o2, c, rfl, hb2, hc, hci, d2⟩ := at_int S2 hlt
      obtain ⟨g3, o3, e, rfl, hb3, he, hei, d3⟩ := at_int S3 hlt
      have hpe := HR.out.edg e (List.mem_of_getElem? he)
      have HP := hide (take_at (pairs_at hv hc he))
      have HVI := hide hvi
      have hbd := HBD.out k v
      obtain ⟨y, hy⟩ : ∃ y, ((addL f ((pairsB b).take k)) v).getD 0 = y := ⟨_, rfl⟩
      rw [hy] at hbd
      have hkl : ((List.take k (pairsB b)).length : Int) ≤ 200 := by have : (List.take k (pairsB b)).length ≤ k := List.length_take_le _ _; omega
      have hyl : -4611906018427387904 ≤ y ∧ y ≤ 4611906018427387904 := by
        have : ((List.take k (pairsB b)).length : Int) * 1099511627776 ≤ 200 * 1099511627776 := Int.mul_le_mul_of_nonneg_right hkl (by decide)
        omega
      have HY := hide hy
      have hq := MapP.get (K := iK) (E := iE) HMK.out Tryz.underlying59 (x := v) hvi
      change (Instr.lookup 59 (.map (some mb)) (.int .i64 v) false).run Tryz.prog wr = .ok (.int .i64 ((addL f ((pairsB b).take k) v).getD 0)) wr at hq
      rw [hy] at hq
      clear hv hc he hvi hy hbd hkl S1 S2 S3
      obtain ⟨hy1, hy2⟩ := hyl
      obtain ⟨he1, he2⟩ := hpe
      by_cases hc0 : c < 0
      · have hin : InI (y + -e) := by unfold InI; omega
        have hwr : IntKind.i64.wrap (-e) = -e := IntWalk.i64_in _ (by omega)
        have hwr2 : IntKind.i64.wrap (y + -e) = y + -e := IntWalk.i64_in _ (by omega)
        have HIN := hide hin
        have HF := hide (show addL f ((pairsB b).take (k + 1)) = upd (addL f ((pairsB b).take k)) v (some (y + -e)) by rw [HP.out, addL_snoc]; unfold addT valE; rw [if_pos hc0, HY.out])
        clear hin
        go_wp2_with (at_mapUpdate; refine wpList_put_map (K := iK) (E := iE) rfl (.tmp 30) (.tmp 31) (.tmp 34) 59 rfl Tryz.underlying59 rfl HMK.out (by unfold maxLen; omega) v rfl HVI.out (y + -e) rfl HIN.out ?_; intro w9 hm9 hg9; have HM9 := hide hm9; have HG9 := hide hg9; clear hm9 hg9)
        go_roundw
        case rel => exact ⟨k + 1, by omega, by go_num, by rw [HF.out]; exact HM9.out, Lib.grownBy_trans HGK.out HG9.out⟩
        case measure => simp [intOf]; omega
      · have hin : InI (y + e) := by unfold InI; omega
        have hwr2 : IntKind.i64.wrap (y + e) = y + e := IntWalk.i64_in _ (by omega)
        have HIN := hide hin
        have HF := hide (show addL f ((pairsB b).take (k + 1)) = upd (addL f ((pairsB b).take k)) v (some (y + e)) by rw [HP.out, addL_snoc]; unfold addT valE; rw [if_neg hc0, HY.out])
        clear hin
        go_wp2_with (at_mapUpdate; refine wpList_put_map (K := iK) (E := iE) rfl (.tmp 30) (.tmp 31) (.tmp 34) 59 rfl Tryz.underlying59 rfl HMK.out (by unfold maxLen; omega) v rfl HVI.out (y + e) rfl HIN.out ?_; intro w9 hm9 hg9; have HM9 := hide hm9; have HG9 := hide hg9; clear hm9 hg9)
        go_roundw
        case rel => exact ⟨k + 1, by omega, by go_num, by rw [HF.out]; exact HM9.out, Lib.grownBy_trans HGK.out HG9.out⟩
        case measure => simp [intOf]; omega
    · have hkn : k = n3 := by omega
      subst hkn
      go_wp2
      go_end0
      refine ⟨rfl, ?_, Lib.grownBy_trans HG0.out HGK.out⟩
      have := HMK.out
      rwa [List.take_of_length_le (by rw [HPL.out]; omega)] at this
end Go.Proofs.YthmglmmafgdmhaaGreat
