/- law05: what is lost, and what is saved: the plain law; machines that are the same: the walk. MachReads: its walk. -/
import Derived.Test.YtcfimcghckjmeaaGreatDoorH2
import Derived.Test.YtcfimcghckjmeaaGreatDoorM5e
import Derived.Test.YtcfimcghckjmeaaGreatDoorG22
import Derived.Test.YtcfimcghckjmeaaGreatDoorG23
import Derived.Test.YtcfimcghckjmeaaGreatDoorH0
set_option linter.unusedSimpArgs false
set_option linter.unusedVariables false
namespace Go.Proofs.YtcfimcghckjmeaaGreatDoor
open Go.RowKit

theorem lostTo_app (n : Nat) (ys : List Int) (v : Int) (hv : (n : Int) ≤ v) : lostTo n (ys ++ [v]) = lostTo n ys := by
  have key : ∀ j ∈ List.range n, (!hasI (j : Int) (ys ++ [v])) = !hasI (j : Int) ys := by
    intro j hj
    have hj := List.mem_range.1 hj
    have : hasI (j : Int) (ys ++ [v]) = hasI (j : Int) ys := by
      apply Bool.eq_iff_iff.2
      rw [hasI_iff, hasI_iff, List.mem_append, List.mem_singleton]
      constructor
      · rintro (h | h)
        · exact h
        · omega
      · exact .inl
    rw [this]
  unfold lostTo
  rw [List.filter_congr key]
theorem lost_count : ∀ (n : Nat) (xs : List Int), xs.Pairwise (· < ·) → (∀ x ∈ xs, 0 ≤ x ∧ x < n) → (lostTo n xs).length + xs.length = n
  | 0, xs, _, h => by
    obtain rfl : xs = [] := by
      cases xs with
      | nil => rfl
      | cons x l => have := h x (by simp); omega
    rfl
  | n + 1, xs, hp, h => by
    rcases List.eq_nil_or_concat xs with rfl | ⟨ys, v, hcat⟩
    · have := lost_count n [] List.Pairwise.nil (fun _ h => by cases h)
      rw [lostTo_succ, List.length_append]
      simp [hasI] at this ⊢
      exact this
    · rw [List.concat_eq_append] at hcat
      subst hcat
      obtain ⟨hp1, _, hp2⟩ := List.pairwise_append.1 hp
      have hv := h v (by simp)
      have hy : ∀ x ∈ ys, 0 ≤ x ∧ x < v := fun x hx => ⟨(h x (by simp [hx])).1, hp2 x hx v (by simp)⟩
      by_cases hn : v = n
      · subst hn
        have := lost_count n ys hp1 hy
        rw [lostTo_succ, lostTo_app n ys n (Int.le_refl _), if_pos (by rw [hasI_iff]; simp), List.append_nil, List.length_append, List.length_singleton]
        omega
      · have := lost_count n (ys ++ [v]) hp (fun x hx => by
          rcases List.mem_append.1 hx with hx | hx
          · have := hy x hx; omega
          · simp at hx; subst hx; omega)
        rw [lostTo_succ, if_neg (by
          rw [hasI_iff, List.mem_append]
          rintro (hx | hx)
          · have := hy _ hx; omega
          · simp at hx; exact hn hx.symm), List.length_append, List.length_singleton]
        omega
theorem lostTo_sorted (n : Nat) (xs : List Int) : (lostTo n xs).Pairwise (· < ·) := by
  unfold lostTo
  rw [List.pairwise_map]
  exact (List.Pairwise.filter _ List.pairwise_lt_range).imp (fun h => by omega)
/-- What MachBack asks of a right machine. -/
structure LostOk (m : Machine) : Prop where
  n : ((lostM m).length : Int) + m.saved.length = m.regs
  k : (keepsM m).length = m.saved.length
  s : ∀ x ∈ lostM m, hasI x m.saved = false
  u : (lostM m).Pairwise (· < ·)
  r : m.ret ∈ lostM m
  l : (lostM m).length ≤ 64
theorem lost_ok {m : Machine} (h : rightM m = true) : LostOk m := by
  obtain ⟨a1, a2, a3, a4, a5, a6, a7, a8, a9⟩ := rightM_all h
  obtain ⟨b1, b2, b3⟩ := (savedOk_iff _ _ _).1 a9
  have hl := lostM_yes h
  have hr : ((m.regs.toNat : Nat) : Int) = m.regs := by omega
  have hc := lost_count m.regs.toNat m.saved b3 (fun x hx => by rw [hr]; exact b1 x hx)
  refine ⟨?_, ?_, ?_, ?_, ?_, ?_⟩
  · rw [hl]; omega
  · unfold keepsM; rw [h]; simp
  · intro x hx; rw [hl] at hx; exact (lostTo_mem.1 hx).2.2
  · rw [hl]; exact lostTo_sorted _ _
  · rw [hl]; exact lostTo_mem.2 ⟨a5, by omega, a7⟩
  · rw [hl]; have := lostTo_len m.regs.toNat m.saved; omega

set_option maxRecDepth 100000 in
set_option maxHeartbeats 4000000 in
theorem same5_any (w : World) (S1 S2 S3 S4 : Nat → Prop) (m : Machine) (A1 A2 A3 A4 : Option Addr) (n1 c1 n2 c2 c3 c4 : Nat) (h1 : Sl w S1 A1 n1 c1 m.args) (h2 : Sl w S2 A2 n2 c2 m.saved) (h3 : Sl w S3 A3 n1 c3 m.args) (h4 : Sl w S4 A4 n2 c4 m.saved) :
    Calls Tryz.prog 9 #[.agg #[.int .i64 m.regs, .slice A1 n1 c1, .int .i64 m.ret, .slice A2 n2 c2], .agg #[.int .i64 m.regs, .slice A3 n1 c3, .int .i64 m.ret, .slice A4 n2 c4]] w (RetX (.bool true) w) := by
  have H1 := hide h1; have H2 := hide h2; have H3 := hide h3; have H4 := hide h4
  obtain ⟨r, hr⟩ : ∃ r, m.regs = r := ⟨_, rfl⟩
  obtain ⟨t, ht⟩ : ∃ t, m.ret = t := ⟨_, rfl⟩
  rw [hr, ht]
  have er : (r == r) = true := by simp
  have et : (t == t) = true := by simp
  clear h1 h2 h3 h4 hr ht
  go_enter Tryz.func9, Tryz.ntmps9
  go_wp2_with (first | (go_at_call 18; (with_reducible refine (sameInts_any _ S1 S3 A1 A3 n1 c1 c3 m.args (by repeat (first | assumption | exact Hd.out (by assumption) | apply Sl.alloc | apply Sl.ext | apply Sl.drew | apply Sl.drewN)) (by repeat (first | assumption | exact Hd.out (by assumption) | apply Sl.alloc | apply Sl.ext | apply Sl.drew | apply Sl.drewN))).mono ?_); rintro e _ ⟨rfl, ux, rfl⟩) | (go_at_call 18; (with_reducible refine (sameInts_any _ S2 S4 A2 A4 n2 c2 c4 m.saved (by repeat (first | assumption | exact Hd.out (by assumption) | apply Sl.alloc | apply Sl.ext | apply Sl.drew | apply Sl.drewN)) (by repeat (first | assumption | exact Hd.out (by assumption) | apply Sl.alloc | apply Sl.ext | apply Sl.drew | apply Sl.drewN))).mono ?_); rintro e _ ⟨rfl, ux, rfl⟩))
  go_ret
  exact RetX.b rfl (by repeat (first | exact Below.refl _ _ | assumption | refine Below.alloc ?_ (by simp [size_ext]; try omega) _ | refine Below.ext ?_ (by simp [size_ext]; try omega) _ | refine Below.drew ?_ | refine Below.setCell ?_ (by simp [size_ext]; try omega) _))
end Go.Proofs.YtcfimcghckjmeaaGreatDoor
set_option linter.unusedSimpArgs false
set_option linter.unusedVariables false
namespace Go.Proofs.YtcfimcghckjmeaaGreatDoor
open Go.RowKit

theorem dropEnd_mem {l : List Word} : ∀ x ∈ dropEnd l, x ∈ l := by
  intro x hx
  unfold dropEnd at hx
  split at hx
  · split at hx
    · exact List.dropLast_subset _ hx
    · exact hx
  · exact hx
theorem overT_ok (s : ByteArray) : CurOk (overT s) := by
  unfold overT
  split
  · rename_i h
    exact ⟨fun _ h => (by cases h), fun e => absurd e h⟩
  · exact ⟨fun x hx => read_kinds s x (compK_mem _ _ x (dropEnd_mem x hx)), fun _ => ⟨rfl, rfl⟩⟩
set_option maxRecDepth 100000 in
set_option maxHeartbeats 20000000 in
theorem machReads_any (w : World) (hv : Vars w) (s : ByteArray) (hs : s.size ≤ 140737488355328) : Calls Tryz.prog 3 #[.string s] w (RetX (.bool true) w) := by
  have HV := hide hv
  have HA := hide (fun (W : World) (hb : Below w.heap.size w W) => awake05_any W (hv.below hb hv.sz))
  by_cases hbig : 2000 < s.size
  · clear hv
    go_enter Tryz.func3, Tryz.ntmps3
    go_wp2_with (go_at_call 6; refine (HA.out _ (Below.refl _ _)).mono ?_; rintro e _ ⟨rfl, u0, rfl⟩)
    go_ret
    exact RetX.b rfl ((Below.refl _ _).ext (Nat.le_refl _) u0)
  obtain ⟨⟨mn, ef⟩, hpt⟩ : ∃ r, parseT goA s = r := ⟨_, rfl⟩
  have HP := hide (show Calls Tryz.prog 7 #[.string s] w (RetM (mn, ef) w) from hpt ▸ parse5_any s w (by omega) hv)
  have HQ := hide (fun (W : World) => show Calls Tryz.prog 8 #[.string s] W (RetM (mn, ef) W) from by
    have h := dparse5_any s W (by omega)
    rw [← parse_alike s (overT_ok s), hpt] at h; exact h)
  have hef : (ef == ef) = true := by simp
  clear hpt hv
  go_enter Tryz.func3, Tryz.ntmps3
  go_wp2_with (go_at_call 7; (with_reducible refine HP.out.mono ?_); rintro e W7 ⟨B1, j1, d1, B2, j2, d2, rfl, hs1, hs2, hb7⟩; dsimp only at hs1 hs2 ⊢; refine Hd.out ?_)
  obtain ⟨Wf, hWf⟩ : ∃ W', W7.alloc (.cells #[.int .i64 mn.regs, .slice B1 j1 d1, .int .i64 mn.ret, .slice B2 j2 d2] 25) = W' := ⟨_, rfl⟩
  obtain ⟨gf, hgf⟩ : ∃ g', W7.heap.size = g' := ⟨_, rfl⟩
  have hrowf : Wf.heap[gf]? = some (.cells #[.int .i64 mn.regs, .slice B1 j1 d1, .int .i64 mn.ret, .slice B2 j2 d2] 25 (0, 0)) := by rw [← hWf, ← hgf]; exact heap_alloc_new W7 _
  have f0 : Wf.cell? ⟨gf, 0, none⟩ = some (.int .i64 mn.regs) := cell_of_row Wf gf _ _ _ (0, 0) hrowf
  have f1 : Wf.cell? ⟨gf, 1, none⟩ = some (.slice B1 j1 d1) := cell_of_row Wf gf _ _ _ (0, 0) hrowf
  have f2 : Wf.cell? ⟨gf, 2, none⟩ = some (.int .i64 mn.ret) := cell_of_row Wf gf _ _ _ (0, 0) hrowf
  have f3 : Wf.cell? ⟨gf, 3, none⟩ = some (.slice B2 j2 d2) := cell_of_row Wf gf _ _ _ (0, 0) hrowf
  have hgfl : gf < Wf.heap.size := by rw [← hWf, ← hgf]; simp
  have HBF := hide (show Below w.heap.size w Wf by rw [← hWf]; exact hb7.alloc hb7.size _)
  have HF1 := hide (show Sl Wf (fun b => b < Wf.heap.size) B1 j1 d1 mn.args by rw [← hWf]; exact (hs1.alloc _).more fun b hb _ => hb)
  have HF2 := hide (show Sl Wf (fun b => b < Wf.heap.size) B2 j2 d2 mn.saved by rw [← hWf]; exact (hs2.alloc _).more fun b hb _ => hb)
  have hwf : w.heap.size ≤ Wf.heap.size := HBF.out.size
  clear hrowf hs1 hs2 hb7 HP
  refine hide ?_
  go_wp2_with (go_at_call 8; (with_reducible refine (HQ.out _).mono ?_); rintro e W8 ⟨C1, i1, e1, C2, i2, e2, rfl, hs1, hs2, hb8⟩; dsimp only at hs1 hs2 ⊢; refine Hd.out ?_)
  have hi1 : i1 = j1 := by have h := hs1.len; have h' := HF1.out.len; omega
  have hi2 : i2 = j2 := by have h := hs2.len; have h' := HF2.out.len; omega
  subst hi1 hi2
  obtain ⟨Wg, hWg⟩ : ∃ W', W8.alloc (.cells #[.int .i64 mn.regs, .slice C1 i1 e1, .int .i64 mn.ret, .slice C2 i2 e2] 25) = W' := ⟨_, rfl⟩
  obtain ⟨gg, hgg⟩ : ∃ g', W8.heap.size = g' := ⟨_, rfl⟩
  have hrowg : Wg.heap[gg]? = some (.cells #[.int .i64 mn.regs, .slice C1 i1 e1, .int .i64 mn.ret, .slice C2 i2 e2] 25 (0, 0)) := by rw [← hWg, ← hgg]; exact heap_alloc_new W8 _
  have q0 : Wg.cell? ⟨gg, 0, none⟩ = some (.int .i64 mn.regs) := cell_of_row Wg gg _ _ _ (0, 0) hrowg
  have q1 : Wg.cell? ⟨gg, 1, none⟩ = some (.slice C1 i1 e1) := cell_of_row Wg gg _ _ _ (0, 0) hrowg
  have q2 : Wg.cell? ⟨gg, 2, none⟩ = some (.int .i64 mn.ret) := cell_of_row Wg gg _ _ _ (0, 0) hrowg
  have q3 : Wg.cell? ⟨gg, 3, none⟩ = some (.slice C2 i2 e2) := cell_of_row Wg gg _ _ _ (0, 0) hrowg
  have HBG := hide (show Below Wf.heap.size Wf Wg by rw [← hWg]; exact hb8.alloc hb8.size _)
  have r0 : Wg.cell? ⟨gf, 0, none⟩ = some (.int .i64 mn.regs) := (HBG.out.cell (p := ⟨gf, 0, none⟩) hgfl).trans f0
  have r1 : Wg.cell? ⟨gf, 1, none⟩ = some (.slice B1 i1 d1) := (HBG.out.cell (p := ⟨gf, 1, none⟩) hgfl).trans f1
  have r2 : Wg.cell? ⟨gf, 2, none⟩ = some (.int .i64 mn.ret) := (HBG.out.cell (p := ⟨gf, 2, none⟩) hgfl).trans f2
  have r3 : Wg.cell? ⟨gf, 3, none⟩ = some (.slice B2 i2 d2) := (HBG.out.cell (p := ⟨gf, 3, none⟩) hgfl).trans f3
  have hggl : gg < Wg.heap.size := by rw [← hWg, ← hgg]; simp
  have hgfl2 : gf < Wg.heap.size := by have := HBG.out.size; omega
  have HS3 := hide (same5_any Wg _ _ (fun _ => True) (fun _ => True) mn B1 B2 C1 C2 i1 d1 i2 d2 e1 e2 (HF1.out.below HBG.out fun _ h => h) (HF2.out.below HBG.out fun _ h => h) (show Sl Wg (fun _ => True) C1 i1 e1 mn.args by rw [← hWg]; exact (hs1.alloc _).more fun _ _ _ => trivial) (show Sl Wg (fun _ => True) C2 i2 e2 mn.saved by rw [← hWg]; exact (hs2.alloc _).more fun _ _ _ => trivial))
  have HBW := hide (HBF.out.trans (HBG.out.mono hwf))
  have hwg : w.heap.size ≤ Wg.heap.size := HBW.out.size
  clear hrowg hs1 hs2 hb8 f0 f1 f2 f3 hgfl HQ
  refine hide ?_
  go_wp2_with (first | (go_at_call 9; (with_reducible refine HS3.out.mono ?_); rintro e _ ⟨rfl, u9, rfl⟩) | (go_at_call 6; (with_reducible refine (HA.out _ (HBW.out.ext hwg _)).mono ?_); rintro e _ ⟨rfl, u8, rfl⟩))
  go_ret
  exact RetX.b rfl ((HBW.out.ext hwg u9).ext (by rw [size_ext]; omega) u8)
end Go.Proofs.YtcfimcghckjmeaaGreatDoor
