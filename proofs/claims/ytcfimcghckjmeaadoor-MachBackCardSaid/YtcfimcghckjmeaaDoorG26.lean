/- law05: what is lost, and what is saved: the plain law; machines that are the same: the walk. MachBack: its walk. -/
import Derived.Test.YtcfimcghckjmeaaDoorG25
import Derived.Test.YtcfimcghckjmeaaDoorM5e
import Derived.Test.YtcfimcghckjmeaaDoorG22
import Derived.Test.YtcfimcghckjmeaaDoorG23
import Derived.BigGuardPart
set_option linter.unusedSimpArgs false
set_option linter.unusedVariables false
namespace Go.Proofs.YtcfimcghckjmeaaDoor
open Go.RowKit

theorem lostTo_app (n : Nat) (ys : List Int) (v : Int) (hv : (n : Int) ≤ v) : lostTo n (ys ++ [v]) = lostTo n ys := by
  have key : ∀ j ∈ List.range n, (!hasI (j : Int) (ys ++ [v])) = !hasI (j : Int) ys := by
    intro j hj
    have hj := List.mem_range.1 hj
    have : hasI (j : Int) (ys ++ [v]) = hasI (j : Int) ys := by
      apply Bool.eq_iff_iff.2
      rw [hasI_iff, hasI_iff, List.mem_append, List.mem_singleton]
      constructor
      · rintro (h | h)
        · exact h
        · omega
      · exact .inl
    rw [this]
  unfold lostTo
  rw [List.filter_congr key]
theorem lost_count : ∀ (n : Nat) (xs : List Int), xs.Pairwise (· < ·) → (∀ x ∈ xs, 0 ≤ x ∧ x < n) → (lostTo n xs).length + xs.length = n
  | 0, xs, _, h => by
    obtain rfl : xs = [] := by
      cases xs with
      | nil => rfl
      | cons x l => have := h x (by simp); omega
    rfl
  | n + 1, xs, hp, h => by
    rcases List.eq_nil_or_concat xs with rfl | ⟨ys, v, hcat⟩
    · have := lost_count n [] List.Pairwise.nil (fun _ h => by cases h)
      rw [lostTo_succ, List.length_append]
      simp [hasI] at this ⊢
      exact this
    · rw [List.concat_eq_append] at hcat
      subst hcat
      obtain ⟨hp1, _, hp2⟩ := List.pairwise_append.1 hp
      have hv := h v (by simp)
      have hy : ∀ x ∈ ys, 0 ≤ x ∧ x < v := fun x hx => ⟨(h x (by simp [hx])).1, hp2 x hx v (by simp)⟩
      by_cases hn : v = n
      · subst hn
        have := lost_count n ys hp1 hy
        rw [lostTo_succ, lostTo_app n ys n (Int.le_refl _), if_pos (by rw [hasI_iff]; simp), List.append_nil, List.length_append, List.length_singleton]
        omega
      · have := lost_count n (ys ++ [v]) hp (fun x hx => by
          rcases List.mem_append.1 hx with hx | hx
          · have := hy x hx; omega
          · simp at hx; subst hx; omega)
        rw [lostTo_succ, if_neg (by
          rw [hasI_iff, List.mem_append]
          rintro (hx | hx)
          · have := hy _ hx; omega
          · simp at hx; exact hn hx.symm), List.length_append, List.length_singleton]
        omega
theorem lostTo_sorted (n : Nat) (xs : List Int) : (lostTo n xs).Pairwise (· < ·) := by
  unfold lostTo
  rw [List.pairwise_map]
  exact (List.Pairwise.filter _ List.pairwise_lt_range).imp (fun h => by omega)
/-- What MachBack asks of a right machine. -/
structure LostOk (m : Machine) : Prop where
  n : ((lostM m).length : Int) + m.saved.length = m.regs
  k : (keepsM m).length = m.saved.length
  s : ∀ x ∈ lostM m, hasI x m.saved = false
  u : (lostM m).Pairwise (· < ·)
  r : m.ret ∈ lostM m
  l : (lostM m).length ≤ 64
theorem lost_ok {m : Machine} (h : rightM m = true) : LostOk m := by
  obtain ⟨a1, a2, a3, a4, a5, a6, a7, a8, a9⟩ := rightM_all h
  obtain ⟨b1, b2, b3⟩ := (savedOk_iff _ _ _).1 a9
  have hl := lostM_yes h
  have hr : ((m.regs.toNat : Nat) : Int) = m.regs := by omega
  have hc := lost_count m.regs.toNat m.saved b3 (fun x hx => by rw [hr]; exact b1 x hx)
  refine ⟨?_, ?_, ?_, ?_, ?_, ?_⟩
  · rw [hl]; omega
  · unfold keepsM; rw [h]; simp
  · intro x hx; rw [hl] at hx; exact (lostTo_mem.1 hx).2.2
  · rw [hl]; exact lostTo_sorted _ _
  · rw [hl]; exact lostTo_mem.2 ⟨a5, by omega, a7⟩
  · rw [hl]; have := lostTo_len m.regs.toNat m.saved; omega

set_option maxRecDepth 100000 in
set_option maxHeartbeats 4000000 in
theorem same5_any (w : World) (S1 S2 S3 S4 : Nat → Prop) (m : Machine) (A1 A2 A3 A4 : Option Addr) (n1 c1 n2 c2 c3 c4 : Nat) (h1 : Sl w S1 A1 n1 c1 m.args) (h2 : Sl w S2 A2 n2 c2 m.saved) (h3 : Sl w S3 A3 n1 c3 m.args) (h4 : Sl w S4 A4 n2 c4 m.saved) :
    Calls Tryd.prog 10 #[.agg #[.int .i64 m.regs, .slice A1 n1 c1, .int .i64 m.ret, .slice A2 n2 c2], .agg #[.int .i64 m.regs, .slice A3 n1 c3, .int .i64 m.ret, .slice A4 n2 c4]] w (RetX (.bool true) w) := by
  have H1 := hide h1; have H2 := hide h2; have H3 := hide h3; have H4 := hide h4
  obtain ⟨r, hr⟩ : ∃ r, m.regs = r := ⟨_, rfl⟩
  obtain ⟨t, ht⟩ : ∃ t, m.ret = t := ⟨_, rfl⟩
  rw [hr, ht]
  have er : (r == r) = true := by simp
  have et : (t == t) = true := by simp
  clear h1 h2 h3 h4 hr ht
  go_enter Tryd.func10, Tryd.ntmps10
  go_wp2_with (first | (go_at_call 14; (with_reducible refine (sameInts_any _ S1 S3 A1 A3 n1 c1 c3 m.args (by repeat (first | assumption | exact Hd.out (by assumption) | apply Sl.alloc | apply Sl.ext | apply Sl.drew | apply Sl.drewN)) (by repeat (first | assumption | exact Hd.out (by assumption) | apply Sl.alloc | apply Sl.ext | apply Sl.drew | apply Sl.drewN))).mono ?_); rintro e _ ⟨rfl, ux, rfl⟩) | (go_at_call 14; (with_reducible refine (sameInts_any _ S2 S4 A2 A4 n2 c2 c4 m.saved (by repeat (first | assumption | exact Hd.out (by assumption) | apply Sl.alloc | apply Sl.ext | apply Sl.drew | apply Sl.drewN)) (by repeat (first | assumption | exact Hd.out (by assumption) | apply Sl.alloc | apply Sl.ext | apply Sl.drew | apply Sl.drewN))).mono ?_); rintro e _ ⟨rfl, ux, rfl⟩))
  go_ret
  exact RetX.b rfl (by repeat (first | exact Below.refl _ _ | assumption | refine Below.alloc ?_ (by simp [size_ext]; try omega) _ | refine Below.ext ?_ (by simp [size_ext]; try omega) _ | refine Below.drew ?_ | refine Below.setCell ?_ (by simp [size_ext]; try omega) _))
end Go.Proofs.YtcfimcghckjmeaaDoor
set_option linter.unusedSimpArgs false
set_option linter.unusedVariables false
namespace Go.Proofs.YtcfimcghckjmeaaDoor
open Go.RowKit

/-- What a machine in memory is handed as. -/
abbrev vM (m : Machine) (A1 : Option Addr) (n1 c1 : Nat) (A2 : Option Addr) (n2 c2 : Nat) : Value := .agg #[.int .i64 m.regs, .slice A1 n1 c1, .int .i64 m.ret, .slice A2 n2 c2]
theorem parseT_right {s : ByteArray} {n : Machine} (h : parseT goA s = (n, 0)) : rightM n = true := by
  unfold parseT at h
  split at h
  · injection h with h1 h2; cases h2
  · unfold endM at h
    split at h
    · rename_i hne; injection h with h1 h2; exact absurd h2 hne
    · split at h
      · rename_i hr; injection h with h1 h2; rw [← h1]; exact hr
      · injection h with h1 h2; cases h2
theorem parseT_bad {s : ByteArray} {n : Machine} {f : Int} (h : parseT goA s = (n, f)) (hf : f ≠ 0) : n = zeroM := by
  unfold parseT at h
  split at h
  · injection h with h1 h2; exact h1.symm
  · unfold endM at h
    split at h
    · injection h with h1 h2; exact h1.symm
    · split at h
      · injection h with h1 h2; exact absurd h2.symm hf
      · injection h with h1 h2; exact h1.symm
theorem get_sorted {l : List Int} (h : l.Pairwise (· < ·)) {k : Nat} {x y : Int} (hx : l[k]? = some x) (hy : l[k + 1]? = some y) : x < y := by
  obtain ⟨h1, rfl⟩ := List.getElem?_eq_some_iff.1 hx
  obtain ⟨h2, rfl⟩ := List.getElem?_eq_some_iff.1 hy
  exact List.pairwise_iff_getElem.1 h k (k + 1) h1 h2 (by omega)
set_option maxRecDepth 100000 in
set_option maxHeartbeats 20000000 in
theorem machBack_any (w : World) (S1 S2 : Nat → Prop) (m : Machine) (A1 A2 : Option Addr) (n1 c1 n2 c2 : Nat) (h1 : Sl w S1 A1 n1 c1 m.args) (h2 : Sl w S2 A2 n2 c2 m.saved) (hi : InI m.ret) (hv : VarsP w) (s : ByteArray) (hs : s.size ≤ 140737488355328) (hn1 : n1 ≤ 140737488355328) (hn2 : n2 ≤ 140737488355328) :
    Calls Tryd.prog 4 #[.agg #[.int .i64 m.regs, .slice A1 n1 c1, .int .i64 m.ret, .slice A2 n2 c2], .string s] w (RetX (.bool true) w) := by
  have HL := hide h1.len
  obtain ⟨W0, hW0⟩ : ∃ W0, w.alloc (.cells #[.int .i64 m.regs, .slice A1 n1 c1, .int .i64 m.ret, .slice A2 n2 c2] 24) = W0 := ⟨_, rfl⟩
  obtain ⟨g, hg⟩ : ∃ g, w.heap.size = g := ⟨_, rfl⟩
  have hrow : W0.heap[g]? = some (.cells #[.int .i64 m.regs, .slice A1 n1 c1, .int .i64 m.ret, .slice A2 n2 c2] 24 (0, 0)) := by rw [← hW0, ← hg]; exact heap_alloc_new w _
  have k0 : W0.cell? ⟨g, 0, none⟩ = some (.int .i64 m.regs) := cell_of_row W0 g _ _ _ (0, 0) hrow
  have k1 : W0.cell? ⟨g, 1, none⟩ = some (.slice A1 n1 c1) := cell_of_row W0 g _ _ _ (0, 0) hrow
  have k2 : W0.cell? ⟨g, 2, none⟩ = some (.int .i64 m.ret) := cell_of_row W0 g _ _ _ (0, 0) hrow
  have k3 : W0.cell? ⟨g, 3, none⟩ = some (.slice A2 n2 c2) := cell_of_row W0 g _ _ _ (0, 0) hrow
  have hgl : g < W0.heap.size := by rw [← hW0, ← hg]; simp
  have HVW := hide (show VarsP W0 by rw [← hW0]; exact hv.alloc _)
  have HA := hide (awake05_any W0 HVW.out.v)
  have HB0 := hide (show Below w.heap.size w W0 by rw [← hW0]; exact (Below.refl _ _).alloc (Nat.le_refl _) _)
  have hw0 : w.heap.size ≤ W0.heap.size := HB0.out.size
  have H1 := hide (show Sl W0 S1 A1 n1 c1 m.args by rw [← hW0]; exact h1.alloc _)
  have H2 := hide (show Sl W0 S2 A2 n2 c2 m.saved by rw [← hW0]; exact h2.alloc _)
  have HVB := hide (fun (W : World) (hb : Below W0.heap.size W0 W) => HVW.out.below hb HVW.out.v.sz)
  have HPR := hide (fun (W : World) (hb : Below W0.heap.size W0 W) => print5_any W S1 S2 m A1 A2 n1 c1 n2 c2 (H1.out.belowAll hb) (H2.out.belowAll hb) hi (HVB.out W hb))
  have HRI := hide (fun (W : World) (hb : Below W0.heap.size W0 W) => rightm_any W S1 S2 m A1 A2 n1 c1 n2 c2 (H1.out.belowAll hb) (H2.out.belowAll hb) hi)
  have HLO := hide (fun (W : World) (hb : Below W0.heap.size W0 W) => (lostm_any W S1 S2 m A1 A2 n1 c1 n2 c2 (H1.out.belowAll hb) (H2.out.belowAll hb) hi).mono fun _ _ h => h.retSl)
  have HKE := hide (fun (W : World) (hb : Below W0.heap.size W0 W) => (keeps_any W S1 S2 m A1 A2 n1 c1 n2 c2 (H1.out.belowAll hb) (H2.out.belowAll hb) hi).mono fun _ _ h => h.retSl)
  have HIS := hide (fun (W : World) (hb : Below W0.heap.size W0 W) (r : Int) => isSaved5_any W S2 m (.slice A1 n1 c1) A2 n2 c2 (H2.out.belowAll hb) r)
  have HSA := hide (fun (W : World) (hb : Below W0.heap.size W0 W) (S3 S4 : Nat → Prop) (A3 A4 : Option Addr) (c3 c4 : Nat) (h3 : Sl W S3 A3 n1 c3 m.args) (h4 : Sl W S4 A4 n2 c4 m.saved) => same5_any W S3 S4 S1 S2 m A3 A4 A1 A2 n1 c3 n2 c4 c1 c2 h3 h4 (H1.out.belowAll hb) (H2.out.belowAll hb))
  have HPA := hide (fun (t : ByteArray) (ht : t.size ≤ 34359738368) (W : World) (hb : Below W0.heap.size W0 W) => parse5_any t W ht (HVB.out W hb).v)
  clear hrow h1 h2 hv hi
  by_cases hbig : 2000 < n1 + n2 + s.size
  · go_enter Tryd.func4, Tryd.ntmps4
    go_wp2_with (go_at_call 5; refine HA.out.mono ?_; rintro e _ ⟨rfl, u0, rfl⟩)
    all_goals (go_ret; exact RetX.b rfl (HB0.out.ext hw0 u0))
  -- what stands in the text s
  obtain ⟨⟨mn, ef⟩, hpt⟩ : ∃ r, parseT goA s = r := ⟨_, rfl⟩
  have HPS := hide (fun (W : World) (hb : Below W0.heap.size W0 W) => show Calls Tryd.prog 9 #[.string s] W (RetM (mn, ef) W) from hpt ▸ HPA.out s (by omega) W hb)
  have HRN := hide (show ef = 0 → rightM mn = true from fun e => parseT_right (by rw [hpt, e]))
  have HZN := hide (show ef ≠ 0 → mn = zeroM from fun e => parseT_bad hpt e)
  clear hpt

  cases hr : rightM m with
  | false =>
    rw [hr] at HRI
    have HPN := hide (show printT m = (⟨#[]⟩, 2) by unfold printT; rw [hr]; rfl)
    rw [HPN.out] at HPR
    clear HLO HKE HIS HSA hr
    go_enter Tryd.func4, Tryd.ntmps4
    go_wp2_with (first | (go_at_call 5; refine HA.out.mono ?_; rintro e _ ⟨rfl, u0, rfl⟩) | (go_at_call 8; (with_reducible refine (HPR.out _ (Below.of_ext W0 _ (Nat.le_refl _))).mono ?_); rintro e _ ⟨rfl, u1, rfl⟩; refine Hd.out ?_))
    obtain ⟨ua, hua⟩ := ext_ext W0 u0 u1
    rw [hua]
    refine hide ?_
    go_wp2_with (go_at_call 7; (with_reducible refine (HRI.out _ (Below.of_ext W0 _ (Nat.le_refl _))).mono ?_); rintro e _ ⟨rfl, u2, rfl⟩; refine Hd.out ?_)
    obtain ⟨We, hWe⟩ : ∃ W', (W0.ext ua).ext u2 = W' := ⟨_, rfl⟩
    have HBE := hide (show Below W0.heap.size W0 We by rw [← hWe]; exact ((Below.refl _ _).ext (Nat.le_refl _) ua).ext (by rw [size_ext]; omega) u2)
    rw [hWe]
    clear hWe hua HA HPR HRI
    refine hide ?_
    go_wp2_with (go_at_call 9; (with_reducible refine (HPS.out _ HBE.out).mono ?_); rintro e W7 ⟨B1, j1, d1, B2, j2, d2, rfl, hs1, hs2, hb7⟩; dsimp only at hs1 hs2 ⊢; refine Hd.out ?_)
    have HB7 := hide (HBE.out.trans (hb7.mono (by have := HBE.out.size; omega)))
    obtain ⟨Wf, hWf⟩ : ∃ W', W7.alloc (.cells #[.int .i64 mn.regs, .slice B1 j1 d1, .int .i64 mn.ret, .slice B2 j2 d2] 24) = W' := ⟨_, rfl⟩
    obtain ⟨gf, hgf⟩ : ∃ g', W7.heap.size = g' := ⟨_, rfl⟩
    have hrowf : Wf.heap[gf]? = some (.cells #[.int .i64 mn.regs, .slice B1 j1 d1, .int .i64 mn.ret, .slice B2 j2 d2] 24 (0, 0)) := by rw [← hWf, ← hgf]; exact heap_alloc_new W7 _
    have f0 : Wf.cell? ⟨gf, 0, none⟩ = some (.int .i64 mn.regs) := cell_of_row Wf gf _ _ _ (0, 0) hrowf
    have f1 : Wf.cell? ⟨gf, 1, none⟩ = some (.slice B1 j1 d1) := cell_of_row Wf gf _ _ _ (0, 0) hrowf
    have f2 : Wf.cell? ⟨gf, 2, none⟩ = some (.int .i64 mn.ret) := cell_of_row Wf gf _ _ _ (0, 0) hrowf
    have f3 : Wf.cell? ⟨gf, 3, none⟩ = some (.slice B2 j2 d2) := cell_of_row Wf gf _ _ _ (0, 0) hrowf
    have hgfl : gf < Wf.heap.size := by rw [← hWf, ← hgf]; simp
    have HBF := hide (show Below W0.heap.size W0 Wf by rw [← hWf]; exact HB7.out.alloc HB7.out.size _)
    have HF1 := hide (show Sl Wf (fun _ => True) B1 j1 d1 mn.args by rw [← hWf]; exact (hs1.alloc _).more fun _ _ _ => trivial)
    have HF2 := hide (show Sl Wf (fun _ => True) B2 j2 d2 mn.saved by rw [← hWf]; exact (hs2.alloc _).more fun _ _ _ => trivial)
    have hwf : W0.heap.size ≤ Wf.heap.size := HBF.out.size
    clear hrowf hs1 hs2 hb7 HPS
    refine hide ?_
    by_cases he : ef = 0
    · subst he
      have hrn := HRN.out rfl
      have HIN := hide (show InI mn.ret by have := (rightM_nums hrn).t; unfold InI; omega)
      have HPP := hide (show printT mn = (printB mn, 0) by unfold printT; rw [hrn]; rfl)
      have HQ := hide (fun (W : World) (hb : Below Wf.heap.size Wf W) => show Calls Tryd.prog 8 #[.agg #[.int .i64 mn.regs, .slice B1 j1 d1, .int .i64 mn.ret, .slice B2 j2 d2]] W (RetX (.tuple #[.string (printB mn), .int .i64 0]) W) from by
        have h := print5_any W (fun _ => True) (fun _ => True) mn B1 B2 j1 d1 j2 d2 (HF1.out.belowAll hb) (HF2.out.belowAll hb) HIN.out (HVB.out W (HBF.out.trans (hb.mono hwf)))
        rw [HPP.out] at h; exact h)
      have HPZ := hide (show (printB mn).size ≤ 34359738368 by have := print_size (rightM_nums hrn); obtain ⟨_, a2, a3, a4, _⟩ := rightM_all hrn; omega)
      have HP2 := hide (fun (W : World) (hb : Below Wf.heap.size Wf W) => show Calls Tryd.prog 9 #[.string (printB mn)] W (RetM (mn, 0) W) from by
        have h := HPA.out (printB mn) HPZ.out W (HBF.out.trans (hb.mono hwf))
        rw [parse_print hrn] at h; exact h)
      have HS2 := hide (fun (W : World) (hb : Below Wf.heap.size Wf W) (S3 S4 : Nat → Prop) (A3 A4 : Option Addr) (c3 c4 : Nat) (h3 : Sl W S3 A3 j1 c3 mn.args) (h4 : Sl W S4 A4 j2 c4 mn.saved) => same5_any W S3 S4 (fun _ => True) (fun _ => True) mn A3 A4 B1 B2 j1 c3 j2 c4 d1 d2 h3 h4 (HF1.out.belowAll hb) (HF2.out.belowAll hb))
      have HL1 := hide HF1.out.len
      have HL2 := hide HF2.out.len
      generalize printB mn = tx at HQ HP2
      clear hrn HIN HPP HPZ
      go_wp2_with (first | (go_at_call 8; (with_reducible refine (HQ.out _ (Below.refl _ _)).mono ?_); rintro e _ ⟨rfl, u5, rfl⟩) | (go_at_call 9; (with_reducible refine (HP2.out _ ((Below.refl _ _).ext (Nat.le_refl _) _)).mono ?_); rintro e W8 ⟨C1, i1, e1, C2, i2, e2, rfl, hs1, hs2, hb8⟩; dsimp only at hs1 hs2 ⊢; refine Hd.out ?_))
      have hi1 : i1 = j1 := by have h := hs1.len; have h' := HL1.out; omega
      have hi2 : i2 = j2 := by have h := hs2.len; have h' := HL2.out; omega
      subst hi1 hi2
      have HB8 := hide (((Below.refl Wf.heap.size Wf).ext (Nat.le_refl _) u5).trans (hb8.mono (by rw [size_ext]; omega)))
      obtain ⟨Wg, hWg⟩ : ∃ W', W8.alloc (.cells #[.int .i64 mn.regs, .slice C1 i1 e1, .int .i64 mn.ret, .slice C2 i2 e2] 24) = W' := ⟨_, rfl⟩
      obtain ⟨gg, hgg⟩ : ∃ g', W8.heap.size = g' := ⟨_, rfl⟩
      have hrowg : Wg.heap[gg]? = some (.cells #[.int .i64 mn.regs, .slice C1 i1 e1, .int .i64 mn.ret, .slice C2 i2 e2] 24 (0, 0)) := by rw [← hWg, ← hgg]; exact heap_alloc_new W8 _
      have q0 : Wg.cell? ⟨gg, 0, none⟩ = some (.int .i64 mn.regs) := cell_of_row Wg gg _ _ _ (0, 0) hrowg
      have q1 : Wg.cell? ⟨gg, 1, none⟩ = some (.slice C1 i1 e1) := cell_of_row Wg gg _ _ _ (0, 0) hrowg
      have q2 : Wg.cell? ⟨gg, 2, none⟩ = some (.int .i64 mn.ret) := cell_of_row Wg gg _ _ _ (0, 0) hrowg
      have q3 : Wg.cell? ⟨gg, 3, none⟩ = some (.slice C2 i2 e2) := cell_of_row Wg gg _ _ _ (0, 0) hrowg
      have HBG := hide (show Below Wf.heap.size Wf Wg by rw [← hWg]; exact HB8.out.alloc HB8.out.size _)
      have r0 : Wg.cell? ⟨gf, 0, none⟩ = some (.int .i64 mn.regs) := (HBG.out.cell (p := ⟨gf, 0, none⟩) hgfl).trans f0
      have r1 : Wg.cell? ⟨gf, 1, none⟩ = some (.slice B1 i1 d1) := (HBG.out.cell (p := ⟨gf, 1, none⟩) hgfl).trans f1
      have r2 : Wg.cell? ⟨gf, 2, none⟩ = some (.int .i64 mn.ret) := (HBG.out.cell (p := ⟨gf, 2, none⟩) hgfl).trans f2
      have r3 : Wg.cell? ⟨gf, 3, none⟩ = some (.slice B2 i2 d2) := (HBG.out.cell (p := ⟨gf, 3, none⟩) hgfl).trans f3
      have hggl : gg < Wg.heap.size := by rw [← hWg, ← hgg]; simp
      have hgfl2 : gf < Wg.heap.size := by have := HBG.out.size; omega
      have HG1 := hide (show Sl Wg (fun _ => True) C1 i1 e1 mn.args by rw [← hWg]; exact (hs1.alloc _).more fun _ _ _ => trivial)
      have HG2 := hide (show Sl Wg (fun _ => True) C2 i2 e2 mn.saved by rw [← hWg]; exact (hs2.alloc _).more fun _ _ _ => trivial)
      have HS3 := hide (HS2.out Wg HBG.out _ _ C1 C2 e1 e2 HG1.out HG2.out)
      have HBW := hide (HB0.out.trans ((HBF.out.trans (HBG.out.mono hwf)).mono hw0))
      have hwg : w.heap.size ≤ Wg.heap.size := HBW.out.size
      clear hrowg hs1 hs2 hb8 HQ HP2 f0 f1 f2 f3 hgfl HS2 HL1 HL2
      refine hide ?_
      go_wp2_with (go_at_call 10; (with_reducible refine HS3.out.mono ?_); rintro e _ ⟨rfl, u9, rfl⟩)
      go_ret
      exact RetX.b rfl (HBW.out.ext hwg u9)
    · have heb : (ef == 0) = false := by simpa using he
      have hz := HZN.out he
      have HSZ := hide (show Calls Tryd.prog 10 #[.agg #[.int .i64 mn.regs, .slice B1 j1 d1, .int .i64 mn.ret, .slice B2 j2 d2], .agg #[.int .i64 0, .slice none 0 0, .int .i64 0, .slice none 0 0]] Wf (RetX (.bool true) Wf) from by
        have l1 := HF1.out.len
        have l2 := HF2.out.len
        have h1 := HF1.out
        have h2 := HF2.out
        rw [hz] at l1 l2 h1 h2 ⊢
        have e1 : j1 = 0 := l1.symm
        have e2 : j2 = 0 := l2.symm
        subst e1 e2
        exact same5_any Wf (fun _ => True) (fun _ => True) (fun _ => True) (fun _ => True) zeroM B1 B2 none none 0 d1 0 d2 0 0 h1 h2 Sl.nil Sl.nil)
      have HBW := hide (HB0.out.trans (HBF.out.mono hw0))
      have hwg : w.heap.size ≤ Wf.heap.size := HBW.out.size
      clear he hz
      go_wp2_with (go_at_call 10; (with_reducible refine HSZ.out.mono ?_); rintro e _ ⟨rfl, u9, rfl⟩)
      go_ret
      exact RetX.b rfl (HBW.out.ext hwg u9)
  | true =>
    rw [hr] at HRI
    have HPN := hide (show printT m = (printB m, 0) by unfold printT; rw [hr]; rfl)
    rw [HPN.out] at HPR
    have HPZ := hide (show (printB m).size ≤ 34359738368 by have := print_size (rightM_nums hr); obtain ⟨_, a2, a3, a4, _⟩ := rightM_all hr; omega)
    have HP2 := hide (fun (W : World) (hb : Below W0.heap.size W0 W) => show Calls Tryd.prog 9 #[.string (printB m)] W (RetM (m, 0) W) from by
      have h := HPA.out (printB m) HPZ.out W hb
      rw [parse_print hr] at h; exact h)
    have HOK := hide (lost_ok hr)
    have HL2 := hide H2.out.len
    simp only at HPR
    generalize printB m = tx at HPR HP2
    clear hr HPN HPZ
    go_enter Tryd.func4, Tryd.ntmps4
    go_wp2_with (first | (go_at_call 5; refine HA.out.mono ?_; rintro e _ ⟨rfl, u0, rfl⟩) | (go_at_call 8; (with_reducible refine (HPR.out _ (Below.of_ext W0 _ (Nat.le_refl _))).mono ?_); rintro e _ ⟨rfl, u1, rfl⟩; refine Hd.out ?_))
    obtain ⟨ua, hua⟩ := ext_ext W0 u0 u1
    rw [hua]
    refine hide ?_
    go_wp2_with (go_at_call 7; (with_reducible refine (HRI.out _ (Below.of_ext W0 _ (Nat.le_refl _))).mono ?_); rintro e _ ⟨rfl, u2, rfl⟩; refine Hd.out ?_)
    obtain ⟨Wb, hWb⟩ : ∃ W', (W0.ext ua).ext u2 = W' := ⟨_, rfl⟩
    have HBB := hide (show Below W0.heap.size W0 Wb by rw [← hWb]; exact ((Below.refl _ _).ext (Nat.le_refl _) ua).ext (by rw [size_ext]; omega) u2)
    rw [hWb]
    clear hWb hua HA HPR HRI
    refine hide ?_
    go_wp2_with (go_at_call 9; (with_reducible refine (HP2.out _ HBB.out).mono ?_); rintro e W3 ⟨C1, i1, e1, C2, i2, e2, rfl, hs1, hs2, hb3⟩; dsimp only at hs1 hs2 ⊢; refine Hd.out ?_)
    have hi1 : i1 = n1 := by have h := hs1.len; have h' := HL.out; omega
    have hi2 : i2 = n2 := by have h := hs2.len; have h' := HL2.out; omega
    subst hi1 hi2
    have HB3 := hide (HBB.out.trans (hb3.mono (by have := HBB.out.size; omega)))
    obtain ⟨Wc, hWc⟩ : ∃ W', W3.alloc (.cells #[.int .i64 m.regs, .slice C1 i1 e1, .int .i64 m.ret, .slice C2 i2 e2] 24) = W' := ⟨_, rfl⟩
    obtain ⟨gc, hgc⟩ : ∃ g', W3.heap.size = g' := ⟨_, rfl⟩
    have hrowc : Wc.heap[gc]? = some (.cells #[.int .i64 m.regs, .slice C1 i1 e1, .int .i64 m.ret, .slice C2 i2 e2] 24 (0, 0)) := by rw [← hWc, ← hgc]; exact heap_alloc_new W3 _
    have q0 : Wc.cell? ⟨gc, 0, none⟩ = some (.int .i64 m.regs) := cell_of_row Wc gc _ _ _ (0, 0) hrowc
    have q1 : Wc.cell? ⟨gc, 1, none⟩ = some (.slice C1 i1 e1) := cell_of_row Wc gc _ _ _ (0, 0) hrowc
    have q2 : Wc.cell? ⟨gc, 2, none⟩ = some (.int .i64 m.ret) := cell_of_row Wc gc _ _ _ (0, 0) hrowc
    have q3 : Wc.cell? ⟨gc, 3, none⟩ = some (.slice C2 i2 e2) := cell_of_row Wc gc _ _ _ (0, 0) hrowc
    have HBC := hide (show Below W0.heap.size W0 Wc by rw [← hWc]; exact HB3.out.alloc HB3.out.size _)
    have r0 : Wc.cell? ⟨g, 0, none⟩ = some (.int .i64 m.regs) := (HBC.out.cell (p := ⟨g, 0, none⟩) hgl).trans k0
    have r1 : Wc.cell? ⟨g, 1, none⟩ = some (.slice A1 i1 c1) := (HBC.out.cell (p := ⟨g, 1, none⟩) hgl).trans k1
    have r2 : Wc.cell? ⟨g, 2, none⟩ = some (.int .i64 m.ret) := (HBC.out.cell (p := ⟨g, 2, none⟩) hgl).trans k2
    have r3 : Wc.cell? ⟨g, 3, none⟩ = some (.slice A2 i2 c2) := (HBC.out.cell (p := ⟨g, 3, none⟩) hgl).trans k3
    have hgcl : gc < Wc.heap.size := by rw [← hWc, ← hgc]; simp
    have hgl2 : g < Wc.heap.size := by have := HBC.out.size; omega
    have hwc : W0.heap.size ≤ Wc.heap.size := HBC.out.size
    have HS3 := hide (HSA.out Wc HBC.out _ _ C1 C2 e1 e2 (show Sl Wc (fun _ => True) C1 i1 e1 m.args by rw [← hWc]; exact (hs1.alloc _).more fun _ _ _ => trivial) (show Sl Wc (fun _ => True) C2 i2 e2 m.saved by rw [← hWc]; exact (hs2.alloc _).more fun _ _ _ => trivial))
    clear hrowc hs1 hs2 hb3 HSA HP2
    refine hide ?_
    go_wp2_with (first | (go_at_call 10; (with_reducible refine HS3.out.mono ?_); rintro e _ ⟨rfl, u3, rfl⟩) | (go_at_call 11; (with_reducible refine (HLO.out _ (HBC.out.ext hwc _)).mono ?_); rintro e _ ⟨A5, n5, c5, rfl, hs5, u4, rfl⟩; refine Hd.out ?_))
    obtain ⟨Wd, hWd⟩ : ∃ W', (Wc.ext u3).ext u4 = W' := ⟨_, rfl⟩
    have HBD := hide (show Below W0.heap.size W0 Wd by rw [← hWd]; exact (HBC.out.ext hwc u3).ext (by rw [size_ext]; omega) u4)
    have HS5 := hide (show Sl Wd (fun _ => True) A5 n5 c5 (lostM m) by rw [← hWd] at *; exact hs5.more fun _ _ _ => trivial)
    have y0 : Wd.cell? ⟨g, 0, none⟩ = some (.int .i64 m.regs) := (HBD.out.cell (p := ⟨g, 0, none⟩) hgl).trans k0
    have y1 : Wd.cell? ⟨g, 1, none⟩ = some (.slice A1 i1 c1) := (HBD.out.cell (p := ⟨g, 1, none⟩) hgl).trans k1
    have y2 : Wd.cell? ⟨g, 2, none⟩ = some (.int .i64 m.ret) := (HBD.out.cell (p := ⟨g, 2, none⟩) hgl).trans k2
    have y3 : Wd.cell? ⟨g, 3, none⟩ = some (.slice A2 i2 c2) := (HBD.out.cell (p := ⟨g, 3, none⟩) hgl).trans k3
    have hgd : g < Wd.heap.size := by have := HBD.out.size; omega
    have hwd : W0.heap.size ≤ Wd.heap.size := HBD.out.size
    have hn5 : n5 ≤ 64 := by have := HS5.out.len; have := HOK.out.l; omega
    have hsum : (n5 : Int) + (i2 : Int) = m.regs := by have h1 := HS5.out.len; have h2 := HL2.out; have h3 := HOK.out.n; omega
    have hwr : IntKind.i64.wrap m.regs = m.regs := IntWalk.i64_in _ (by have h2 := H2.out.len; omega)
    have HKD := hide (fun (u : Ext) => HKE.out _ (HBD.out.ext hwd u))
    have HKL := hide (show (keepsM m).length = i2 by rw [HOK.out.k]; exact HL2.out)
    rw [hWd]
    clear hWd hs5 HLO HKE HS3 q0 q1 q2 q3 r0 r1 r2 r3 hgcl hgl2 hwc k0 k1 k2 k3
    refine hide ?_
    go_wp2_with fail
    refine wp_region_flow_ext [] [] (by kernel_rfl) rfl (by kernel_rfl) ?_
    repeat (refine flow_known (by kernel_rfl) (fun K hK => ?_); go_simp; (first | (refine hK _ ?_; clear hK K) | (apply Exists.intro; refine ⟨fun _ => ?_, hK _ ?_⟩; (fail); clear hK K)))
    refine flow_keep0 (PureP fun v => ∃ A c, v = .slice A i2 c) (by kernel_rfl) (PureP.stable_ rfl) ?_ ?_
    · intro u
      go_simp
      refine (HKD.out u).mono ?_
      rintro e _ ⟨A', n', c', rfl, hs', u', rfl⟩
      have : n' = i2 := by rw [← hs'.len]; exact HKL.out
      subst this
      exact ⟨_, rfl, ⟨A', c', rfl⟩, onW_ext ⟨_, rfl⟩ ⟨u', rfl⟩⟩
    refine flow_out [true] (.int .i64 i2) (by kernel_rfl) ?_ ?_
    · intro u
      try simp only [List.nil_append, List.cons_append, useH_f, useH_t, useH_nil]
      rintro _ ⟨A', c', rfl⟩
      go_simp
    repeat (refine flow_known (by kernel_rfl) (fun K hK => ?_); go_simp; (first | (refine hK _ ?_; clear hK K) | (apply Exists.intro; refine ⟨fun _ => ?_, hK _ ?_⟩; (fail); clear hK K)))
    refine flow_done [true] (by kernel_rfl) ?_
    intro ux
    simp only [List.nil_append, List.cons_append, endH_f, endH_t, endH_nil]
    rintro v1 _
    go_simp
    obtain ⟨W5, hW5⟩ : ∃ W', Wd.ext ux = W' := ⟨_, rfl⟩
    have HB5 := hide (show Below W0.heap.size W0 W5 by rw [← hW5]; exact HBD.out.ext hwd ux)
    have HL5 := hide (show Sl W5 (fun _ => True) A5 n5 c5 (lostM m) by rw [← hW5]; exact HS5.out.ext ux)
    have x0 : W5.cell? ⟨g, 0, none⟩ = some (.int .i64 m.regs) := by rw [← hW5]; exact (cell?_ext Wd ux _ hgd).trans y0
    have x1 : W5.cell? ⟨g, 1, none⟩ = some (.slice A1 i1 c1) := by rw [← hW5]; exact (cell?_ext Wd ux _ hgd).trans y1
    have x2 : W5.cell? ⟨g, 2, none⟩ = some (.int .i64 m.ret) := by rw [← hW5]; exact (cell?_ext Wd ux _ hgd).trans y2
    have x3 : W5.cell? ⟨g, 3, none⟩ = some (.slice A2 i2 c2) := by rw [← hW5]; exact (cell?_ext Wd ux _ hgd).trans y3
    have hg5 : g < W5.heap.size := by have := HB5.out.size; omega
    have hw5 : W0.heap.size ≤ W5.heap.size := HB5.out.size
    have HI5 := hide (fun (u : Ext) (r : Int) => HIS.out (W5.ext u) (HB5.out.ext hw5 u) r)
    rw [hW5]
    clear hW5 hwr hsum HKD HKL y0 y1 y2 y3 hgd hwd HIS
    go_wp2_with fail
    go_loopw [10, 11] (fun a b wr => ∃ (k : Nat) (u : Ext), a = .bool (hasI m.ret ((lostM m).take k)) ∧ b = .int .i64 k ∧ k ≤ n5 ∧ wr = W5.ext u) (fun _ b _ => n5 - (intOf b).toNat)
    case atStart => exact ⟨0, _, rfl, rfl, Nat.zero_le _, (ext_refl W5).choose_spec⟩
    case round =>
      obtain ⟨k, u, rfl, rfl, hk, rfl⟩ := hrel
      obtain ⟨b, hb⟩ : ∃ b, hasI m.ret ((lostM m).take k) = b := ⟨_, rfl⟩
      rw [hb]
      have HBK := hide hb
      clear hb
      by_cases hlt : k < n5
      · obtain ⟨W6, hW6⟩ : ∃ W', W5.ext u = W' := ⟨_, rfl⟩
        have HW6 := hide hW6
        have HL6 := hide (show Sl W6 (fun _ => True) A5 n5 c5 (lostM m) by rw [← hW6]; exact HL5.out.ext u)
        have z0 : W6.cell? ⟨g, 0, none⟩ = some (.int .i64 m.regs) := by rw [← hW6]; exact (cell?_ext W5 u _ hg5).trans x0
        have z1 : W6.cell? ⟨g, 1, none⟩ = some (.slice A1 i1 c1) := by rw [← hW6]; exact (cell?_ext W5 u _ hg5).trans x1
        have z2 : W6.cell? ⟨g, 2, none⟩ = some (.int .i64 m.ret) := by rw [← hW6]; exact (cell?_ext W5 u _ hg5).trans x2
        have z3 : W6.cell? ⟨g, 3, none⟩ = some (.slice A2 i2 c2) := by rw [← hW6]; exact (cell?_ext W5 u _ hg5).trans x3
        have hg6 : g < W6.heap.size := by rw [← hW6, size_ext]; omega
        obtain ⟨bk, off, x, hA5, hbk, hx, hxi, hc⟩ := at_int HL6.out hlt
        subst hA5
        have HSTEP := hide (show hasI m.ret ((lostM m).take (k + 1)) = (b || x == m.ret) by
          rw [take_at hx, ← HBK.out]
          apply Bool.eq_iff_iff.2
          rw [Bool.or_eq_true, hasI_iff, hasI_iff, List.mem_append, List.mem_singleton, beq_iff_eq]
          exact or_congr Iff.rfl eq_comm)
        have HISX := hide (fun (v : Ext) => show Calls Tryd.prog 13 #[.agg #[.int .i64 m.regs, .slice A1 i1 c1, .int .i64 m.ret, .slice A2 i2 c2], .int .i64 x] (W6.ext v) (RetX (.bool false) (W6.ext v)) from by
          obtain ⟨v', hv'⟩ := ext_ext W5 u v
          have h := HI5.out v' x
          rw [← hv', hW6, HOK.out.s x (List.mem_of_getElem? hx)] at h
          exact h)
        have hkk : (k : Int) < 64 := by omega
        rw [hW6]
        clear hW6 x0 x1 x2 x3 hg5 HI5
        rcases Nat.eq_zero_or_pos k with hk0 | hkp
        · subst hk0
          simp only [Nat.add_zero] at hc
          clear hx
          go_wp2_with fail
          refine wp_region_flow_ext [] [] (by kernel_rfl) rfl (by kernel_rfl) ?_
          repeat (refine flow_known (by kernel_rfl) (fun K hK => ?_); go_simp; (first | (refine hK _ ?_; clear hK K) | (apply Exists.intro; refine ⟨fun _ => ?_, hK _ ?_⟩; ((go_at_call 13; exact HISX.out _)); clear hK K)))
          refine flow_done [] (by kernel_rfl) ?_
          intro u6
          simp only [List.nil_append, List.cons_append, endH_f, endH_t, endH_nil]
          go_simp
          go_wp2_with fail
          obtain ⟨W8, hW8⟩ : ∃ W', W6.ext u6 = W' := ⟨_, rfl⟩
          have HW8 := hide (show ∃ v, W8 = W5.ext v by obtain ⟨v, hv⟩ := ext_ext W5 u u6; exact ⟨v, by rw [← hW8, ← HW6.out, hv]⟩)
          have hc8 : W8.cell? ⟨bk, off, none⟩ = some (.int .i64 x) := by rw [← hW8]; exact (cell?_ext W6 u6 _ hbk).trans hc
          have z8 : W8.cell? ⟨g, 2, none⟩ = some (.int .i64 m.ret) := by rw [← hW8]; exact (cell?_ext W6 u6 _ hg6).trans z2
          have hb8 : bk < W8.heap.size := by rw [← hW8, size_ext]; omega
          have hg8 : g < W8.heap.size := by rw [← hW8, size_ext]; omega
          rw [hW8]
          obtain ⟨eb, heb⟩ : ∃ eb, (x == m.ret) = eb := ⟨_, rfl⟩
          have HEB := hide heb
          clear hW8 hc z0 z1 z2 z3 hg6 hbk HISX
          cases b with
          | true =>
            have HFIN := hide (show hasI m.ret ((lostM m).take (0 + 1)) = true by rw [HSTEP.out]; rfl)
            clear HSTEP HBK heb
            refine wp_region_flow_ext [] [] (by kernel_rfl) rfl (by kernel_rfl) ?_
            repeat (refine flow_known (by kernel_rfl) (fun K hK => ?_); go_simp; (first | (refine hK _ ?_; clear hK K) | (apply Exists.intro; refine ⟨fun _ => ?_, hK _ ?_⟩; (fail); clear hK K)))
            refine flow_done [] (by kernel_rfl) ?_
            intro u9
            simp only [List.nil_append, List.cons_append, endH_f, endH_t, endH_nil]
            go_simp
            go_wp2_with fail
            go_roundw
            case rel =>
              obtain ⟨v8, hv8⟩ := HW8.out
              obtain ⟨v9, hv9⟩ := ext_ext W5 v8 u9
              exact ⟨0 + 1, v9, by rw [HFIN.out], by go_num, by omega, by rw [hv8, hv9]⟩
            case measure => simp [intOf]; omega
          | false =>
            have HFIN := hide (show hasI m.ret ((lostM m).take (0 + 1)) = eb by rw [HSTEP.out, HEB.out]; rfl)
            clear HSTEP HBK
            refine wp_region_flow_ext [] [] (by kernel_rfl) rfl (by kernel_rfl) ?_
            repeat (refine flow_known (by kernel_rfl) (fun K hK => ?_); go_simp; (first | (refine hK _ ?_; clear hK K) | (apply Exists.intro; refine ⟨fun _ => ?_, hK _ ?_⟩; (fail); clear hK K)))
            refine flow_done [] (by kernel_rfl) ?_
            intro u9
            simp only [List.nil_append, List.cons_append, endH_f, endH_t, endH_nil]
            go_simp
            go_wp2_with fail
            go_roundw
            case rel =>
              obtain ⟨v8, hv8⟩ := HW8.out
              obtain ⟨v9, hv9⟩ := ext_ext W5 v8 u9
              exact ⟨0 + 1, v9, by rw [HFIN.out], by go_num, by omega, by rw [hv8, hv9]⟩
            case measure => simp [intOf]; omega
        · obtain ⟨j, hj⟩ : ∃ j, k = j + 1 := ⟨k - 1, by omega⟩
          have hjn : j < n5 := by omega
          obtain ⟨bk', off', x', hA5', hbk', hx', hxi', hc'⟩ := at_int HL6.out hjn
          injection hA5' with hA5'
          injection hA5' with e1 e2
          subst e1 e2
          have hxx : x' < x := get_sorted HOK.out.u hx' (by rw [← hj]; exact hx)
          have hd : decide (x ≤ x') = false := by simp; omega
          have hd3 : decide ((0 : Int) < (k : Int)) = true := by simp; omega
          have hs1 : IntKind.i64.wrap ((k : Int) - 1) = (j : Int) := by rw [IntWalk.i64_in _ (by omega)]; omega
          have HJ := hide hj
          clear hx hx' hbk' hj
          go_wp2_with fail
          refine wp_region_flow_ext [] [] (by kernel_rfl) rfl (by kernel_rfl) ?_
          repeat (refine flow_known (by kernel_rfl) (fun K hK => ?_); go_simp; (first | (refine hK _ ?_; clear hK K) | (apply Exists.intro; refine ⟨fun _ => ?_, hK _ ?_⟩; ((go_at_call 13; exact HISX.out _)); clear hK K)))
          refine flow_done [] (by kernel_rfl) ?_
          intro u6
          simp only [List.nil_append, List.cons_append, endH_f, endH_t, endH_nil]
          go_simp
          go_wp2_with fail
          obtain ⟨W8, hW8⟩ : ∃ W', W6.ext u6 = W' := ⟨_, rfl⟩
          have HW8 := hide (show ∃ v, W8 = W5.ext v by obtain ⟨v, hv⟩ := ext_ext W5 u u6; exact ⟨v, by rw [← hW8, ← HW6.out, hv]⟩)
          have hc8 : W8.cell? ⟨bk, off + k, none⟩ = some (.int .i64 x) := by rw [← hW8]; exact (cell?_ext W6 u6 _ hbk).trans hc
          have z8 : W8.cell? ⟨g, 2, none⟩ = some (.int .i64 m.ret) := by rw [← hW8]; exact (cell?_ext W6 u6 _ hg6).trans z2
          have hb8 : bk < W8.heap.size := by rw [← hW8, size_ext]; omega
          have hg8 : g < W8.heap.size := by rw [← hW8, size_ext]; omega
          rw [hW8]
          obtain ⟨eb, heb⟩ : ∃ eb, (x == m.ret) = eb := ⟨_, rfl⟩
          have HEB := hide heb
          clear hW8 hc z0 z1 z2 z3 hg6 hbk HISX
          cases b with
          | true =>
            have HFIN := hide (show hasI m.ret ((lostM m).take (k + 1)) = true by rw [HSTEP.out]; rfl)
            clear HSTEP HBK heb
            refine wp_region_flow_ext [] [] (by kernel_rfl) rfl (by kernel_rfl) ?_
            repeat (refine flow_known (by kernel_rfl) (fun K hK => ?_); go_simp; (first | (refine hK _ ?_; clear hK K) | (apply Exists.intro; refine ⟨fun _ => ?_, hK _ ?_⟩; (fail); clear hK K)))
            refine flow_done [] (by kernel_rfl) ?_
            intro u9
            simp only [List.nil_append, List.cons_append, endH_f, endH_t, endH_nil]
            go_simp
            go_wp2_with fail
            go_roundw
            case rel =>
              obtain ⟨v8, hv8⟩ := HW8.out
              obtain ⟨v9, hv9⟩ := ext_ext W5 v8 u9
              exact ⟨k + 1, v9, by rw [HFIN.out], by go_num, by omega, by rw [hv8, hv9]⟩
            case measure => simp [intOf]; omega
          | false =>
            have HFIN := hide (show hasI m.ret ((lostM m).take (k + 1)) = eb by rw [HSTEP.out, HEB.out]; rfl)
            clear HSTEP HBK
            refine wp_region_flow_ext [] [] (by kernel_rfl) rfl (by kernel_rfl) ?_
            repeat (refine flow_known (by kernel_rfl) (fun K hK => ?_); go_simp; (first | (refine hK _ ?_; clear hK K) | (apply Exists.intro; refine ⟨fun _ => ?_, hK _ ?_⟩; (fail); clear hK K)))
            refine flow_done [] (by kernel_rfl) ?_
            intro u9
            simp only [List.nil_append, List.cons_append, endH_f, endH_t, endH_nil]
            go_simp
            go_wp2_with fail
            go_roundw
            case rel =>
              obtain ⟨v8, hv8⟩ := HW8.out
              obtain ⟨v9, hv9⟩ := ext_ext W5 v8 u9
              exact ⟨k + 1, v9, by rw [HFIN.out], by go_num, by omega, by rw [hv8, hv9]⟩
            case measure => simp [intOf]; omega
      · have hkn : k = n5 := by omega
        have HT := hide (show b = true by rw [← HBK.out, hkn, List.take_of_length_le (by rw [HL5.out.len]; exact Nat.le_refl _), hasI_iff]; exact HOK.out.r)
        have hbt := HT.out
        subst hbt
        obtain ⟨We, hWe⟩ : ∃ W', W5.ext u = W' := ⟨_, rfl⟩
        have HBE := hide (show Below W0.heap.size W0 We by rw [← hWe]; exact HB5.out.ext hw5 u)
        go_wp2_with fail
        clear hWe x0 x1 x2 x3 hg5 hw5 HI5 HB5 HL5 HBK HT hkn hlt
        go_wp2_with (go_at_call 9; (with_reducible refine (HPS.out _ HBE.out).mono ?_); rintro e W7 ⟨B1, j1, d1, B2, j2, d2, rfl, hs1, hs2, hb7⟩; dsimp only at hs1 hs2 ⊢; refine Hd.out ?_)
        have HB7 := hide (HBE.out.trans (hb7.mono (by have := HBE.out.size; omega)))
        obtain ⟨Wf, hWf⟩ : ∃ W', W7.alloc (.cells #[.int .i64 mn.regs, .slice B1 j1 d1, .int .i64 mn.ret, .slice B2 j2 d2] 24) = W' := ⟨_, rfl⟩
        obtain ⟨gf, hgf⟩ : ∃ g', W7.heap.size = g' := ⟨_, rfl⟩
        have hrowf : Wf.heap[gf]? = some (.cells #[.int .i64 mn.regs, .slice B1 j1 d1, .int .i64 mn.ret, .slice B2 j2 d2] 24 (0, 0)) := by rw [← hWf, ← hgf]; exact heap_alloc_new W7 _
        have f0 : Wf.cell? ⟨gf, 0, none⟩ = some (.int .i64 mn.regs) := cell_of_row Wf gf _ _ _ (0, 0) hrowf
        have f1 : Wf.cell? ⟨gf, 1, none⟩ = some (.slice B1 j1 d1) := cell_of_row Wf gf _ _ _ (0, 0) hrowf
        have f2 : Wf.cell? ⟨gf, 2, none⟩ = some (.int .i64 mn.ret) := cell_of_row Wf gf _ _ _ (0, 0) hrowf
        have f3 : Wf.cell? ⟨gf, 3, none⟩ = some (.slice B2 j2 d2) := cell_of_row Wf gf _ _ _ (0, 0) hrowf
        have hgfl : gf < Wf.heap.size := by rw [← hWf, ← hgf]; simp
        have HBF := hide (show Below W0.heap.size W0 Wf by rw [← hWf]; exact HB7.out.alloc HB7.out.size _)
        have HF1 := hide (show Sl Wf (fun _ => True) B1 j1 d1 mn.args by rw [← hWf]; exact (hs1.alloc _).more fun _ _ _ => trivial)
        have HF2 := hide (show Sl Wf (fun _ => True) B2 j2 d2 mn.saved by rw [← hWf]; exact (hs2.alloc _).more fun _ _ _ => trivial)
        have hwf : W0.heap.size ≤ Wf.heap.size := HBF.out.size
        clear hrowf hs1 hs2 hb7 HPS
        refine hide ?_
        by_cases he : ef = 0
        · subst he
          have hrn := HRN.out rfl
          have HIN := hide (show InI mn.ret by have := (rightM_nums hrn).t; unfold InI; omega)
          have HPP := hide (show printT mn = (printB mn, 0) by unfold printT; rw [hrn]; rfl)
          have HQ := hide (fun (W : World) (hb : Below Wf.heap.size Wf W) => show Calls Tryd.prog 8 #[.agg #[.int .i64 mn.regs, .slice B1 j1 d1, .int .i64 mn.ret, .slice B2 j2 d2]] W (RetX (.tuple #[.string (printB mn), .int .i64 0]) W) from by
            have h := print5_any W (fun _ => True) (fun _ => True) mn B1 B2 j1 d1 j2 d2 (HF1.out.belowAll hb) (HF2.out.belowAll hb) HIN.out (HVB.out W (HBF.out.trans (hb.mono hwf)))
            rw [HPP.out] at h; exact h)
          have HPZ := hide (show (printB mn).size ≤ 34359738368 by have := print_size (rightM_nums hrn); obtain ⟨_, a2, a3, a4, _⟩ := rightM_all hrn; omega)
          have HP2 := hide (fun (W : World) (hb : Below Wf.heap.size Wf W) => show Calls Tryd.prog 9 #[.string (printB mn)] W (RetM (mn, 0) W) from by
            have h := HPA.out (printB mn) HPZ.out W (HBF.out.trans (hb.mono hwf))
            rw [parse_print hrn] at h; exact h)
          have HS2 := hide (fun (W : World) (hb : Below Wf.heap.size Wf W) (S3 S4 : Nat → Prop) (A3 A4 : Option Addr) (c3 c4 : Nat) (h3 : Sl W S3 A3 j1 c3 mn.args) (h4 : Sl W S4 A4 j2 c4 mn.saved) => same5_any W S3 S4 (fun _ => True) (fun _ => True) mn A3 A4 B1 B2 j1 c3 j2 c4 d1 d2 h3 h4 (HF1.out.belowAll hb) (HF2.out.belowAll hb))
          have HL1 := hide HF1.out.len
          have HL2 := hide HF2.out.len
          generalize printB mn = tx at HQ HP2
          clear hrn HIN HPP HPZ
          go_wp2_with (first | (go_at_call 8; (with_reducible refine (HQ.out _ (Below.refl _ _)).mono ?_); rintro e _ ⟨rfl, u5, rfl⟩) | (go_at_call 9; (with_reducible refine (HP2.out _ ((Below.refl _ _).ext (Nat.le_refl _) _)).mono ?_); rintro e W8 ⟨C1, i1, e1, C2, i2, e2, rfl, hs1, hs2, hb8⟩; dsimp only at hs1 hs2 ⊢; refine Hd.out ?_))
          have hi1 : i1 = j1 := by have h := hs1.len; have h' := HL1.out; omega
          have hi2 : i2 = j2 := by have h := hs2.len; have h' := HL2.out; omega
          subst hi1 hi2
          have HB8 := hide (((Below.refl Wf.heap.size Wf).ext (Nat.le_refl _) u5).trans (hb8.mono (by rw [size_ext]; omega)))
          obtain ⟨Wg, hWg⟩ : ∃ W', W8.alloc (.cells #[.int .i64 mn.regs, .slice C1 i1 e1, .int .i64 mn.ret, .slice C2 i2 e2] 24) = W' := ⟨_, rfl⟩
          obtain ⟨gg, hgg⟩ : ∃ g', W8.heap.size = g' := ⟨_, rfl⟩
          have hrowg : Wg.heap[gg]? = some (.cells #[.int .i64 mn.regs, .slice C1 i1 e1, .int .i64 mn.ret, .slice C2 i2 e2] 24 (0, 0)) := by rw [← hWg, ← hgg]; exact heap_alloc_new W8 _
          have q0 : Wg.cell? ⟨gg, 0, none⟩ = some (.int .i64 mn.regs) := cell_of_row Wg gg _ _ _ (0, 0) hrowg
          have q1 : Wg.cell? ⟨gg, 1, none⟩ = some (.slice C1 i1 e1) := cell_of_row Wg gg _ _ _ (0, 0) hrowg
          have q2 : Wg.cell? ⟨gg, 2, none⟩ = some (.int .i64 mn.ret) := cell_of_row Wg gg _ _ _ (0, 0) hrowg
          have q3 : Wg.cell? ⟨gg, 3, none⟩ = some (.slice C2 i2 e2) := cell_of_row Wg gg _ _ _ (0, 0) hrowg
          have HBG := hide (show Below Wf.heap.size Wf Wg by rw [← hWg]; exact HB8.out.alloc HB8.out.size _)
          have r0 : Wg.cell? ⟨gf, 0, none⟩ = some (.int .i64 mn.regs) := (HBG.out.cell (p := ⟨gf, 0, none⟩) hgfl).trans f0
          have r1 : Wg.cell? ⟨gf, 1, none⟩ = some (.slice B1 i1 d1) := (HBG.out.cell (p := ⟨gf, 1, none⟩) hgfl).trans f1
          have r2 : Wg.cell? ⟨gf, 2, none⟩ = some (.int .i64 mn.ret) := (HBG.out.cell (p := ⟨gf, 2, none⟩) hgfl).trans f2
          have r3 : Wg.cell? ⟨gf, 3, none⟩ = some (.slice B2 i2 d2) := (HBG.out.cell (p := ⟨gf, 3, none⟩) hgfl).trans f3
          have hggl : gg < Wg.heap.size := by rw [← hWg, ← hgg]; simp
          have hgfl2 : gf < Wg.heap.size := by have := HBG.out.size; omega
          have HG1 := hide (show Sl Wg (fun _ => True) C1 i1 e1 mn.args by rw [← hWg]; exact (hs1.alloc _).more fun _ _ _ => trivial)
          have HG2 := hide (show Sl Wg (fun _ => True) C2 i2 e2 mn.saved by rw [← hWg]; exact (hs2.alloc _).more fun _ _ _ => trivial)
          have HS3 := hide (HS2.out Wg HBG.out _ _ C1 C2 e1 e2 HG1.out HG2.out)
          have HBW := hide (HB0.out.trans ((HBF.out.trans (HBG.out.mono hwf)).mono hw0))
          have hwg : w.heap.size ≤ Wg.heap.size := HBW.out.size
          clear hrowg hs1 hs2 hb8 HQ HP2 f0 f1 f2 f3 hgfl HS2 HL1 HL2
          refine hide ?_
          go_wp2_with (go_at_call 10; (with_reducible refine HS3.out.mono ?_); rintro e _ ⟨rfl, u9, rfl⟩)
          go_ret
          exact RetX.b rfl (HBW.out.ext hwg u9)
        · have heb : (ef == 0) = false := by simpa using he
          have hz := HZN.out he
          have HSZ := hide (show Calls Tryd.prog 10 #[.agg #[.int .i64 mn.regs, .slice B1 j1 d1, .int .i64 mn.ret, .slice B2 j2 d2], .agg #[.int .i64 0, .slice none 0 0, .int .i64 0, .slice none 0 0]] Wf (RetX (.bool true) Wf) from by
            have l1 := HF1.out.len
            have l2 := HF2.out.len
            have h1 := HF1.out
            have h2 := HF2.out
            rw [hz] at l1 l2 h1 h2 ⊢
            have e1 : j1 = 0 := l1.symm
            have e2 : j2 = 0 := l2.symm
            subst e1 e2
            exact same5_any Wf (fun _ => True) (fun _ => True) (fun _ => True) (fun _ => True) zeroM B1 B2 none none 0 d1 0 d2 0 0 h1 h2 Sl.nil Sl.nil)
          have HBW := hide (HB0.out.trans (HBF.out.mono hw0))
          have hwg : w.heap.size ≤ Wf.heap.size := HBW.out.size
          clear he hz
          go_wp2_with (go_at_call 10; (with_reducible refine HSZ.out.mono ?_); rintro e _ ⟨rfl, u9, rfl⟩)
          go_ret
          exact RetX.b rfl (HBW.out.ext hwg u9)
end Go.Proofs.YtcfimcghckjmeaaDoor
