/- Walk: law 9's example. -/
import Derived.Test.YtkjipgelbjaggaaM41
set_option linter.unusedSimpArgs false
set_option linter.unusedVariables false
namespace Go.Proofs.Ytkjipgelbjaggaa
open Go.RowKit Go.Maps
def exM : Machine := ⟨2, [], 0, []⟩
def exI : Ins := ⟨15, 0, 1, 0, 0, 0, [], 0⟩
def exC : Ins := ⟨1, 1, 0, 0, 4, 0, [], 0⟩
def exT : Target := ⟨0, [⟨[exI], ⟨3, 0, 0, 0⟩⟩]⟩
def exU : Target := ⟨0, [⟨[exC, exI], ⟨3, 0, 0, 0⟩⟩]⟩
theorem exT_err : errR exM exT [] [] = 0 := by decide +kernel
theorem exU_err : errR exM exU [] [] = 0 := by decide +kernel
theorem stepR_fin {r : RunS} (h : r.fin ≠ 0) : stepR r = (r, false) := by unfold stepR; rw [if_pos h]
theorem runN_fin {r : RunS} {k : Nat} (h : (runN k r).fin ≠ 0) (n : Nat) (hn : k ≤ n) : runN n r = runN k r := runN_stop (by rw [stepR_fin h]) n hn
theorem exT_1 : (runN 1 (startR exM exT [] [] [] [])).fin = 3 ∧ (runN 1 (startR exM exT [] [] [] [])).steps = 1 := ⟨by rfl, by rfl⟩
theorem exT_go : (goX exM exT [] [] [] [] 9).fin = 3 ∧ (goX exM exT [] [] [] [] 9).steps = 1 ∧ goE exM exT [] [] 9 = 0 := by
  have e : goX exM exT [] [] [] [] 9 = resOf (runN 1 (startR exM exT [] [] [] [])) := by
    unfold goX
    rw [if_neg (by rw [exT_err]; simp), if_neg (by decide)]
    rw [runN_fin (k := 1) (by rw [exT_1.1]; decide) _ (by decide)]
  rw [e]
  refine ⟨exT_1.1, exT_1.2, ?_⟩
  unfold goE
  rw [if_neg (by rw [exT_err]; simp), if_neg (by decide)]
theorem exU_2 : (runN 2 (startR exM exU [] [] [] [])).fin = 0 ∧ (runN 2 (startR exM exU [] [] [] [])).ins = 2 ∧ (runN 2 (startR exM exU [] [] [] [])).block = 0 ∧ (runN 2 (startR exM exU [] [] [] [])).t = exU ∧ (runN 2 (startR exM exU [] [] [] [])).first = (fun _ => none) ∧
    (runN 2 (startR exM exU [] [] [] [])).cells ⟨false, 0⟩ = some 4 := ⟨by rfl, by rfl, by rfl, by rfl, by rfl, by rfl⟩
theorem exU_3 : (runN 3 (startR exM exU [] [] [] [])).fin = 1 ∧ (runN 3 (startR exM exU [] [] [] [])).value = 4 := by
  obtain ⟨h1, h2, h3, h4, h5, h6⟩ := exU_2
  obtain ⟨r, hr⟩ : ∃ r, r = runN 2 (startR exM exU [] [] [] []) := ⟨_, rfl⟩
  rw [← hr] at h1 h2 h3 h4 h5 h6
  have hs : runN 3 (startR exM exU [] [] [] []) = (stepR r).1 := by rw [hr]; rfl
  have hB : blockR r = ⟨[exC, exI], ⟨3, 0, 0, 0⟩⟩ := by unfold blockR; rw [h4, h3]; rfl
  have hk : keptR { r with steps := r.steps + 1 } = true := keptR_yes fun l n h => by
    change r.first l = some n at h; rw [h5] at h; cases h
  have ht : termR9 { r with steps := r.steps + 1 } ⟨3, 0, 0, 0⟩ = .done 1 4 := by
    unfold termR9
    have hw : wholeC { r with steps := r.steps + 1 }.cells (needsP ⟨3, 0, 0, 0⟩) = true := by
      show wholeC r.cells [⟨false, 0⟩] = true
      simp [wholeC, anyF, h6]
    rw [if_pos hw, if_neg (by decide), if_pos rfl, if_pos hk]
    show Nxt.done 1 ((r.cells ⟨false, 0⟩).getD 0) = _
    rw [h6]; rfl
  have hst : (stepR r).1 = goR { r with steps := r.steps + 1 } (.done 1 4) := by
    unfold stepR
    rw [if_neg (by rw [h1]; simp), if_neg (by rw [hB, h2]; decide), hB, ht]
  rw [hs, hst]
  exact ⟨rfl, rfl⟩
theorem exU_go : (goX exM exU [] [] [] [] 9).fin = 1 ∧ (goX exM exU [] [] [] [] 9).value = 4 ∧ goE exM exU [] [] 9 = 0 := by
  have e : goX exM exU [] [] [] [] 9 = resOf (runN 3 (startR exM exU [] [] [] [])) := by
    unfold goX
    rw [if_neg (by rw [exU_err]; simp), if_neg (by decide)]
    rw [runN_fin (k := 3) (by rw [exU_3.1]; decide) _ (by decide)]
  rw [e]
  refine ⟨exU_3.1, exU_3.2, ?_⟩
  unfold goE
  rw [if_neg (by rw [exU_err]; simp), if_neg (by decide)]
theorem rep_blk9 {w : World} {x : Block} {A : Option Addr} {n c : Nat} {S : Nat → Prop} (h : Sl w S A n c x.ins) (h1 : InI x.term.kind) (h2 : InI x.term.a) (h3 : InI x.term.to0) (h4 : InI x.term.to1) : RepL w S [x] [.slice A n c, .int .i64 x.term.kind, .int .i64 x.term.a, .int .i64 x.term.to0, .int .i64 x.term.to1] :=
  RepL.single (Block.mk_ h h1 h2 h3 h4)
theorem io9 {x : Int} (h : x = 0 ∨ x = 1 ∨ x = 2 ∨ x = 3 ∨ x = 4 ∨ x = 9 ∨ x = 15) : InI x := by unfold InI; omega
set_option maxHeartbeats 4000000 in
set_option maxRecDepth 100000 in
theorem awake9_any (w : World) : Calls Try.prog 7 #[] w (RetX (.bool true) w) := by
  go_enter Try.func7, Try.ntmps7
  go_wp2_with fail
  have rt : ∀ w : World, RepL w (fun _ => True) [exI] [.int .i64 15, .int .i64 0, .int .i64 1, .int .i64 0, .int .i64 0, .int .i64 0, .slice none 0 0, .int .i64 0] := fun w =>
    RepL.single (Ins.mk_ (x := exI) (io9 (by decide)) (io9 (by decide)) (io9 (by decide)) (io9 (by decide)) (io9 (by decide)) (io9 (by decide)) Sl.nil (io9 (by decide)))
  have ru : ∀ w : World, RepL w (fun _ => True) [exC, exI] [.int .i64 1, .int .i64 1, .int .i64 0, .int .i64 0, .int .i64 4, .int .i64 0, .slice none 0 0, .int .i64 0, .int .i64 15, .int .i64 0, .int .i64 1, .int .i64 0, .int .i64 0, .int .i64 0, .slice none 0 0, .int .i64 0] := fun w =>
    ⟨_, _, rfl, Ins.mk_ (x := exC) (io9 (by decide)) (io9 (by decide)) (io9 (by decide)) (io9 (by decide)) (io9 (by decide)) (io9 (by decide)) Sl.nil (io9 (by decide)),
      RepL.single (Ins.mk_ (x := exI) (io9 (by decide)) (io9 (by decide)) (io9 (by decide)) (io9 (by decide)) (io9 (by decide)) (io9 (by decide)) Sl.nil (io9 (by decide)))⟩
  obtain ⟨W, hW⟩ : ∃ W, W = (((((((w.alloc (.cells #[.int .i64 2, .slice none 0 0, .int .i64 0, .slice none 0 0] 24)).alloc
      (.cells #[.int .i64 15, .int .i64 0, .int .i64 1, .int .i64 0, .int .i64 0, .int .i64 0, .slice none 0 0, .int .i64 0] 66)).alloc
      (.cells #[.slice (some ⟨w.heap.size + 1, 0, none⟩) 1 1, .int .i64 3, .int .i64 0, .int .i64 0, .int .i64 0] 60)).alloc
      (.cells #[.int .i64 0, .slice (some ⟨w.heap.size + 1 + 1, 0, none⟩) 1 1] 27)).alloc
      (.cells #[.int .i64 1, .int .i64 1, .int .i64 0, .int .i64 0, .int .i64 4, .int .i64 0, .slice none 0 0, .int .i64 0, .int .i64 15, .int .i64 0, .int .i64 1, .int .i64 0, .int .i64 0, .int .i64 0, .slice none 0 0, .int .i64 0] 66)).alloc
      (.cells #[.slice (some ⟨w.heap.size + 1 + 1 + 1 + 1, 0, none⟩) 2 2, .int .i64 3, .int .i64 0, .int .i64 0, .int .i64 0] 60)).alloc
      (.cells #[.int .i64 0, .slice (some ⟨w.heap.size + 1 + 1 + 1 + 1 + 1, 0, none⟩) 1 1] 27)) := ⟨_, rfl⟩
  have FB := hide (show Below w.heap.size w W by subst hW; exact (by repeat (first | exact Below.refl _ _ | assumption | refine Below.alloc ?_ (by simp [size_ext]; try omega) _ | refine Below.ext ?_ (by simp [size_ext]; try omega) _ | refine Below.drew ?_ | refine Below.setCell ?_ (by simp [size_ext]; try omega) _)))
  have FS := hide (show W.heap.size = w.heap.size + 1 + 1 + 1 + 1 + 1 + 1 + 1 by subst hW; simp)
  have b0 : W.cell? ⟨w.heap.size, 0, none⟩ = some (.int .i64 2) := by subst hW; go_simp
  have b1 : W.cell? ⟨w.heap.size, 1, none⟩ = some (.slice none 0 0) := by subst hW; go_simp
  have b2 : W.cell? ⟨w.heap.size, 2, none⟩ = some (.int .i64 0) := by subst hW; go_simp
  have b3 : W.cell? ⟨w.heap.size, 3, none⟩ = some (.slice none 0 0) := by subst hW; go_simp
  have e0 : W.cell? ⟨w.heap.size + 1 + 1 + 1 + 1 + 1 + 1, 0, none⟩ = some (.int .i64 0) := by subst hW; go_simp
  have e1 : W.cell? ⟨w.heap.size + 1 + 1 + 1 + 1 + 1 + 1, 1, none⟩ = some (.slice (some ⟨w.heap.size + 1 + 1 + 1 + 1 + 1, 0, none⟩) 1 1) := by subst hW; go_simp
  have ST : Hd (Sl W (fun _ => True) (some ⟨w.heap.size + 1 + 1, 0, none⟩) 1 1 exT.blocks) := hide (by
    subst hW
    exact ((((Sl.lit (by simp) (rep_blk9 (x := ⟨[exI], ⟨3, 0, 0, 0⟩⟩) (Sl.lit (by simp) (rt _) rfl (by decide) (fun _ _ => trivial) trivial) (io9 (by decide)) (io9 (by decide)) (io9 (by decide)) (io9 (by decide))) rfl (by decide) (fun _ _ => trivial) trivial).alloc _).alloc _).alloc _).alloc _)
  have SU : Hd (Sl W (fun _ => True) (some ⟨w.heap.size + 1 + 1 + 1 + 1 + 1, 0, none⟩) 1 1 exU.blocks) := hide (by
    subst hW
    exact (Sl.lit (by simp) (rep_blk9 (x := ⟨[exC, exI], ⟨3, 0, 0, 0⟩⟩) (Sl.lit (by simp) (ru _) rfl (by decide) (fun _ _ => trivial) trivial) (io9 (by decide)) (io9 (by decide)) (io9 (by decide)) (io9 (by decide))) rfl (by decide) (fun _ _ => trivial) trivial).alloc _)
  have f0 : w.heap.size < W.heap.size := by have := FS.out; omega
  have f6 : w.heap.size + 1 + 1 + 1 + 1 + 1 + 1 < W.heap.size := by have := FS.out; omega
  rw [← hW]
  clear hW rt ru
  refine (go9_any W _ _ _ (fun _ => True) (fun _ => True) (fun _ => True) (fun _ => True) exM none none 0 0 0 0 (Sl.nil (S := fun _ => True)) (Sl.nil (S := fun _ => True)) (io9 (by decide)) exT _ 1 1 ST.out none none none none 0 0 0 0 0 0 0 0 [] [] [] [] Sl.nil Sl.nil Sl.nil Sl.nil (by decide) (by decide) (by decide) (fun b hb => by
    simp only [exT, List.mem_singleton] at hb; subst hb; decide) (by decide) (by decide) 9 (io9 (by decide))).mono ?_
  rintro e _ ⟨Ac, cc, Am, cm, Sc, rfl, _, _, _, u, rfl⟩
  rw [exT_go.1, exT_go.2.1, exT_go.2.2]
  generalize (goX exM exT [] [] [] [] 9).value = va
  generalize (goX exM exT [] [] [] [] 9).calls.length = na
  generalize (goX exM exT [] [] [] [] 9).mem.length = ma
  have HSU := hide (fun (W' : World) (h : Below W.heap.size W W') => SU.out.belowAll h)
  go_wp2_with (go_at_call 11; refine (go9_any _ _ _ _ (fun _ => True) (fun _ => True) (fun _ => True) (fun _ => True) exM none none 0 0 0 0 (Sl.nil (S := fun _ => True)) (Sl.nil (S := fun _ => True)) (io9 (by decide)) exU _ 1 1 (HSU.out _ (by repeat (first | exact Below.refl _ _ | assumption | refine Below.alloc ?_ (by simp [size_ext]; try omega) _ | refine Below.ext ?_ (by simp [size_ext]; try omega) _ | refine Below.drew ?_ | refine Below.setCell ?_ (by simp [size_ext]; try omega) _))) none none none none 0 0 0 0 0 0 0 0 [] [] [] [] Sl.nil Sl.nil Sl.nil Sl.nil (by decide) (by decide) (by decide) (fun b hb => by
    simp only [exU, List.mem_singleton] at hb; subst hb; decide) (by decide) (by decide) 9 (io9 (by decide))).mono ?_; rintro e _ ⟨Ac2, cc2, Am2, cm2, Sc2, rfl, _, _, _, u2, rfl⟩; rw [exU_go.1, exU_go.2.1, exU_go.2.2]; generalize (goX exM exU [] [] [] [] 9).steps = sa2; generalize (goX exM exU [] [] [] [] 9).calls.length = na2; generalize (goX exM exU [] [] [] [] 9).mem.length = ma2)
  refine bodyPost_ret (v := .bool true) (by simp [results, Try.results7, go_sem]) rfl ?_
  exact RetX.b rfl (FB.out.trans ((show Below W.heap.size W _ from (by repeat (first | exact Below.refl _ _ | assumption | refine Below.alloc ?_ (by simp [size_ext]; try omega) _ | refine Below.ext ?_ (by simp [size_ext]; try omega) _ | refine Below.drew ?_ | refine Below.setCell ?_ (by simp [size_ext]; try omega) _))).mono (by omega)))
end Go.Proofs.Ytkjipgelbjaggaa
