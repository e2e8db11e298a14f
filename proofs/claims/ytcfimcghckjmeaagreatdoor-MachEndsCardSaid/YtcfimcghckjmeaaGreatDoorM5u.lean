/- MachTells: the four lists lie apart. -/
import Derived.Test.YtcfimcghckjmeaaGreatDoorG26
import Derived.Test.YtcfimcghckjmeaaGreatDoorG20
set_option linter.unusedSimpArgs false
set_option linter.unusedVariables false
namespace Go.Proofs.YtcfimcghckjmeaaGreatDoor
open Go.RowKit

theorem lostM_few (m : Machine) : (lostM m).length ≤ 1000000 := by
  unfold lostM
  split
  · rename_i h
    have hr : m.regs ≤ 64 := by
      unfold rightM at h
      simp only [Bool.and_eq_true, decide_eq_true_eq] at h
      omega
    unfold lostTo
    rw [List.length_map]
    refine Nat.le_trans (List.length_filter_le _ _) ?_
    rw [List.length_range]
    omega
  · simp
def four (xa xb xc xd : List Int) : Nat → List Int := fun k => match k with | 0 => xa | 1 => xb | 2 => xc | _ => xd
/-- Four lists, each of its own row, in a new row. -/
theorem apart_four (W : World) (B : Nat) (a b c d : Hdr) (xa xb xc xd : List Int) (hB : B ≤ W.heap.size)
    (ha : OwnL W B 3 (fun _ => False) a.v xa) (hb : OwnL W B 3 (fun _ => False) b.v xb) (hc : OwnL W B 3 (fun _ => False) c.v xc) (hd : OwnL W B 3 (fun _ => False) d.v xd)
    (nab : ∀ g, a.v.ownBlock = some g → b.v.ownBlock ≠ some g) (nac : ∀ g, a.v.ownBlock = some g → c.v.ownBlock ≠ some g) (nad : ∀ g, a.v.ownBlock = some g → d.v.ownBlock ≠ some g)
    (nbc : ∀ g, b.v.ownBlock = some g → c.v.ownBlock ≠ some g) (nbd : ∀ g, b.v.ownBlock = some g → d.v.ownBlock ≠ some g) (ncd : ∀ g, c.v.ownBlock = some g → d.v.ownBlock ≠ some g)
    (la : a.n ≤ 1000000) (lb : b.n ≤ 1000000) (lc : c.n ≤ 1000000) (ld : d.n ≤ 1000000) :
    Calls Tryz.prog 26 #[.slice (some ⟨W.heap.size, 0, none⟩) 4 4] (W.alloc (.cells #[a.v, b.v, c.v, d.v] 23)) (fun e w' => e = .returned (.bool true) ∧ Below B (W.alloc (.cells #[a.v, b.v, c.v, d.v] 23)) w') := by
  have hlt : ∀ (h : Hdr) (xs : List Int), OwnL W B 3 (fun _ => False) h.v xs → ∀ g, h.v.ownBlock = some g → g ≠ W.heap.size := fun h xs ho g hg => by have := (ho.below_ g hg).2; omega
  refine apartInts_any _ B (fun b => b = W.heap.size) (some ⟨W.heap.size, 0, none⟩) 4 4 [a, b, c, d] (four xa xb xc xd) ⟨?_, ⟨?_, ?_⟩, ?_, Below.refl _ _, fun b h => by rw [h]; simp, fun _ _ => rfl⟩ (by simp; omega) (by decide) ?_
  · exact Sl.lit (S := fun _ => False) (us := [a.v, b.v, c.v, d.v]) rfl (RepL.hdrs _ _ [a, b, c, d]) rfl (by decide) (fun _ h => h.elim) rfl
  · intro k h hk
    match k, hk with
    | 0, hk => injection hk with hk; subst hk; exact ha.alloc _
    | 1, hk => injection hk with hk; subst hk; exact hb.alloc _
    | 2, hk => injection hk with hk; subst hk; exact hc.alloc _
    | 3, hk => injection hk with hk; subst hk; exact hd.alloc _
    | k + 4, hk => simp at hk
  · intro j k x y g hj hk hne hx hy
    match j, hj, k, hk with
    | 0, hj, 0, hk => exact hne rfl
    | 1, hj, 1, hk => exact hne rfl
    | 2, hj, 2, hk => exact hne rfl
    | 3, hj, 3, hk => exact hne rfl
    | 0, hj, 1, hk => injection hj with hj; injection hk with hk; subst hj hk; exact nab g hx hy
    | 0, hj, 2, hk => injection hj with hj; injection hk with hk; subst hj hk; exact nac g hx hy
    | 0, hj, 3, hk => injection hj with hj; injection hk with hk; subst hj hk; exact nad g hx hy
    | 1, hj, 2, hk => injection hj with hj; injection hk with hk; subst hj hk; exact nbc g hx hy
    | 1, hj, 3, hk => injection hj with hj; injection hk with hk; subst hj hk; exact nbd g hx hy
    | 2, hj, 3, hk => injection hj with hj; injection hk with hk; subst hj hk; exact ncd g hx hy
    | 1, hj, 0, hk => injection hj with hj; injection hk with hk; subst hj hk; exact nab g hy hx
    | 2, hj, 0, hk => injection hj with hj; injection hk with hk; subst hj hk; exact nac g hy hx
    | 3, hj, 0, hk => injection hj with hj; injection hk with hk; subst hj hk; exact nad g hy hx
    | 2, hj, 1, hk => injection hj with hj; injection hk with hk; subst hj hk; exact nbc g hy hx
    | 3, hj, 1, hk => injection hj with hj; injection hk with hk; subst hj hk; exact nbd g hy hx
    | 3, hj, 2, hk => injection hj with hj; injection hk with hk; subst hj hk; exact ncd g hy hx
    | j + 4, hj, _, _ => simp at hj
    | _, _, k + 4, hk => simp at hk
  · intro k h g hk hg
    match k, hk with
    | 0, hk => injection hk with hk; subst hk; exact hlt _ _ ha g hg
    | 1, hk => injection hk with hk; subst hk; exact hlt _ _ hb g hg
    | 2, hk => injection hk with hk; subst hk; exact hlt _ _ hc g hg
    | 3, hk => injection hk with hk; subst hk; exact hlt _ _ hd g hg
    | k + 4, hk => simp at hk
  · intro k h hk
    match k, hk with
    | 0, hk => injection hk with hk; subst hk; exact la
    | 1, hk => injection hk with hk; subst hk; exact lb
    | 2, hk => injection hk with hk; subst hk; exact lc
    | 3, hk => injection hk with hk; subst hk; exact ld
    | k + 4, hk => simp at hk
end Go.Proofs.YtcfimcghckjmeaaGreatDoor
