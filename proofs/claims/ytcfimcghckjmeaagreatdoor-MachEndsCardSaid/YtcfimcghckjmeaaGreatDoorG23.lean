/- law05: walks: the chapter's example; MachFew. -/
import Derived.Test.YtcfimcghckjmeaaGreatDoorH4
import Derived.Test.YtcfimcghckjmeaaGreatDoorM5e
import Derived.Test.YtcfimcghckjmeaaGreatDoorG22
set_option linter.unusedSimpArgs false
set_option linter.unusedVariables false
namespace Go.Proofs.YtcfimcghckjmeaaGreatDoor
open Go.RowKit

def s5A : ByteArray := ⟨#[109, 97, 99, 104, 105, 110, 101, 32, 52, 32, 97, 114, 103, 115, 32, 48, 32, 49, 32, 114, 101, 116, 32, 48, 32, 115, 97, 118, 101, 100, 32, 50, 32, 51]⟩
def m5A : Machine := ⟨4, [0, 1], 0, [2, 3]⟩
theorem parse_A : parseT goA s5A = (m5A, 0) := by decide +kernel
theorem m5A_right : rightM m5A = true := by decide
theorem m5A_lost : lostM m5A = [0, 1] := by decide
theorem m5A_keeps : (keepsM m5A).length = 2 := by decide
theorem m5A_saved : hasI 3 m5A.saved = true := by decide
theorem two_ints (W : World) : Sl (W.alloc (.cells #[.int .i64 0, .int .i64 1] 3)) (fun g => g = W.heap.size) (some ⟨W.heap.size, 0, none⟩) 2 2 ([0, 1] : List Int) :=
  Sl.lit (S := fun _ => False) (us := [.int .i64 0, .int .i64 1]) rfl (RepL.ints [0, 1] (by intro x hx; simp at hx; unfold InI; omega)) rfl (by decide) (fun _ h => h.elim) rfl
set_option maxRecDepth 100000 in
set_option maxHeartbeats 8000000 in
theorem awake05_any (w : World) (hv : Vars w) : Calls Tryz.prog 6 #[] w (RetX (.bool true) w) := by
  have hp := parse5_any s5A w (by decide) hv
  rw [parse_A] at hp
  have HPA := hide (show Calls Tryz.prog 7 #[.string ⟨#[109, 97, 99, 104, 105, 110, 101, 32, 52, 32, 97, 114, 103, 115, 32, 48, 32, 49, 32, 114, 101, 116, 32, 48, 32, 115, 97, 118, 101, 100, 32, 50, 32, 51]⟩] w (RetM (m5A, 0) w) from hp)
  have HRI := hide (fun (W : World) (S : Nat → Prop) (A1 A2 : Option Addr) (n1 c1 n2 c2 : Nat) (h1 : Sl W S A1 n1 c1 m5A.args) (h2 : Sl W S A2 n2 c2 m5A.saved) => show Calls Tryz.prog 14 #[.agg #[.int .i64 m5A.regs, .slice A1 n1 c1, .int .i64 m5A.ret, .slice A2 n2 c2]] W (RetX (.bool true) W) from by have := rightm_any W S S m5A A1 A2 n1 c1 n2 c2 h1 h2 ⟨by decide, by decide⟩; rw [m5A_right] at this; exact this)
  have HLO := hide (fun (W : World) (S : Nat → Prop) (A1 A2 : Option Addr) (n1 c1 n2 c2 : Nat) (h1 : Sl W S A1 n1 c1 m5A.args) (h2 : Sl W S A2 n2 c2 m5A.saved) => show Calls Tryz.prog 13 #[.agg #[.int .i64 m5A.regs, .slice A1 n1 c1, .int .i64 m5A.ret, .slice A2 n2 c2]] W (RetSl ([0, 1] : List Int) W) from by have := lostm_any W S S m5A A1 A2 n1 c1 n2 c2 h1 h2 ⟨by decide, by decide⟩; rw [m5A_lost] at this; exact this.mono fun _ _ h => h.retSl)
  have HIS := hide (fun (W : World) (S : Nat → Prop) (v1 : Value) (A2 : Option Addr) (n2 c2 : Nat) (h2 : Sl W S A2 n2 c2 m5A.saved) => show Calls Tryz.prog 16 #[.agg #[.int .i64 m5A.regs, v1, .int .i64 m5A.ret, .slice A2 n2 c2], .int .i64 3] W (RetX (.bool true) W) from by have := isSaved5_any W S m5A v1 A2 n2 c2 h2 3; rw [m5A_saved] at this; exact this)
  have HKE := hide (fun (W : World) (S : Nat → Prop) (A1 A2 : Option Addr) (n1 c1 n2 c2 : Nat) (h1 : Sl W S A1 n1 c1 m5A.args) (h2 : Sl W S A2 n2 c2 m5A.saved) => show Calls Tryz.prog 21 #[.agg #[.int .i64 m5A.regs, .slice A1 n1 c1, .int .i64 m5A.ret, .slice A2 n2 c2]] W (fun e w' => ∃ A c, e = .returned (.slice A 2 c) ∧ ∃ u : Ext, w' = W.ext u) from (keeps_any W S S m5A A1 A2 n1 c1 n2 c2 h1 h2 ⟨by decide, by decide⟩).mono fun e w' ⟨A, n, c, S, he, ho, _, u, hu⟩ => by
    have hn := ho.form
    obtain ⟨A', c', hh⟩ := hn
    rw [m5A_keeps] at hh
    exact ⟨A', c', by rw [he, hh], u, hu⟩)
  go_enter Tryz.func6, Tryz.ntmps6
  go_wp2_with (go_at_call 7; refine HPA.out.mono ?_; rintro e W1 ⟨A1, n1, c1, A2, n2, c2, rfl, hs1, hs2, hb⟩; dsimp only at hs1 hs2 ⊢; refine Hd.out ?_)
  have HS1 := hide hs1; have HS2 := hide hs2; have HB := hide hb
  clear hs1 hs2 hb
  obtain ⟨Wm, hWm⟩ : ∃ W', W1.alloc (.cells #[.int .i64 m5A.regs, .slice A1 n1 c1, .int .i64 m5A.ret, .slice A2 n2 c2] 25) = W' := ⟨_, rfl⟩
  have HM1 := hide (show Sl Wm (fun b => b < Wm.heap.size) A1 n1 c1 m5A.args by rw [← hWm]; exact (HS1.out.alloc _).more fun b hb _ => hb)
  have HM2 := hide (show Sl Wm (fun b => b < Wm.heap.size) A2 n2 c2 m5A.saved by rw [← hWm]; exact (HS2.out.alloc _).more fun b hb _ => hb)
  obtain ⟨g, hg⟩ : ∃ g, W1.heap.size = g := ⟨_, rfl⟩
  have hrow : Wm.heap[g]? = some (.cells #[.int .i64 m5A.regs, .slice A1 n1 c1, .int .i64 m5A.ret, .slice A2 n2 c2] 25 (0, 0)) := by rw [← hWm, ← hg]; exact heap_alloc_new W1 _
  have k0 : Wm.cell? ⟨g, 0, none⟩ = some (.int .i64 m5A.regs) := cell_of_row Wm g _ _ _ (0, 0) hrow
  have k1 : Wm.cell? ⟨g, 1, none⟩ = some (.slice A1 n1 c1) := cell_of_row Wm g _ _ _ (0, 0) hrow
  have k2 : Wm.cell? ⟨g, 2, none⟩ = some (.int .i64 m5A.ret) := cell_of_row Wm g _ _ _ (0, 0) hrow
  have k3 : Wm.cell? ⟨g, 3, none⟩ = some (.slice A2 n2 c2) := cell_of_row Wm g _ _ _ (0, 0) hrow
  have hgl : g < Wm.heap.size := by rw [← hWm, ← hg]; simp
  have HB2 := hide (show Below w.heap.size w Wm by rw [← hWm]; exact HB.out.alloc HB.out.size _)
  have hwm : w.heap.size ≤ Wm.heap.size := HB2.out.size
  clear hrow HS1 HS2 HB hp hv
  refine hide ?_
  go_wp2_with (first | (go_at_call 14; refine (HRI.out _ _ _ _ _ _ _ _ HM1.out HM2.out).mono ?_; rintro e _ ⟨rfl, u1, rfl⟩) | (go_at_call 13; refine (HLO.out _ _ _ _ _ _ _ _ (HM1.out.ext _) (HM2.out.ext _)).mono ?_; rintro e _ ⟨A3, n3, c3, rfl, hs3, u2, rfl⟩; obtain ⟨u3, hu3⟩ := ext_ext Wm u1 u2; rw [hu3] at hs3; have HS3 := hide hs3; have hn3 : n3 = 2 := hs3.len.symm; subst hn3; clear hs3) | (go_at_call 18; refine (sameInts_any _ _ _ _ _ _ _ _ _ (HS3.out.alloc _) (by have h := two_ints (Wm.ext u3); rw [size_ext] at h; exact h)).mono ?_; rintro e _ ⟨rfl, u4, rfl⟩) | (go_at_call 16; refine (HIS.out _ _ _ _ _ _ (((HM2.out.ext _).alloc _).ext _)).mono ?_; rintro e _ ⟨rfl, u5, rfl⟩) | (go_at_call 21; refine (HKE.out _ _ _ _ _ _ _ _ ((((HM1.out.ext _).alloc _).ext _).ext _) ((((HM2.out.ext _).alloc _).ext _).ext _)).mono ?_; rintro e _ ⟨A6, c6, rfl, u6, rfl⟩))
  go_ret
  exact RetX.b rfl (((((HB2.out.ext hwm u3).alloc (by rw [size_ext]; omega) _).ext (by simp [size_ext]; omega) u4).ext (by simp [size_ext]; omega) u5).ext (by simp [size_ext]; omega) u6)
end Go.Proofs.YtcfimcghckjmeaaGreatDoor
