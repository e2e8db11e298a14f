/- law04: walks: the kit's FuncOf, SameFunc; the chapter's example. -/
import Derived.Test.YtljglhaeonbfoaaGreatDoorG34
import Derived.Test.YtljglhaeonbfoaaGreatDoorG36
import Derived.Test.YtljglhaeonbfoaaGreatDoorG25
set_option linter.unusedSimpArgs false
set_option linter.unusedVariables false
namespace Go.Proofs.YtljglhaeonbfoaaGreatDoor
open Go.RowKit
def s4A : ByteArray := ⟨#[102, 117, 110, 32, 118, 49, 10, 98, 108, 111, 99, 107, 32, 48, 10, 118, 50, 32, 226, 134, 144, 32, 97, 100, 100, 32, 118, 49, 32, 118, 49, 10, 114, 101, 116, 117, 114, 110, 32, 118, 50, 10]⟩
def f4A : Fnc := ⟨[1], [⟨[⟨2, 2, 1, 1, 0, 0, [], 0⟩], ⟨3, 2, 0, 0⟩⟩]⟩
theorem parse_4A : parse04 false s4A = (f4A, 0, 0, 0) := by decide +kernel
theorem print_4A : print04 f4A = (s4A, 0) := by decide +kernel
set_option maxRecDepth 100000 in
set_option maxHeartbeats 8000000 in
theorem sameFunc_any (f : Fnc) (w : World) (S S' S2 S2' : Nat → Prop) (A A' B B' : Option Addr) (n k k' m j j' : Nat) (hp : Sl w S A n k f.params) (hp' : Sl w S' A' n k' f.params) (hb : Sl w S2 B m j f.blocks) (hb' : Sl w S2' B' m j' f.blocks) :
  Calls Tryz.prog 16 #[fnV A n k B m j, fnV A' n k' B' m j'] w (RetX (.bool true) w) := by
 have H1 := hide (fun W (hW : Below w.heap.size w W) => sameInts_any W S S' A A' n k k' f.params (hp.belowAll hW) (hp'.belowAll hW))
 have H2 := hide (fun W (hW : Below w.heap.size w W) => sameBlocks_any W S2 S2' B B' m j j' f.blocks (hb.belowAll hW) (hb'.belowAll hW))
 clear hp hp' hb hb'
 go_enter Tryz.func16, Tryz.ntmps16
 go_wp2_with (first | (go_at_call 54; refine (H1.out _ (by repeat (first | exact Below.refl _ _ | assumption | refine Below.alloc ?_ (by simp [size_ext]; try omega) _ | refine Below.ext ?_ (by simp [size_ext]; try omega) _ | refine Below.drew ?_ | refine Below.setCell ?_ (by simp [size_ext]; try omega) _))).mono ?_; rintro e _ ⟨rfl, ux, rfl⟩) | (go_at_call 55; refine (H2.out _ (by repeat (first | exact Below.refl _ _ | assumption | refine Below.alloc ?_ (by simp [size_ext]; try omega) _ | refine Below.ext ?_ (by simp [size_ext]; try omega) _ | refine Below.drew ?_ | refine Below.setCell ?_ (by simp [size_ext]; try omega) _))).mono ?_; rintro e _ ⟨rfl, ux, rfl⟩))
 go_ret
 exact RetX.b rfl (by repeat (first | exact Below.refl _ _ | assumption | refine Below.alloc ?_ (by simp [size_ext]; try omega) _ | refine Below.ext ?_ (by simp [size_ext]; try omega) _ | refine Below.drew ?_ | refine Below.setCell ?_ (by simp [size_ext]; try omega) _))
set_option maxRecDepth 100000 in
set_option maxHeartbeats 8000000 in
theorem awake04_any (w : World) (hv : VarsP w) : Calls Tryz.prog 9 #[] w (RetX (.bool true) w) := by
 have HA := hide (show Calls Tryz.prog 14 #[.string ⟨#[102, 117, 110, 32, 118, 49, 10, 98, 108, 111, 99, 107, 32, 48, 10, 118, 50, 32, 226, 134, 144, 32, 97, 100, 100, 32, 118, 49, 32, 118, 49, 10, 114, 101, 116, 117, 114, 110, 32, 118, 50, 10]⟩] w (FncP (f4A, 0, 0, 0) w) from parse_4A ▸ parse04_any s4A w hv)
 have HP := hide (fun (W : World) (S : Nat → Prop) (A B : Option Addr) (n k m j : Nat) (hp : Sl W S A n k f4A.params) (hb : Sl W S B m j f4A.blocks) (hv : VarsP W) => show Calls Tryz.prog 11 #[fnV A n k B m j] W (RetX (.tuple #[.string ⟨#[102, 117, 110, 32, 118, 49, 10, 98, 108, 111, 99, 107, 32, 48, 10, 118, 50, 32, 226, 134, 144, 32, 97, 100, 100, 32, 118, 49, 32, 118, 49, 10, 114, 101, 116, 117, 114, 110, 32, 118, 50, 10]⟩, .int .i64 0]) W) from by
  have h := print04_any f4A W S A B n k m j hp hb hv
  rw [print_4A] at h
  exact h)
 have HV := hide hv
 clear hv
 go_enter Tryz.func9, Tryz.ntmps9
 go_wp2_with (go_at_call 14; (with_reducible refine HA.out.mono ?_); rintro e W1 ⟨A, n, k, B, m, j, rfl, hp, hb, hw⟩; dsimp only at hp hb ⊢; have HS1 := hide hp; have HS2 := hide hb; have HB1 := hide hw; clear hp hb hw; refine Hd.out ?_)
 obtain ⟨W2, hW2⟩ : ∃ W', W1.alloc (.cells #[.slice A n k, .slice B m j] 25) = W' := ⟨_, rfl⟩
 obtain ⟨C, hC⟩ : ∃ C, W1.heap.size = C := ⟨_, rfl⟩
 have hrow : W2.heap[C]? = some (.cells #[.slice A n k, .slice B m j] 25 (0, 0)) := by rw [← hW2, ← hC]; exact heap_alloc_new W1 _
 have k0 : W2.cell? ⟨C, 0, none⟩ = some (.slice A n k) := cell_of_row W2 C _ _ _ (0, 0) hrow
 have k1 : W2.cell? ⟨C, 1, none⟩ = some (.slice B m j) := cell_of_row W2 C _ _ _ (0, 0) hrow
 have kl : C < W2.heap.size := (Array.getElem?_eq_some_iff.1 hrow).1
 have HB2 := hide (show Below w.heap.size w W2 by rw [← hW2]; exact HB1.out.alloc HB1.out.size _)
 have HBL := hide (show w.heap.size ≤ W2.heap.size from HB2.out.size)
 have HV2 := hide (show VarsP W2 from HV.out.below HB2.out HV.out.v.sz)
 have hs1 : Sl W2 (fun b => w.heap.size ≤ b) A n k f4A.params := by rw [← hW2]; exact HS1.out.alloc _
 have hs2 : Sl W2 (fun b => w.heap.size ≤ b) B m j f4A.blocks := by rw [← hW2]; exact HS2.out.alloc _
 have hm : m = 1 := hs2.len.symm
 subst hm
 have HPR := hide (HP.out W2 _ A B n k 1 j hs1 hs2 HV2.out)
 obtain ⟨b, off, x, Ai, ni, ci, rfl, hb, hx, his, -, -, -, -, c0, c1, c2, c3, c4⟩ := at_Block hs2 (k := 0) (by decide)
 injection hx with hx
 subst hx
 dsimp only at his c0 c1 c2 c3 c4
 have hni : ni = 1 := his.len.symm
 subst hni
 obtain ⟨b', off', y, Ag, ng, cg, rfl, hb', hy, -, -, -, -, -, -, hga, -, d0, d1, d2, d3, d4, d5, d6, d7⟩ := at_Ins his (k := 0) (by decide)
 injection hy with hy
 subst hy
 dsimp only at d0 d1 d2 d3 d4 d5 d6 d7
 simp only [Nat.zero_mul, Nat.add_zero] at c0 c1 c2 c3 c4 d0 d1 d2 d3 d4 d5 d6 d7
 clear HA HB1 HS1 HS2 HP hrow hs1 hs2 his hga
 refine hide ?_
 go_wp2_with (go_at_call 11; (with_reducible refine HPR.out.mono ?_); rintro e _ ⟨rfl, u, rfl⟩)
 go_ret
 exact RetX.b rfl (HB2.out.ext HBL.out u)
end Go.Proofs.YtljglhaeonbfoaaGreatDoor
