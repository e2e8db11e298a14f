/- law04: walks: the kit's FuncOf, SameFunc; the chapter's example. -/
import Derived.Test.YtljglhaeonbfoaaGreatDoorG34
import Derived.Test.YtljglhaeonbfoaaGreatDoorG36
import Derived.Test.YtljglhaeonbfoaaGreatDoorG25
set_option linter.unusedSimpArgs false
set_option linter.unusedVariables false
namespace Go.Proofs.YtljglhaeonbfoaaGreatDoor
open Go.RowKit
def s4A : ByteArray := ⟨#[102, 117, 110, 32, 118, 49, 10, 98, 108, 111, 99, 107, 32, 48, 10, 118, 50, 32, 226, 134, 144, 32, 97, 100, 100, 32, 118, 49, 32, 118, 49, 10, 114, 101, 116, 117, 114, 110, 32, 118, 50, 10]⟩
def f4A : Fnc := ⟨[1], [⟨[⟨2, 2, 1, 1, 0, 0, [], 0⟩], ⟨3, 2, 0, 0⟩⟩]⟩
theorem parse_4A : parse04 false s4A = (f4A, 0, 0, 0) := by decide +kernel
theorem print_4A : print04 f4A = (s4A, 0) := by decide +kernel
theorem blocksOf_le4 (most : Int) (h0 : 0 ≤ most) : ∀ (l : List Block) (n : Int), (∀ b ∈ l, SmallB 140737488355328 b) → 0 ≤ n → n ≤ most + 500000000000000 → 0 ≤ blocksOf most n l ∧ blocksOf most n l ≤ most + 500000000000000
 | [], n, _, h1, h2 => ⟨h1, h2⟩
 | b :: l, n, hb, h1, h2 => by
  simp only [blocksOf]
  split
  ·have hs := hb b List.mem_cons_self
   have hl := hs.1
   have ha := argsOf_le most 140737488355328 b.ins (n + 1 + b.ins.length) hs.2
   exact blocksOf_le4 most h0 l _ (fun y hy => hb y (List.mem_cons_of_mem _ hy)) (by omega) (by omega)
  ·exact ⟨h1, h2⟩
theorem blocksOf4_any (w : World) (S : Nat → Prop) (l : List Block) (most : Int) (A : Option Addr) (n c : Nat) (h : Sl w S A n c l) (hm : SmallT 140737488355328 l) (hmost : 0 ≤ most ∧ most ≤ 700) :
  Calls Tryz.prog 20 #[.slice A n c, .int .i64 most] w (Ret (.int .i64 (blocksOf most 0 l)) w) := by
 obtain ⟨m0, m1⟩ := hmost
 have HL := hide h.len
 have hn : n ≤ 140737488355328 := by rw [← h.len]; exact hm.1
 have HM := hide hm; clear hm
 have HS := hide h; clear h
 go_enter Tryz.func20, Tryz.ntmps20
 go_wp2
 go_loop [5, 6] (fun a i => ∃ k : Nat, ∃ acc : Int, k ≤ n ∧ i = .int .i64 k ∧ a = .int .i64 acc ∧ 0 ≤ acc ∧ acc ≤ 500000000000000 ∧ blocksOf most 0 l = blocksOf most acc (l.drop k)) (fun _ i => n - (intOf i).toNat)
 case atStart => exact ⟨0, 0, Nat.zero_le _, rfl, rfl, by omega, by omega, rfl⟩
 case round =>
  obtain ⟨k, acc, hk, rfl, rfl, ha0, ha1, hr⟩ := hrel
  have HR := hide hr; clear hr
  by_cases hlt : k < n
  ·obtain ⟨b, off, x, A1, n1, c1, rfl, hb, hx, hins, -, -, -, -, c0, -, -, -, -⟩ := at_Block HS.out hlt
   have hsb := HM.out.2 x (mem_at hx)
   have hn1 : n1 ≤ 140737488355328 := by rw [← hins.len]; exact hsb.1
   have HN := hide hins.len
   have HX := hide (drop_at hx); clear hx
   have HI := hide hins; clear hins
   have HSB := hide hsb; clear hsb
   by_cases hle : acc ≤ most
   ·go_wp2
    go_loop [5, 7] (fun a i => ∃ j : Nat, ∃ ac : Int, j ≤ n1 ∧ i = .int .i64 j ∧ a = .int .i64 ac ∧ 0 ≤ ac ∧ ac ≤ 500000000000000 ∧ argsOf most (acc + 1 + n1) x.ins = argsOf most ac (x.ins.drop j)) (fun _ i => n1 - (intOf i).toNat)
    case atStart => exact ⟨0, acc + 1 + n1, Nat.zero_le _, rfl, rfl, by omega, by omega, rfl⟩
    case round =>
     obtain ⟨j, ac, hj, rfl, rfl, hac0, hac1, hr'⟩ := hrel
     have HR' := hide hr'; clear hr'
     by_cases hjt : j < n1
     ·obtain ⟨b', off', y, A2, n2, c2, rfl, hb', hy, -, -, -, -, -, -, hargs, -, -, -, -, -, -, -, d6, -⟩ := at_Ins HI.out hjt
      have hn2 : n2 ≤ 140737488355328 := by rw [← hargs.len]; exact HSB.out.2 y (mem_at hy)
      have HN2 := hide hargs.len
      have HY := hide (drop_at hy); clear hy hargs
      by_cases hle' : ac ≤ most
      ·go_wp2
       go_round
       case rel => exact ⟨j + 1, ac + n2, by omega, by go_num, rfl, by omega, by omega, by rw [HR'.out, HY.out]; simp only [argsOf, if_pos hle', HN2.out]⟩
       case measure => simp [intOf]; omega
      ·have hd : decide (ac ≤ most) = false := by simpa using hle'
       go_wp2
       go_round
       case rel => exact ⟨k + 1, ac, by omega, by go_num, rfl, by omega, by omega, by rw [HR.out, HX.out]; simp only [blocksOf, if_pos hle, HN.out]; rw [HR'.out, HY.out]; simp only [argsOf, if_neg hle']⟩
       case measure => simp [intOf]; omega
     ·go_wp2
      go_round
      case rel => exact ⟨k + 1, ac, by omega, by go_num, rfl, by omega, by omega, by rw [HR.out, HX.out]; simp only [blocksOf, if_pos hle, HN.out]; rw [HR'.out, drop_end HN.out hjt]; rfl⟩
      case measure => simp [intOf]; omega
   ·have hd : decide (acc ≤ most) = false := by simpa using hle
    go_wp2
    go_ret
    exact Ret.i (by rw [HR.out, HX.out]; simp only [blocksOf]; rw [if_neg (by omega)])
  ·go_wp2
   go_ret
   exact Ret.i (by rw [HR.out, drop_end HL.out hlt]; rfl)
set_option maxRecDepth 100000 in
set_option maxHeartbeats 8000000 in
theorem sameFunc_any (f : Fnc) (w : World) (S S' S2 S2' : Nat → Prop) (A A' B B' : Option Addr) (n k k' m j j' : Nat) (hp : Sl w S A n k f.params) (hp' : Sl w S' A' n k' f.params) (hb : Sl w S2 B m j f.blocks) (hb' : Sl w S2' B' m j' f.blocks) :
  Calls Tryz.prog 16 #[fnV A n k B m j, fnV A' n k' B' m j'] w (RetX (.bool true) w) := by
 have H1 := hide (fun W (hW : Below w.heap.size w W) => sameInts_any W S S' A A' n k k' f.params (hp.belowAll hW) (hp'.belowAll hW))
 have H2 := hide (fun W (hW : Below w.heap.size w W) => sameBlocks_any W S2 S2' B B' m j j' f.blocks (hb.belowAll hW) (hb'.belowAll hW))
 clear hp hp' hb hb'
 go_enter Tryz.func16, Tryz.ntmps16
 go_wp2_with (first | (go_at_call 54; refine (H1.out _ (by repeat (first | exact Below.refl _ _ | assumption | refine Below.alloc ?_ (by simp [size_ext]; try omega) _ | refine Below.ext ?_ (by simp [size_ext]; try omega) _ | refine Below.drew ?_ | refine Below.setCell ?_ (by simp [size_ext]; try omega) _))).mono ?_; rintro e _ ⟨rfl, ux, rfl⟩) | (go_at_call 55; refine (H2.out _ (by repeat (first | exact Below.refl _ _ | assumption | refine Below.alloc ?_ (by simp [size_ext]; try omega) _ | refine Below.ext ?_ (by simp [size_ext]; try omega) _ | refine Below.drew ?_ | refine Below.setCell ?_ (by simp [size_ext]; try omega) _))).mono ?_; rintro e _ ⟨rfl, ux, rfl⟩))
 go_ret
 exact RetX.b rfl (by repeat (first | exact Below.refl _ _ | assumption | refine Below.alloc ?_ (by simp [size_ext]; try omega) _ | refine Below.ext ?_ (by simp [size_ext]; try omega) _ | refine Below.drew ?_ | refine Below.setCell ?_ (by simp [size_ext]; try omega) _))
set_option maxRecDepth 100000 in
set_option maxHeartbeats 8000000 in
theorem funcOf_any (f : Fnc) (w : World) (S S2 : Nat → Prop) (A B : Option Addr) (n k m j : Nat) (hp : Sl w S A n k f.params) (hb : Sl w S2 B m j f.blocks) (hm : SmallT 140737488355328 f.blocks) (hn : n ≤ 140737488355328) :
  Calls Tryz.prog 8 #[fnV A n k B m j, .int .i64 700] w (RetX (.int .i64 (n + blocksOf 700 0 f.blocks)) w) := by
 have hbd := blocksOf_le4 700 (by decide) f.blocks 0 hm.2 (by decide) (by decide)
 have HB := hide (fun W (hW : Below w.heap.size w W) => blocksOf4_any W S2 f.blocks 700 B m j (hb.belowAll hW) hm ⟨by decide, by decide⟩)
 generalize blocksOf 700 0 f.blocks = t at HB hbd
 clear hp hb hm
 obtain ⟨t0, t1⟩ := hbd
 go_enter Tryz.func8, Tryz.ntmps8
 go_wp2_with fail
 refine wp_region_ext (by kernel_rfl) (by kernel_rfl) ?_
 repeat (any_goals (first | go_big_quiet_step (((go_at_call 20; exact quiet_ret (HB.out _ (by repeat (first | exact Below.refl _ _ | assumption | refine Below.alloc ?_ (by simp [size_ext]; try omega) _ | refine Below.ext ?_ (by simp [size_ext]; try omega) _ | refine Below.drew ?_ | refine Below.setCell ?_ (by simp [size_ext]; try omega) _)))))) | quiet_step (((go_at_call 20; exact quiet_ret (HB.out _ (by repeat (first | exact Below.refl _ _ | assumption | refine Below.alloc ?_ (by simp [size_ext]; try omega) _ | refine Below.ext ?_ (by simp [size_ext]; try omega) _ | refine Below.drew ?_ | refine Below.setCell ?_ (by simp [size_ext]; try omega) _))))))))
 refine wpQuiet_nil ?_
 rintro _ ⟨uq, rfl⟩
 go_wp2
 go_ret
 exact RetX.i rfl (by repeat (first | exact Below.refl _ _ | assumption | refine Below.alloc ?_ (by simp [size_ext]; try omega) _ | refine Below.ext ?_ (by simp [size_ext]; try omega) _ | refine Below.drew ?_ | refine Below.setCell ?_ (by simp [size_ext]; try omega) _))
set_option maxRecDepth 100000 in
set_option maxHeartbeats 8000000 in
theorem awake04_any (w : World) (hv : VarsP w) : Calls Tryz.prog 9 #[] w (RetX (.bool true) w) := by
 have HA := hide (show Calls Tryz.prog 14 #[.string ⟨#[102, 117, 110, 32, 118, 49, 10, 98, 108, 111, 99, 107, 32, 48, 10, 118, 50, 32, 226, 134, 144, 32, 97, 100, 100, 32, 118, 49, 32, 118, 49, 10, 114, 101, 116, 117, 114, 110, 32, 118, 50, 10]⟩] w (FncP (f4A, 0, 0, 0) w) from parse_4A ▸ parse04_any s4A w hv)
 have HP := hide (fun (W : World) (S : Nat → Prop) (A B : Option Addr) (n k m j : Nat) (hp : Sl W S A n k f4A.params) (hb : Sl W S B m j f4A.blocks) (hv : VarsP W) => show Calls Tryz.prog 11 #[fnV A n k B m j] W (RetX (.tuple #[.string ⟨#[102, 117, 110, 32, 118, 49, 10, 98, 108, 111, 99, 107, 32, 48, 10, 118, 50, 32, 226, 134, 144, 32, 97, 100, 100, 32, 118, 49, 32, 118, 49, 10, 114, 101, 116, 117, 114, 110, 32, 118, 50, 10]⟩, .int .i64 0]) W) from by
  have h := print04_any f4A W S A B n k m j hp hb hv
  rw [print_4A] at h
  exact h)
 have HV := hide hv
 clear hv
 go_enter Tryz.func9, Tryz.ntmps9
 go_wp2_with (go_at_call 14; (with_reducible refine HA.out.mono ?_); rintro e W1 ⟨A, n, k, B, m, j, rfl, hp, hb, hw⟩; dsimp only at hp hb ⊢; have HS1 := hide hp; have HS2 := hide hb; have HB1 := hide hw; clear hp hb hw; refine Hd.out ?_)
 obtain ⟨W2, hW2⟩ : ∃ W', W1.alloc (.cells #[.slice A n k, .slice B m j] 25) = W' := ⟨_, rfl⟩
 obtain ⟨C, hC⟩ : ∃ C, W1.heap.size = C := ⟨_, rfl⟩
 have hrow : W2.heap[C]? = some (.cells #[.slice A n k, .slice B m j] 25 (0, 0)) := by rw [← hW2, ← hC]; exact heap_alloc_new W1 _
 have k0 : W2.cell? ⟨C, 0, none⟩ = some (.slice A n k) := cell_of_row W2 C _ _ _ (0, 0) hrow
 have k1 : W2.cell? ⟨C, 1, none⟩ = some (.slice B m j) := cell_of_row W2 C _ _ _ (0, 0) hrow
 have kl : C < W2.heap.size := (Array.getElem?_eq_some_iff.1 hrow).1
 have HB2 := hide (show Below w.heap.size w W2 by rw [← hW2]; exact HB1.out.alloc HB1.out.size _)
 have HBL := hide (show w.heap.size ≤ W2.heap.size from HB2.out.size)
 have HV2 := hide (show VarsP W2 from HV.out.below HB2.out HV.out.v.sz)
 have hs1 : Sl W2 (fun b => w.heap.size ≤ b) A n k f4A.params := by rw [← hW2]; exact HS1.out.alloc _
 have hs2 : Sl W2 (fun b => w.heap.size ≤ b) B m j f4A.blocks := by rw [← hW2]; exact HS2.out.alloc _
 have hm : m = 1 := hs2.len.symm
 subst hm
 have HPR := hide (HP.out W2 _ A B n k 1 j hs1 hs2 HV2.out)
 obtain ⟨b, off, x, Ai, ni, ci, rfl, hb, hx, his, -, -, -, -, c0, c1, c2, c3, c4⟩ := at_Block hs2 (k := 0) (by decide)
 injection hx with hx
 subst hx
 dsimp only at his c0 c1 c2 c3 c4
 have hni : ni = 1 := his.len.symm
 subst hni
 obtain ⟨b', off', y, Ag, ng, cg, rfl, hb', hy, -, -, -, -, -, -, hga, -, d0, d1, d2, d3, d4, d5, d6, d7⟩ := at_Ins his (k := 0) (by decide)
 injection hy with hy
 subst hy
 dsimp only at d0 d1 d2 d3 d4 d5 d6 d7
 simp only [Nat.zero_mul, Nat.add_zero] at c0 c1 c2 c3 c4 d0 d1 d2 d3 d4 d5 d6 d7
 clear HA HB1 HS1 HS2 HP hrow hs1 hs2 his hga
 refine hide ?_
 go_wp2_with (go_at_call 11; (with_reducible refine HPR.out.mono ?_); rintro e _ ⟨rfl, u, rfl⟩)
 go_ret
 exact RetX.b rfl (HB2.out.ext HBL.out u)
end Go.Proofs.YtljglhaeonbfoaaGreatDoor
