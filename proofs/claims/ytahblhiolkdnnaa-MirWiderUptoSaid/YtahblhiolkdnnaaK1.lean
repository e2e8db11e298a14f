/- Walks: copies of lists of structs; what is the same is found the same. Written by gen_kit.py. -/
import Derived.Test.YtahblhiolkdnnaaK0
set_option linter.unusedSimpArgs false
set_option linter.unusedVariables false
namespace Go.Proofs.Ytahblhiolkdnnaa
open Go.RowKit

/-- The numbers of such a thing fit. -/
def OkIns (x : Ins) : Prop := InI x.op ∧ InI x.dst ∧ InI x.a ∧ InI x.b ∧ InI x.imm ∧ InI x.callee ∧ InI x.many
/-- The numbers of such a thing fit. -/
def OkBlock (x : Block) : Prop := InI x.term.kind ∧ InI x.term.a ∧ InI x.term.to0 ∧ InI x.term.to1
/-- The numbers of such a thing fit. -/
def OkTarget (x : Target) : Prop := InI x.frame
theorem sameIns_any (w : World) (S S' : Nat → Prop) (A0 A0' : Option Addr) (n0 c0 c0' : Nat) (x : Ins) (h0 : Sl w S A0 n0 c0 x.args) (h0' : Sl w S' A0' n0 c0' x.args) :
    Calls Try.prog 82 #[.agg #[.int .i64 x.op, .int .i64 x.dst, .int .i64 x.a, .int .i64 x.b, .int .i64 x.imm, .int .i64 x.callee, .slice A0 n0 c0, .int .i64 x.many], .agg #[.int .i64 x.op, .int .i64 x.dst, .int .i64 x.a, .int .i64 x.b, .int .i64 x.imm, .int .i64 x.callee, .slice A0' n0 c0', .int .i64 x.many]] w (RetX (.bool true) w) := by
  have H0 := hide h0; clear h0
  have H0' := hide h0'; clear h0'
  go_enter Try.func82, Try.ntmps82
  go_wp2_with (first | (go_at_call 84; refine (sameInts_any _ S S' A0 A0' n0 c0 c0' x.args (by repeat (first | assumption | exact Hd.out (by assumption) | apply Sl.alloc | apply Sl.ext | apply Sl.drew | apply Sl.drewN)) (by repeat (first | assumption | exact Hd.out (by assumption) | apply Sl.alloc | apply Sl.ext | apply Sl.drew | apply Sl.drewN))).mono ?_; rintro e _ ⟨rfl, ux, rfl⟩))
  go_ret
  exact RetX.b rfl (by repeat (first | exact Below.refl _ _ | assumption | refine Below.alloc ?_ (by simp [size_ext]; try omega) _ | refine Below.ext ?_ (by simp [size_ext]; try omega) _ | refine Below.drew ?_ | refine Below.setCell ?_ (by simp [size_ext]; try omega) _))
theorem sameRow_any (w : World) (S S' : Nat → Prop) (A A' : Option Addr) (n c c' : Nat) (xs : List Ins) (h : Sl w S A n c xs) (h' : Sl w S' A' n c' xs) :
    Calls Try.prog 76 #[.slice A n c, .slice A' n c'] w (RetX (.bool true) w) := by
  have hn := h.nle
  have HS := hide h; clear h
  have HS' := hide h'; clear h'
  go_enter Try.func76, Try.ntmps76
  go_wp2
  go_loopw [5] (fun i wr => ∃ k : Nat, k ≤ n ∧ i = .int .i64 k ∧ ∃ u, wr = w.ext u) (fun i _ => n - (intOf i).toNat)
  case atStart => exact ⟨0, Nat.zero_le _, rfl, ext_refl _⟩
  case round =>
    obtain ⟨k, hk, rfl, u, rfl⟩ := hrel
    by_cases hlt : k < n
    · obtain ⟨b, off, x, A0, n0, c0, rfl, hb, hx, -, -, -, -, -, -, hs0, -, d0, d1, d2, d3, d4, d5, d6, d7⟩ := at_Ins HS.out hlt
      obtain ⟨b', off', x', A0', n0', c0', rfl, hb', hx', -, -, -, -, -, -, hs'0, -, e0, e1, e2, e3, e4, e5, e6, e7⟩ := at_Ins HS'.out hlt
      obtain rfl := some_eq hx hx'
      clear hx hx'
      obtain rfl : n0 = n0' := hs0.len.symm.trans hs'0.len
      have HI0 := hide hs0; have HI0' := hide hs'0
      clear hs0 hs'0
      go_wp2
      refine wp_region_ext (by kernel_rfl) (by kernel_rfl) ?_
      repeat (any_goals (first | go_big_quiet_step (((go_at_call 82; exact quiet_retx (sameIns_any _ S S' A0 A0' n0 c0 c0' x (by repeat (first | assumption | exact Hd.out (by assumption) | apply Sl.alloc | apply Sl.ext | apply Sl.drew | apply Sl.drewN)) (by repeat (first | assumption | exact Hd.out (by assumption) | apply Sl.alloc | apply Sl.ext | apply Sl.drew | apply Sl.drewN)))))) | quiet_step (((go_at_call 82; exact quiet_retx (sameIns_any _ S S' A0 A0' n0 c0 c0' x (by repeat (first | assumption | exact Hd.out (by assumption) | apply Sl.alloc | apply Sl.ext | apply Sl.drew | apply Sl.drewN)) (by repeat (first | assumption | exact Hd.out (by assumption) | apply Sl.alloc | apply Sl.ext | apply Sl.drew | apply Sl.drewN))))))))
      refine wpQuiet_nil ?_
      rintro _ ⟨uq, rfl⟩
      go_wp2
      go_roundw
      case rel => exact ⟨k + 1, by omega, by go_num, Below.to_ext (by repeat (first | exact Below.refl _ _ | assumption | refine Below.alloc ?_ (by simp [size_ext]; try omega) _ | refine Below.ext ?_ (by simp [size_ext]; try omega) _ | refine Below.drew ?_ | refine Below.setCell ?_ (by simp [size_ext]; try omega) _))⟩
      case measure => simp [intOf]; omega
    · go_wp2
      go_ret
      exact RetX.b rfl (by repeat (first | exact Below.refl _ _ | assumption | refine Below.alloc ?_ (by simp [size_ext]; try omega) _ | refine Below.ext ?_ (by simp [size_ext]; try omega) _ | refine Below.drew ?_ | refine Below.setCell ?_ (by simp [size_ext]; try omega) _))
theorem copyIns_any (w : World) (S : Nat → Prop) (A0 : Option Addr) (n0 c0 : Nat) (x : Ins) (h0 : Sl w S A0 n0 c0 x.args) (hm0 : x.args.length ≤ 1048576) (hok : OkIns x) :
    Calls Try.prog 78 #[.agg #[.int .i64 x.op, .int .i64 x.dst, .int .i64 x.a, .int .i64 x.b, .int .i64 x.imm, .int .i64 x.callee, .slice A0 n0 c0, .int .i64 x.many]] w (RetV x w) := by
  have H0 := hide h0; clear h0
  have HM0 := hide hm0; clear hm0
  have HOK := hide hok; clear hok
  go_enter Try.func78, Try.ntmps78
  go_wp2_with (go_at_call 83; refine (copyInts_any _ S A0 n0 c0 x.args (by repeat (first | assumption | exact Hd.out (by assumption) | apply Sl.alloc | apply Sl.ext | apply Sl.drew | apply Sl.drewN)) HM0.out).mono ?_; rintro e _ hx; obtain ⟨B0, m0, e0, rfl, hs0, ux, rfl⟩ := hx.retSl; have HS0 := hide hs0; clear hx hs0)
  refine bodyPost_ret (v := .agg #[.int .i64 x.op, .int .i64 x.dst, .int .i64 x.a, .int .i64 x.b, .int .i64 x.imm, .int .i64 x.callee, .slice B0 m0 e0, .int .i64 x.many]) (by simp [results, Try.results78, go_sem]) rfl ⟨_, rfl, ?_, Below.to_ext (by repeat (first | exact Below.refl _ _ | assumption | refine Below.alloc ?_ (by simp [size_ext]; try omega) _ | refine Below.ext ?_ (by simp [size_ext]; try omega) _ | refine Below.drew ?_ | refine Below.setCell ?_ (by simp [size_ext]; try omega) _))⟩
  obtain ⟨j0, j1, j2, j3, j4, j5, j6⟩ := HOK.out
  exact Ins.mk_ j0 j1 j2 j3 j4 j5 ((HS0.out.ext_swap (by simp) (fun b hb => hb)).more (fun b _ hb => by simp at hb ⊢; omega)) j6
theorem copyRow_any (w : World) (S : Nat → Prop) (A : Option Addr) (n c : Nat) (xs : List Ins) (h : Sl w S A n c xs) (hm : xs.length ≤ 1048576 ∧ ∀ y ∈ xs, SmallI 1048576 y) :
    Calls Try.prog 73 #[.slice A n c] w (RetO 30 xs w) := by
  have HL := hide h.len
  have hn : n ≤ 1048576 := by rw [← h.len]; exact hm.1
  have HS := hide h; clear h
  have HM := hide hm; clear hm
  obtain ⟨i0, hi, hz, hz1, hz2⟩ := info_parts info_Ins
  have HI0 := hide hi; have HZ := hide hz; have HZ1 := hide hz1; have HZ2 := hide hz2
  clear hi hz hz1 hz2
  obtain ⟨B, hB⟩ : ∃ B, B = w.heap.size := ⟨_, rfl⟩
  have HB := hide hB
  have hB1 : B ≤ w.heap.size := by omega
  have hB2 : w.heap.size ≤ B := by omega
  clear hB
  go_enter Try.func73, Try.ntmps73
  go_wp2
  go_loopw [3, 4] (fun o i wr => ∃ k : Nat, ∃ So : Nat → Prop, k ≤ n ∧ i = .int .i64 k ∧ OwnL wr B 30 So o (xs.take k) ∧ (∀ b, So b → B ≤ b ∧ b < wr.heap.size) ∧ Below B w wr ∧ B ≤ wr.heap.size) (fun _ i _ => n - (intOf i).toNat)
  case atStart => exact ⟨0, fun _ => False, Nat.zero_le _, rfl, OwnL.nil_ _ _ _ _, fun _ h => h.elim, Below.refl _ _, hB1⟩
  case round =>
    obtain ⟨k, So, hk, rfl, hown, hSo, hbel, hsz⟩ := hrel
    have HO := hide hown; have HSo := hide hSo; have HBel := hide hbel
    clear hown hSo hbel
    by_cases hlt : k < n
    · obtain ⟨b, off, x, A0, n0, c0, rfl, hb, hx, q0, q1, q2, q3, q4, q5, hs0, q6, d0, d1, d2, d3, d4, d5, d6, d7⟩ := at_Ins HS.out hlt
      have hcell : ∀ o, wr.cell? ⟨b, o, none⟩ = w.cell? ⟨b, o, none⟩ := fun o => HBel.out.cell (by show b < B; omega)
      rw [← hcell] at d0 d1 d2 d3 d4 d5 d6 d7
      clear hcell
      have HSm := hide (HM.out.2 x (mem_at hx))
      have HX := hide (take_at hx); clear hx
      have HOk : Hd (OkIns x) := hide ⟨q0, q1, q2, q3, q4, q5, q6⟩
      clear q0 q1 q2 q3 q4 q5 q6
      have HJ0 := hide ((hs0.more (S' := fun b => b < B) (fun b hb _ => by omega)).below HBel.out (fun _ h => h)); clear hs0
      go_wp2_with (first
        | (go_at_call 78; refine (copyIns_any _ _ A0 n0 c0 x HJ0.out HSm.out HOk.out).mono ?_; rintro e _ ⟨us, rfl, hus, ux, rfl⟩; obtain ⟨B0, m0, e0, rfl, -, -, -, -, -, -, ht0, -⟩ := Ins.open_ hus; have HT0 := hide ht0; clear ht0; clear hus)
        | (at_builtin; refine wpList_push (α := Ins) ((wr.ext ux).alloc (.cells #[.int .i64 x.op, .int .i64 x.dst, .int .i64 x.a, .int .i64 x.b, .int .i64 x.imm, .int .i64 x.callee, .slice B0 m0 e0, .int .i64 x.many] 30)) [.int .i64 x.op, .int .i64 x.dst, .int .i64 x.a, .int .i64 x.b, .int .i64 x.imm, .int .i64 x.callee, .slice B0 m0 e0, .int .i64 x.many] 30 rfl (.tmp 17) (.tmp 19) 36 rfl B 30 i0 _ 80 Try.underlying36 HI0.out HZ.out HZ1.out HZ2.out rfl (by decide) So (fun b => So b ∨ (wr.heap.size ≤ b ∧ b < (wr.ext ux).heap.size)) u3 (xs.take k) x rfl ((HO.out.ext ux).alloc _) _ rfl ?hg ?hr (fun _ h => .inl h) ?hap ?hnew ?hl1 ?hl2 ?hl3 ?_; rotate_left 7; intro v' w1 hown' hg _; have HO' := hide hown'; have HG := hide hg; clear hown' hg))
      case hr =>
        obtain ⟨j0, j1, j2, j3, j4, j5, j6⟩ := HOk.out
        exact Ins.mk_ j0 j1 j2 j3 j4 j5 ((HT0.out.more (fun b hb h => .inr ⟨h, hb⟩)).alloc _) j6
      case hg => simp [size_ext]
      case hap =>
        intro g hg hS
        rcases hS with hS | hS
        · exact absurd (HO.out) (fun h => by obtain ⟨_, _, _, h3⟩ := h; exact h3 g hg hS)
        · have := (HO.out.below_ g hg).2; omega
      case hnew =>
        intro b hS
        rcases hS with hS | hS
        · have := (HSo.out b hS).2; simp [size_ext]; omega
        · have := hS.2; simp [size_ext] at this ⊢; omega
      case hl1 => simp; omega
      case hl2 => simp; omega
      case hl3 => simp [size_ext]; omega
      go_wp2
      go_roundw
      case rel =>
        have hb1 : Below B w w1 := below_push (W := ((wr.ext ux).alloc (.cells #[.int .i64 x.op, .int .i64 x.dst, .int .i64 x.a, .int .i64 x.b, .int .i64 x.imm, .int .i64 x.callee, .slice B0 m0 e0, .int .i64 x.many] 30))) (v := u3) ((HBel.out.ext hsz ux).alloc (by simp [size_ext]; omega) _) ((HO.out.ext ux).alloc _) (by simp [size_ext]; omega) HG.out
        have hs1 := HG.out.size
        refine ⟨k + 1, _, by omega, by go_num, by rw [HX.out]; exact HO'.out, fun b hS => ?_, hb1, Nat.le_trans hB1 hb1.size⟩
        simp [size_ext] at hs1
        rcases hS with hS | hS
        · have := HSo.out b hS; omega
        · have := hS.2; simp [size_ext] at this; omega
      case measure => simp [intOf]; omega
    · go_wp2
      go_ret
      have ho := HO.out
      rw [take_end HL.out hlt] at ho
      have e := HB.out
      subst e
      exact RetO.mk_ ho (HSo.out) HBel.out
theorem sameBlock_any (w : World) (S S' : Nat → Prop) (A0 A0' : Option Addr) (n0 c0 c0' : Nat) (x : Block) (h0 : Sl w S A0 n0 c0 x.ins) (h0' : Sl w S' A0' n0 c0' x.ins) :
    Calls Try.prog 68 #[.agg #[.slice A0 n0 c0, .int .i64 x.term.kind, .int .i64 x.term.a, .int .i64 x.term.to0, .int .i64 x.term.to1], .agg #[.slice A0' n0 c0', .int .i64 x.term.kind, .int .i64 x.term.a, .int .i64 x.term.to0, .int .i64 x.term.to1]] w (RetX (.bool true) w) := by
  have H0 := hide h0; clear h0
  have H0' := hide h0'; clear h0'
  go_enter Try.func68, Try.ntmps68
  go_wp2_with (first | (go_at_call 76; refine (sameRow_any _ S S' A0 A0' n0 c0 c0' x.ins (by repeat (first | assumption | exact Hd.out (by assumption) | apply Sl.alloc | apply Sl.ext | apply Sl.drew | apply Sl.drewN)) (by repeat (first | assumption | exact Hd.out (by assumption) | apply Sl.alloc | apply Sl.ext | apply Sl.drew | apply Sl.drewN))).mono ?_; rintro e _ ⟨rfl, ux, rfl⟩))
  go_ret
  exact RetX.b rfl (by repeat (first | exact Below.refl _ _ | assumption | refine Below.alloc ?_ (by simp [size_ext]; try omega) _ | refine Below.ext ?_ (by simp [size_ext]; try omega) _ | refine Below.drew ?_ | refine Below.setCell ?_ (by simp [size_ext]; try omega) _))
theorem sameBlocks_any (w : World) (S S' : Nat → Prop) (A A' : Option Addr) (n c c' : Nat) (xs : List Block) (h : Sl w S A n c xs) (h' : Sl w S' A' n c' xs) :
    Calls Try.prog 66 #[.slice A n c, .slice A' n c'] w (RetX (.bool true) w) := by
  have hn := h.nle
  have HS := hide h; clear h
  have HS' := hide h'; clear h'
  go_enter Try.func66, Try.ntmps66
  go_wp2
  go_loopw [5] (fun i wr => ∃ k : Nat, k ≤ n ∧ i = .int .i64 k ∧ ∃ u, wr = w.ext u) (fun i _ => n - (intOf i).toNat)
  case atStart => exact ⟨0, Nat.zero_le _, rfl, ext_refl _⟩
  case round =>
    obtain ⟨k, hk, rfl, u, rfl⟩ := hrel
    by_cases hlt : k < n
    · obtain ⟨b, off, x, A0, n0, c0, rfl, hb, hx, hs0, -, -, -, -, d0, d1, d2, d3, d4⟩ := at_Block HS.out hlt
      obtain ⟨b', off', x', A0', n0', c0', rfl, hb', hx', hs'0, -, -, -, -, e0, e1, e2, e3, e4⟩ := at_Block HS'.out hlt
      obtain rfl := some_eq hx hx'
      clear hx hx'
      obtain rfl : n0 = n0' := hs0.len.symm.trans hs'0.len
      have HI0 := hide hs0; have HI0' := hide hs'0
      clear hs0 hs'0
      go_wp2
      refine wp_region_ext (by kernel_rfl) (by kernel_rfl) ?_
      repeat (any_goals (first | go_big_quiet_step (((go_at_call 68; exact quiet_retx (sameBlock_any _ S S' A0 A0' n0 c0 c0' x (by repeat (first | assumption | exact Hd.out (by assumption) | apply Sl.alloc | apply Sl.ext | apply Sl.drew | apply Sl.drewN)) (by repeat (first | assumption | exact Hd.out (by assumption) | apply Sl.alloc | apply Sl.ext | apply Sl.drew | apply Sl.drewN)))))) | quiet_step (((go_at_call 68; exact quiet_retx (sameBlock_any _ S S' A0 A0' n0 c0 c0' x (by repeat (first | assumption | exact Hd.out (by assumption) | apply Sl.alloc | apply Sl.ext | apply Sl.drew | apply Sl.drewN)) (by repeat (first | assumption | exact Hd.out (by assumption) | apply Sl.alloc | apply Sl.ext | apply Sl.drew | apply Sl.drewN))))))))
      refine wpQuiet_nil ?_
      rintro _ ⟨uq, rfl⟩
      go_wp2
      go_roundw
      case rel => exact ⟨k + 1, by omega, by go_num, Below.to_ext (by repeat (first | exact Below.refl _ _ | assumption | refine Below.alloc ?_ (by simp [size_ext]; try omega) _ | refine Below.ext ?_ (by simp [size_ext]; try omega) _ | refine Below.drew ?_ | refine Below.setCell ?_ (by simp [size_ext]; try omega) _))⟩
      case measure => simp [intOf]; omega
    · go_wp2
      go_ret
      exact RetX.b rfl (by repeat (first | exact Below.refl _ _ | assumption | refine Below.alloc ?_ (by simp [size_ext]; try omega) _ | refine Below.ext ?_ (by simp [size_ext]; try omega) _ | refine Below.drew ?_ | refine Below.setCell ?_ (by simp [size_ext]; try omega) _))
theorem copyBlock_any (w : World) (S : Nat → Prop) (A0 : Option Addr) (n0 c0 : Nat) (x : Block) (h0 : Sl w S A0 n0 c0 x.ins) (hm0 : x.ins.length ≤ 1048576 ∧ ∀ y ∈ x.ins, SmallI 1048576 y) (hok : OkBlock x) :
    Calls Try.prog 62 #[.agg #[.slice A0 n0 c0, .int .i64 x.term.kind, .int .i64 x.term.a, .int .i64 x.term.to0, .int .i64 x.term.to1]] w (RetV x w) := by
  have H0 := hide h0; clear h0
  have HM0 := hide hm0; clear hm0
  have HOK := hide hok; clear hok
  go_enter Try.func62, Try.ntmps62
  go_wp2_with (go_at_call 73; refine (copyRow_any _ S A0 n0 c0 x.ins (by repeat (first | assumption | exact Hd.out (by assumption) | apply Sl.alloc | apply Sl.ext | apply Sl.drew | apply Sl.drewN)) HM0.out).mono ?_; rintro e _ hx; obtain ⟨B0, m0, e0, rfl, hs0, ux, rfl⟩ := hx.retSl; have HS0 := hide hs0; clear hx hs0)
  refine bodyPost_ret (v := .agg #[.slice B0 m0 e0, .int .i64 x.term.kind, .int .i64 x.term.a, .int .i64 x.term.to0, .int .i64 x.term.to1]) (by simp [results, Try.results62, go_sem]) rfl ⟨_, rfl, ?_, Below.to_ext (by repeat (first | exact Below.refl _ _ | assumption | refine Below.alloc ?_ (by simp [size_ext]; try omega) _ | refine Below.ext ?_ (by simp [size_ext]; try omega) _ | refine Below.drew ?_ | refine Below.setCell ?_ (by simp [size_ext]; try omega) _))⟩
  obtain ⟨j0, j1, j2, j3⟩ := HOK.out
  exact Block.mk_ ((HS0.out.ext_swap (by simp) (fun b hb => hb)).more (fun b _ hb => by simp at hb ⊢; omega)) j0 j1 j2 j3
theorem copyBlocks_any (w : World) (S : Nat → Prop) (A : Option Addr) (n c : Nat) (xs : List Block) (h : Sl w S A n c xs) (hm : xs.length ≤ 1048576 ∧ ∀ y ∈ xs, SmallB 1048576 y) :
    Calls Try.prog 38 #[.slice A n c] w (RetO 42 xs w) := by
  have HL := hide h.len
  have hn : n ≤ 1048576 := by rw [← h.len]; exact hm.1
  have HS := hide h; clear h
  have HM := hide hm; clear hm
  obtain ⟨i0, hi, hz, hz1, hz2⟩ := info_parts info_Block
  have HI0 := hide hi; have HZ := hide hz; have HZ1 := hide hz1; have HZ2 := hide hz2
  clear hi hz hz1 hz2
  obtain ⟨B, hB⟩ : ∃ B, B = w.heap.size := ⟨_, rfl⟩
  have HB := hide hB
  have hB1 : B ≤ w.heap.size := by omega
  have hB2 : w.heap.size ≤ B := by omega
  clear hB
  go_enter Try.func38, Try.ntmps38
  go_wp2
  go_loopw [3, 4] (fun o i wr => ∃ k : Nat, ∃ So : Nat → Prop, k ≤ n ∧ i = .int .i64 k ∧ OwnL wr B 42 So o (xs.take k) ∧ (∀ b, So b → B ≤ b ∧ b < wr.heap.size) ∧ Below B w wr ∧ B ≤ wr.heap.size) (fun _ i _ => n - (intOf i).toNat)
  case atStart => exact ⟨0, fun _ => False, Nat.zero_le _, rfl, OwnL.nil_ _ _ _ _, fun _ h => h.elim, Below.refl _ _, hB1⟩
  case round =>
    obtain ⟨k, So, hk, rfl, hown, hSo, hbel, hsz⟩ := hrel
    have HO := hide hown; have HSo := hide hSo; have HBel := hide hbel
    clear hown hSo hbel
    by_cases hlt : k < n
    · obtain ⟨b, off, x, A0, n0, c0, rfl, hb, hx, hs0, q0, q1, q2, q3, d0, d1, d2, d3, d4⟩ := at_Block HS.out hlt
      have hcell : ∀ o, wr.cell? ⟨b, o, none⟩ = w.cell? ⟨b, o, none⟩ := fun o => HBel.out.cell (by show b < B; omega)
      rw [← hcell] at d0 d1 d2 d3 d4
      clear hcell
      have HSm := hide (HM.out.2 x (mem_at hx))
      have HX := hide (take_at hx); clear hx
      have HOk : Hd (OkBlock x) := hide ⟨q0, q1, q2, q3⟩
      clear q0 q1 q2 q3
      have HJ0 := hide ((hs0.more (S' := fun b => b < B) (fun b hb _ => by omega)).below HBel.out (fun _ h => h)); clear hs0
      go_wp2_with (first
        | (go_at_call 62; refine (copyBlock_any _ _ A0 n0 c0 x HJ0.out HSm.out HOk.out).mono ?_; rintro e _ ⟨us, rfl, hus, ux, rfl⟩; obtain ⟨B0, m0, e0, rfl, ht0, -, -, -, -⟩ := Block.open_ hus; have HT0 := hide ht0; clear ht0; clear hus)
        | (at_builtin; refine wpList_push (α := Block) ((wr.ext ux).alloc (.cells #[.slice B0 m0 e0, .int .i64 x.term.kind, .int .i64 x.term.a, .int .i64 x.term.to0, .int .i64 x.term.to1] 42)) [.slice B0 m0 e0, .int .i64 x.term.kind, .int .i64 x.term.a, .int .i64 x.term.to0, .int .i64 x.term.to1] 42 rfl (.tmp 17) (.tmp 19) 25 rfl B 42 i0 _ 56 Try.underlying25 HI0.out HZ.out HZ1.out HZ2.out rfl (by decide) So (fun b => So b ∨ (wr.heap.size ≤ b ∧ b < (wr.ext ux).heap.size)) u3 (xs.take k) x rfl ((HO.out.ext ux).alloc _) _ rfl ?hg ?hr (fun _ h => .inl h) ?hap ?hnew ?hl1 ?hl2 ?hl3 ?_; rotate_left 7; intro v' w1 hown' hg _; have HO' := hide hown'; have HG := hide hg; clear hown' hg))
      case hr =>
        obtain ⟨j0, j1, j2, j3⟩ := HOk.out
        exact Block.mk_ ((HT0.out.more (fun b hb h => .inr ⟨h, hb⟩)).alloc _) j0 j1 j2 j3
      case hg => simp [size_ext]
      case hap =>
        intro g hg hS
        rcases hS with hS | hS
        · exact absurd (HO.out) (fun h => by obtain ⟨_, _, _, h3⟩ := h; exact h3 g hg hS)
        · have := (HO.out.below_ g hg).2; omega
      case hnew =>
        intro b hS
        rcases hS with hS | hS
        · have := (HSo.out b hS).2; simp [size_ext]; omega
        · have := hS.2; simp [size_ext] at this ⊢; omega
      case hl1 => simp; omega
      case hl2 => simp; omega
      case hl3 => simp [size_ext]; omega
      go_wp2
      go_roundw
      case rel =>
        have hb1 : Below B w w1 := below_push (W := ((wr.ext ux).alloc (.cells #[.slice B0 m0 e0, .int .i64 x.term.kind, .int .i64 x.term.a, .int .i64 x.term.to0, .int .i64 x.term.to1] 42))) (v := u3) ((HBel.out.ext hsz ux).alloc (by simp [size_ext]; omega) _) ((HO.out.ext ux).alloc _) (by simp [size_ext]; omega) HG.out
        have hs1 := HG.out.size
        refine ⟨k + 1, _, by omega, by go_num, by rw [HX.out]; exact HO'.out, fun b hS => ?_, hb1, Nat.le_trans hB1 hb1.size⟩
        simp [size_ext] at hs1
        rcases hS with hS | hS
        · have := HSo.out b hS; omega
        · have := hS.2; simp [size_ext] at this; omega
      case measure => simp [intOf]; omega
    · go_wp2
      go_ret
      have ho := HO.out
      rw [take_end HL.out hlt] at ho
      have e := HB.out
      subst e
      exact RetO.mk_ ho (HSo.out) HBel.out
theorem sameTarget_any (w : World) (S S' : Nat → Prop) (A0 A0' : Option Addr) (n0 c0 c0' : Nat) (x : Target) (h0 : Sl w S A0 n0 c0 x.blocks) (h0' : Sl w S' A0' n0 c0' x.blocks) :
    Calls Try.prog 45 #[.agg #[.int .i64 x.frame, .slice A0 n0 c0], .agg #[.int .i64 x.frame, .slice A0' n0 c0']] w (RetX (.bool true) w) := by
  have H0 := hide h0; clear h0
  have H0' := hide h0'; clear h0'
  go_enter Try.func45, Try.ntmps45
  go_wp2_with (first | (go_at_call 66; refine (sameBlocks_any _ S S' A0 A0' n0 c0 c0' x.blocks (by repeat (first | assumption | exact Hd.out (by assumption) | apply Sl.alloc | apply Sl.ext | apply Sl.drew | apply Sl.drewN)) (by repeat (first | assumption | exact Hd.out (by assumption) | apply Sl.alloc | apply Sl.ext | apply Sl.drew | apply Sl.drewN))).mono ?_; rintro e _ ⟨rfl, ux, rfl⟩))
  go_ret
  exact RetX.b rfl (by repeat (first | exact Below.refl _ _ | assumption | refine Below.alloc ?_ (by simp [size_ext]; try omega) _ | refine Below.ext ?_ (by simp [size_ext]; try omega) _ | refine Below.drew ?_ | refine Below.setCell ?_ (by simp [size_ext]; try omega) _))
theorem copyTarget_any (w : World) (S : Nat → Prop) (A0 : Option Addr) (n0 c0 : Nat) (x : Target) (h0 : Sl w S A0 n0 c0 x.blocks) (hm0 : x.blocks.length ≤ 1048576 ∧ ∀ y ∈ x.blocks, SmallB 1048576 y) (hok : OkTarget x) :
    Calls Try.prog 12 #[.agg #[.int .i64 x.frame, .slice A0 n0 c0]] w (RetV x w) := by
  have H0 := hide h0; clear h0
  have HM0 := hide hm0; clear hm0
  have HOK := hide hok; clear hok
  go_enter Try.func12, Try.ntmps12
  go_wp2_with (go_at_call 38; refine (copyBlocks_any _ S A0 n0 c0 x.blocks (by repeat (first | assumption | exact Hd.out (by assumption) | apply Sl.alloc | apply Sl.ext | apply Sl.drew | apply Sl.drewN)) HM0.out).mono ?_; rintro e _ hx; obtain ⟨B0, m0, e0, rfl, hs0, ux, rfl⟩ := hx.retSl; have HS0 := hide hs0; clear hx hs0)
  refine bodyPost_ret (v := .agg #[.int .i64 x.frame, .slice B0 m0 e0]) (by simp [results, Try.results12, go_sem]) rfl ⟨_, rfl, ?_, Below.to_ext (by repeat (first | exact Below.refl _ _ | assumption | refine Below.alloc ?_ (by simp [size_ext]; try omega) _ | refine Below.ext ?_ (by simp [size_ext]; try omega) _ | refine Below.drew ?_ | refine Below.setCell ?_ (by simp [size_ext]; try omega) _))⟩
  obtain j0 := HOK.out
  exact Target.mk_ j0 ((HS0.out.ext_swap (by simp) (fun b hb => hb)).more (fun b _ hb => by simp at hb ⊢; omega))
end Go.Proofs.Ytahblhiolkdnnaa
