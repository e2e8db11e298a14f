/- law24: walks: scratch registers, pools. -/
import Derived.Test.YtbppamjogdjfkaaIT3
import Derived.Test.YtbppamjogdjfkaaN7
import Derived.BigGuardPart
set_option linter.unusedSimpArgs false
set_option linter.unusedVariables false
namespace Go.Proofs.Ytbppamjogdjfkaa
open Go.RowKit Go.Shelf Go.Maps

set_option maxRecDepth 100000 in
set_option maxHeartbeats 2000000 in
theorem fits24_any (w : World) (S1 S2 : Nat → Prop) (m : Machine) (A1 A2 : Option Addr) (n1 c1 n2 c2 : Nat) (h1 : Sl w S1 A1 n1 c1 m.args) (h2 : Sl w S2 A2 n2 c2 m.saved) (hi : InI m.ret) (many : Int) :
    Calls Try.prog 22 #[.agg #[.int .i64 m.regs, .slice A1 n1 c1, .int .i64 m.ret, .slice A2 n2 c2], .int .i64 many] w (RetX (.bool (fits24 m many)) w) := by
  have HR := hide (fun (o : Obj) => rightm_any (w.alloc o) S1 S2 m A1 A2 n1 c1 n2 c2 (h1.alloc _) (h2.alloc _) hi)
  clear h1 h2
  unfold fits24
  obtain ⟨b, hb⟩ : ∃ b, rightM m = b := ⟨_, rfl⟩
  rw [hb] at HR ⊢
  clear hb
  go_enter Try.func22, Try.ntmps22
  cases b with
  | false =>
    go_wp2_with (go_at_call 15; (with_reducible refine (HR.out _).mono ?_); rintro e _ ⟨rfl, u1, rfl⟩)
    go_ret
    exact RetX.b (by simp) (by repeat (first | exact Below.refl _ _ | assumption | refine Below.alloc ?_ (by simp [size_ext]; try omega) _ | refine Below.ext ?_ (by simp [size_ext]; try omega) _ | refine Below.drew ?_ | refine Below.setCell ?_ (by simp [size_ext]; try omega) _))
  | true =>
    by_cases c1 : 0 ≤ many
    · by_cases c2 : many ≤ m.regs
      · have d1 : decide ((0 : Int) ≤ many) = true := by simpa using c1
        have d2 : decide (many ≤ m.regs) = true := by simpa using c2
        go_wp2_with (go_at_call 15; (with_reducible refine (HR.out _).mono ?_); rintro e _ ⟨rfl, u1, rfl⟩)
        go_ret
        exact RetX.b (by simp [c1, c2]) (by repeat (first | exact Below.refl _ _ | assumption | refine Below.alloc ?_ (by simp [size_ext]; try omega) _ | refine Below.ext ?_ (by simp [size_ext]; try omega) _ | refine Below.drew ?_ | refine Below.setCell ?_ (by simp [size_ext]; try omega) _))
      · have d1 : decide ((0 : Int) ≤ many) = true := by simpa using c1
        have d2 : decide (many ≤ m.regs) = false := by simpa using c2
        go_wp2_with (go_at_call 15; (with_reducible refine (HR.out _).mono ?_); rintro e _ ⟨rfl, u1, rfl⟩)
        go_ret
        exact RetX.b (by simp [c1, c2]) (by repeat (first | exact Below.refl _ _ | assumption | refine Below.alloc ?_ (by simp [size_ext]; try omega) _ | refine Below.ext ?_ (by simp [size_ext]; try omega) _ | refine Below.drew ?_ | refine Below.setCell ?_ (by simp [size_ext]; try omega) _))
    · have d1 : decide ((0 : Int) ≤ many) = false := by simpa using c1
      go_wp2_with (go_at_call 15; (with_reducible refine (HR.out _).mono ?_); rintro e _ ⟨rfl, u1, rfl⟩)
      go_ret
      exact RetX.b (by simp; omega) (by repeat (first | exact Below.refl _ _ | assumption | refine Below.alloc ?_ (by simp [size_ext]; try omega) _ | refine Below.ext ?_ (by simp [size_ext]; try omega) _ | refine Below.drew ?_ | refine Below.setCell ?_ (by simp [size_ext]; try omega) _))
/-- It returns a slice whose row is its own, reading as xs. -/
def RetCl {α : Type} [Rep α] (T : TypeId) (S : Nat → Prop) (xs : List α) (w : World) (e : Ending) (w' : World) : Prop :=
  ∃ A c, e = .returned (.slice A xs.length c) ∧ OwnL w' w.heap.size T S (.slice A xs.length c) xs ∧ ∃ u : Ext, w' = w.ext u
theorem OwnL.lit0 {α : Type} [Rep α] (w : World) (T : TypeId) (S : Nat → Prop) (hS : ¬ S w.heap.size) : OwnL (w.alloc (.cells #[] T)) w.heap.size T S (.slice (some ⟨w.heap.size, 0, none⟩) 0 0) ([] : List α) :=
  OwnL.of_block (cur := #[]) rfl (Nat.le_refl _) (by unfold maxLen; omega) (Nat.le_refl _) hS (heap_alloc_new w _) (by simp) (by simp [RepL])
theorem clone_ints (w : World) (S : Nat → Prop) (A : Option Addr) (n c : Nat) (xs : List Int) (h : Sl w S A n c xs) (hm : n ≤ 1048576) :
    Calls Try.prog 26 #[.slice A n c] w (RetCl 3 (fun b => S b ∧ b < w.heap.size) xs w) := by
  have HL := hide h.len
  cases A with
  | none =>
    have h0 : n = 0 := by have := h.2.2.2.1 rfl; have := h.2.1; omega
    have h0' : c = 0 := h.2.2.2.1 rfl
    subst h0 h0'
    obtain rfl : xs = [] := List.eq_nil_of_length_eq_zero HL.out
    have hnil := fun (w : World) => Lib.run_eql_slice_nil (P := Try.prog) w 22 _ none 0 0 0 0 Try.underlying22
    clear h
    go_enter Try.func26, Try.ntmps26
    go_wp2
    go_ret
    exact ⟨none, 0, rfl, OwnL.nil_ _ _ _ _, ext_refl w⟩
  | some ad =>
    have HS := hide ((h.more (S' := fun b => S b ∧ b < w.heap.size) fun b hb h => ⟨h, hb⟩).alloc (.cells #[] 3))
    have hnil := fun (w : World) => Lib.run_eql_slice_nil (P := Try.prog) w 22 _ (some ad) n c 0 0 Try.underlying22
    obtain ⟨i0, hi, hz, hz1, hz2⟩ := info_parts info_int
    have HI0 := hide hi; have HZ := hide hz; have HZ1 := hide hz1; have HZ2 := hide hz2
    clear h hi hz hz1 hz2
    go_enter Try.func26, Try.ntmps26
    go_wp2_with (at_builtin; refine wpList_push_sl (α := Int) (w.alloc (.cells #[] 3)) rfl (.tmp 5) (.tmp 6) 22 rfl w.heap.size 3 i0 _ 8 Try.underlying22 HI0.out HZ.out HZ1.out HZ2.out rfl (by decide) (fun _ => False) (fun b => S b ∧ b < w.heap.size) (fun b => S b ∧ b < w.heap.size) (.slice (some ⟨w.heap.size, 0, none⟩) 0 0) [] xs rfl (OwnL.lit0 w _ _ (fun h => h)) (some ad) n c rfl HS.out (fun _ h => h.elim) (fun _ _ h => h) (fun g hg h => by simp [Value.ownBlock] at hg; omega) (fun b h => by simp; omega) (by simp; omega) (by simp; omega) (by simp) ?_; intro v' w1 hown' hg _; obtain ⟨A1, c1, rfl⟩ := hown'.form; rw [List.nil_append] at hown'; have HO' := hide hown'; have HG := hide hg; clear hown' hg)
    go_wp2_with fail
    go_ret
    exact ⟨A1, c1, rfl, HO'.out, Below.to_ext (((Below.refl _ _).alloc (Nat.le_refl _) _).grown HG.out (by simp) (fun g hg => by simp [Value.ownBlock] at hg; omega))⟩

theorem fits24_of {m : Machine} {many : Int} (h : fits24 m many = true) : rightM m = true ∧ 0 ≤ many ∧ many ≤ m.regs := by
  unfold fits24 at h
  simp only [Bool.and_eq_true, decide_eq_true_eq] at h
  exact h
set_option maxRecDepth 100000 in
set_option maxHeartbeats 400000 in
theorem scratch24_any (w : World) (S1 S2 : Nat → Prop) (m : Machine) (A1 A2 : Option Addr) (n1 c1 n2 c2 : Nat) (h1 : Sl w S1 A1 n1 c1 m.args) (h2 : Sl w S2 A2 n2 c2 m.saved) (hi : InI m.ret) (many : Int) :
    Calls Try.prog 11 #[.agg #[.int .i64 m.regs, .slice A1 n1 c1, .int .i64 m.ret, .slice A2 n2 c2], .int .i64 many] w (RetInts (scratch24 m many) w) := by
  obtain ⟨W0, hW0⟩ : ∃ W0, w.alloc (.cells #[.int .i64 m.regs, .slice A1 n1 c1, .int .i64 m.ret, .slice A2 n2 c2] 24) = W0 := ⟨_, rfl⟩
  obtain ⟨g, hg⟩ : ∃ g, w.heap.size = g := ⟨_, rfl⟩
  have HROW := hide (show MRow W0 g m A1 n1 c1 A2 n2 c2 by rw [← hW0, ← hg]; exact heap_alloc_new w _)
  have hz0 : W0.heap.size = g + 1 := by rw [← hW0, ← hg]; simp
  have hb0 : Below g w W0 := by rw [← hW0, ← hg]; exact (Below.refl _ _).alloc (Nat.le_refl _) _
  have HM := hide (fun (W : World) (hb : Below W0.heap.size W0 W) => (show MRow W g m A1 n1 c1 A2 n2 c2 from (hb.block g (by omega)).trans HROW.out).cells)
  have HF := hide (fits24_any W0 S1 S2 m A1 A2 n1 c1 n2 c2 (by rw [← hW0]; exact h1.alloc _) (by rw [← hW0]; exact h2.alloc _) hi many)
  have HB0 := hide hb0
  have HR := hide (fun (W : World) (hb : Below W0.heap.size W0 W) (hr : rightM m = true) => row24_any W S1 S2 m A1 A2 n1 c1 n2 c2 ((show Sl W0 S1 A1 n1 c1 m.args by rw [← hW0]; exact h1.alloc _).belowAll hb) ((show Sl W0 S2 A2 n2 c2 m.saved by rw [← hW0]; exact h2.alloc _).belowAll hb) hi hr)
  obtain ⟨m0, m1, m2, m3, hgl⟩ := HM.out W0 (Below.refl _ _)
  clear h1 h2 hb0
  cases hf : fits24 m many with
  | false =>
    rw [hf] at HF
    rw [show scratch24 m many = [] by unfold scratch24; rw [if_neg (by rw [hf]; decide)]]
    clear hf
    go_enter Try.func11, Try.ntmps11
    go_wp2_with (go_at_call 22; (with_reducible refine HF.out.mono ?_); rintro e _ ⟨rfl, u1, rfl⟩)
    go_ret
    exact ⟨_, rfl, OwnL.nil_ _ _ _ _, by rw [hg]; exact HB0.out.ext (by omega) _⟩
  | true =>
    rw [hf] at HF
    obtain ⟨hr, k0, k1⟩ := fits24_of hf
    have HFT := hide hf; have HRT := hide hr
    obtain ⟨k, rfl⟩ : ∃ k : Nat, many = (k : Int) := Int.eq_ofNat_of_zero_le k0
    have hr64 := (right24 hr).r64
    have hlen := row_len24 hr
    clear hf hr
    go_enter Try.func11, Try.ntmps11
    go_wp2_with (go_at_call 22; (with_reducible refine HF.out.mono ?_); rintro e _ ⟨rfl, u1, rfl⟩; refine Hd.out ?_)
    obtain ⟨W1, hW1⟩ : ∃ W1, W0.ext u1 = W1 := ⟨_, rfl⟩
    have hb1 : Below W0.heap.size W0 W1 := by rw [← hW1]; exact (Below.refl _ _).ext (Nat.le_refl _) _
    rw [hW1]
    obtain ⟨m0, m1, m2, m3, hgl⟩ := HM.out W1 hb1
    have HB1 := hide hb1
    have hs1 := hb1.size
    have HRW := hide (HR.out W1 hb1 HRT.out)
    clear hW1 hW0 hb1
    have HLN := hide hlen
    clear hlen
    refine hide ?_
    go_wp2_with (go_at_call 24; (with_reducible refine HRW.out.mono ?_); rintro e W2 ⟨v, rfl, ho, hb⟩; obtain ⟨A, c, rfl⟩ := ho.form; refine Hd.out ?_)
    obtain ⟨N, hN⟩ : ∃ N, (row24 m).length = N := ⟨_, rfl⟩
    rw [hN] at ho ⊢
    have hNk : k ≤ N := by rw [← hN, HLN.out]; omega
    have hN64 : N ≤ 64 := by rw [← hN, HLN.out]; omega
    have hsl := ho.slo (S' := fun _ => True) (fun _ _ _ => trivial)
    have hNc : N ≤ c := hsl.2.1
    obtain ⟨X, hX⟩ : ∃ X, (row24 m).take k = X := ⟨_, rfl⟩
    have HT := hide (show Sl W2 (fun _ => True) A k c X from hX ▸ hsl.take_ hNk)
    have HB2 := hide hb
    have hkN : (k : Int) ≤ (c : Int) := by omega
    have hk0 : (0 : Int) ≤ (k : Int) := by omega
    have HCL := hide (clone_ints W2 _ A k c _ HT.out (by omega))
    have hlk : X.length = k := HT.out.len
    have HX := hide hX
    have HLK := hide hlk
    clear ho hsl hb hN hlk hX m0 m1 m2 m3 hgl
    refine hide ?_
    go_wp2_with (go_at_call 26; (with_reducible refine HCL.out.mono ?_); rintro e _ ⟨A3, c3, rfl, ho3, u3, rfl⟩; refine Hd.out ?_)
    have ho3' := ho3.ints
    rw [HLK.out] at ho3' ⊢
    have HO3 := hide ho3'
    clear ho3 ho3'
    refine hide ?_
    go_wp2_with fail
    go_ret
    have hz2 := HB2.out.size
    refine ⟨.slice A3 k c3, rfl, ?_, by rw [hg]; exact (HB0.out.trans ((HB1.out.trans (HB2.out.mono (by omega))).mono (by omega))).ext (by omega) u3⟩
    rw [show scratch24 m (k : Int) = (row24 m).take k by unfold scratch24; rw [if_pos HFT.out]; rfl, HX.out]
    exact HO3.out.lowB (by omega)
end Go.Proofs.Ytbppamjogdjfkaa
