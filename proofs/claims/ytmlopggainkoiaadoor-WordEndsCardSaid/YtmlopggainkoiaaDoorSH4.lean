/- The program's words as the document's: theirs. -/
import Derived.Test.YtmlopggainkoiaaDoorSH3
import Derived.Test.YtmlopggainkoiaaDoorFlow6
set_option linter.unusedSimpArgs false
set_option linter.unusedVariables false
namespace Go.Proofs.YtmlopggainkoiaaDoor
open Go.RowKit

def SlIw {α : Type} [Rep α] (n : Nat) (xs : List α) : Nat → Nat → Post := fun lo hi v w => ∃ A c, v = .slice A n c ∧ Sl w (fun b => lo ≤ b ∧ b < hi) A n c xs
theorem SlIw.stable_ {α : Type} [Rep α] {F : World → Prop} {n : Nat} {xs : List α} {mem : Bool} (hm : mem = true) (lo hi : Nat) : stable F mem (SlIw n xs lo hi) :=
  stable_mem hm fun _ _ u ⟨A, c, hv, h⟩ => ⟨A, c, hv, h.ext u⟩
theorem Word.is_more {w w' : World} {S S' : Nat → Prop} {x : Word} {vs : List Value} (h : Rep.is w S x vs) : Rep.is w' S' x vs := by
  obtain ⟨rfl, h0, h1, h2, h3, h4⟩ := Word.open_ h
  exact Word.mk_ h0 h1 h2 h3 h4
theorem RepL.words_more {w w' : World} {S S' : Nat → Prop} {xs : List Word} {us : List Value} (h : RepL w S xs us) : RepL w' S' xs us := by
  induction xs generalizing us with
  | nil => exact h
  | cons x l ih => obtain ⟨us, ts, rfl, h1, h2⟩ := h; exact ⟨us, ts, rfl, Word.is_more h1, ih h2⟩
theorem OwnL.words {w : World} {base : Nat} {T : TypeId} {S : Nat → Prop} {v : Value} {xs : List Word} (h : OwnL w base T S v xs) : OwnL w base T (fun _ => False) v xs := by
  obtain ⟨vals, h1, h2, _⟩ := h
  exact ⟨vals, h1, RepL.words_more h2, fun _ _ h => h⟩

set_option maxRecDepth 100000 in
set_option maxHeartbeats 40000000 in
theorem theirs_any (w : World) (S : Nat → Prop) (A : Option Addr) (n c : Nat) (xs : List Word) (h : Sl w S A n c xs) (hm : n ≤ 8388608) : Calls Tryd.prog 21 #[.slice A n c] w (RetO 77 xs w) := by
  obtain ⟨i0, hi, hz, hz1, hz2⟩ := info_parts info_Word1
  have HI0 := hide hi; have HZ := hide hz; have HZ1 := hide hz1; have HZ2 := hide hz2
  clear hi hz hz1 hz2
  have HS := hide h
  clear h
  go_enter Tryd.func21, Tryd.ntmps21
  go_wp2_with fail
  go_loopw [3, 4] (fun v i wr => ∃ (k : Nat) (Ao : Option Addr) (co : Nat), v = .slice Ao k co ∧ i = .int .i64 k ∧ k ≤ n ∧ OwnL wr w.heap.size 77 (fun _ => False) (.slice Ao k co) (xs.take k) ∧ Below w.heap.size w wr) (fun _ i _ => n - (intOf i).toNat)
  case atStart => exact ⟨0, none, 0, rfl, rfl, Nat.zero_le _, OwnL.nil_ _ _ _ _, Below.refl _ _⟩
  case round =>
    obtain ⟨k, Ao, co, rfl, rfl, hk, hown, hbw⟩ := hrel
    have HO := hide hown; have HB := hide hbw
    have hsz : w.heap.size ≤ wr.heap.size := hbw.size
    clear hown hbw
    by_cases hlt : k < n
    · obtain ⟨b, off, x, rfl, hb, hx, i0, i1, i2, i3, i4, c0, c1, c2, c3, c4⟩ := at_Word (HS.out.belowAll HB.out) hlt
      have HX := hide hx
      obtain ⟨kd, tx, nn, ln, cl⟩ := x
      simp only at i0 i1 i2 i3 i4 c0 c1 c2 c3 c4
      have HI := hide (word_is · (fun _ => False) kd nn ln cl tx i0 i1 i2 i3 i4)
      clear hx i0 i1 i2 i3 i4
      go_wp2_with fail
      have hw0 : wr.drew.heap.size = wr.heap.size := rfl
      have d0 : (xs.take k).length = k := by rw [List.length_take]; have := HS.out.len; omega
      have HTK := hide (show xs.take k ++ [⟨kd, tx, nn, ln, cl⟩] = xs.take (k + 1) by rw [List.take_add_one, HX.out]; rfl)
      have HD0 := hide d0; clear d0
      have HD1 := hide (show (xs.take (k + 1)).length = k + 1 by rw [List.length_take]; have := HS.out.len; omega)
      refine wp_region_flowI [27] 28 (by kernel_rfl) rfl (by kernel_rfl) (by kernel_rfl) ?_
      simp only [List.take_succ_cons, List.take_zero, List.drop_succ_cons, List.drop_zero]
      repeat (refine flowI_known (by kernel_rfl) (fun K hK => ?_); go_simp; (first | (refine hK _ ?_; clear hK K) | (apply Exists.intro; refine ⟨fun _ => ?_, hK _ ?_⟩; (fail); clear hK K)))
      refine flowI_keep0 (SlIw 1 [(⟨kd, tx, nn, ln, cl⟩ : Word)]) (by kernel_rfl) (SlIw.stable_ rfl) ?_ ?_
      · intro u
        go_simp
        exact ⟨⟨_, _, rfl, Sl.lit (S := fun _ => False) (us := [.int .i64 kd, .string tx, .int .i64 nn, .int .i64 ln, .int .i64 cl]) (size_ext ..).symm (RepL.single (HI.out _)) rfl (by decide) (fun _ h => h.elim) ⟨Nat.le_refl _, by simp [size_ext]⟩⟩, onW_alloc rfl ⟨u, rfl⟩⟩
      refine flowI_done [true] rfl ?_
      intro γ u hap
      simp only [List.nil_append, List.cons_append, List.map_cons, List.map_nil, atG, endH_f, endH_t, endH_nil]
      rintro _ ⟨Bs, cs, rfl, hos⟩
      have a27 := hap.1 ⟨27, some 38, SlIw 1 [(⟨kd, tx, nn, ln, cl⟩ : Word)]⟩ (by simp)
      simp only [Nat.zero_add, Nat.reduceAdd] at hos a27
      generalize (γ 27).1 = lo2 at hos a27
      generalize (γ 27).2 = hi2 at hos a27
      have HS2 := hide hos
      have h2a := a27.1; have h2b := a27.2.2
      clear hap hos a27
      go_simp
      refine wpList_push_sl (α := Word) (wr.ext u) rfl (.tmp 11) (.tmp 38) 33 rfl w.heap.size 77 i0 _ 48 Tryd.underlying33 HI0.out HZ.out HZ1.out HZ2.out rfl (by decide) (fun _ => False) (fun b => lo2 ≤ b ∧ b < hi2) (fun b => lo2 ≤ b ∧ b < hi2) (.slice Ao k co) (xs.take k) [⟨kd, tx, nn, ln, cl⟩] rfl (HO.out.ext u) Bs 1 cs rfl HS2.out (fun _ h => h.elim) (fun _ _ h => h) (fun g hg e => by have := (HO.out.below_ g hg).2; omega) (fun b h => by omega) (by rw [HD0.out]; omega) (by rw [HD0.out]; omega) (by rw [size_ext]; omega) ?_
      intro v' w1 hown' hg hrow
      have HBB := hide ((HB.out.ext hsz u).grown hg (by rw [size_ext]; omega) (fun g e => (HO.out.below_ g e).1))
      rw [HTK.out] at hown'
      obtain ⟨Av, cv, hv⟩ := hown'.form
      subst hv
      rw [HD1.out] at hown' ⊢
      have HOW := hide hown'.words
      clear hown' hg hrow
      go_wp2_with fail
      go_roundw
      case rel => exact ⟨k + 1, Av, cv, rfl, by go_num, by omega, HOW.out, HBB.out⟩
      case measure => simp [intOf]; omega
    · have HE := hide (show xs.take k = xs by rw [List.take_of_length_le]; have := HS.out.len; omega)
      go_wp2_with fail
      go_ret
      rw [HE.out] at HO
      exact RetO.mk_ HO.out (fun _ h => h.elim) HB.out
end Go.Proofs.YtmlopggainkoiaaDoor
