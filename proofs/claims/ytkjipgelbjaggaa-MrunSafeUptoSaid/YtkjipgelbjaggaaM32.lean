/- Walks: slices cloned. -/
import Derived.Test.YtkjipgelbjaggaaM31
set_option linter.unusedSimpArgs false
set_option linter.unusedVariables false
namespace Go.Proofs.Ytkjipgelbjaggaa
open Go.RowKit Go.Maps
/-- It returns a slice whose row is its own, reading as xs; what its elements name is of S. -/
def RetCl {α : Type} [Rep α] (T : TypeId) (S : Nat → Prop) (xs : List α) (w : World) (e : Ending) (w' : World) : Prop :=
  ∃ A c, e = .returned (.slice A xs.length c) ∧ OwnL w' w.heap.size T S (.slice A xs.length c) xs ∧ ∃ u : Ext, w' = w.ext u
theorem OwnL.lit0 {α : Type} [Rep α] (w : World) (T : TypeId) (S : Nat → Prop) (hS : ¬ S w.heap.size) : OwnL (w.alloc (.cells #[] T)) w.heap.size T S (.slice (some ⟨w.heap.size, 0, none⟩) 0 0) ([] : List α) :=
  OwnL.of_block (cur := #[]) rfl (Nat.le_refl _) (by unfold maxLen; omega) (Nat.le_refl _) hS (heap_alloc_new w _) (by simp) (by simp [RepL])
theorem clone_ints (w : World) (S : Nat → Prop) (A : Option Addr) (n c : Nat) (xs : List Int) (h : Sl w S A n c xs) (hm : n ≤ 1048576) :
    Calls Try.prog 40 #[.slice A n c] w (RetCl 3 (fun b => S b ∧ b < w.heap.size) xs w) := by
  have HL := hide h.len
  cases A with
  | none =>
    have h0 : n = 0 := by have := h.2.2.2.1 rfl; have := h.2.1; omega
    have h0' : c = 0 := h.2.2.2.1 rfl
    subst h0 h0'
    obtain rfl : xs = [] := List.eq_nil_of_length_eq_zero HL.out
    have hnil := fun (w : World) => Lib.run_eql_slice_nil (P := Try.prog) w 22 _ none 0 0 0 0 Try.underlying22
    clear h
    go_enter Try.func40, Try.ntmps40
    go_wp2
    go_ret
    exact ⟨none, 0, rfl, OwnL.nil_ _ _ _ _, ext_refl w⟩
  | some ad =>
    have HS := hide ((h.more (S' := fun b => S b ∧ b < w.heap.size) fun b hb h => ⟨h, hb⟩).alloc (.cells #[] 3))
    have hnil := fun (w : World) => Lib.run_eql_slice_nil (P := Try.prog) w 22 _ (some ad) n c 0 0 Try.underlying22
    obtain ⟨i0, hi, hz, hz1, hz2⟩ := info_parts info_int
    have HI0 := hide hi; have HZ := hide hz; have HZ1 := hide hz1; have HZ2 := hide hz2
    clear h hi hz hz1 hz2
    go_enter Try.func40, Try.ntmps40
    go_wp2_with (at_builtin; refine wpList_push_sl (α := Int) (w.alloc (.cells #[] 3)) rfl (.tmp 5) (.tmp 6) 22 rfl w.heap.size 3 i0 _ 8 Try.underlying22 HI0.out HZ.out HZ1.out HZ2.out rfl (by decide) (fun _ => False) (fun b => S b ∧ b < w.heap.size) (fun b => S b ∧ b < w.heap.size) (.slice (some ⟨w.heap.size, 0, none⟩) 0 0) [] xs rfl (OwnL.lit0 w _ _ (fun h => h)) (some ad) n c rfl HS.out (fun _ h => h.elim) (fun _ _ h => h) (fun g hg h => by simp [Value.ownBlock] at hg; omega) (fun b h => by simp; omega) (by simp; omega) (by simp; omega) (by simp) ?_; intro v' w1 hown' hg _; obtain ⟨A1, c1, rfl⟩ := hown'.form; rw [List.nil_append] at hown'; have HO' := hide hown'; have HG := hide hg; clear hown' hg)
    go_wp2_with fail
    go_ret
    exact ⟨A1, c1, rfl, HO'.out, Below.to_ext (((Below.refl _ _).alloc (Nat.le_refl _) _).grown HG.out (by simp) (fun g hg => by simp [Value.ownBlock] at hg; omega))⟩
theorem clone_blocks (w : World) (S : Nat → Prop) (A : Option Addr) (n c : Nat) (xs : List Block) (h : Sl w S A n c xs) (hm : n ≤ 1048576) :
    Calls Try.prog 65 #[.slice A n c] w (RetCl 60 (fun b => S b ∧ b < w.heap.size) xs w) := by
  have HL := hide h.len
  cases A with
  | none =>
    have h0 : n = 0 := by have := h.2.2.2.1 rfl; have := h.2.1; omega
    have h0' : c = 0 := h.2.2.2.1 rfl
    subst h0 h0'
    obtain rfl : xs = [] := List.eq_nil_of_length_eq_zero HL.out
    have hnil := fun (w : World) => Lib.run_eql_slice_nil (P := Try.prog) w 25 _ none 0 0 0 0 Try.underlying25
    clear h
    go_enter Try.func65, Try.ntmps65
    go_wp2
    go_ret
    exact ⟨none, 0, rfl, OwnL.nil_ _ _ _ _, ext_refl w⟩
  | some ad =>
    have HS := hide ((h.more (S' := fun b => S b ∧ b < w.heap.size) fun b hb h => ⟨h, hb⟩).alloc (.cells #[] 60))
    have hnil := fun (w : World) => Lib.run_eql_slice_nil (P := Try.prog) w 25 _ (some ad) n c 0 0 Try.underlying25
    obtain ⟨i0, hi, hz, hz1, hz2⟩ := info_parts info_Block
    have HI0 := hide hi; have HZ := hide hz; have HZ1 := hide hz1; have HZ2 := hide hz2
    clear h hi hz hz1 hz2
    go_enter Try.func65, Try.ntmps65
    go_wp2_with (at_builtin; refine wpList_push_sl (α := Block) (w.alloc (.cells #[] 60)) rfl (.tmp 5) (.tmp 6) 25 rfl w.heap.size 60 i0 _ 56 Try.underlying25 HI0.out HZ.out HZ1.out HZ2.out rfl (by decide) (fun _ => False) (fun b => S b ∧ b < w.heap.size) (fun b => S b ∧ b < w.heap.size) (.slice (some ⟨w.heap.size, 0, none⟩) 0 0) [] xs rfl (OwnL.lit0 w _ _ (fun h => h)) (some ad) n c rfl HS.out (fun _ h => h.elim) (fun _ _ h => h) (fun g hg h => by simp [Value.ownBlock] at hg; omega) (fun b h => by simp; omega) (by simp; omega) (by simp; omega) (by simp) ?_; intro v' w1 hown' hg _; obtain ⟨A1, c1, rfl⟩ := hown'.form; rw [List.nil_append] at hown'; have HO' := hide hown'; have HG := hide hg; clear hown' hg)
    go_wp2_with fail
    go_ret
    exact ⟨A1, c1, rfl, HO'.out, Below.to_ext (((Below.refl _ _).alloc (Nat.le_refl _) _).grown HG.out (by simp) (fun g hg => by simp [Value.ownBlock] at hg; omega))⟩
theorem clone_inss (w : World) (S : Nat → Prop) (A : Option Addr) (n c : Nat) (xs : List Ins) (h : Sl w S A n c xs) (hm : n ≤ 1048576) :
    Calls Try.prog 66 #[.slice A n c] w (RetCl 66 (fun b => S b ∧ b < w.heap.size) xs w) := by
  have HL := hide h.len
  cases A with
  | none =>
    have h0 : n = 0 := by have := h.2.2.2.1 rfl; have := h.2.1; omega
    have h0' : c = 0 := h.2.2.2.1 rfl
    subst h0 h0'
    obtain rfl : xs = [] := List.eq_nil_of_length_eq_zero HL.out
    have hnil := fun (w : World) => Lib.run_eql_slice_nil (P := Try.prog) w 54 _ none 0 0 0 0 Try.underlying54
    clear h
    go_enter Try.func66, Try.ntmps66
    go_wp2
    go_ret
    exact ⟨none, 0, rfl, OwnL.nil_ _ _ _ _, ext_refl w⟩
  | some ad =>
    have HS := hide ((h.more (S' := fun b => S b ∧ b < w.heap.size) fun b hb h => ⟨h, hb⟩).alloc (.cells #[] 66))
    have hnil := fun (w : World) => Lib.run_eql_slice_nil (P := Try.prog) w 54 _ (some ad) n c 0 0 Try.underlying54
    obtain ⟨i0, hi, hz, hz1, hz2⟩ := info_parts info_Ins
    have HI0 := hide hi; have HZ := hide hz; have HZ1 := hide hz1; have HZ2 := hide hz2
    clear h hi hz hz1 hz2
    go_enter Try.func66, Try.ntmps66
    go_wp2_with (at_builtin; refine wpList_push_sl (α := Ins) (w.alloc (.cells #[] 66)) rfl (.tmp 5) (.tmp 6) 54 rfl w.heap.size 66 i0 _ 80 Try.underlying54 HI0.out HZ.out HZ1.out HZ2.out rfl (by decide) (fun _ => False) (fun b => S b ∧ b < w.heap.size) (fun b => S b ∧ b < w.heap.size) (.slice (some ⟨w.heap.size, 0, none⟩) 0 0) [] xs rfl (OwnL.lit0 w _ _ (fun h => h)) (some ad) n c rfl HS.out (fun _ h => h.elim) (fun _ _ h => h) (fun g hg h => by simp [Value.ownBlock] at hg; omega) (fun b h => by simp; omega) (by simp; omega) (by simp; omega) (by simp) ?_; intro v' w1 hown' hg _; obtain ⟨A1, c1, rfl⟩ := hown'.form; rw [List.nil_append] at hown'; have HO' := hide hown'; have HG := hide hg; clear hown' hg)
    go_wp2_with fail
    go_ret
    exact ⟨A1, c1, rfl, HO'.out, Below.to_ext (((Below.refl _ _).alloc (Nat.le_refl _) _).grown HG.out (by simp) (fun g hg => by simp [Value.ownBlock] at hg; omega))⟩
end Go.Proofs.Ytkjipgelbjaggaa
