/- Walks: lists of numbers that are lent, and kept. -/
import Derived.Test.YthmglmmafgdmhaaGreatK0
import Derived.Test.YthmglmmafgdmhaaGreatW2
import Derived.Test.YthmglmmafgdmhaaGreatLend
set_option linter.unusedSimpArgs false
set_option linter.unusedVariables false
namespace Go.Proofs.YthmglmmafgdmhaaGreat
open Go.RowKit

theorem markI_in (i : Nat) (h : i < 12) : InI (markI 1 i) := by unfold InI markI; omega
theorem InI_zero : InI 0 := by unfold InI; decide
theorem marks_int {j : Nat} (h : j < 12) : (Lend.marks : List Int)[j]? = some (markI 1 j) := by
  show ((List.range 12).map fun i => markI 1 (i : Nat))[j]? = _
  simp [h]
theorem lentInts_close {w w1 : World} {v : Value} {n : Nat} {xs : List Int} (HL : Hd (xs.length = n)) (ho : OwnL w1 w.heap.size 3 (fun _ => False) v (xs ++ mks Int 12)) (hb : Below w.heap.size w w1) :
    ∃ g cap, v = .slice (some ⟨g, 0, none⟩) (n + 12) cap ∧ n + 12 ≤ cap ∧ cap ≤ 9223372036854775807 ∧ RetLent xs w (.returned (.slice (some ⟨g, 0, none⟩) n cap)) w1 := by
  rw [mks_all] at ho
  obtain ⟨g, cap, rfl, hc, hm⟩ := ho.form_pos (n := n + 12) (by rw [List.length_append, HL.out]; rfl) (by omega)
  refine ⟨g, cap, rfl, hc, hm, some ⟨g, 0, none⟩, n, cap, rfl, HL.out, ?_, Below.to_ext hb⟩
  have hs := ho.sl (S' := fun b => w.heap.size ≤ b) (fun b _ h => by rcases h with h | h; exact h.elim; exact h)
  obtain ⟨q1, q2, q3, q4, q5⟩ := hs
  refine ⟨by rw [row_len, HL.out], q2, q3, q4, fun h0 => ?_⟩
  obtain ⟨b, off, e, hb, hS, hx⟩ := q5 h0
  refine ⟨b, off, e, hb, hS, fun i x hi => ?_⟩
  have hi' : (xs ++ (Lend.marks : List Int))[i]? = some (match x with | .lent y => y | .plain y => y) := by
    unfold row at hi
    rw [List.getElem?_append] at hi ⊢
    rw [List.length_map] at hi
    split
    · rename_i hlt
      rw [if_pos hlt, List.getElem?_map] at hi
      cases hq : xs[i]? with
      | none => rw [hq] at hi; simp at hi
      | some q => rw [hq] at hi; simp at hi; subst hi; rfl
    · rename_i hlt
      rw [if_neg hlt, List.getElem?_map] at hi
      cases hq : (Lend.marks : List Int)[i - xs.length]? with
      | none => rw [hq] at hi; simp at hi
      | some q => rw [hq] at hi; simp at hi; subst hi; rfl
  obtain ⟨us, hus, hc⟩ := hx i _ hi'
  refine ⟨us, ?_, hc⟩
  cases x with
  | lent y => exact hus
  | plain y => exact hus
theorem lentInts_any (w : World) (S : Nat → Prop) (A : Option Addr) (n c : Nat) (xs : List Int) (h : Sl w S A n c xs) (hm : xs.length ≤ 1048576) :
    Calls Tryz.prog 8 #[.slice A n c] w (RetLent xs w) := by
  have HL := hide h.len
  have hn : n ≤ 1048576 := by rw [← h.len]; exact hm
  have HM := hide hm; clear hm
  obtain ⟨i0, hi, hz, hz1, hz2⟩ := info_parts info_int
  have HI0 := hide hi; have HZ := hide hz; have HZ1 := hide hz1; have HZ2 := hide hz2
  clear hi hz hz1 hz2
  obtain ⟨B, hB⟩ : ∃ B, B = w.heap.size := ⟨_, rfl⟩
  have HB := hide hB
  have hB1 : B ≤ w.heap.size := by omega
  have hB2 : w.heap.size ≤ B := by omega
  clear hB
  have HSl := hide h; clear h
  go_enter Tryz.func8, Tryz.ntmps8
  go_wp2_with (first
    | (at_make; refine wpList_make_own _ rfl _ _ 22 rfl B 3 i0 _ 1 Tryz.underlying22 HI0.out HZ.out HZ1.out _ _ _ (n + 12) rfl rfl (by omega) (by rw [HZ2.out]; omega) (by unfold maxLen; omega) hB1 ?_; intro w1 hown hg; have HO := hide hown; have HG := hide hg; clear hown hg)
    | (at_builtin; refine wpList_push_sl (α := Int) _ rfl (.tmp 9) (.tmp 10) 22 rfl B 3 i0 _ 8 Tryz.underlying22 HI0.out HZ.out HZ1.out HZ2.out rfl (by decide) (fun _ => False) (fun b => b < B) (fun b => b < B) (.slice (some ⟨w.heap.size, 0, none⟩) 0 (n + 12)) [] xs rfl ⟨[], HO.out, rfl, fun _ _ h => h⟩ A n c rfl ?hsl (fun _ h => h.elim) ?hS2 ?hap ?hnew ?h63 ?hby ?hba ?_; rotate_left 7; intro v2 w2 hown2 hg2 _; have HO2 := hide hown2; have HG2 := hide hg2; clear hown2 hg2))
  case hsl => exact (HSl.out.more (fun b hb _ => by omega)).belowAll (below_grown HG.out (Nat.le_refl _))
  case hS2 => exact fun b _ h => h
  case hap => intro g hg h; simp [Value.ownBlock] at hg; omega
  case hnew => intro b h; have := HG.out.size; omega
  case h63 => simp; omega
  case hby => simp; omega
  case hba => have := HG.out.size; omega
  have HO3 := hide (OwnL.ints HO2.out)
  clear HO2
  have hb2 : Below B w w2 := ((below_grown HG.out hB1).grown HG2.out (by have := HG.out.size; omega) (by intro k hk; simp [Value.ownBlock] at hk; omega))
  have HB2 := hide hb2
  have hs2 : B ≤ w2.heap.size := by have := hb2.size; omega
  clear hb2 HG HG2 HO
  go_loopw [3, 4] (fun o i wr => ∃ k : Nat, k ≤ 12 ∧ i = .int .i64 k ∧ OwnL wr B 3 (fun _ => False) o (xs ++ mks Int k) ∧ Below B w wr ∧ B ≤ wr.heap.size) (fun _ i _ => 12 - (intOf i).toNat)
  case atStart => exact ⟨0, by omega, rfl, by have := HO3.out; rw [List.nil_append] at this; rw [show mks Int 0 = [] from rfl, List.append_nil]; exact this, HB2.out, hs2⟩
  case round =>
    obtain ⟨k, hk, rfl, hown, hbel, hsz⟩ := hrel
    have HO := hide hown; have HBel := hide hbel
    clear hown hbel
    by_cases hlt : k < 12
    · go_wp2_with (first
        | (go_at_call 27; refine (mark_any 1 k _ (by omega) (by omega)).mono ?_; rintro e w' ⟨rfl, rfl⟩)
        | (at_builtin; refine wpList_push (α := Int) wr [.int .i64 (markI 1 k)] 3 rfl (.tmp 16) (.tmp 19) 22 rfl B 3 i0 _ 8 Tryz.underlying22 HI0.out HZ.out HZ1.out HZ2.out rfl (by decide) (fun _ => False) (fun _ => False) u3 _ (markI 1 k) rfl HO.out _ rfl rfl ⟨rfl, markI_in k hlt⟩ (fun _ h => h) (fun _ _ h => h) (fun _ h => h.elim) ?hl1 ?hl2 hsz ?_; rotate_left 2; intro v' w1 hown' hg _; have HO' := hide hown'; have HG := hide hg; clear hown' hg))
      case hl1 => rw [List.length_append, HL.out, mks_len (by omega)]; omega
      case hl2 => rw [List.length_append, HL.out, mks_len (by omega)]; omega
      go_wp2
      go_roundw
      case rel =>
        have hb1 := below_push HBel.out HO.out hsz HG.out
        exact ⟨k + 1, by omega, by go_num, by rw [mks_succ (marks_int hlt), ← List.append_assoc]; exact HO'.out, hb1, Nat.le_trans hB1 hb1.size⟩
      case measure => simp [intOf]; omega
    · obtain rfl : k = 12 := by omega
      obtain ⟨g, cap, rfl, hc1, hc2, hret⟩ := lentInts_close HL (by rw [← HB.out]; exact HO.out) (by rw [← HB.out]; exact HBel.out)
      have HR := hide hret; clear hret hlt
      go_wp2
      go_ret
      exact HR.out
end Go.Proofs.YthmglmmafgdmhaaGreat
