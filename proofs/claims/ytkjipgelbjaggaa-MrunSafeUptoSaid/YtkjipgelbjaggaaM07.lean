/- Walks: slices made, targets counted. -/
import Derived.Test.YtkjipgelbjaggaaM02
import Derived.Test.YtkjipgelbjaggaaM06
set_option linter.unusedSimpArgs false
set_option linter.unusedVariables false
namespace Go.Proofs.Ytkjipgelbjaggaa
open Go.RowKit

theorem info_int : (Try.prog.info? 3).map (fun i => (i.zero, i.size, i.bytes)) = some (some (.int .i64 0), 1, 8) := by kernel_rfl
theorem info_Ins : (Try.prog.info? 66).map (fun i => (i.zero, i.size, i.bytes)) = some (some (.agg #[.int .i64 0, .int .i64 0, .int .i64 0, .int .i64 0, .int .i64 0, .int .i64 0, .slice none 0 0, .int .i64 0]), 8, 80) := by kernel_rfl
theorem info_Block : (Try.prog.info? 60).map (fun i => (i.zero, i.size, i.bytes)) = some (some (.agg #[.slice none 0 0, .int .i64 0, .int .i64 0, .int .i64 0, .int .i64 0]), 5, 56) := by kernel_rfl
theorem info_Loc : (Try.prog.info? 70).map (fun i => (i.zero, i.size, i.bytes)) = some (some (.agg #[.bool false, .int .i64 0]), 2, 16) := by kernel_rfl

theorem places_any (w : World) (S : Nat → Prop) (A : Option Addr) (n c : Nat) (xs : List Int) (h : Sl w S A n c xs) (hn : n ≤ 1048576) :
    Calls Try.prog 43 #[.slice A n c] w (RetO 70 (xs.map fun r => (⟨false, r⟩ : Loc)) w) := by
  have HL := hide h.len
  have HS := hide h; clear h
  obtain ⟨i0, hi, hz, hz1, hz2⟩ := info_parts info_Loc
  have HI0 := hide hi; have HZ := hide hz; have HZ1 := hide hz1; have HZ2 := hide hz2
  clear hi hz hz1 hz2
  obtain ⟨B, hB⟩ : ∃ B, B = w.heap.size := ⟨_, rfl⟩
  have HB := hide hB
  have hB1 : B ≤ w.heap.size := by omega
  have hB2 : w.heap.size ≤ B := by omega
  clear hB
  go_enter Try.func43, Try.ntmps43
  go_wp2
  go_loopw [2, 7] (fun o i wr => ∃ k : Nat, k ≤ n ∧ i = .int .i64 k ∧ OwnL wr B 70 (fun _ => False) o ((xs.take k).map fun r => (⟨false, r⟩ : Loc)) ∧ Below B w wr ∧ B ≤ wr.heap.size) (fun _ i _ => n - (intOf i).toNat)
  case atStart => exact ⟨0, Nat.zero_le _, rfl, OwnL.nil_ _ _ _ _, Below.refl _ _, hB1⟩
  case round =>
    obtain ⟨k, hk, rfl, hown, hbel, hsz⟩ := hrel
    have HO := hide hown; clear hown
    have HBel := hide hbel; clear hbel
    by_cases hlt : k < n
    · obtain ⟨b, off, x, rfl, hb, hx, hi, hc⟩ := at_int HS.out hlt
      have hc' : wr.cell? ⟨b, off + k, none⟩ = some (.int .i64 x) := by rw [HBel.out.cell (by show b < B; omega)]; exact hc
      have HX := hide (take_at hx); clear hx
      have HI := hide hi; clear hi
      clear hc
      go_wp2_with (at_builtin; refine wpList_push (α := Loc) wr [.bool false, .int .i64 x] 70 rfl (.tmp 11) (.tmp 14) 61 rfl B 70 i0 _ 16 Try.underlying61 HI0.out HZ.out HZ1.out HZ2.out rfl (by decide) (fun _ => False) (fun _ => False) u2 _ ⟨false, x⟩ rfl HO.out _ rfl rfl (Loc.mk_ HI.out) (fun _ h => h) (fun _ _ h => h) (fun _ h => h.elim) (by simp; omega) (by simp; omega) hsz ?_; intro v' w1 hown' hg _)
      have HO' := hide hown'; have HG := hide hg
      clear hown' hg
      go_wp2
      go_roundw
      case rel =>
        have hb1 := below_push HBel.out HO.out hsz HG.out
        exact ⟨k + 1, by omega, by go_num, by rw [HX.out, List.map_append]; exact HO'.out, hb1, Nat.le_trans hB1 hb1.size⟩
      case measure => simp [intOf]; omega
    · go_wp2
      go_ret
      have ho := HO.out
      rw [take_end HL.out hlt] at ho
      have e := HB.out
      subst e
      exact RetO.mk_ ho (fun _ h => h.elim) HBel.out
end Go.Proofs.Ytkjipgelbjaggaa
