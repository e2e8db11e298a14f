/- append onto a literal that is full: the world grows, and no more. -/
import Derived.Test.YtoghikagooegbaaOwn
set_option linter.unusedSimpArgs false
set_option linter.unusedVariables false
namespace Go.Proofs.Ytoghikagooegbaa
open Go.RowKit

theorem run_push_full {P : Program} {α : Type} [Rep α] (w : World) (t ty : TypeId) (T : TypeId) (i : TypeInfo) (z : Value) (bytes : Nat) (ht : P.underlying t = some (.slice T)) (hi : P.info? T = some i) (hz : i.zero = some z)
    (hsize : i.size = Rep.size α) (hby : i.bytes = bytes) (hzs : z.cells.size = Rep.size α) (hsz : 0 < Rep.size α)
    (S S2 S' : Nat → Prop) (b : Addr) (n : Nat) (xs ys : List α) (hl : Sl w S (some b) n n xs) (A : Option Addr) (m c : Nat) (hr : Sl w S2 A m c ys)
    (hS : ∀ k, k < w.heap.size → S k → S' k) (hS2 : ∀ k, k < w.heap.size → S2 k → S' k) (hnew : ∀ k, w.heap.size ≤ k → S' k)
    (h63 : n + m ≤ 9223372036854775807) (hbytes : (n + m) * bytes ≤ 140737488355328) :
    ∃ v' w', (Builtin.append_ #[t, t] ty #[.slice (some b) n n, .slice A m c]).run P w = .ok v' w' ∧ (∃ u : Ext, w' = w.ext u) ∧ ∃ A' c', v' = .slice A' (n + m) c' ∧ Sl w' S' A' (n + m) c' (xs ++ ys) := by
  rcases Nat.eq_zero_or_pos m with h0 | h0
  · subst h0
    obtain rfl : ys = [] := List.eq_nil_of_length_eq_zero hr.len
    refine ⟨.slice (some b) n n, w, ?_, ext_refl w, some b, n, rfl, by rw [List.append_nil]; exact hl.more hS⟩
    cases A with
    | none => simp [Builtin.append_, run_underlying ht, sizeOf, typeInfo, hi, Builtin.lenOf, Builtin.firstCells, storeCells]
    | some ad =>
      have hf := run_firstCells_some (P := P) w i.size 0 ad 0 c [] (by simp) (by intro j v h; simp at h)
      simp [Builtin.append_, run_underlying ht, sizeOf, typeInfo, hi, Builtin.lenOf, hf, storeCells]
  · cases A with
    | none =>
      have h0' : c = 0 := hr.2.2.2.1 rfl
      have := hr.2.1; omega
    | some ad =>
      obtain ⟨us, hr', hc⟩ := (hr.more hS2).from_
      obtain ⟨vs, hl', hlc⟩ := (hl.more hS).from_
      obtain ⟨v', w', hrun, hown, hg⟩ := run_append_arg_grows (P := P) w t ty T i z (Rep.size α) bytes ht hi hz hsize hby hzs hsz b n n vs (by rw [hl'.len, hl.len]) hlc ad m c us (by rw [hr'.len, hr.len]) hc (by omega) (by unfold maxLen; omega) hbytes
      have hB : Below w.heap.size w w' := ⟨hg.os, hg.tape, hg.output, hg.size, fun k hk => hg.block k hk (by simp)⟩
      obtain ⟨u, rfl⟩ := hB.to_ext
      have ho : OwnL (w.ext u) w.heap.size T (fun k => S' k ∧ k < w.heap.size) v' (xs ++ ys) := by
        refine ⟨vs ++ us, by rw [List.length_append, hl.len, hr.len]; exact hown, ?_, fun g hg ⟨_, hlt⟩ => ?_⟩
        · exact RepL.keep (RepL.append (hl'.more fun b hb h => ⟨h, hb⟩) (hr'.more fun b hb h => ⟨h, hb⟩)) (by rw [size_ext]; omega) fun b _ hb => ext_block w u b hb
        · rcases hown.2 with ⟨rfl, _⟩ | ⟨g', cap, cur, rfl, hge, _⟩
          · simp [Value.ownBlock] at hg
          · simp [Value.ownBlock] at hg; omega
      obtain ⟨A', c', hv⟩ := ho.form
      rw [List.length_append, hl.len, hr.len] at hv
      subst hv
      refine ⟨_, _, hrun, ⟨u, rfl⟩, A', c', rfl, ho.sl fun k hk h => ?_⟩
      rcases h with h | h
      · exact h.1
      · exact hnew k h
end Go.Proofs.Ytoghikagooegbaa
