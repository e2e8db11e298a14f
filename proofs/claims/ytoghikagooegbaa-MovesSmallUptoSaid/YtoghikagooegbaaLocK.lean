/- Places as keys of maps. -/
import Derived.Test.YtoghikagooegbaaMp
import Derived.Test.YtoghikagooegbaaTypes
import Derived.DeepKeys4
set_option linter.unusedSimpArgs false
set_option linter.unusedVariables false
namespace Go.Proofs.Ytoghikagooegbaa
open Go.RowKit Go.Maps
theorem laid9 : laidOutB Try.prog = true := by kernel_rfl
theorem loc_law : WideMaps.KeyLaw Try.prog 40 := deep_law_laid laid9 (m := 2) (by omega) (by decide +kernel) (by kernel_rfl) (by rw [Try.underlying40])
def locLit (x : Loc) : Lit := .string (keyBytes [.bool x.slot, .int .i64 x.n])
theorem keyLits_loc (b : Bool) (n : Int) (hn : InI n) : Try.prog.keyLits (Try.prog.types.size + 1) 40 [.bool b, .int .i64 n] = some [.bool b, .int .i64 n] := by
  obtain ⟨d, hd⟩ := Nat.exists_eq_add_of_le (show 1 ≤ Try.prog.types.size by decide +kernel)
  rw [hd, show 1 + d + 1 = d + 1 + 1 by omega]
  have c0 : Try.prog.cellsOf 40 = 2 := by kernel_rfl
  have c1 : Try.prog.cellsOf 4 = 1 := by kernel_rfl
  have c2 : Try.prog.cellsOf 3 = 1 := by kernel_rfl
  simp [Program.keyLits, Try.underlying40, Try.underlying4, Try.underlying3, c0, c1, c2, wf_i64 hn]
theorem keyOf_loc (x : Loc) (hx : InI x.n) : keyOf Try.prog 40 (.agg #[.bool x.slot, .int .i64 x.n]) = some (locLit x) := by
  have h1 : Try.prog.keyType 40 = true := by kernel_rfl
  have h2 : (Value.agg #[.bool x.slot, .int .i64 x.n]).formed Try.prog 40 = true := by kernel_rfl
  simp only [keyOf, Try.underlying40, h1, h2, Bool.and_self, if_true, Value.cells]
  rw [keyLits_loc x.slot x.n hx]
  rfl
theorem keyOf_loc_agg {v : Value} {l : Lit} (h : keyOf Try.prog 40 v = some l) : ∃ (xs : Array Value) (L : List Lit), v = .agg xs ∧ Try.prog.keyLits (Try.prog.types.size + 1) 40 xs.toList = some L ∧ l = .string (keyBytes L) :=
  keyOf_top (by rw [Try.underlying40]) h
theorem keyLits_two (d : Nat) (a b : Value) : Try.prog.keyLits (d + 1 + 1) 40 [a, b] = (Try.prog.keyLits (d + 1) 4 [a]).bind fun x => (Try.prog.keyLits (d + 1) 3 [b]).map fun y => x ++ y := by
  have c0 : Try.prog.cellsOf 40 = 2 := by kernel_rfl
  have c1 : Try.prog.cellsOf 4 = 1 := by kernel_rfl
  have c2 : Try.prog.cellsOf 3 = 1 := by kernel_rfl
  conv => lhs; unfold Program.keyLits
  simp only [Try.underlying40, c0, List.length_cons, List.length_nil, List.mapM_cons, List.mapM_nil, c1, c2, List.drop_zero, List.take_succ_cons, List.take_zero, List.drop_succ_cons]
  simp
  cases Try.prog.keyLits (d + 1) 4 [a] <;> cases Try.prog.keyLits (d + 1) 3 [b] <;> simp
theorem keyLits_bool {d : Nat} {a : Value} {x : List Lit} (h : Try.prog.keyLits (d + 1) 4 [a] = some x) : ∃ b, a = .bool b ∧ x = [.bool b] := by
  unfold Program.keyLits at h
  simp only [Try.underlying4] at h
  cases a <;> simp at h
  exact ⟨_, rfl, h.symm⟩
theorem keyLits_int {d : Nat} {a : Value} {x : List Lit} (h : Try.prog.keyLits (d + 1) 3 [a] = some x) : ∃ n, a = .int .i64 n ∧ x = [.int .i64 n] ∧ InI n := by
  unfold Program.keyLits at h
  simp only [Try.underlying3] at h
  cases a <;> simp at h
  obtain ⟨⟨rfl, hw⟩, rfl⟩ := h
  exact ⟨_, rfl, rfl, of_wf hw⟩
theorem keyOf_loc_inv {v : Value} {l : Lit} (h : keyOf Try.prog 40 v = some l) : ∃ x : Loc, InI x.n ∧ v = .agg #[.bool x.slot, .int .i64 x.n] ∧ l = locLit x := by
  obtain ⟨xs, L, rfl, hL, rfl⟩ := keyOf_loc_agg h
  obtain ⟨a, b, rfl, d, hd⟩ : ∃ a b, xs = #[a, b] ∧ ∃ d, Try.prog.types.size + 1 = d + 1 + 1 := by
    obtain ⟨d, hd⟩ := Nat.exists_eq_add_of_le (show 1 ≤ Try.prog.types.size by decide +kernel)
    have hs : xs.toList.length = 2 := by
      rw [hd, show 1 + d + 1 = d + 1 + 1 by omega] at hL
      unfold Program.keyLits at hL
      simp only [Try.underlying40] at hL
      have c0 : Try.prog.cellsOf 40 = 2 := by kernel_rfl
      by_cases hc : xs.toList.length = 2
      · exact hc
      · rw [if_neg (by rw [c0]; exact fun h => hc h.1)] at hL; cases hL
    obtain ⟨l⟩ := xs
    have hs' : l.length = 2 := hs
    cases l with
    | nil => simp at hs'
    | cons a l =>
      cases l with
      | nil => simp at hs'
      | cons b l =>
        obtain rfl : l = [] := List.eq_nil_of_length_eq_zero (by simpa using hs')
        exact ⟨a, b, rfl, d, by omega⟩
  rw [hd] at hL
  change Try.prog.keyLits (d + 1 + 1) 40 [a, b] = some L at hL
  rw [keyLits_two] at hL
  cases h1 : Try.prog.keyLits (d + 1) 4 [a] with
  | none => rw [h1] at hL; cases hL
  | some x =>
    cases h2 : Try.prog.keyLits (d + 1) 3 [b] with
    | none => rw [h1, h2] at hL; cases hL
    | some y =>
      obtain ⟨s, rfl, rfl⟩ := keyLits_bool h1
      obtain ⟨n, rfl, rfl, hn⟩ := keyLits_int h2
      rw [h1, h2] at hL
      obtain rfl := Option.some.inj hL
      exact ⟨⟨s, n⟩, hn, rfl, rfl⟩
theorem locLit_inj {x y : Loc} (hx : InI x.n) (hy : InI y.n) (h : locLit x = locLit y) : x = y := by
  unfold locLit at h
  have h1 := keyBytes_inj (l := [.bool x.slot, .int .i64 x.n]) (l' := [.bool y.slot, .int .i64 y.n]) (by simp [Alike, Lit.sameKind]) (by simp [Lit.keyWf, wf_i64 hx]) (by simp [Lit.keyWf, wf_i64 hy]) (by simpa using h)
  obtain ⟨s, n⟩ := x; obtain ⟨s', n'⟩ := y
  simp at h1 ⊢
  exact h1
end Go.Proofs.Ytoghikagooegbaa
