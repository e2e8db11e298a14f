/- law24: a list sorted, each number once; what binding tells, plain. -/
import Derived.Test.YtbppamjogdjfkaaIT9
set_option linter.unusedSimpArgs false
set_option linter.unusedVariables false
namespace Go.Proofs.Ytbppamjogdjfkaa
open Go.RowKit Go.Shelf Go.Maps Go.Sort

theorem compact_sorted {zs : List Int} (h : zs.Pairwise (· ≤ ·)) : (Lib.compact zs).Pairwise (· < ·) ∧ ∀ x, x ∈ Lib.compact zs ↔ x ∈ zs := by
  have key : ∀ m, m ≤ zs.length → (Lib.compactUpTo zs.toArray m).Pairwise (· < ·) ∧ (∀ x, x ∈ Lib.compactUpTo zs.toArray m ↔ x ∈ zs.take m) ∧ ∀ x ∈ Lib.compactUpTo zs.toArray m, ∀ y, zs[m - 1]? = some y → x ≤ y := by
    intro m
    induction m with
    | zero => intro _; exact ⟨by simp [Lib.compactUpTo], by simp [Lib.compactUpTo], by simp [Lib.compactUpTo]⟩
    | succ m ih =>
      intro hm
      obtain ⟨h1, h2, h3⟩ := ih (by omega)
      have hlt : m < zs.length := by omega
      have hget : zs.toArray[m]! = zs[m] := by simp [hlt]
      have htk : zs.take (m + 1) = zs.take m ++ [zs[m]] := by rw [List.take_succ_eq_append_getElem hlt]
      have hle : ∀ x ∈ zs.take m, x ≤ zs[m] := fun x hx => by
        obtain ⟨i, hi⟩ := List.mem_iff_getElem?.1 hx
        obtain ⟨hi1, hi2⟩ := List.getElem?_eq_some_iff.1 hi
        rw [List.length_take] at hi1
        rw [List.getElem_take] at hi2
        rw [← hi2]
        exact List.pairwise_iff_getElem.1 h i m (by omega) hlt (by omega)
      rw [Lib.compactUpTo_succ, hget, htk]
      cases hk : Lib.keeps zs.toArray m with
      | true =>
        have hne : m = 0 ∨ ∀ y, zs[m - 1]? = some y → y < zs[m] := by
          rcases Nat.eq_zero_or_pos m with h0 | h0
          · exact .inl h0
          · refine .inr fun y hy => ?_
            obtain ⟨hy1, hy2⟩ := List.getElem?_eq_some_iff.1 hy
            have hle' := List.pairwise_iff_getElem.1 h (m - 1) m hy1 hlt (by omega)
            rw [hy2] at hle'
            rcases Int.lt_or_eq_of_le hle' with h' | h'
            · exact h'
            · rw [Lib.keeps_neg h0 (by rw [hget]; simp [hy1, hy2, h'])] at hk
              cases hk
        rw [if_pos rfl]
        refine ⟨List.pairwise_append.2 ⟨h1, by simp, fun a ha b hb => ?_⟩, fun x => by rw [List.mem_append, List.mem_append, h2], fun x hx y hy => ?_⟩
        · obtain rfl := List.mem_singleton.1 hb
          rcases hne with h0 | hne
          · subst h0
            have := (h2 a).1 ha
            simp at this
          · have hl1 : m - 1 < zs.length := by omega
            have := h3 a ha _ (List.getElem?_eq_getElem hl1)
            have := hne _ (List.getElem?_eq_getElem hl1)
            omega
        · rw [Nat.add_sub_cancel, List.getElem?_eq_getElem hlt] at hy
          injection hy with hy
          subst hy
          rcases List.mem_append.1 hx with hx | hx
          · exact hle x ((h2 x).1 hx)
          · rw [List.mem_singleton.1 hx]
            exact Int.le_refl _
      | false =>
        rw [if_neg (by simp), List.append_nil]
        have hm0 : 0 < m := by
          rcases Nat.eq_zero_or_pos m with h0 | h0
          · subst h0; rw [Lib.keeps_lt_one _ 0 (by omega)] at hk; cases hk
          · exact h0
        have hl1 : m - 1 < zs.length := by omega
        have heq : zs[m] = zs[m - 1] := by
          refine Decidable.byContradiction fun hne => ?_
          rw [Lib.keeps_pos (by rw [hget]; simpa [hl1] using hne)] at hk
          cases hk
        refine ⟨h1, fun x => ?_, fun x hx y hy => ?_⟩
        · rw [h2, List.mem_append, List.mem_singleton]
          refine ⟨.inl, fun h => h.elim id fun e => ?_⟩
          rw [e, heq]
          exact List.mem_iff_getElem?.2 ⟨m - 1, by rw [List.getElem?_take, if_pos (by omega), List.getElem?_eq_getElem hl1]⟩
        · rw [Nat.add_sub_cancel, List.getElem?_eq_getElem hlt] at hy
          injection hy with hy
          subst hy
          exact hle x ((h2 x).1 hx)
  have := key zs.length (Nat.le_refl _)
  rw [List.take_length] at this
  exact ⟨this.1, this.2.1⟩
/-- slices.Compact of a list of the call's own that rises. -/
theorem compact24 (w : World) (B : Nat) (A : Option Addr) (c : Nat) (zs : List Int) (h : OwnL w B 3 (fun _ => False) (.slice A zs.length c) zs) (hz : zs.length ≤ 1048576) (hsort : zs.Pairwise (· ≤ ·)) :
    Calls Try.prog 17 #[.slice A zs.length c] w fun e w' => ∃ A' c', e = .returned (.slice A' (Lib.compact zs).length c') ∧ OwnL w' B 3 (fun _ => False) (.slice A' (Lib.compact zs).length c') (Lib.compact zs) ∧ w.grownBy w' (Value.slice A zs.length c).ownBlock := by
  obtain ⟨vals, ⟨hl, hrow⟩, hrep, hap⟩ := h
  obtain ⟨rfl, hI⟩ := RepL.ints_of hrep
  rcases hrow with ⟨hv, hz0⟩ | ⟨gb, cap, cur, hv, hbase, hgb, r1, r2, r3, r4⟩
  · obtain rfl : zs = [] := List.eq_nil_of_length_eq_zero hz0
    injection hv with h1 h2 h3
    subst h1 h3
    refine (Try.slices_Compact_int_empty none 0 w).mono ?_
    rintro e w' ⟨rfl, rfl⟩
    exact ⟨none, 0, rfl, OwnL.nil_ _ _ _ _, World.grownBy.refl _ _⟩
  · injection hv with h1 h2 h3
    subst h1 h3
    have hH : Holds (Value.int .i64) w gb 0 zs.toArray := holds_of_block_i hgb (by simpa [Rep.size] using r4)
    refine (Try.slices_Compact_int gb 0 c zs w hH (by omega) r1).mono ?_
    rintro e w' ⟨rfl, q, rfl⟩
    obtain ⟨ts, hts⟩ : ∃ ts, Lib.compact zs ++ List.replicate (zs.length - (Lib.compact zs).length) 0 = ts := ⟨_, rfl⟩
    have hcl := Lib.compact_length_le zs
    have htl : ts.length = zs.length := by rw [← hts]; simp; omega
    have hIt : ∀ x ∈ ts, InI x := fun x hx => by
      rw [← hts] at hx
      rcases List.mem_append.1 hx with hx | hx
      · exact hI x (((compact_sorted hsort).2 x).1 hx)
      · rw [(List.mem_replicate.1 hx).2]; unfold InI; omega
    rw [hts]
    have hown := ownsRow_sorted_i (w := w) (n := q) (os := #[]) htl hbase hgb r1 r2 (by simpa [Rep.size] using r3)
    have hgr := grownBy_sorted_i (w := w) (g := gb) (n := q) (os := #[]) ts.toArray
    rw [grow_empty] at hown hgr
    refine ⟨_, _, rfl, ?_, hgr⟩
    have hO : OwnL (putRow encZ (Sort.ahead w q) gb 0 ts.toArray) B 3 (fun _ => False) (.slice (some ⟨gb, 0, none⟩) zs.length c) ts := ⟨_, by rw [htl]; exact hown, RepL.ints _ hIt, fun _ _ h => h⟩
    have := hO.pre hcl
    rw [← hts, List.take_left] at this
    rw [hts] at this
    exact this
theorem bind24_snoc (p : Part) (par : Int → Int) (sf pl : List Int) : ∀ (cs : List Int) (acc : List (Int × Int)) (c : Int), bind24 p par sf pl acc (cs ++ [c]) = bind24 p par sf pl acc cs ++ [(c, got24 (wishes24 p par c) (pool24 sf pl c) ((bind24 p par sf pl acc cs).map (·.2)))]
  | [], acc, c => rfl
  | d :: cs, acc, c => by rw [List.cons_append]; unfold bind24; exact bind24_snoc p par sf pl cs _ c
theorem bind24_fst (p : Part) (par : Int → Int) (sf pl : List Int) : ∀ (cs : List Int) (acc : List (Int × Int)), (bind24 p par sf pl acc cs).map (·.1) = acc.map (·.1) ++ cs
  | [], acc => by unfold bind24; simp
  | d :: cs, acc => by unfold bind24; rw [bind24_fst p par sf pl cs]; simp
theorem parts24_snoc (sf pl : List Int) (rg : Nat) : ∀ (l : List Part) (done : List (Part × List (Int × Int))) (p : Part), parts24 sf pl rg done (l ++ [p]) = parts24 sf pl rg done l ++ [(p, bind24 p (par24 (parts24 sf pl rg done l) p) sf pl [] (colors24 p rg))]
  | [], done, p => rfl
  | q :: l, done, p => by rw [List.cons_append]; unfold parts24; exact parts24_snoc sf pl rg l _ p
theorem parts24_len (sf pl : List Int) (rg : Nat) (l : List Part) (done : List (Part × List (Int × Int))) : (parts24 sf pl rg done l).length = done.length + l.length := (parts_at24 sf pl rg l done _ rfl).1
/-- The colors that are bound so far. -/
def neg24 (l : List Int) : List Int := l.filter fun c => decide (0 ≤ c)
theorem neg24_snoc (l : List Int) (c : Int) : neg24 (l ++ [c]) = neg24 l ++ (if c < 0 then [] else [c]) := by
  unfold neg24
  rw [List.filter_append]
  congr 1
  by_cases h : c < 0
  · rw [if_pos h]; simp; omega
  · rw [if_neg h]; simp; omega
theorem vars_few24 {p : Part} {i : Nat} {colors regs : Int} (h : PartR24 p i colors regs) (hv : ∀ v ∈ p.vars, 1 ≤ v ∧ v ≤ 200) : p.vars.length ≤ 201 := by
  have := nodup_len p.vars (regs24 201) (h.vr.imp fun h => by omega) fun v hx => mem_regs24.2 (by have := hv v hx; omega)
  rwa [regs24_len] at this
end Go.Proofs.Ytbppamjogdjfkaa
