/- Plain: how many variables are kept of one brief, how many rows there are. -/
import Derived.Test.YthmglmmafgdmhaaGreatB23b
set_option linter.unusedSimpArgs false
set_option linter.unusedVariables false
namespace Go.Proofs.YthmglmmafgdmhaaGreat
open Go.RowKit

def colsL (l : List (Int × Int)) : List (Int × Int) := l.filter fun p => decide (0 ≤ p.2)
theorem colsL_snoc (l : List (Int × Int)) (p : Int × Int) : (colsL (l ++ [p])).length = (colsL l).length + (if 0 ≤ p.2 then 1 else 0) := by
  unfold colsL
  rw [List.filter_append, List.length_append]
  by_cases h : 0 ≤ p.2 <;> simp [List.filter_cons, h]
theorem vars_nodup {b : Brief} (R : RightB b) : ((vcB b).map (·.1)).Nodup := by
  unfold vcB
  rw [List.map_fst_zip (by rw [R.lc]; exact Nat.le_refl _)]
  exact risingF_nodup R.rise
theorem one_right {b : Brief} (h : rightB b = true) : anyF (fun b => !rightB b) [b] = false := by simp [anyF, h]
theorem kept1_mem {b : Brief} (h : rightB b = true) {k : Nat} {v c : Int} (h1 : b.vars[k]? = some v) (h2 : b.colors[k]? = some c) : (keptB [b]).contains v = decide (0 ≤ c) := by
  obtain ⟨g1, g2, g3⟩ := col_at (rightB_of h) h1 h2
  by_cases hc : 0 ≤ c
  · rw [decide_eq_true hc]
    refine List.contains_iff_mem.2 ((keptB_mem (one_right h)).2 ⟨by simp [g1], ?_⟩)
    simp [g3]; omega
  · rw [decide_eq_false hc]
    cases e : (keptB [b]).contains v with
    | false => rfl
    | true =>
      have := ((keptB_mem (one_right h)).1 (List.contains_iff_mem.1 e)).2
      simp [g3] at this
      omega
theorem kept_one {b : Brief} (h : rightB b = true) : (keptB [b]).length = (colsL (vcB b)).length := by
  have R := rightB_of h
  have h1 : (keptB [b]).Nodup := (keptB_lt [b]).imp fun h => by omega
  have h2 : ((colsL (vcB b)).map (·.1)).Nodup := (vars_nodup R).sublist (List.filter_sublist.map _)
  have hp : (keptB [b]).Perm ((colsL (vcB b)).map (·.1)) := (List.perm_ext_iff_of_nodup h1 h2).2 fun v => by
    rw [keptB_mem (one_right h), List.mem_map]
    constructor
    · rintro ⟨g1, g2⟩
      have g1 : hasV v b = true := by simpa using g1
      have g2 : spilV v b = false := by simpa using g2
      obtain ⟨k, hk⟩ := List.mem_iff_getElem?.1 (List.contains_iff_mem.1 g1)
      obtain ⟨c, hc⟩ : ∃ c, b.colors[k]? = some c := ⟨_, List.getElem?_eq_getElem (by rw [R.lc]; exact (List.getElem?_eq_some_iff.1 hk).1)⟩
      have hcc : 0 ≤ c := by
        have := (col_at R hk hc).2.2
        rw [g2] at this
        have := of_decide_eq_false this.symm
        omega
      exact ⟨(v, c), List.mem_filter.2 ⟨List.mem_iff_getElem?.2 ⟨k, vc_at hk hc⟩, by simp [hcc]⟩, rfl⟩
    · rintro ⟨⟨v', c⟩, hp, rfl⟩
      obtain ⟨hp1, hp2⟩ := List.mem_filter.1 hp
      obtain ⟨k, hk⟩ := List.mem_iff_getElem?.1 hp1
      obtain ⟨g1, g2⟩ := vc_at' hk
      obtain ⟨e1, e2, e3⟩ := col_at R g1 g2
      have hp2 : 0 ≤ c := by simpa using hp2
      exact ⟨by simp [e1], by simp [e3]; omega⟩
  rw [hp.length_eq, List.length_map]
theorem nodup_len : ∀ {l m : List Int}, l.Nodup → (∀ x ∈ l, x ∈ m) → l.length ≤ m.length
  | [], _, _, _ => Nat.zero_le _
  | x :: t, m, hn, h => by
    rw [List.nodup_cons] at hn
    have hx := h x (by simp)
    have := nodup_len (l := t) (m := m.erase x) hn.2 fun y hy => (List.mem_erase_of_ne (fun e : y = x => hn.1 (by rw [← e]; exact hy))).2 (h y (by simp [hy]))
    rw [List.length_erase_of_mem hx] at this
    have := List.length_pos_of_mem hx
    simp only [List.length_cons]; omega
theorem cols_few {b : Brief} (R : RightB b) : (colorsB b).length ≤ (colsL (vcB b)).length := by
  have hl : (colsL (vcB b)).length = ((colsL (vcB b)).map fun p : Int × Int => p.2).length := (List.length_map _).symm
  rw [hl]
  refine nodup_len (colorsB_nodup b) fun c hc => ?_
  obtain ⟨h1, p, hp, e⟩ := (colorsB_mem R).1 hc
  exact List.mem_map.2 ⟨p, List.mem_filter.2 ⟨hp, by simp [e, h1]⟩, e⟩
def manyT (c : Int) (l : List Int) : Nat := (l.filter fun d => d == c).length
theorem manyT_snoc (c : Int) (l : List Int) (d : Int) : manyT c (l ++ [d]) = manyT c l + (if c = d then 1 else 0) := by
  unfold manyT
  rw [List.filter_append, List.length_append]
  by_cases h : c = d
  · subst h; simp
  · have : (d == c) = false := by simp; exact fun e => h e.symm
    simp [List.filter_cons, h, this]
theorem manyT_nodup (c : Int) : ∀ {l : List Int}, l.Nodup → manyT c l = if l.contains c then 1 else 0
  | [], _ => rfl
  | d :: l, h => by
    rw [List.nodup_cons] at h
    have ih := manyT_nodup c h.2
    unfold manyT at ih ⊢
    by_cases e : d = c
    · subst e
      have h0 : l.contains d = false := by
        cases hc : l.contains d with
        | false => rfl
        | true => exact absurd (List.contains_iff_mem.1 hc) h.1
      rw [h0] at ih
      simp only [List.filter_cons, beq_self_eq_true, if_true, List.length_cons, ih]
      simp
    · have e1 : (d == c) = false := by simpa using e
      have e2 : (c == d) = false := by simp; exact fun h => e h.symm
      simp only [List.filter_cons, e1, List.contains_cons, e2, Bool.false_or]
      simpa using ih
theorem many_at {b : Brief} (R : RightB b) {k : Nat} {v c : Int} (h1 : b.vars[k]? = some v) (h2 : b.colors[k]? = some c) : manyT c (colorsB b) = if 0 ≤ c then 1 else 0 := by
  rw [manyT_nodup c (colorsB_nodup b)]
  by_cases hc : 0 ≤ c
  · rw [if_pos hc, List.contains_iff_mem.2 ((colorsB_mem R).2 ⟨hc, (v, c), List.mem_iff_getElem?.2 ⟨k, vc_at h1 h2⟩, rfl⟩)]
    rfl
  · rw [if_neg hc]
    cases e : (colorsB b).contains c with
    | false => rfl
    | true => exact absurd ((colorsB_mem R).1 (List.contains_iff_mem.1 e)).1 hc
theorem apartB_len {b : Brief} (h : rightB b = true) : (apartB b).length = (colorsB b).length := by unfold apartB; rw [h]; simp
theorem apartB_at {b : Brief} (h : rightB b = true) {k : Nat} {c : Int} (hc : (colorsB b)[k]? = some c) : (apartB b)[k]? = some (rowC c (vcB b)) := by
  unfold apartB
  rw [h]
  simp only [if_true]
  rw [List.getElem?_map, hc]; rfl
end Go.Proofs.YthmglmmafgdmhaaGreat
