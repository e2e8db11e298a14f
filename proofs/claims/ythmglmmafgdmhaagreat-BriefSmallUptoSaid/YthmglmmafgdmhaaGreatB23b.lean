/- Plain: what variables are worth does not hang on the order of the briefs; what a brief that has a variable, or that spills it, adds; what is kept. -/
import Derived.Test.YthmglmmafgdmhaaGreatB23
set_option linter.unusedSimpArgs false
set_option linter.unusedVariables false
namespace Go.Proofs.YthmglmmafgdmhaaGreat
open Go.RowKit

theorem sumB_perm {v : Int} {l m : List Brief} (h : l.Perm m) : sumB v l = sumB v m := by
  induction h with
  | nil => rfl
  | cons x _ ih => rw [sumB_cons, sumB_cons, ih]
  | swap x y l => rw [sumB_cons, sumB_cons, sumB_cons, sumB_cons]; omega
  | trans _ _ ih1 ih2 => exact ih1.trans ih2
theorem anyF_perm {α : Type} {f : α → Bool} {l m : List α} (h : l.Perm m) : anyF f l = anyF f m := by
  induction h with
  | nil => rfl
  | cons x _ ih => simp only [anyF, ih]
  | swap x y l => simp only [anyF]; cases f x <;> cases f y <;> rfl
  | trans _ _ ih1 ih2 => exact ih1.trans ih2
theorem worth_perm {vars weight : List Int} {l m : List Brief} (h : l.Perm m) : worthT vars weight l = worthT vars weight m := by
  have h1 : goodW vars weight l = goodW vars weight m := by unfold goodW; rw [anyF_perm h, h.length_eq]
  have h2 : worthR vars weight l = worthR vars weight m := by
    unfold worthR
    congr 1
    funext p
    unfold worthV
    rw [sumB_perm h]
  unfold worthT
  rw [h1, h2]
/-- The briefs, turned. -/
def turnL {α : Type} (l : List α) (k : Nat) : List α := (l.drop k ++ l.take k).reverse
theorem turnL_perm {α : Type} (l : List α) (k : Nat) : (turnL l k).Perm l := by
  refine (List.reverse_perm _).trans ?_
  have h := List.perm_append_comm (l₁ := l.drop k) (l₂ := l.take k)
  rwa [List.take_append_drop] at h
theorem turnL_len {α : Type} (l : List α) (k : Nat) : (turnL l k).length = l.length := (turnL_perm l k).length_eq
theorem turnL_at {α : Type} {l : List α} {k i : Nat} (hk : k ≤ l.length) (hi : i < l.length) : (turnL l k)[l.length - 1 - i]? = l[(i + k) % l.length]? := by
  have hl : (l.drop k ++ l.take k).length = l.length := by rw [List.length_append, List.length_drop, List.length_take]; omega
  unfold turnL
  rw [List.getElem?_reverse (by rw [hl]; omega), hl, show l.length - 1 - (l.length - 1 - i) = i by omega]
  by_cases h : i + k < l.length
  · rw [Nat.mod_eq_of_lt h, List.getElem?_append_left (by rw [List.length_drop]; omega), List.getElem?_drop, Nat.add_comm]
  · rw [Nat.mod_eq_sub_mod (by omega), Nat.mod_eq_of_lt (by omega), List.getElem?_append_right (by rw [List.length_drop]; omega), List.length_drop, List.getElem?_take, if_pos (by omega)]
    congr 1
    omega

/-! ### one brief, one variable -/
def colV (v : Int) (b : Brief) : Bool := (vcB b).any fun p => p.1 == v && decide (0 ≤ p.2)
theorem trip_at' {b : Brief} {k : Nat} {t : Int × Int × Int} (h : (trip b)[k]? = some t) : b.vars[k]? = some t.1 ∧ b.colors[k]? = some t.2.1 ∧ b.edge[k]? = some t.2.2 := by
  obtain ⟨v, c, e⟩ := t
  unfold trip at h
  obtain ⟨h1, h2⟩ := (List.getElem?_zip_eq_some (z := (v, c, e))).1 h
  obtain ⟨h2, h3⟩ := (List.getElem?_zip_eq_some (z := (c, e))).1 h2
  exact ⟨h1, h2, h3⟩
theorem vc_at {b : Brief} {k : Nat} {v c : Int} (h1 : b.vars[k]? = some v) (h2 : b.colors[k]? = some c) : (vcB b)[k]? = some (v, c) := (List.getElem?_zip_eq_some (z := (v, c))).2 ⟨h1, h2⟩
theorem vc_at' {b : Brief} {k : Nat} {p : Int × Int} (h : (vcB b)[k]? = some p) : b.vars[k]? = some p.1 ∧ b.colors[k]? = some p.2 := (List.getElem?_zip_eq_some (z := p)).1 h
theorem trip_vc {b : Brief} {t : Int × Int × Int} (h : t ∈ trip b) : (t.1, t.2.1) ∈ vcB b := by
  obtain ⟨k, hk⟩ := List.mem_iff_getElem?.1 h
  obtain ⟨h1, h2, _⟩ := trip_at' hk
  exact List.mem_iff_getElem?.2 ⟨k, vc_at h1 h2⟩
theorem contT_prop {v : Int} {P : Int → Prop} (h0 : P 0) : ∀ {l : List (Int × Int × Int)}, (∀ t ∈ l, t.1 = v → P (valE t.2.1 t.2.2)) → P (contT v l)
  | [], _ => h0
  | t :: l, h => by
    unfold contT
    split
    · rename_i e; exact h t (by simp) e
    · exact contT_prop h0 fun q hq => h q (by simp [hq])
theorem cont_none {b : Brief} {v : Int} (h : hasV v b = false) : contT v (trip b) = 0 := by
  refine contT_prop (P := fun x => x = 0) rfl fun t ht e => ?_
  obtain ⟨k, hk⟩ := List.mem_iff_getElem?.1 ht
  have h1 := List.mem_of_getElem? (trip_at' hk).1
  rw [e] at h1
  unfold hasV at h
  rw [List.contains_iff_mem.2 h1] at h
  cases h
theorem cont_kept {b : Brief} (R : RightB b) {v : Int} (h : spilV v b = false) : 0 ≤ contT v (trip b) := by
  refine contT_prop (P := fun x => 0 ≤ x) (by omega) fun t ht e => ?_
  have h1 : ¬ t.2.1 < 0 := fun hc => by
    have : spilV v b = true := List.any_eq_true.2 ⟨_, trip_vc ht, by simp [e, hc]⟩
    rw [h] at this; cases this
  have h2 := R.edg _ (List.of_mem_zip (List.of_mem_zip ht).2).2
  unfold valE
  rw [if_neg h1]; exact h2.1
theorem cont_spilled {b : Brief} (R : RightB b) {v : Int} (h : colV v b = false) : contT v (trip b) ≤ 0 := by
  refine contT_prop (P := fun x => x ≤ 0) (by omega) fun t ht e => ?_
  have h1 : t.2.1 < 0 := by
    by_cases hc : t.2.1 < 0
    · exact hc
    · have : colV v b = true := List.any_eq_true.2 ⟨_, trip_vc ht, by simp [e]; omega⟩
      rw [h] at this; cases this
  have h2 : 0 ≤ t.2.2 ∧ t.2.2 ≤ 1099511627776 := R.edg _ (List.of_mem_zip (List.of_mem_zip ht).2).2
  unfold valE
  rw [if_pos h1]; omega
theorem sumB_prop {v : Int} {P : Int → Prop} (h0 : P 0) (ha : ∀ x y, P x → P y → P (x + y)) : ∀ {l : List Brief}, (∀ b ∈ l, P (contT v (trip b))) → P (sumB v l)
  | [], _ => h0
  | b :: l, h => by
    rw [sumB_cons]
    exact ha _ _ (h b (by simp)) (sumB_prop h0 ha fun x hx => h x (by simp [hx]))
theorem sum_none {v : Int} {l : List Brief} (h : l.any (hasV v) = false) : sumB v l = 0 :=
  sumB_prop (P := fun x => x = 0) rfl (fun x y hx hy => by omega) fun b hb => cont_none (by
    cases e : hasV v b with
    | false => rfl
    | true => rw [List.any_eq_true.2 ⟨b, hb, e⟩] at h; cases h)
theorem sum_kept {v : Int} {l : List Brief} (R : ∀ b ∈ l, RightB b) (h : l.any (spilV v) = false) : 0 ≤ sumB v l :=
  sumB_prop (P := fun x => 0 ≤ x) (by omega) (fun x y hx hy => by omega) fun b hb => cont_kept (R b hb) (by
    cases e : spilV v b with
    | false => rfl
    | true => rw [List.any_eq_true.2 ⟨b, hb, e⟩] at h; cases h)
theorem sum_spilled {v : Int} {l : List Brief} (R : ∀ b ∈ l, RightB b) (h : l.any (colV v) = false) : sumB v l ≤ 0 :=
  sumB_prop (P := fun x => x ≤ 0) (by omega) (fun x y hx hy => by omega) fun b hb => cont_spilled (R b hb) (by
    cases e : colV v b with
    | false => rfl
    | true => rw [List.any_eq_true.2 ⟨b, hb, e⟩] at h; cases h)
theorem kept_mem {l : List Brief} {v : Int} (h : v ∈ keptB l) : l.any (hasV v) = true ∧ l.any (spilV v) = false := by
  unfold keptB at h
  split at h
  · simp at h
  · have := (List.mem_filter.1 h).2
    simp only [Bool.and_eq_true, Bool.not_eq_true'] at this
    exact this
/-- Where a variable is in a right brief, all is told by its color. -/
theorem col_at {b : Brief} (R : RightB b) {k : Nat} {v c : Int} (h1 : b.vars[k]? = some v) (h2 : b.colors[k]? = some c) : hasV v b = true ∧ colV v b = decide (0 ≤ c) ∧ spilV v b = decide (c < 0) := by
  have huniq : ∀ p ∈ vcB b, p.1 = v → p.2 = c := fun p hp e => by
    obtain ⟨j, hj⟩ := List.mem_iff_getElem?.1 hp
    obtain ⟨g1, g2⟩ := vc_at' hj
    have hjk : j = k := by
      have hn := risingF_nodup R.rise
      have l1 : j < b.vars.length := (List.getElem?_eq_some_iff.1 g1).1
      exact (List.getElem?_inj l1 hn).1 (by rw [g1, h1, e])
    subst hjk
    rw [h2] at g2
    exact (Option.some.inj g2).symm
  have hmem : (v, c) ∈ vcB b := List.mem_iff_getElem?.2 ⟨k, vc_at h1 h2⟩
  refine ⟨List.contains_iff_mem.2 (List.mem_of_getElem? h1), ?_, ?_⟩
  · by_cases hc : 0 ≤ c
    · rw [decide_eq_true hc]
      exact List.any_eq_true.2 ⟨_, hmem, by simp [hc]⟩
    · rw [decide_eq_false hc]
      refine List.any_eq_false.2 fun p hp => ?_
      by_cases e : p.1 = v
      · have := huniq p hp e; simp [e, this]; omega
      · simp [e]
  · by_cases hc : c < 0
    · rw [decide_eq_true hc]
      exact List.any_eq_true.2 ⟨_, hmem, by simp [hc]⟩
    · rw [decide_eq_false hc]
      refine List.any_eq_false.2 fun p hp => ?_
      by_cases e : p.1 = v
      · have := huniq p hp e; simp [e, this]; omega
      · simp [e]
theorem none_at {b : Brief} {v : Int} (h : ∀ x ∈ b.vars, (x == v) = false) : hasV v b = false ∧ colV v b = false ∧ spilV v b = false := by
  have h' : ∀ p ∈ vcB b, p.1 ≠ v := fun p hp e => by
    have := h p.1 (List.of_mem_zip hp).1
    rw [e] at this
    simp at this
  refine ⟨?_, List.any_eq_false.2 fun p hp => by simp [h' p hp], List.any_eq_false.2 fun p hp => by simp [h' p hp]⟩
  unfold hasV
  cases e : b.vars.contains v with
  | false => rfl
  | true =>
    have := h v (List.contains_iff_mem.1 e)
    simp at this
/-- Where a number is. -/
theorem idxF_at {f : Int → Bool} : ∀ (l : List Int) (k : Nat), (idxF f k l = -1 ∧ ∀ x ∈ l, f x = false) ∨ ∃ i x, idxF f k l = ((k + i : Nat) : Int) ∧ l[i]? = some x ∧ f x = true
  | [], k => .inl ⟨rfl, by simp⟩
  | x :: l, k => by
    by_cases h : f x = true
    · exact .inr ⟨0, x, by simp [idxF, h], rfl, h⟩
    · have h : f x = false := by simpa using h
      rcases idxF_at (f := f) l (k + 1) with ⟨e, h2⟩ | ⟨i, y, e, h2, h3⟩
      · refine .inl ⟨by simp [idxF, h, e], fun y hy => ?_⟩
        rcases List.mem_cons.1 hy with rfl | hy
        · exact h
        · exact h2 y hy
      · exact .inr ⟨i + 1, y, by simp [idxF, h, e]; omega, by simpa using h2, h3⟩
theorem idx_mem {v : Int} {l : List Int} : decide (0 ≤ idxF (fun x => x == v) 0 l) = l.contains v := by
  rcases idxF_at (f := fun x => x == v) l 0 with ⟨e, h⟩ | ⟨i, x, e, h, h2⟩
  · rw [e]
    symm
    cases hc : l.contains v with
    | false => rfl
    | true =>
      have := h v (List.contains_iff_mem.1 hc)
      simp at this
  · rw [e]
    have hx : x = v := by simpa using h2
    rw [List.contains_iff_mem.2 (hx ▸ List.mem_of_getElem? h)]
    exact decide_eq_true (by omega)

/-! ### rows, what is kept -/
theorem rowC_mem {b : Brief} (R : RightB b) {k : Nat} {v c : Int} (h1 : b.vars[k]? = some v) (h2 : b.colors[k]? = some c) (d : Int) : (rowC d (vcB b)).contains v = decide (c = d) := by
  have hmem : (v, c) ∈ vcB b := List.mem_iff_getElem?.2 ⟨k, vc_at h1 h2⟩
  by_cases e : c = d
  · rw [decide_eq_true e]
    exact List.contains_iff_mem.2 (List.mem_map.2 ⟨(v, c), List.mem_filter.2 ⟨hmem, by simp [e]⟩, rfl⟩)
  · rw [decide_eq_false e]
    cases hc : (rowC d (vcB b)).contains v with
    | false => rfl
    | true =>
      obtain ⟨p, hp, e1⟩ := List.mem_map.1 (List.contains_iff_mem.1 hc)
      obtain ⟨hp1, hp2⟩ := List.mem_filter.1 hp
      obtain ⟨j, hj⟩ := List.mem_iff_getElem?.1 hp1
      obtain ⟨g1, g2⟩ := vc_at' hj
      have hjk : j = k := (List.getElem?_inj (List.getElem?_eq_some_iff.1 g1).1 (risingF_nodup R.rise)).1 (by rw [g1, h1, e1])
      subst hjk
      rw [h2] at g2
      have : c = p.2 := Option.some.inj g2
      have hp2 : p.2 = d := by simpa using hp2
      exact absurd (this.trans hp2) e
theorem range_nodup (n : Nat) (k : Int) : ((List.range n).map fun i : Nat => (i : Int) + k).Nodup := (range_lt n k).imp fun h => by omega
theorem range_mem {n : Nat} {k x : Int} : x ∈ ((List.range n).map fun i : Nat => (i : Int) + k) ↔ k ≤ x ∧ x < k + n := by
  rw [List.mem_map]
  constructor
  · rintro ⟨i, hi, rfl⟩
    have := List.mem_range.1 hi
    omega
  · rintro ⟨h1, h2⟩
    exact ⟨(x - k).toNat, List.mem_range.2 (by omega), by omega⟩
theorem colorsB_eq (b : Brief) : colorsB b = ((List.range 64).map fun i : Nat => (i : Int) + 0).filter fun c => !(rowC c (vcB b)).isEmpty := by
  unfold colorsB
  simp
theorem colorsB_lt (b : Brief) : (colorsB b).Pairwise (· < ·) := by rw [colorsB_eq]; exact (range_lt 64 0).sublist List.filter_sublist
theorem colorsB_nodup (b : Brief) : (colorsB b).Nodup := (colorsB_lt b).imp fun h => by omega
theorem rowC_ne {c : Int} {l : List (Int × Int)} : (!(rowC c l).isEmpty) = true ↔ ∃ p ∈ l, p.2 = c := by
  constructor
  · intro h
    cases hr : rowC c l with
    | nil => rw [hr] at h; cases h
    | cons x t =>
      have hx : x ∈ rowC c l := by rw [hr]; simp
      obtain ⟨p, hp, _⟩ := List.mem_map.1 hx
      obtain ⟨h1, h2⟩ := List.mem_filter.1 hp
      exact ⟨p, h1, by simpa using h2⟩
  · rintro ⟨p, hp, e⟩
    have : p.1 ∈ rowC c l := List.mem_map.2 ⟨p, List.mem_filter.2 ⟨hp, by simp [e]⟩, rfl⟩
    cases hr : rowC c l with
    | nil => rw [hr] at this; simp at this
    | cons => rfl
theorem colorsB_mem {b : Brief} (R : RightB b) {c : Int} : c ∈ colorsB b ↔ 0 ≤ c ∧ ∃ p ∈ vcB b, p.2 = c := by
  rw [colorsB_eq, List.mem_filter, range_mem, rowC_ne]
  constructor
  · rintro ⟨h1, h2⟩; exact ⟨h1.1, h2⟩
  · rintro ⟨h1, p, hp, e⟩
    have := R.col _ (List.of_mem_zip hp).2
    exact ⟨by omega, p, hp, e⟩
theorem keptB_eq {l : List Brief} (h : anyF (fun b => !rightB b) l = false) : keptB l = ((List.range 200).map fun i : Nat => (i : Int) + 1).filter fun v => l.any (hasV v) && !l.any (spilV v) := by
  unfold keptB
  rw [h]; rfl
theorem keptB_lt (l : List Brief) : (keptB l).Pairwise (· < ·) := by
  unfold keptB
  split
  · exact List.Pairwise.nil
  · exact (range_lt 200 1).sublist List.filter_sublist
theorem keptB_mem {l : List Brief} (h : anyF (fun b => !rightB b) l = false) {v : Int} : v ∈ keptB l ↔ l.any (hasV v) = true ∧ l.any (spilV v) = false := by
  rw [keptB_eq h, List.mem_filter, range_mem, Bool.and_eq_true, Bool.not_eq_true']
  refine ⟨fun h => h.2, fun h2 => ⟨?_, h2⟩⟩
  obtain ⟨b, hb, hv⟩ := List.any_eq_true.1 h2.1
  have := risingF_mem (all_right h b hb).rise v (List.contains_iff_mem.1 hv)
  omega
end Go.Proofs.YthmglmmafgdmhaaGreat
