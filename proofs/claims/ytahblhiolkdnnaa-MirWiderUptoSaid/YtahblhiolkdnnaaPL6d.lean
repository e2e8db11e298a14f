/- What is right is right of more registers, in a greater frame; with an instruction more it is what that one alone is. -/
import Derived.Test.YtahblhiolkdnnaaPL6c
set_option linter.unusedSimpArgs false
set_option linter.unusedVariables false
namespace Go.Proofs.Ytahblhiolkdnnaa
open Go.RowKit
theorem argsOk_wide {r r' : Int} (h : r ≤ r') : ∀ (l pre : List Int), argsOk r pre l = true → argsOk r' pre l = true
  | [], _, _ => rfl
  | x :: l, pre, h1 => by
    simp only [argsOk, Bool.and_eq_true, decide_eq_true_eq] at h1 ⊢
    obtain ⟨⟨⟨a, b⟩, c⟩, d⟩ := h1
    exact ⟨⟨⟨a, by omega⟩, c⟩, argsOk_wide h l _ d⟩
theorem savedOk_wide {r r' : Int} (h : r ≤ r') : ∀ (l : List Int) (p : Option Int), savedOk r p l = true → savedOk r' p l = true
  | [], _, _ => rfl
  | x :: l, p, h1 => by
    simp only [savedOk, Bool.and_eq_true, decide_eq_true_eq] at h1 ⊢
    obtain ⟨⟨⟨a, b⟩, c⟩, d⟩ := h1
    exact ⟨⟨⟨a, by omega⟩, c⟩, savedOk_wide h l _ d⟩
def wideM (m : Machine) : Machine := ⟨64, m.args, m.ret, m.saved⟩
theorem rightM_wide {m : Machine} (h : rightM m = true) : rightM (wideM m) = true ∧ m.regs ≤ 64 := by
  unfold rightM at h ⊢
  simp only [Bool.and_eq_true, decide_eq_true_eq] at h
  obtain ⟨⟨⟨⟨⟨⟨⟨⟨h1, h2⟩, h3⟩, h4⟩, h5⟩, h6⟩, h7⟩, h8⟩, h9⟩ := h
  have e8 := argsOk_wide h2 _ _ h8
  have e9 := savedOk_wide h2 _ _ h9
  refine ⟨?_, h2⟩
  have a1 : (1 : Int) ≤ 64 := by omega
  have a4 : (m.saved.length : Int) ≤ 64 := by omega
  have a6 : m.ret < 64 := by omega
  simp [wideM, h3, a4, h5, a6, e8, e9]
  simpa using h7
theorem regBad_wide {m m' : Machine} (h : m.regs ≤ m'.regs) {r : Int} (hr : regBad m r = false) : regBad m' r = false := by
  unfold regBad at hr ⊢
  simp only [Bool.or_eq_false_iff, decide_eq_false_iff_not] at hr ⊢
  omega
theorem anyBad_wide {m m' : Machine} (h : m.regs ≤ m'.regs) : ∀ {l : List Int}, anyF (regBad m) l = false → anyF (regBad m') l = false
  | [], _ => rfl
  | x :: l, h1 => by
    simp only [anyF, Bool.or_eq_false_iff] at h1 ⊢
    exact ⟨regBad_wide h h1.1, anyBad_wide h h1.2⟩
theorem ite_zero {c : Prop} [Decidable c] {a b : Int} (ha : a ≠ 0) (h : (if c then a else b) = 0) : ¬ c ∧ b = 0 := by
  by_cases hc : c
  · rw [if_pos hc] at h; exact absurd h ha
  · rw [if_neg hc] at h; exact ⟨hc, h⟩
theorem insP_wide {m m' : Machine} {f f' : Int} {i : Ins} (hr : m.regs ≤ m'.regs) (ha : m'.args = m.args) (hf : IntKind.u64.wrap f ≤ IntKind.u64.wrap f') (h : insP m f i = 0) : insP m' f' i = 0 := by
  unfold insP at h ⊢
  obtain ⟨c0, h⟩ := ite_zero (by decide) h
  obtain ⟨c1, h⟩ := ite_zero (by decide) h
  rw [if_neg c0, if_neg c1]
  unfold insP2 at h ⊢; obtain ⟨c2, h⟩ := ite_zero (by decide) h; rw [if_neg c2]
  unfold insP3 at h ⊢; obtain ⟨c3, h⟩ := ite_zero (by decide) h; rw [if_neg c3]
  unfold insP4 at h ⊢; obtain ⟨c4, h⟩ := ite_zero (by decide) h; rw [if_neg c4]
  unfold insP5 at h ⊢; obtain ⟨c5, h⟩ := ite_zero (by decide) h; rw [if_neg c5]
  unfold insP6 at h ⊢; obtain ⟨c6, h⟩ := ite_zero (by decide) h; rw [if_neg c6]
  unfold insP7 at h ⊢; obtain ⟨c7, h⟩ := ite_zero (by decide) h; rw [if_neg c7]
  unfold insP8 at h ⊢; obtain ⟨c8, h⟩ := ite_zero (by decide) h; rw [if_neg c8]
  unfold insP9 at h ⊢
  obtain ⟨d1, h⟩ := ite_zero (by decide) h
  obtain ⟨d2, h⟩ := ite_zero (by decide) h
  obtain ⟨d3, h⟩ := ite_zero (by decide) h
  obtain ⟨d4, h⟩ := ite_zero (by decide) h
  rw [if_neg d1, if_neg (by rw [ha]; exact d2), if_neg (by rw [anyBad_wide hr (by simpa using d3)]; simp), if_neg]
  simp only [Bool.and_eq_true, decide_eq_true_eq, not_and] at d4 ⊢
  intro hb; have := d4 hb; omega
theorem termP_wide {m m' : Machine} {n : Int} {t : Term} (hr : m.regs ≤ m'.regs) (ha : m'.ret = m.ret) (h : termP m n t = 0) : termP m' n t = 0 := by
  unfold termP at h ⊢
  rw [ha]
  split at h
  · rw [if_pos (by assumption)]; exact h
  rw [if_neg (by assumption)]
  split at h
  · rw [if_pos (by assumption)]
    obtain ⟨c, h⟩ := ite_zero (by decide) h
    rw [if_neg (by rw [regBad_wide hr (by simpa using c)]; simp)]; exact h
  · rw [if_neg (by assumption)]; exact h
theorem inssP_all {m : Machine} {f : Int} : ∀ l : List Ins, inssP m f l = 0 ↔ ∀ i ∈ l, insP m f i = 0
  | [] => by simp [inssP]
  | i :: l => by
    simp only [inssP, List.forall_mem_cons]
    rw [← inssP_all l]
    by_cases h : insP m f i = 0 <;> simp [h]
theorem blocksP_all {m : Machine} {f n : Int} : ∀ l : List Block, blocksP m f n l = 0 ↔ ∀ b ∈ l, inssP m f b.ins = 0 ∧ termP m n b.term = 0
  | [] => by simp [blocksP]
  | b :: l => by
    simp only [blocksP, List.forall_mem_cons]
    rw [← blocksP_all l]
    by_cases h : inssP m f b.ins = 0
    · by_cases h2 : termP m n b.term = 0 <;> simp [h, h2]
    · simp [h]
structure RightT (m : Machine) (t : Target) : Prop where
  mach : rightM m = true
  n0 : t.blocks.length ≠ 0
  n1 : ¬ 200 < t.blocks.length
  f : ¬ IntKind.u64.wrap t.frame > 400
  w : anyF (fun b : Block => decide ((b.ins.length : Int) > 4000)) t.blocks = false
  b : blocksP m t.frame t.blocks.length t.blocks = 0
theorem rightT_zero {m : Machine} {t : Target} : rightT m t = 0 ↔ RightT m t := by
  constructor
  · intro h
    unfold rightT at h
    obtain ⟨c0, h⟩ := ite_zero (by decide) h
    obtain ⟨c1, h⟩ := ite_zero (by decide) h
    obtain ⟨c2, h⟩ := ite_zero (by decide) h
    obtain ⟨c3, h⟩ := ite_zero (by decide) h
    obtain ⟨c4, h⟩ := ite_zero (by decide) h
    exact ⟨by simpa using c0, c1, c2, c3, by simpa using c4, h⟩
  · rintro ⟨c0, c1, c2, c3, c4, h⟩
    unfold rightT
    rw [if_neg (by rw [c0]; simp), if_neg c1, if_neg c2, if_neg c3, if_neg (by rw [c4]; simp)]; exact h
theorem right_wide {m : Machine} {t : Target} {m' : Machine} {f' : Int} (h : rightT m t = 0) (hm : rightM m' = true) (hr : m.regs ≤ m'.regs) (ha : m'.args = m.args) (hret : m'.ret = m.ret) (hf : IntKind.u64.wrap t.frame ≤ IntKind.u64.wrap f') (hf' : ¬ IntKind.u64.wrap f' > 400) : rightT m' ⟨f', t.blocks⟩ = 0 := by
  obtain ⟨c0, c1, c2, c3, c4, hb⟩ := rightT_zero.1 h
  refine rightT_zero.2 ⟨hm, c1, c2, hf', c4, ?_⟩
  rw [blocksP_all] at hb ⊢
  exact fun b hbm => ⟨(inssP_all _).2 fun i hi => insP_wide hr ha hf ((inssP_all _).1 (hb b hbm).1 i hi), termP_wide hr hret (hb b hbm).2⟩
theorem wide_all {m : Machine} {t : Target} (h : rightT m t = 0) : rightT (wideM m) t = 0 ∧ rightT m ⟨400, t.blocks⟩ = 0 ∧ rightT (wideM m) ⟨400, t.blocks⟩ = 0 := by
  obtain ⟨c0, c1, c2, c3, c4, hb⟩ := rightT_zero.1 h
  obtain ⟨d0, d1⟩ := rightM_wide c0
  have hw : IntKind.u64.wrap 400 = 400 := by decide
  exact ⟨right_wide (m' := wideM m) (f' := t.frame) h d0 d1 rfl rfl (Int.le_refl _) c3, right_wide h c0 (Int.le_refl _) rfl rfl (by rw [hw]; omega) (by rw [hw]; omega), right_wide (m' := wideM m) h d0 d1 rfl rfl (by rw [hw]; omega) (by rw [hw]; omega)⟩
theorem anyF_false {α : Type} {f : α → Bool} : ∀ {l : List α}, anyF f l = false ↔ ∀ x ∈ l, f x = false
  | [] => by simp [anyF]
  | x :: l => by simp [anyF, anyF_false]
theorem inssP_more {m : Machine} {f : Int} (i : Ins) : ∀ (l : List Ins), inssP m f l = 0 → inssP m f (l ++ [i]) = insP m f i
  | [], _ => by simp only [List.nil_append, inssP]; split <;> simp_all
  | j :: l, h => by
    have h1 := (inssP_all _).1 h j (by simp)
    have h2 : inssP m f l = 0 := (inssP_all _).2 fun k hk => (inssP_all _).1 h k (by simp [hk])
    simp only [List.cons_append, inssP]
    rw [if_pos h1]; exact inssP_more i l h2
theorem blocksP_set {m : Machine} {f n : Int} (i : Ins) : ∀ (l : List Block) (k : Nat) (x : Block), l[k]? = some x → blocksP m f n l = 0 → blocksP m f n (l.set k ⟨x.ins ++ [i], x.term⟩) = insP m f i
  | [], k, x, h, _ => by simp at h
  | b :: l, 0, x, h, hb => by
    simp at h; subst h
    have h1 := (blocksP_all _).1 hb b (by simp)
    have h2 : blocksP m f n l = 0 := (blocksP_all _).2 fun c hc => (blocksP_all _).1 hb c (by simp [hc])
    simp only [List.set_cons_zero, blocksP, inssP_more i _ h1.1]
    rw [if_pos h1.2, h2]; split <;> simp_all
  | b :: l, k + 1, x, h, hb => by
    have h1 := (blocksP_all _).1 hb b (by simp)
    have h2 : blocksP m f n l = 0 := (blocksP_all _).2 fun c hc => (blocksP_all _).1 hb c (by simp [hc])
    simp only [List.set_cons_succ, blocksP]
    rw [if_pos h1.1, if_pos h1.2]
    exact blocksP_set i l k x (by simpa using h) h2
theorem right_more {m : Machine} {t : Target} {i : Ins} {k : Nat} {x : Block} (h : rightT m t = 0) (hx : t.blocks[k]? = some x) (hl : x.ins.length ≤ 3999) : rightT m ⟨t.frame, t.blocks.set k ⟨x.ins ++ [i], x.term⟩⟩ = insP m t.frame i := by
  obtain ⟨c0, c1, c2, c3, c4, hb⟩ := rightT_zero.1 h
  unfold rightT
  rw [if_neg (by rw [c0]; simp), if_neg (by simpa using c1), if_neg (by simpa using c2), if_neg c3, if_neg]
  · simp only [List.length_set]; exact blocksP_set i _ k x hx hb
  · rw [Bool.not_eq_true, anyF_false]
    intro b hbm
    rcases List.mem_or_eq_of_mem_set hbm with hbm | rfl
    · exact anyF_false.1 c4 b hbm
    · simp; omega
theorem right_one {m : Machine} {t : Target} {i : Ins} (h : rightT m t = 0) : rightT m ⟨t.frame, [⟨[i], ⟨4, 0, 0, 0⟩⟩]⟩ = insP m t.frame i := by
  obtain ⟨c0, c1, c2, c3, c4, hb⟩ := rightT_zero.1 h
  unfold rightT
  rw [if_neg (by rw [c0]; simp), if_neg (by simp), if_neg (by simp), if_neg c3, if_neg (by simp [anyF])]
  simp only [blocksP, inssP, termP]
  split <;> simp_all
end Go.Proofs.Ytahblhiolkdnnaa
