/- Plain law: a run with less fuel, and a run with other first values in saved registers. Plain law: other first values in saved registers change nothing of a target that neither reads nor writes any of them. -/
import Derived.Test.YtkjipgelbjaggaaM44
set_option linter.unusedSimpArgs false
set_option linter.unusedVariables false
namespace Go.Proofs.Ytkjipgelbjaggaa
open Go.RowKit Go.Maps
theorem stepR_live {r : RunS} (h : r.fin = 0) : (stepR r).1.steps = r.steps + 1 := by
  unfold stepR
  rw [if_neg (by rw [h]; simp)]
  split
  · have f := insR9_fr { r with steps := r.steps + 1 } ((blockR r).ins.getD r.ins.toNat default)
    rcases f.nxt with e | e | e <;> rw [e] <;> exact f.steps
  · rcases termR9_nxt { r with steps := r.steps + 1 } (blockR r).term with ⟨e, v, h1, _⟩ | h1 | h1 <;> rw [h1] <;> rfl
theorem stepR_calls (r : RunS) : (stepR r).1.calls = r.calls ∨ ∃ c, (stepR r).1.calls = r.calls ++ [c] := by
  unfold stepR
  split
  · exact .inl rfl
  split
  · have f := insR9_fr { r with steps := r.steps + 1 } ((blockR r).ins.getD r.ins.toNat default)
    have hc := f.calls
    have : ∀ nx, (goR (insR9 { r with steps := r.steps + 1 } ((blockR r).ins.getD r.ins.toNat default)).1 nx).calls = (insR9 { r with steps := r.steps + 1 } ((blockR r).ins.getD r.ins.toNat default)).1.calls := fun nx => by cases nx <;> rfl
    rw [this]
    rcases hc with e | e
    · exact .inl e
    · exact .inr ⟨_, e⟩
  · left; rcases termR9_nxt { r with steps := r.steps + 1 } (blockR r).term with ⟨e, v, h1, _⟩ | h1 | h1 <;> rw [h1] <;> rfl
/-- what a run with fuel a tells of one with fuel k ≤ a -/
theorem runN_live {r : RunS} (h0 : r.steps = 0) : ∀ n, (runN n r).fin = 0 → (runN n r).steps = n
  | 0, _ => h0
  | n + 1, h => by
    have hn : (runN n r).fin = 0 := by
      by_cases e : (runN n r).fin = 0
      · exact e
      · have : (runN (n + 1) r).fin = (runN n r).fin := by show (stepR (runN n r)).1.fin = _; rw [stepR_fin e]
        rw [this] at h; exact absurd h e
    have := runN_live h0 n hn
    show (stepR (runN n r)).1.steps = _
    rw [stepR_live hn, this]; omega
theorem runN_steps {r : RunS} (h0 : r.steps = 0) : ∀ n, 0 ≤ (runN n r).steps ∧ (runN n r).steps ≤ n ∧ runN (runN n r).steps.toNat r = runN n r
  | 0 => by
    show 0 ≤ r.steps ∧ r.steps ≤ (0 : Nat) ∧ runN r.steps.toNat r = r
    rw [h0]; exact ⟨Int.le_refl _, Int.le_refl _, rfl⟩
  | n + 1 => by
    obtain ⟨h1, h2, h3⟩ := runN_steps h0 n
    by_cases e : (runN n r).fin = 0
    · have hs : (runN (n + 1) r).steps = (n + 1 : Nat) := by
        show (stepR (runN n r)).1.steps = _
        rw [stepR_live e, runN_live h0 n e]; omega
      rw [hs]
      exact ⟨by omega, Int.le_refl _, rfl⟩
    · have hs : runN (n + 1) r = runN n r := by show (stepR (runN n r)).1 = _; rw [stepR_fin e]
      rw [hs]
      exact ⟨h1, by omega, h3⟩
theorem runN_calls (r : RunS) (k : Nat) : ∀ n, k ≤ n → (runN k r).calls <+: (runN n r).calls := by
  intro n hn
  induction n with
  | zero => obtain rfl : k = 0 := by omega
            exact List.prefix_refl _
  | succ n ih =>
    by_cases e : k = n + 1
    · subst e; exact List.prefix_refl _
    · refine (ih (by omega)).trans ?_
      show (runN n r).calls <+: (stepR (runN n r)).1.calls
      rcases stepR_calls (runN n r) with h | ⟨c, h⟩
      · rw [h]; exact List.prefix_refl _
      · rw [h]; exact List.prefix_append _ _
structure AgainP (a b c : RunS) (F K : Nat) : Prop where
  s1 : b.steps ≤ a.steps
  s2 : a.steps ≤ F
  e : b.fin = 0 ∨ b.fin = a.fin
  lt : a.steps < K → b.steps = a.steps
  ge : (K : Int) ≤ a.steps → b.steps = K
  same : c = a
  pre : b.calls <+: a.calls
theorem again {r : RunS} (h0 : r.steps = 0) {F K : Nat} (hK : K ≤ F) : AgainP (runN F r) (runN K r) (runN (runN F r).steps.toNat r) F K := by
  obtain ⟨a1, a2, a3⟩ := runN_steps h0 F
  obtain ⟨b1, b2, b3⟩ := runN_steps h0 K
  have hfin : (runN K r).fin ≠ 0 → runN F r = runN K r := fun h => runN_fin h F hK
  have hlive := runN_live h0 K
  refine ⟨?_, a2, ?_, ?_, ?_, a3, runN_calls r K F hK⟩
  · by_cases e : (runN K r).fin = 0
    · by_cases e2 : (runN F r).fin = 0
      · rw [runN_live h0 F e2, hlive e]; omega
      · by_cases h : (runN F r).steps < K
        · have : runN K r = runN (runN F r).steps.toNat r := runN_fin (by rw [a3]; exact e2) K (by omega)
          rw [this, a3]; exact Int.le_refl _
        · rw [hlive e]; omega
    · rw [hfin e]; exact Int.le_refl _
  · by_cases e : (runN K r).fin = 0
    · exact .inl e
    · exact .inr (by rw [hfin e])
  · intro h
    have e2 : (runN F r).fin ≠ 0 := fun e2 => by have := runN_live h0 F e2; omega
    have : runN K r = runN (runN F r).steps.toNat r := runN_fin (by rw [a3]; exact e2) K (by omega)
    rw [this, a3]
  · intro h
    by_cases e : (runN K r).fin = 0
    · exact hlive e
    · have := hfin e; rw [this] at h; omega
end Go.Proofs.Ytkjipgelbjaggaa
set_option linter.unusedSimpArgs false
set_option linter.unusedVariables false
namespace Go.Proofs.Ytkjipgelbjaggaa
open Go.RowKit Go.Maps
def Agree (m : Machine) (c c' : Loc → Option Int) : Prop := ∀ l, locSaved m l = false → c' l = c l
theorem Agree.upd_ {m : Machine} {c c' : Loc → Option Int} (h : Agree m c c') (x : Loc) (y : Option Int) : Agree m (upd c x y) (upd c' x y) := fun l hl => by
  unfold upd; split
  · rfl
  · exact h l hl
theorem Agree.del {m : Machine} : ∀ (ls : List Int) {c c' : Loc → Option Int}, Agree m c c' → Agree m (delAll c ls) (delAll c' ls)
  | [], _, _, h => h
  | _ :: l, _, _, h => Agree.del l (h.upd_ _ _)
theorem Agree.setl {m : Machine} (v : Int) : ∀ (ls : List Loc) {c c' : Loc → Option Int}, Agree m c c' → Agree m (setAll v c ls) (setAll v c' ls)
  | [], _, _, h => h
  | _ :: l, _, _, h => Agree.setl v l (h.upd_ _ _)
theorem argsC_agree {m : Machine} {c c' : Loc → Option Int} (h : Agree m c c') {ls : List Loc} (hs : ∀ x ∈ ls, locSaved m x = false) : argsC c' ls = argsC c ls :=
  List.map_congr_left fun x hx => by rw [h x (hs x hx)]
theorem anyF_congr {α : Type} {f g : α → Bool} : ∀ {l : List α}, (∀ x ∈ l, f x = g x) → anyF f l = anyF g l
  | [], _ => rfl
  | y :: l, h => by simp only [anyF]; rw [h y (by simp), anyF_congr fun x hx => h x (by simp [hx])]
theorem wholeC_agree {m : Machine} {c c' : Loc → Option Int} (h : Agree m c c') {ls : List Loc} (hs : ∀ x ∈ ls, locSaved m x = false) : wholeC c' ls = wholeC c ls := by
  unfold wholeC; rw [anyF_congr fun x hx => by rw [h x (hs x hx)]]
def swap (r : RunS) (c f : Loc → Option Int) : RunS := { r with cells := c, first := f }
theorem callR9_sim {r : RunS} {c f : Loc → Option Int} {i : Ins} (ha : Agree r.m r.cells c) (hr : ∀ x ∈ readsP r.m i, locSaved r.m x = false) :
    ∃ c', callR9 (swap r c f) i = (swap (callR9 r i).1 c' f, (callR9 r i).2) ∧ Agree r.m (callR9 r i).1.cells c' := by
  have e : noteR (swap r c f) i = swap (noteR r i) c f := by
    unfold noteR swap
    show RunS.mk _ _ _ _ _ _ _ _ _ _ _ _ = RunS.mk _ _ _ _ _ _ _ _ _ _ _ _
    simp only [argsC_agree ha hr]
  unfold callR9
  by_cases h : r.answers = []
  · rw [if_pos (show (swap r c f).answers = [] from h), if_pos h, e]; exact ⟨c, rfl, ha⟩
  · rw [if_neg (show ¬ (swap r c f).answers = [] from h), if_neg h, e]
    exact ⟨delAll c (lostM r.m), rfl, ha.del _⟩
theorem reads_a {m : Machine} {i : Ins} (h : 2 ≤ i.op ∧ i.op ≤ 10 ∨ i.op = 11 ∨ i.op = 12 ∨ i.op = 15 ∨ i.op = 16) : (⟨false, i.a⟩ : Loc) ∈ readsP m i := by
  unfold readsP
  rcases h with h | h | h | h | h
  · have : hasP i.op = 7 := by unfold hasP; rw [if_neg (by omega), if_pos h]
    rw [this, if_neg (by decide), if_pos (by decide)]; simp
  · rw [h, if_neg (by decide), if_neg (by decide), if_pos (by decide)]; simp
  · rw [h, if_neg (by decide), if_pos (by decide)]; simp
  · rw [h, if_neg (by decide), if_neg (by decide), if_pos (by decide)]; simp
  · rw [h, if_neg (by decide), if_neg (by decide), if_pos (by decide)]; simp
theorem reads_b {m : Machine} {i : Ins} (h : 2 ≤ i.op ∧ i.op ≤ 10 ∨ i.op = 12) : (⟨false, i.b⟩ : Loc) ∈ readsP m i := by
  unfold readsP
  rcases h with h | h
  · have : hasP i.op = 7 := by unfold hasP; rw [if_neg (by omega), if_pos h]
    rw [this, if_neg (by decide), if_pos (by decide)]; simp
  · rw [h, if_neg (by decide), if_pos (by decide)]; simp
theorem calcC_out {o a b : Int} (h : ¬ (2 ≤ o ∧ o ≤ 10)) : calcC o a b = (0, false) := by
  unfold calcC
  rw [if_neg (by omega), if_neg (by omega), if_neg (by omega), if_neg (by omega), if_neg (by omega), if_neg (by omega), if_neg (by omega), if_neg (by omega), if_neg (by omega)]
theorem reads_head {m : Machine} {i : Ins} (h : insertedB i.op = true) : (readsP m i).headD ⟨false, 0⟩ ∈ readsP m i := by
  have h' : i.op = 15 ∨ i.op = 16 ∨ i.op = 17 := by unfold insertedB at h; simp at h; omega
  unfold readsP
  rcases h' with h | h | h
  · rw [h, if_neg (by decide), if_neg (by decide), if_pos (by decide)]; simp
  · rw [h, if_neg (by decide), if_neg (by decide), if_pos (by decide)]; simp
  · rw [h, if_neg (by decide), if_neg (by decide), if_neg (by decide), if_pos (by decide)]; simp
theorem valueR_sim {r : RunS} {c f : Loc → Option Int} {i : Ins} (ha : Agree r.m r.cells c) (hr : ∀ x ∈ readsP r.m i, locSaved r.m x = false) :
    ∃ c', valueR (swap r c f) i = (swap (valueR r i).1 c' f, (valueR r i).2) ∧ Agree r.m (valueR r i).1.cells c' := by
  have hx : ∀ x ∈ readsP r.m i, c x = r.cells x := fun x h => ha x (hr x h)
  unfold valueR
  by_cases h1 : i.op = 1
  · rw [if_pos h1, if_pos h1]; exact ⟨c, rfl, ha⟩
  rw [if_neg h1, if_neg h1]
  by_cases h13 : i.op = 13
  · rw [if_pos h13, if_pos h13]
    obtain ⟨c', e, h⟩ := callR9_sim (f := f) ha hr
    rw [e]
    by_cases hc : (callR9 r i).2 = true
    · rw [if_pos hc, if_pos hc]; exact ⟨c', rfl, h⟩
    · rw [if_neg hc, if_neg hc]; exact ⟨c', rfl, h⟩
  rw [if_neg h13, if_neg h13]
  by_cases h11 : i.op = 11
  · rw [if_pos h11, if_pos h11]
    have e : memN (swap r c f) i = memN r i := by
      show wrap64 ((c ⟨false, i.a⟩).getD 0 + i.imm) = wrap64 ((r.cells ⟨false, i.a⟩).getD 0 + i.imm)
      rw [hx _ (reads_a (.inr (.inl h11)))]
    rw [e]
    by_cases hm : 0 ≤ memN r i ∧ memN r i < r.mem.length
    · rw [if_pos (show 0 ≤ memN r i ∧ memN r i < (swap r c f).mem.length from hm), if_pos hm]; exact ⟨c, rfl, ha⟩
    · rw [if_neg (show ¬ (0 ≤ memN r i ∧ memN r i < (swap r c f).mem.length) from hm), if_neg hm]; exact ⟨c, rfl, ha⟩
  rw [if_neg h11, if_neg h11]
  by_cases h12 : i.op = 12
  · rw [if_pos h12, if_pos h12]
    have e : memN (swap r c f) i = memN r i := by
      show wrap64 ((c ⟨false, i.a⟩).getD 0 + i.imm) = wrap64 ((r.cells ⟨false, i.a⟩).getD 0 + i.imm)
      rw [hx _ (reads_a (.inr (.inr (.inl h12))))]
    have e2 : (swap r c f).cells ⟨false, i.b⟩ = r.cells ⟨false, i.b⟩ := hx _ (reads_b (.inr h12))
    rw [e, e2]
    by_cases hm : 0 ≤ memN r i ∧ memN r i < r.mem.length
    · rw [if_pos (show 0 ≤ memN r i ∧ memN r i < (swap r c f).mem.length from hm), if_pos hm]; exact ⟨c, rfl, ha⟩
    · rw [if_neg (show ¬ (0 ≤ memN r i ∧ memN r i < (swap r c f).mem.length) from hm), if_neg hm]; exact ⟨c, rfl, ha⟩
  rw [if_neg h12, if_neg h12]
  by_cases hi : insertedB i.op = true
  · rw [if_pos hi, if_pos hi]
    have e2 : (swap r c f).cells ((readsP (swap r c f).m i).headD ⟨false, 0⟩) = r.cells ((readsP r.m i).headD ⟨false, 0⟩) := hx _ (reads_head hi)
    rw [e2]; exact ⟨c, rfl, ha⟩
  rw [if_neg hi, if_neg hi]
  by_cases ho : 2 ≤ i.op ∧ i.op ≤ 10
  · have e1 : (swap r c f).cells ⟨false, i.a⟩ = r.cells ⟨false, i.a⟩ := hx _ (reads_a (.inl ho))
    have e2 : (swap r c f).cells ⟨false, i.b⟩ = r.cells ⟨false, i.b⟩ := hx _ (reads_b (.inl ho))
    rw [e1, e2]; exact ⟨c, rfl, ha⟩
  · rw [calcC_out ho, calcC_out ho]; exact ⟨c, rfl, ha⟩
theorem insR9_sim {r : RunS} {c f : Loc → Option Int} {i : Ins} (ha : Agree r.m r.cells c) (hr : ∀ x ∈ readsP r.m i, locSaved r.m x = false) :
    ∃ c', insR9 (swap r c f) i = (swap (insR9 r i).1 c' f, (insR9 r i).2) ∧ Agree r.m (insR9 r i).1.cells c' := by
  have ew : wholeC (swap r c f).cells (readsP (swap r c f).m i) = wholeC r.cells (readsP r.m i) := wholeC_agree ha hr
  obtain ⟨c', e, h⟩ := valueR_sim (f := f) ha hr
  unfold insR9
  rw [ew, e]
  by_cases h1 : wholeC r.cells (readsP r.m i) = true
  · rw [if_pos h1, if_pos h1]
    by_cases h2 : (valueR r i).2.2 = true
    · rw [if_pos h2, if_pos h2]; exact ⟨_, rfl, h.setl _ _⟩
    · rw [if_neg h2, if_neg h2]; exact ⟨c', rfl, h⟩
  · rw [if_neg h1, if_neg h1]; exact ⟨c, rfl, ha⟩
end Go.Proofs.Ytkjipgelbjaggaa
