/- Plain law: .. whole runs. Plain law: .. as results. Walks: how great targets are. Walks: the chapter's example. Walks: copies of lists of structs; what is the same is found the same. Written by gen_kit.py. -/
import Derived.Test.YtkjipgelbjaggaaM45
import Derived.Test.YtkjipgelbjaggaaM15
import Derived.Test.YtkjipgelbjaggaaM27
import Derived.Test.YtkjipgelbjaggaaM11
import Derived.Test.YtkjipgelbjaggaaM22
import Derived.Test.YtkjipgelbjaggaaM18
set_option linter.unusedSimpArgs false
set_option linter.unusedVariables false
namespace Go.Proofs.Ytkjipgelbjaggaa
open Go.RowKit Go.Maps
theorem delAll_keep {l : Loc} : ∀ (ls : List Int) (c : Loc → Option Int), (∀ n ∈ ls, (⟨false, n⟩ : Loc) ≠ l) → delAll c ls l = c l
  | [], _, _ => rfl
  | n :: ls, c, h => by
    show delAll (upd c ⟨false, n⟩ none) ls l = c l
    rw [delAll_keep ls _ fun x hx => h x (by simp [hx])]
    unfold upd; rw [if_neg fun e => h n (by simp) e.symm]
theorem setAll_keep {l : Loc} {v : Int} : ∀ (ls : List Loc) (c : Loc → Option Int), (∀ x ∈ ls, x ≠ l) → setAll v c ls l = c l
  | [], _, _ => rfl
  | x :: ls, c, h => by
    show setAll v (upd c x (some v)) ls l = c l
    rw [setAll_keep ls _ fun y hy => h y (by simp [hy])]
    unfold upd; rw [if_neg fun e => h x (by simp) e.symm]
theorem locSaved_iff {m : Machine} {l : Loc} : locSaved m l = true ↔ l.slot = false ∧ l.n ∈ m.saved := by
  unfold locSaved; rw [Bool.and_eq_true, hasI_iff]; simp
theorem lostM_off {m : Machine} {l : Loc} (hl : locSaved m l = true) : ∀ n ∈ lostM m, (⟨false, n⟩ : Loc) ≠ l := by
  intro n hn e
  subst e
  have h2 := (locSaved_iff.1 hl).2
  unfold lostM at hn
  split at hn
  · unfold lostTo at hn
    obtain ⟨j, hj, rfl⟩ := List.mem_map.1 hn
    have := (List.mem_filter.1 hj).2
    simp only [Bool.not_eq_true'] at this
    have h3 : hasI (j : Int) m.saved = true := (hasI_iff _ _).2 h2
    rw [h3] at this; cases this
  · cases hn
theorem valueR_saved (r : RunS) (i : Ins) {l : Loc} (hl : locSaved r.m l = true) : (valueR r i).1.cells l = r.cells l := by
  have hc : (callR9 r i).1.cells l = r.cells l := by
    unfold callR9
    split
    · rfl
    · exact delAll_keep _ _ (lostM_off hl)
  unfold valueR
  repeat' split
  all_goals first | rfl | exact hc
theorem insR9_saved (r : RunS) (i : Ins) (hw : ∀ x ∈ writesP r.m i, locSaved r.m x = false) {l : Loc} (hl : locSaved r.m l = true) : (insR9 r i).1.cells l = r.cells l := by
  have hv := valueR_saved r i hl
  unfold insR9
  split
  · split
    · show setAll _ (valueR r i).1.cells (writesP r.m i) l = _
      rw [setAll_keep _ _ fun x hx e => by rw [e] at hx; have := hw l hx; rw [hl] at this; cases this]
      exact hv
    · exact hv
  · rfl
/-- what both runs keep -/
structure SimOk (r : RunS) (c f : Loc → Option Int) : Prop where
  agree : Agree r.m r.cells c
  dom1 : ∀ l n, r.first l = some n → locSaved r.m l = true
  keep1 : ∀ l n, r.first l = some n → r.cells l = some n
  dom2 : ∀ l n, f l = some n → locSaved r.m l = true
  keep2 : ∀ l n, f l = some n → c l = some n
theorem saved_neg {m : Machine} (h : rightM m = true) : locSaved m ⟨false, -1⟩ = false := by
  rw [← Bool.not_eq_true, locSaved_iff]
  rintro ⟨_, h2⟩
  have hs : savedOk m.regs none m.saved = true := by
    unfold rightM at h; simp only [Bool.and_eq_true] at h; exact h.2
  have := ((savedOk_iff _ _ _).1 hs).1 (-1) h2
  omega
theorem termR9_sim {r : RunS} {c f : Loc → Option Int} {t : Term} (h : SimOk r c f) (hok : rightM r.m = true) (ht : termSaved r.m t = false) : termR9 (swap r c f) t = termR9 r t := by
  have hn : ∀ x ∈ needsP t, locSaved r.m x = false := by
    intro x hx
    unfold termSaved at ht
    unfold needsP at hx ht
    split at hx
    · rename_i e
      rw [if_pos e] at ht
      rw [List.mem_singleton.1 hx]
      have ht' : hasI t.a r.m.saved = false := ht
      unfold locSaved; simp [ht']
    · cases hx
  have ew : wholeC (swap r c f).cells (needsP t) = wholeC r.cells (needsP t) := wholeC_agree h.agree hn
  have k1 : keptR r = true := keptR_yes h.keep1
  have k2 : keptR (swap r c f) = true := keptR_yes h.keep2
  have ha : t.kind = 2 ∨ t.kind = 3 → c ⟨false, t.a⟩ = r.cells ⟨false, t.a⟩ := by
    intro hk
    by_cases e : t.kind = 2 ∨ t.kind = 3 ∧ t.a ≠ -1
    · exact h.agree _ (hn _ (by unfold needsP; rw [if_pos e]; simp))
    · have : t.a = -1 := by omega
      rw [this]; exact h.agree _ (saved_neg hok)
  unfold termR9
  rw [ew, k1, k2]
  by_cases h1 : wholeC r.cells (needsP t) = true
  · rw [if_pos h1, if_pos h1]
    by_cases h4 : t.kind = 4
    · rw [if_pos h4, if_pos h4]
    rw [if_neg h4, if_neg h4]
    by_cases h3 : t.kind = 3
    · rw [if_pos h3, if_pos h3, if_pos rfl, if_pos rfl]
      show Nxt.done 1 ((c ⟨false, t.a⟩).getD 0) = _
      rw [ha (.inr h3)]
    rw [if_neg h3, if_neg h3]
    by_cases h2 : t.kind = 2
    · have e : (swap r c f).cells ⟨false, t.a⟩ = r.cells ⟨false, t.a⟩ := ha (.inl h2)
      rw [e]
    · rw [if_neg (fun h => h2 h.1), if_neg (fun h => h2 h.1)]
  · rw [if_neg h1, if_neg h1]
theorem goR_swap (r : RunS) (c f : Loc → Option Int) (nx : Nxt) : goR (swap r c f) nx = swap (goR r nx) c f := by cases nx <;> rfl
theorem goR_keeps (r : RunS) (nx : Nxt) : (goR r nx).m = r.m ∧ (goR r nx).cells = r.cells ∧ (goR r nx).first = r.first := by cases nx <;> exact ⟨rfl, rfl, rfl⟩
theorem stepR_sim {r : RunS} {c f : Loc → Option Int} {N : Nat} (h : SimOk r c f) (hi : RunInv r N) (hR : readsB r.m r.t = false) :
    ∃ c', stepR (swap r c f) = (swap (stepR r).1 c' f, (stepR r).2) ∧ SimOk (stepR r).1 c' f ∧ (stepR r).1.m = r.m ∧ (stepR r).1.t = r.t := by
  have hok : rightM r.m = true := (rightT_parts hi.ok).mach
  have hB := anyF_none hR _ (blockR_mem hi.b0 hi.b1)
  unfold blkSaved at hB
  rw [Bool.or_eq_false_iff] at hB
  unfold stepR
  by_cases e0 : r.fin ≠ 0
  · rw [if_pos (show (swap r c f).fin ≠ 0 from e0), if_pos e0]
    exact ⟨c, rfl, h, rfl, rfl⟩
  rw [if_neg (show ¬ (swap r c f).fin ≠ 0 from e0), if_neg e0]
  by_cases e1 : r.ins < (blockR r).ins.length
  · rw [if_pos (show (swap r c f).ins < (blockR (swap r c f)).ins.length from e1), if_pos e1]
    have e2 : (blockR (swap r c f)).ins.getD (swap r c f).ins.toNat default = (blockR r).ins.getD r.ins.toNat default := rfl
    rw [e2]
    have him : (blockR r).ins.getD r.ins.toNat default ∈ (blockR r).ins := by
      have h0 := hi.i0
      rw [List.getD_eq_getElem?_getD, List.getElem?_eq_getElem (by omega)]
      exact List.getElem_mem _
    obtain ⟨i, hii⟩ : ∃ i, i = (blockR r).ins.getD r.ins.toNat default := ⟨_, rfl⟩
    rw [← hii] at him ⊢
    have hs := anyF_none (anyF_none hB.1 i him)
    have hrd : ∀ x ∈ readsP r.m i, locSaved r.m x = false := fun x hx => hs x (by simp [hx])
    have hwr : ∀ x ∈ writesP r.m i, locSaved r.m x = false := fun x hx => hs x (by simp [hx])
    obtain ⟨r1, hr1⟩ : ∃ r1 : RunS, r1 = { r with steps := r.steps + 1 } := ⟨_, rfl⟩
    have hsw : { swap r c f with steps := (swap r c f).steps + 1 } = swap r1 c f := by rw [hr1]; rfl
    rw [hsw, ← hr1]
    have g1 : r1.m = r.m := by rw [hr1]
    have g2 : r1.cells = r.cells := by rw [hr1]
    have g3 : r1.first = r.first := by rw [hr1]
    have g4 : r1.t = r.t := by rw [hr1]
    obtain ⟨c', e, ha⟩ := insR9_sim (r := r1) (c := c) (f := f) (i := i) (by rw [g1, g2]; exact h.agree) (by rw [g1]; exact hrd)
    have fr := insR9_fr r1 i
    have k1 : ∀ l, locSaved r.m l = true → (insR9 r1 i).1.cells l = r.cells l := fun l hl => by
      rw [insR9_saved r1 i (by rw [g1]; exact hwr) (by rw [g1]; exact hl), g2]
    have k2 : ∀ l, locSaved r.m l = true → c' l = c l := fun l hl => by
      have := insR9_saved (swap r1 c f) i (by show ∀ x ∈ writesP r1.m i, locSaved r1.m x = false; rw [g1]; exact hwr) (l := l) (by show locSaved r1.m l = true; rw [g1]; exact hl)
      rw [e] at this; exact this
    obtain ⟨m1, m2, m3⟩ := goR_keeps (insR9 r1 i).1 (insR9 r1 i).2
    have hm : (goR (insR9 r1 i).1 (insR9 r1 i).2).m = r.m := by rw [m1, fr.m, g1]
    refine ⟨c', by rw [e, goR_swap], ⟨?_, ?_, ?_, ?_, ?_⟩, hm, ?_⟩
    · rw [hm, m2, ← g1]; exact ha
    · rw [hm, m3, fr.first, g3]; exact h.dom1
    · intro l n hl
      rw [m3, fr.first, g3] at hl
      rw [m2, k1 l (h.dom1 l n hl)]; exact h.keep1 l n hl
    · rw [hm]; exact h.dom2
    · intro l n hl
      rw [k2 l (h.dom2 l n hl)]; exact h.keep2 l n hl
    · have : ∀ nx, (goR (insR9 r1 i).1 nx).t = (insR9 r1 i).1.t := fun nx => by cases nx <;> rfl
      rw [this, fr.t, g4]
  · rw [if_neg (show ¬ (swap r c f).ins < (blockR (swap r c f)).ins.length from e1), if_neg e1]
    obtain ⟨r1, hr1⟩ : ∃ r1 : RunS, r1 = { r with steps := r.steps + 1 } := ⟨_, rfl⟩
    have hsw : { swap r c f with steps := (swap r c f).steps + 1 } = swap r1 c f := by rw [hr1]; rfl
    rw [hsw, ← hr1]
    have hb2 : blockR (swap r c f) = blockR r := rfl
    rw [hb2]
    have h1 : SimOk r1 c f := by rw [hr1]; exact ⟨h.agree, h.dom1, h.keep1, h.dom2, h.keep2⟩
    rw [termR9_sim h1 (by rw [hr1]; exact hok) (by rw [hr1]; exact hB.2)]
    refine ⟨c, by rw [goR_swap], ?_, ?_, ?_⟩
    · obtain ⟨m1, m2, m3⟩ := goR_keeps r1 (termR9 r1 (blockR r).term)
      exact ⟨by rw [m1, m2]; exact h1.agree, by rw [m1, m3]; exact h1.dom1, by rw [m2, m3]; exact h1.keep1, by rw [m1]; exact h1.dom2, h1.keep2⟩
    · rw [(goR_keeps r1 _).1, hr1]
    · have : ∀ nx, (goR r1 nx).t = r1.t := fun nx => by cases nx <;> rfl
      rw [this, hr1]
theorem runN_sim {r : RunS} {c f : Loc → Option Int} (h : SimOk r c f) (hi : RunInv r 0) (hR : readsB r.m r.t = false) : ∀ n, ∃ c', runN n (swap r c f) = swap (runN n r) c' f ∧ SimOk (runN n r) c' f ∧ (runN n r).m = r.m ∧ (runN n r).t = r.t
  | 0 => ⟨c, rfl, h, rfl, rfl⟩
  | n + 1 => by
    obtain ⟨c', e, h', hm, ht⟩ := runN_sim h hi hR n
    obtain ⟨c2, e2, h2, hm2, ht2⟩ := stepR_sim h' (runN_inv hi n) (by rw [hm, ht]; exact hR)
    refine ⟨c2, ?_, h2, hm2.trans hm, ht2.trans ht⟩
    show (stepR (runN n (swap r c f))).1 = _
    rw [e, e2]; rfl
theorem getD_mem {l : List Int} {k : Nat} (h : k < l.length) : l.getD k 0 ∈ l := by
  rw [List.getD_eq_getElem?_getD, List.getElem?_eq_getElem h]; exact List.getElem_mem h
theorem cs1_agree {m : Machine} (first first' : List Int) : ∀ k, k ≤ m.saved.length → Agree m (cs1 m.saved first k) (cs1 m.saved first' k)
  | 0, _ => fun _ _ => rfl
  | k + 1, hk => fun l hl => by
    have ih := cs1_agree (m := m) first first' k (by omega) l hl
    have hne : l ≠ ⟨false, m.saved.getD k 0⟩ := fun e => by
      subst e
      rw [locSaved_iff.2 ⟨rfl, getD_mem (by omega)⟩] at hl; cases hl
    show upd (cs1 m.saved first' k) _ _ l = upd (cs1 m.saved first k) _ _ l
    unfold upd; rw [if_neg hne, if_neg hne]; exact ih
theorem cs1_on {saved first : List Int} {x : Int} : ∀ k, x ∈ saved.take k → (cs1 saved first k ⟨false, x⟩).isSome = true
  | 0, h => by simp at h
  | k + 1, h => by
    show (upd (cs1 saved first k) _ _ _).isSome = true
    unfold upd
    split
    · rfl
    · rename_i hne
      refine cs1_on k ?_
      rw [List.take_add_one] at h
      rcases List.mem_append.1 h with h | h
      · exact h
      · exfalso; apply hne
        cases e : saved[k]? with
        | none => rw [e] at h; cases h
        | some y =>
          rw [e] at h
          have : x = y := by simpa using h
          rw [List.getD_eq_getElem?_getD, e, this]; rfl
theorem cs2_agree {m : Machine} (first first' args : List Int) : ∀ k, Agree m (cs2 m.saved first args m.args k) (cs2 m.saved first' args m.args k)
  | 0 => cs1_agree first first' _ (Nat.le_refl _)
  | k + 1 => (cs2_agree first first' args k).upd_ _ _
theorem cs2_on {saved first args margs : List Int} {x : Int} (h : x ∈ saved) : ∀ k, (cs2 saved first args margs k ⟨false, x⟩).isSome = true
  | 0 => cs1_on _ (by rw [List.take_length]; exact h)
  | k + 1 => by
    show (upd (cs2 saved first args margs k) _ _ _).isSome = true
    unfold upd
    split
    · rfl
    · exact cs2_on h k
theorem fs1_at {m : Machine} {f : Loc → Option Int} (hf : ∀ x ∈ m.saved, (f ⟨false, x⟩).isSome = true) : ∀ k, k ≤ m.saved.length → ∀ l n, fs1 m.saved f k l = some n → locSaved m l = true ∧ f l = some n
  | 0, _, _, _, h => by cases h
  | k + 1, hk, l, n, h => by
    have hx := getD_mem (show k < m.saved.length by omega)
    have h' : upd (fs1 m.saved f k) ⟨false, m.saved.getD k 0⟩ (some ((f ⟨false, m.saved.getD k 0⟩).getD 0)) l = some n := h
    unfold upd at h'
    split at h'
    · rename_i e
      subst e
      refine ⟨locSaved_iff.2 ⟨rfl, hx⟩, ?_⟩
      have := hf _ hx
      cases e2 : f ⟨false, m.saved.getD k 0⟩ with
      | none => rw [e2] at this; cases this
      | some y => rw [e2] at h'; exact h'
    · exact fs1_at hf k (by omega) l n h'
/-- the first values do not matter -/
theorem first_any {m : Machine} {t : Target} {args mem answers first first' : List Int} (h0 : errR m t args mem = 0) (hr : InI m.ret) (hR : readsB m t = false) (n : Nat) :
    (runN n (startR m t args mem answers first')).fin = (runN n (startR m t args mem answers first)).fin ∧ (runN n (startR m t args mem answers first')).value = (runN n (startR m t args mem answers first)).value ∧
    (runN n (startR m t args mem answers first')).calls = (runN n (startR m t args mem answers first)).calls ∧ (runN n (startR m t args mem answers first')).steps = (runN n (startR m t args mem answers first)).steps := by
  have hi := startR_inv (answers := answers) (first := first) h0 hr
  have hs : startR m t args mem answers first' = swap (startR m t args mem answers first) (cs2 m.saved first' args m.args args.length) (fs1 m.saved (cs2 m.saved first' args m.args args.length) m.saved.length) := rfl
  have f1 := fs1_at (m := m) (f := cs2 m.saved first args m.args args.length) (fun x hx => cs2_on hx _) m.saved.length (Nat.le_refl _)
  have f2 := fs1_at (m := m) (f := cs2 m.saved first' args m.args args.length) (fun x hx => cs2_on hx _) m.saved.length (Nat.le_refl _)
  obtain ⟨c', e, _⟩ := runN_sim (r := startR m t args mem answers first) (c := cs2 m.saved first' args m.args args.length) (f := fs1 m.saved (cs2 m.saved first' args m.args args.length) m.saved.length) ⟨cs2_agree first first' args _, fun l n h => (f1 l n h).1, fun l n h => (f1 l n h).2, fun l n h => (f2 l n h).1, fun l n h => (f2 l n h).2⟩ hi hR n
  rw [hs, e]
  exact ⟨rfl, rfl, rfl, rfl⟩
end Go.Proofs.Ytkjipgelbjaggaa
set_option linter.unusedSimpArgs false
set_option linter.unusedVariables false
namespace Go.Proofs.Ytkjipgelbjaggaa
open Go.RowKit Go.Maps
theorem goX_run {m : Machine} {t : Target} {args mem answers first : List Int} {k : Int} (h0 : errR m t args mem = 0) (hk : k ≤ 20000) : goX m t args mem answers first k = resOf (runN k.toNat (startR m t args mem answers first)) := by
  unfold goX; rw [if_neg (fun h => h h0), if_neg (by omega)]
theorem againX {m : Machine} {t : Target} {args mem answers first : List Int} {fuel k : Int} (h0 : errR m t args mem = 0) (hf0 : 0 ≤ fuel) (hf : fuel ≤ 2000) (hk0 : 0 ≤ k) (hk : k ≤ fuel) {a b : ResS} (ha : a = goX m t args mem answers first fuel) (hb : b = goX m t args mem answers first k) :
    0 ≤ a.steps ∧ b.steps ≤ a.steps ∧ a.steps ≤ fuel ∧ (b.fin = 0 ∨ b.fin = a.fin) ∧ (a.steps < k → b.steps = a.steps) ∧ (k ≤ a.steps → b.steps = k) ∧ a = goX m t args mem answers first a.steps ∧ b.calls <+: a.calls := by
  rw [goX_run h0 (by omega)] at ha hb
  obtain ⟨r, hr⟩ : ∃ r, r = startR m t args mem answers first := ⟨_, rfl⟩
  have hr0 : r.steps = 0 := by rw [hr]; rfl
  rw [← hr] at ha hb
  have h := again hr0 (F := fuel.toNat) (K := k.toNat) (by omega)
  have h2 := runN_steps hr0 fuel.toNat
  subst ha hb
  have e1 : ((fuel.toNat : Nat) : Int) = fuel := by omega
  have e2 : ((k.toNat : Nat) : Int) = k := by omega
  have s2 := h.s2; have lt := h.lt; have ge := h.ge
  rw [e1] at s2; rw [e2] at lt ge
  refine ⟨h2.1, h.s1, s2, h.e, lt, ge, ?_, h.pre⟩
  have : (resOf (runN fuel.toNat r)).steps ≤ 20000 := by show (runN fuel.toNat r).steps ≤ 20000; omega
  rw [goX_run h0 this, ← hr]
  show resOf (runN fuel.toNat r) = resOf (runN (runN fuel.toNat r).steps.toNat r)
  rw [h.same]
theorem firstX {m : Machine} {t : Target} {args mem answers first first' : List Int} {fuel : Int} (h0 : errR m t args mem = 0) (hr : InI m.ret) (hf : fuel ≤ 2000) (hR : readsB m t = false) {a d : ResS} (ha : a = goX m t args mem answers first fuel) (hd : d = goX m t args mem answers first' fuel) :
    d.fin = a.fin ∧ d.value = a.value ∧ d.calls = a.calls ∧ d.steps = a.steps := by
  rw [goX_run h0 (by omega)] at ha hd
  subst ha hd
  exact first_any h0 hr hR _
end Go.Proofs.Ytkjipgelbjaggaa
set_option linter.unusedSimpArgs false
set_option linter.unusedVariables false
namespace Go.Proofs.Ytkjipgelbjaggaa
open Go.RowKit


theorem argsOf_le (most : Int) (M : Nat) : ∀ (l : List Ins) (n : Int), (∀ i ∈ l, i.args.length ≤ M) → n ≤ argsOf most n l ∧ argsOf most n l ≤ max n (most + M) := by
  intro l
  induction l with
  | nil => intro n _; simp [argsOf]; omega
  | cons i l ih =>
    intro n h
    simp only [argsOf]
    split
    · have := ih (n + i.args.length) (fun j hj => h j (by simp [hj]))
      have h1 := h i (by simp)
      omega
    · omega
theorem blocksOf_any (w : World) (S : Nat → Prop) (l : List Block) (most : Int) (A : Option Addr) (n c : Nat) (h : Sl w S A n c l) (hm : SmallT 1048576 l) (hmost : 0 ≤ most ∧ most ≤ 1048576) :
    Calls Try.prog 38 #[.slice A n c, .int .i64 most] w (Ret (.int .i64 (blocksOf most 0 l)) w) := by
  obtain ⟨m0, m1⟩ := hmost
  have HL := hide h.len
  have hn : n ≤ 1048576 := by rw [← h.len]; exact hm.1
  have HM := hide hm; clear hm
  have HS := hide h; clear h
  go_enter Try.func38, Try.ntmps38
  go_wp2
  go_loop [5, 6] (fun a i => ∃ k : Nat, ∃ acc : Int, k ≤ n ∧ i = .int .i64 k ∧ a = .int .i64 acc ∧ 0 ≤ acc ∧ acc ≤ 4000000 ∧ blocksOf most 0 l = blocksOf most acc (l.drop k)) (fun _ i => n - (intOf i).toNat)
  case atStart => exact ⟨0, 0, Nat.zero_le _, rfl, rfl, by omega, by omega, rfl⟩
  case round =>
    obtain ⟨k, acc, hk, rfl, rfl, ha0, ha1, hr⟩ := hrel
    have HR := hide hr; clear hr
    by_cases hlt : k < n
    · obtain ⟨b, off, x, A1, n1, c1, rfl, hb, hx, hins, -, -, -, -, c0, -, -, -, -⟩ := at_Block HS.out hlt
      have hsb := HM.out.2 x (mem_at hx)
      have hn1 : n1 ≤ 1048576 := by rw [← hins.len]; exact hsb.1
      have HN := hide hins.len
      have HX := hide (drop_at hx); clear hx
      have HI := hide hins; clear hins
      have HSB := hide hsb; clear hsb
      by_cases hle : acc ≤ most
      · go_wp2
        go_loop [5, 7] (fun a i => ∃ j : Nat, ∃ ac : Int, j ≤ n1 ∧ i = .int .i64 j ∧ a = .int .i64 ac ∧ 0 ≤ ac ∧ ac ≤ 4000000 ∧ argsOf most (acc + 1 + n1) x.ins = argsOf most ac (x.ins.drop j)) (fun _ i => n1 - (intOf i).toNat)
        case atStart => exact ⟨0, acc + 1 + n1, Nat.zero_le _, rfl, rfl, by omega, by omega, rfl⟩
        case round =>
          obtain ⟨j, ac, hj, rfl, rfl, hac0, hac1, hr'⟩ := hrel
          have HR' := hide hr'; clear hr'
          by_cases hjt : j < n1
          · obtain ⟨b', off', y, A2, n2, c2, rfl, hb', hy, -, -, -, -, -, -, hargs, -, -, -, -, -, -, -, d6, -⟩ := at_Ins HI.out hjt
            have hn2 : n2 ≤ 1048576 := by rw [← hargs.len]; exact HSB.out.2 y (mem_at hy)
            have HN2 := hide hargs.len
            have HY := hide (drop_at hy); clear hy hargs
            by_cases hle' : ac ≤ most
            · go_wp2
              go_round
              case rel => exact ⟨j + 1, ac + n2, by omega, by go_num, rfl, by omega, by omega, by rw [HR'.out, HY.out]; simp only [argsOf, if_pos hle', HN2.out]⟩
              case measure => simp [intOf]; omega
            · have hd : decide (ac ≤ most) = false := by simpa using hle'
              go_wp2
              go_round
              case rel => exact ⟨k + 1, ac, by omega, by go_num, rfl, by omega, by omega, by rw [HR.out, HX.out]; simp only [blocksOf, if_pos hle, HN.out]; rw [HR'.out, HY.out]; simp only [argsOf, if_neg hle']⟩
              case measure => simp [intOf]; omega
          · go_wp2
            go_round
            case rel => exact ⟨k + 1, ac, by omega, by go_num, rfl, by omega, by omega, by rw [HR.out, HX.out]; simp only [blocksOf, if_pos hle, HN.out]; rw [HR'.out, drop_end HN.out hjt]; rfl⟩
            case measure => simp [intOf]; omega
      · have hd : decide (acc ≤ most) = false := by simpa using hle
        go_wp2
        go_ret
        exact Ret.i (by rw [HR.out, HX.out]; simp only [blocksOf]; rw [if_neg (by omega)])
    · go_wp2
      go_ret
      exact Ret.i (by rw [HR.out, drop_end HL.out hlt]; rfl)
end Go.Proofs.Ytkjipgelbjaggaa
set_option linter.unusedSimpArgs false
set_option linter.unusedVariables false
namespace Go.Proofs.Ytkjipgelbjaggaa
open Go.RowKit
def RepP {α : Type} [Rep α] (x : α) : Post := fun v w => ∃ (S : Nat → Prop) (us : List Value), v = .agg us.toArray ∧ Rep.is w S x us
theorem RepP.stable_ {α : Type} [Rep α] {x : α} {F : World → Prop} {mem : Bool} (hm : mem = true) : stable F mem (RepP x) :=
  stable_mem hm fun _ w u ⟨S, us, h, h'⟩ => ⟨S, us, h, Rep.keep h' (by rw [size_ext]; omega) fun b _ hb => ext_block w u b hb⟩
theorem targetOf_any (w : World) (S : Nat → Prop) (t : Target) (most : Int) (A : Option Addr) (n c : Nat) (h : Sl w S A n c t.blocks) (hm : SmallT 1048576 t.blocks) (hmost : 0 ≤ most ∧ most ≤ 1048576) :
    Calls Try.prog 8 #[.agg #[.int .i64 t.frame, .slice A n c], .int .i64 most] w (RetX (.int .i64 (blocksOf most 0 t.blocks)) w) := by
  have HS := hide h; have HM := hide hm
  clear h hm
  go_enter Try.func8, Try.ntmps8
  go_wp2_with (go_at_call 38; refine (blocksOf_any _ S t.blocks most A n c (by repeat (first | assumption | exact Hd.out (by assumption) | apply Sl.alloc | apply Sl.ext | apply Sl.drew | apply Sl.drewN)) HM.out hmost).mono ?_; rintro e w' ⟨rfl, rfl⟩)
  go_ret; exact RetX.i rfl (by repeat (first | exact Below.refl _ _ | assumption | refine Below.alloc ?_ (by simp [size_ext]; try omega) _ | refine Below.ext ?_ (by simp [size_ext]; try omega) _ | refine Below.drew ?_ | refine Below.setCell ?_ (by simp [size_ext]; try omega) _))
def blkB : Block := ⟨[⟨16, 0, 1, 0, 0, 0, [], 0⟩, ⟨17, 0, 0, 0, 0, 0, [], 0⟩], ⟨4, 0, 0, 0⟩⟩
def blkC : Block := ⟨[⟨17, 0, 0, 0, 1, 0, [], 0⟩], ⟨4, 0, 0, 0⟩⟩
theorem right_val {e : Int} (w : World) (S S1 S2 : Nat → Prop) (m : Machine) (A1 A2 : Option Addr) (n1 c1 n2 c2 : Nat) (h1 : Sl w S1 A1 n1 c1 m.args) (h2 : Sl w S2 A2 n2 c2 m.saved) (hi : InI m.ret)
    (t : Target) (A : Option Addr) (n c : Nat) (h : Sl w S A n c t.blocks) (he : rightT m t = e) :
    Calls Try.prog 39 #[.agg #[.int .i64 m.regs, .slice A1 n1 c1, .int .i64 m.ret, .slice A2 n2 c2], .agg #[.int .i64 t.frame, .slice A n c]] w (RetX (.int .i64 e) w) := he ▸ right_any w S S1 S2 m A1 A2 n1 c1 n2 c2 h1 h2 hi t A n c h
def twoM : Machine := ⟨2, [1], 0, []⟩
theorem rightT_B : rightT twoM ⟨1, [blkB]⟩ = 0 := by decide
theorem rightT_C : rightT twoM ⟨1, [blkC]⟩ = 11 := by decide
theorem rep_blk {w : World} {x : Block} {A : Option Addr} {n c : Nat} {S : Nat → Prop} (h : Sl w S A n c x.ins) (h1 : InI x.term.kind) (h2 : InI x.term.a) (h3 : InI x.term.to0) (h4 : InI x.term.to1) : RepL w S [x] [.slice A n c, .int .i64 x.term.kind, .int .i64 x.term.a, .int .i64 x.term.to0, .int .i64 x.term.to1] :=
  RepL.single (Block.mk_ h h1 h2 h3 h4)
theorem int_ok {x : Int} (h : x = 0 ∨ x = 1 ∨ x = 4 ∨ x = 16 ∨ x = 17) : InI x := by unfold InI; omega
end Go.Proofs.Ytkjipgelbjaggaa
set_option linter.unusedSimpArgs false
set_option linter.unusedVariables false
namespace Go.Proofs.Ytkjipgelbjaggaa
open Go.RowKit

/-- The numbers of such a thing fit. -/
def OkIns (x : Ins) : Prop := InI x.op ∧ InI x.dst ∧ InI x.a ∧ InI x.b ∧ InI x.imm ∧ InI x.callee ∧ InI x.many
/-- The numbers of such a thing fit. -/
def OkBlock (x : Block) : Prop := InI x.term.kind ∧ InI x.term.a ∧ InI x.term.to0 ∧ InI x.term.to1
/-- The numbers of such a thing fit. -/
def OkTarget (x : Target) : Prop := InI x.frame
end Go.Proofs.Ytkjipgelbjaggaa
