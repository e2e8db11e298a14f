/- The machine tells what the document tells. A text's runes, one behind the other, as a range over it hands them over; -1: a byte that opens none. -/
import Derived.Test.YtljglhaeonbfoaaGreatDoorG1
import Derived.Lib.DecodeN
import Derived.Lib.RuneCount
import Derived.Lib.Strings
set_option linter.unusedSimpArgs false
set_option linter.unusedVariables false
namespace Go.Proofs.YtljglhaeonbfoaaGreatDoor
theorem closeS_state (st : St) : (closeS st).state = 0 := rfl
theorem closeS_text (st : St) : (closeS st).text = [] := rfl
theorem closeS_zero {st : St} (h : st.state = 0) : closeS st = { st with text := [], state := 0 } := by
 simp [closeS, h]
theorem closeS_close (st : St) : closeS (closeS st) = closeS st := by
 rw [closeS_zero (closeS_state st)]
 obtain ⟨st', h⟩ : ∃ st', closeS st = st' := ⟨_, rfl⟩
 have h1 := closeS_state st; have h2 := closeS_text st
 rw [h] at h1 h2 ⊢
 cases st'; simp only at h1 h2; subst h1 h2; rfl
def Keeps (a b : St) : Prop := b.wrong = a.wrong ∧ b.al = a.al ∧ b.ac = a.ac
theorem Keeps.trans {a b c : St} (h : Keeps a b) (h' : Keeps b c) : Keeps a c := ⟨h'.1.trans h.1, h'.2.1.trans h.2.1, h'.2.2.trans h.2.2⟩
theorem failS_keep {st : St} (e l c : Int) (h : st.wrong ≠ 0) : Keeps st (failS e l c st) := by simp [Keeps, failS, h]
theorem closeS_keep {st : St} (h : st.wrong ≠ 0) : Keeps st (closeS st) := by
 unfold closeS
 simp only
 split
 ·split <;> simp [Keeps, failS, putS, h]
 ·split
  ·split <;> simp [Keeps, failS, putS, h]
  ·split <;> simp [Keeps, failS, h]
theorem beginS_keep {st : St} (c : Int) (h : st.wrong ≠ 0) : Keeps st (beginS c st) := by
 unfold beginS
 simp only
 repeat' split
 all_goals simp [Keeps, failS, putS, h]
theorem overS_keep (st : St) (c : Int) : Keeps st (overS c st) := by unfold overS; split <;> simp [Keeps]
theorem res_wrong {st : St} (h : st.wrong ≠ 0) : resS st = errR st.al st.ac st.wrong := by simp [resS, errR, h]
theorem run_wrong {st : St} (h : st.wrong ≠ 0) (l : List Int) : resS (runS l st) = errR st.al st.ac st.wrong := by
 have key : ∀ st', Keeps st st' → resS st' = errR st.al st.ac st.wrong := fun st' ⟨a, b, c⟩ => by
  rw [res_wrong (by rw [a]; exact h), a, b, c]
 cases l with
 | nil => exact key _ (closeS_keep h)
 | cons c l =>
  rw [runS_cons]
  have k1 := closeS_keep h
  split
  ·have k2 := failS_keep (st := closeS st) 6 (closeS st).line (closeS st).col (by rw [k1.1]; exact h)
   exact key _ ((k1.trans k2).trans (closeS_keep (by rw [k2.1, k1.1]; exact h)))
  ·exact key _ k1
theorem isD_L {r : Int} (h : isD r = true) : isL r = false := by rw [isD_iff] at h; exact isL_off (by omega)
theorem isLD_iff {r : Int} : isLD r = true ↔ isL r = true ∨ isD r = true := by simp [isLD]
theorem isLD_pos {r : Int} (h : isLD r = true) : 48 ≤ r := by
 rcases isLD_iff.1 h with h | h
 ·rw [isL_iff] at h; omega
 ·rw [isD_iff] at h; omega
theorem takeWhile_all {p : Int → Bool} : ∀ {t l : List Int}, (∀ x ∈ t, p x = true) → (∀ c l', l = c :: l' → p c = false) → (t ++ l).takeWhile p = t
 | [], [], _, _ => rfl
 | [], c :: l, _, h => by simp [h c l rfl]
 | x :: t, l, ht, h => by
  rw [List.cons_append, List.takeWhile_cons, if_pos (ht x (by simp)), takeWhile_all (fun y hy => ht y (by simp [hy])) h]
def NumT (t : List Int) : Prop := ∃ d, d ≠ [] ∧ (∀ x ∈ d, isD x = true) ∧ (t = d ∨ t = 45 :: d)
theorem NumT.more {t : List Int} {c : Int} (h : NumT t) (hc : isD c = true) : NumT (t ++ [c]) := by
 obtain ⟨d, h1, h2, h3⟩ := h
 refine ⟨d ++ [c], by simp, fun x hx => ?_, ?_⟩
 ·rcases List.mem_append.1 hx with h | h
  ·exact h2 x h
  ·simp at h; rw [h]; exact hc
 ·rcases h3 with h | h
  ·left; rw [h]
  ·right; rw [h]; rfl
theorem NumT.len {t l : List Int} (h : NumT t) (hl : ∀ c l', l = c :: l' → isD c = false) : numLen (t ++ l) = t.length := by
 obtain ⟨d, h1, h2, h3⟩ := h
 have tw := takeWhile_all (p := isD) (t := d) h2 hl
 rcases h3 with rfl | rfl
 ·cases t with
  | nil => exact absurd rfl h1
  | cons c d =>
   have hc : isD c = true := h2 c (by simp)
   have h45 : c ≠ 45 := by rw [isD_iff] at hc; omega
   rw [List.cons_append]
   rw [numLen_cons, if_neg h45, ← List.cons_append, tw]
 ·rw [List.cons_append]
  rw [numLen_cons, if_pos rfl, tw, if_neg (by cases d <;> simp_all)]
  simp
theorem NumT.head {t : List Int} (h : NumT t) : ∃ c r, t = c :: r ∧ 0 ≤ c ∧ c ≠ 10 ∧ isB c = false ∧ c ≠ 59 ∧ isL c = false := by
 obtain ⟨d, h1, h2, h3⟩ := h
 rcases h3 with rfl | rfl
 ·cases t with
  | nil => exact absurd rfl h1
  | cons c d =>
   have hc := h2 c (by simp)
   have hl := isD_L hc
   rw [isD_iff] at hc
   refine ⟨c, d, rfl, by omega, by omega, ?_, by omega, hl⟩
   simp [isB]; omega
 ·exact ⟨45, d, rfl, by decide, by decide, by decide, by decide, by decide⟩
theorem refL_num {f : Nat} {line col : Int} {t l : List Int} {acc : List Word} (ht : NumT t) (hl : ∀ c l', l = c :: l' → isD c = false) :
  refL (f + 1) line col false (t ++ l) acc = if numBad (runesBytes t) = true then errR line col 3
   else if headL l = true then errR line (col + t.length) 6 else refL f line (col + t.length) false l (acc ++ [⟨2, runesBytes t, numN (runesBytes t), line, col⟩]) := by
 have hlen := ht.len hl
 obtain ⟨c, r, rfl, h0, h10, hb, h59, hL⟩ := ht.head
 rw [List.cons_append] at hlen ⊢
 have hk : (c :: (r ++ l)).take ((c :: r).length) = c :: r := by rw [← List.cons_append]; exact List.take_left' rfl
 have hd : (c :: (r ++ l)).drop ((c :: r).length) = l := by rw [← List.cons_append]; exact List.drop_left' rfl
 rw [refL_cons, hlen, hk, hd, if_neg (by omega), if_neg h10, if_neg (by simp [hb, h59]), if_pos (by simp)]
theorem refL_name {f : Nat} {line col : Int} {t l : List Int} {acc : List Word} (h1 : headL t = true) (h2 : ∀ x ∈ t, isLD x = true) (hl : ∀ c l', l = c :: l' → isLD c = false) :
  refL (f + 1) line col false (t ++ l) acc = if 16 < t.length then errR line col 3 else refL f line (col + t.length) false l (acc ++ [⟨1, runesBytes t, 0, line, col⟩]) := by
 cases t with
 | nil => cases h1
 | cons c r =>
  have tw := takeWhile_all (p := isLD) h2 hl
  have hc : isL c = true := h1
  have hc' := isL_iff.1 hc
  have hD : isD c = false := isD_off (by omega)
  rw [List.cons_append] at tw ⊢
  have hd : (c :: (r ++ l)).drop ((c :: r).length) = l := by rw [← List.cons_append]; exact List.drop_left' rfl
  have hn : numLen (c :: (r ++ l)) = 0 := by
   rw [numLen_cons, if_neg (by omega), List.takeWhile_cons, hD]; rfl
  have hB : isB c = false := by simp [isB]; omega
  rw [refL_cons, tw, hd, hn, if_neg (by omega), if_neg (by omega), if_neg (by simp [hB]; omega), if_neg (by omega), if_pos hc]
theorem refL_minus {f : Nat} {line col : Int} {l : List Int} {acc : List Word} (hl : ∀ c l', l = c :: l' → isD c = false) :
  refL (f + 1) line col false (45 :: l) acc = errR line col 6 := by
 have hn : numLen (45 :: l) = 0 := by
  have := takeWhile_all (p := isD) (t := []) (l := l) (by simp) hl
  rw [List.nil_append] at this
  rw [numLen_cons, if_pos rfl, this]; rfl
 rw [refL_cons, hn, if_neg (by decide), if_neg (by decide), if_neg (by decide), if_neg (by decide), if_neg (by decide), if_pos (by decide)]
def Zero (l : List Int) : Prop := ∀ (st : St) (f : Nat), st.wrong = 0 → st.state = 0 → l.length < f → resS (runS l st) = refL f st.line st.col false l st.words
def One (l : List Int) : Prop := ∀ (st : St) (f : Nat), st.wrong = 0 → st.state = 1 → l.length < f → resS (runS l st) = refL f st.line st.col true l st.words
def MidS (st : St) : Prop := (st.state = 2 ∧ headL st.text = true ∧ ∀ x ∈ st.text, isLD x = true) ∨ (st.state = 3 ∧ st.text = [45]) ∨ (st.state = 4 ∧ NumT st.text)
def Mid (l : List Int) : Prop := ∀ (st : St) (f : Nat), st.wrong = 0 → MidS st → st.fl = st.line → st.col = st.fc + st.text.length → (st.text ++ l).length < f → resS (runS l st) = refL f st.line st.fc false (st.text ++ l) st.words
theorem run_close {st : St} (l : List Int) (h0 : st.wrong = 0) (h1 : st.state ≠ 1) (hc : ∀ c l', l = c :: l' → ¬ (st.state = 2 ∧ isLD c = true) ∧ ¬ ((st.state = 3 ∨ st.state = 4) ∧ isD c = true) ∧ ¬ (st.state = 4 ∧ isL c = true)) :
  resS (runS l st) = if (closeS st).wrong ≠ 0 then errR (closeS st).al (closeS st).ac (closeS st).wrong else resS (runS l (closeS st)) := by
 by_cases hw : (closeS st).wrong = 0
 ·rw [if_neg (by simp [hw])]
  cases l with
  | nil => unfold runS; rw [closeS_close]
  | cons c l =>
   obtain ⟨a1, a2, a3⟩ := hc c l rfl
   rw [runS_cons, runS_cons, closeS_close]
   by_cases hneg : c < 0
   ·rw [if_pos hneg, if_pos hneg]
   ·rw [if_neg hneg, if_neg hneg, if_neg (by simp [h0]), if_neg (by simp [hw])]
    have e1 : takeS c st = beginS c (closeS st) := by
     unfold takeS
     rw [if_neg h1, if_neg a1, if_neg a2, if_neg a3]
    have e2 : takeS c (closeS st) = beginS c (closeS st) := by
     unfold takeS
     rw [closeS_state, if_neg (by decide), if_neg (by simp), if_neg (by simp), if_neg (by simp), closeS_close]
    rw [e1, e2]
 ·rw [if_pos hw]
  cases l with
  | nil => exact res_wrong hw
  | cons c l =>
   obtain ⟨a1, a2, a3⟩ := hc c l rfl
   rw [runS_cons]
   by_cases hneg : c < 0
   ·rw [if_pos hneg]
    have k2 := failS_keep (st := closeS st) 6 (closeS st).line (closeS st).col hw
    have k3 := closeS_keep (st := failS 6 (closeS st).line (closeS st).col (closeS st)) (by rw [k2.1]; exact hw)
    have k := k2.trans k3
    rw [res_wrong (by rw [k.1]; exact hw), k.1, k.2.1, k.2.2]
   ·have e1 : takeS c st = beginS c (closeS st) := by
     unfold takeS
     rw [if_neg h1, if_neg a1, if_neg a2, if_neg a3]
    rw [if_neg hneg, if_neg (by simp [h0]), e1]
    have k := (beginS_keep c hw).trans (overS_keep _ c)
    rw [run_wrong (by rw [k.1]; exact hw), k.1, k.2.1, k.2.2]
theorem mid_end {st : St} {f : Nat} (l : List Int) (hz : Zero l) (h0 : st.wrong = 0) (hm : MidS st) (hfl : st.fl = st.line) (hcol : st.col = st.fc + st.text.length) (hf : (st.text ++ l).length < f)
  (hc : ∀ c l', l = c :: l' → ¬ (st.state = 2 ∧ isLD c = true) ∧ ¬ ((st.state = 3 ∨ st.state = 4) ∧ isD c = true)) : resS (runS l st) = refL f st.line st.fc false (st.text ++ l) st.words := by
 obtain ⟨g, rfl⟩ : ∃ g, f = g + 1 := ⟨f - 1, by omega⟩
 rw [List.length_append] at hf
 rcases hm with ⟨hs, h1, h2⟩ | ⟨hs, h1⟩ | ⟨hs, h1⟩
 ·have hl : ∀ c l', l = c :: l' → isLD c = false := fun c l' h => by have := (hc c l' h).1; simpa [hs] using this
  have hne : st.text ≠ [] := fun e => by rw [e] at h1; cases h1
  have hpos : 0 < st.text.length := List.length_pos_iff.2 hne
  rw [run_close l h0 (by omega) fun c l' h => ⟨(hc c l' h).1, (hc c l' h).2, by omega⟩, refL_name h1 h2 hl]
  by_cases hb : 16 < st.text.length
  ·rw [if_pos hb, if_pos (by simp [closeS, hs, hb, putS, failS, h0])]
   simp [closeS, hs, hb, putS, failS, h0, hfl]
  ·rw [if_neg hb, if_neg (by simp [closeS, hs, hb, putS, h0]), hz (closeS st) g (by simp [closeS, hs, hb, putS, h0]) rfl (by omega)]
   simp [closeS, hs, hb, putS, hfl, hcol]
 ·have hl : ∀ c l', l = c :: l' → isD c = false := fun c l' h => by have := (hc c l' h).2; simpa [hs] using this
  rw [run_close l h0 (by omega) fun c l' h => ⟨(hc c l' h).1, (hc c l' h).2, by omega⟩, h1, List.cons_append, List.nil_append, refL_minus hl, if_pos (by simp [closeS, hs, failS, h0])]
  simp [closeS, hs, failS, h0, hfl]
 ·have hl : ∀ c l', l = c :: l' → isD c = false := fun c l' h => by have := (hc c l' h).2; simpa [hs] using this
  obtain ⟨c0, r0, ht, -⟩ := h1.head
  have hpos : 0 < st.text.length := by rw [ht]; simp
  rw [refL_num h1 hl]
  by_cases hL : headL l = true
  ·cases l with
   | nil => cases hL
   | cons c l =>
    have hcL : isL c = true := hL
    have hcp := isL_iff.1 hcL
    have hcD : isD c = false := isD_off (by omega)
    rw [runS_cons]
    have e1 : takeS c st = beginS c (closeS (failS 6 (closeS st).line (closeS st).col (closeS st))) := by
     unfold takeS
     rw [if_neg (by omega), if_neg (by simp [hs]), if_neg (by simp [hcD]), if_pos ⟨hs, hcL⟩]
    rw [if_neg (by omega), if_neg (by simp [h0]), e1]
    by_cases hb : numBad (runesBytes st.text) = true
    ·rw [if_pos hb]
     have hw : (closeS st).wrong = 3 ∧ (closeS st).al = st.fl ∧ (closeS st).ac = st.fc := by simp [closeS, hs, hb, putS, failS, h0]
     have hw' : (closeS st).wrong ≠ 0 := by rw [hw.1]; decide
     have k1 := failS_keep (st := closeS st) 6 (closeS st).line (closeS st).col hw'
     have k2 := k1.trans (closeS_keep (st := failS 6 (closeS st).line (closeS st).col (closeS st)) (by rw [k1.1]; exact hw'))
     have k3 := k2.trans (beginS_keep c (st := closeS (failS 6 (closeS st).line (closeS st).col (closeS st))) (by rw [k2.1]; exact hw'))
     have k := k3.trans (overS_keep _ c)
     rw [run_wrong (by rw [k.1]; exact hw'), k.1, k.2.1, k.2.2, hw.1, hw.2.1, hw.2.2, hfl]
    ·rw [if_neg hb, if_pos hL]
     have hw : (closeS st).wrong = 0 ∧ (closeS st).line = st.line ∧ (closeS st).col = st.col := by simp [closeS, hs, hb, putS, h0]
     have k1 : (failS 6 (closeS st).line (closeS st).col (closeS st)).wrong = 6 ∧ (failS 6 (closeS st).line (closeS st).col (closeS st)).al = st.line ∧ (failS 6 (closeS st).line (closeS st).col (closeS st)).ac = st.col := by
      unfold failS; rw [if_pos hw.1]; exact ⟨rfl, hw.2.1, hw.2.2⟩
     have hn : (failS 6 (closeS st).line (closeS st).col (closeS st)).wrong ≠ 0 := by rw [k1.1]; decide
     have k2 := closeS_keep hn
     have k := (k2.trans (beginS_keep c (by rw [k2.1]; exact hn))).trans (overS_keep _ c)
     rw [run_wrong (by rw [k.1]; exact hn), k.1, k.2.1, k.2.2, k1.1, k1.2.1, k1.2.2, hcol]
  ·rw [run_close l h0 (by omega) fun c l' h => ⟨(hc c l' h).1, (hc c l' h).2, fun ⟨_, h2⟩ => hL (by rw [h]; exact h2)⟩]
   by_cases hb : numBad (runesBytes st.text) = true
   ·rw [if_pos hb, if_pos (by simp [closeS, hs, hb, putS, failS, h0])]
    simp [closeS, hs, hb, putS, failS, h0, hfl]
   ·rw [if_neg hb, if_neg hL, if_neg (by simp [closeS, hs, hb, putS, h0]), hz (closeS st) g (by simp [closeS, hs, hb, putS, h0]) rfl (by omega)]
    simp [closeS, hs, hb, putS, hfl, hcol]
theorem over_word {st : St} {c : Int} (h : c ≠ 10) : overS c st = { st with col := st.col + 1 } := by unfold overS; rw [if_neg h]
theorem run_ref : ∀ l : List Int, Zero l ∧ One l ∧ Mid l
 | [] => by
  have hz : Zero [] := fun st f h0 hs hf => by
   obtain ⟨g, rfl⟩ : ∃ g, f = g + 1 := ⟨f - 1, by simp at hf; omega⟩
   unfold runS refL
   rw [closeS_zero hs]; simp [resS, h0]
  refine ⟨hz, fun st f h0 hs hf => ?_, fun st f h0 hm hfl hcol hf => mid_end [] hz h0 hm hfl hcol hf (fun c l' h => by cases h)⟩
  obtain ⟨g, rfl⟩ : ∃ g, f = g + 1 := ⟨f - 1, by simp at hf; omega⟩
  unfold runS refL
  simp [closeS, hs, resS, h0]
 | c :: l => by
  obtain ⟨iz, io, im⟩ := run_ref l
  have hz : Zero (c :: l) := fun st f h0 hs hf => by
   obtain ⟨g, rfl⟩ : ∃ g, f = g + 1 := ⟨f - 1, by simp at hf; omega⟩
   have hg : l.length < g := by simp at hf; omega
   by_cases hneg : c < 0
   ·rw [runS_cons, refL_cons, if_pos hneg, if_pos hneg, closeS_zero hs]
    simp [failS, h0, closeS, resS, errR]
   ·have ht : takeS c st = beginS c { st with text := [], state := 0 } := by
     unfold takeS
     rw [hs, if_neg (by decide), if_neg (by simp), if_neg (by simp), if_neg (by simp), closeS_zero hs]
    rw [runS_cons, if_neg hneg, if_neg (by simp [h0]), ht]
    by_cases hL : isL c = true
    ·have hp := isL_iff.1 hL
     have e : beginS c { st with text := [], state := 0 } = { st with fl := st.line, fc := st.col, text := [c], state := 2 } := by unfold beginS; simp only [hL, if_true]
     rw [e, over_word (by omega)]
     exact im { st with fl := st.line, fc := st.col, text := [c], state := 2, col := st.col + 1 } (g + 1) h0 (.inl ⟨rfl, hL, by simp [isLD, hL]⟩) rfl (by simp) (by simpa using hf)
    have hL' : isL c = false := by simpa using hL
    by_cases hD : isD c = true
    ·have hp := isD_iff.1 hD
     have e : beginS c { st with text := [], state := 0 } = { st with fl := st.line, fc := st.col, text := [c], state := 4 } := by unfold beginS; simp [hL', hD]
     rw [e, over_word (by omega)]
     exact im { st with fl := st.line, fc := st.col, text := [c], state := 4, col := st.col + 1 } (g + 1) h0 (.inr (.inr ⟨rfl, [c], by simp, by simp [hD], .inl rfl⟩)) rfl (by simp) (by simpa using hf)
    have hD' : isD c = false := by simpa using hD
    by_cases h45 : c = 45
    ·have e : beginS c { st with text := [], state := 0 } = { st with fl := st.line, fc := st.col, text := [c], state := 3 } := by unfold beginS; simp [hL', hD', h45]; subst h45; rfl
     rw [e, over_word (by omega)]
     exact im { st with fl := st.line, fc := st.col, text := [c], state := 3, col := st.col + 1 } (g + 1) h0 (.inr (.inl ⟨rfl, by rw [h45]⟩)) rfl (by simp) (by simpa using hf)
    have hn : numLen (c :: l) = 0 := by
     rw [numLen_cons, if_neg h45, List.takeWhile_cons, hD']; rfl
    rw [refL_cons, if_neg hneg]
    by_cases h59 : c = 59
    ·have e : beginS c { st with text := [], state := 0 } = { st with fl := st.line, fc := st.col, text := [c], state := 1 } := by unfold beginS; simp [hL', hD', h45, h59]; subst h59; rfl
     rw [e, over_word (by omega), if_neg (by omega), if_pos (.inr (.inr h59)), h59]
     exact io { st with fl := st.line, fc := st.col, text := [59], state := 1, col := st.col + 1 } g h0 rfl hg
    by_cases h10 : c = 10
    ·have e : overS c (beginS c { st with text := [], state := 0 }) = { st with fl := st.line, fc := st.col, text := [c], state := 0, words := st.words ++ [⟨4, ByteArray.empty, 0, st.line, st.col⟩], line := st.line + 1, col := 1 } := by
      unfold beginS overS; simp [hL', hD', h45, h59, h10, putS]; subst h10; simp [isL, isD]
     rw [e, if_pos h10]
     exact iz { st with fl := st.line, fc := st.col, text := [c], state := 0, words := st.words ++ [⟨4, ByteArray.empty, 0, st.line, st.col⟩], line := st.line + 1, col := 1 } g h0 rfl hg
    rw [if_neg h10]
    by_cases hS : isS c = true
    ·have hp := isS_iff.1 hS
     have hB : isB c = false := by simp [isB]; omega
     have e : overS c (beginS c { st with text := [], state := 0 }) = { st with fl := st.line, fc := st.col, text := [c], state := 0, words := st.words ++ [⟨3, Utf8.encode c, 0, st.line, st.col⟩], col := st.col + 1 } := by
      unfold beginS overS; simp [hL', hD', h45, h59, h10, hS, putS]
     rw [e, if_neg (by simp [hB, h59]), hn, if_neg (by omega), if_neg hL, if_neg (by simp [hS])]
     exact iz { st with fl := st.line, fc := st.col, text := [c], state := 0, words := st.words ++ [⟨3, Utf8.encode c, 0, st.line, st.col⟩], col := st.col + 1 } g h0 rfl hg
    have hS' : isS c = false := by simpa using hS
    by_cases hB : c = 32 ∨ c = 9
    ·have hB' : isB c = true := by simpa [isB] using hB
     have e : overS c (beginS c { st with text := [], state := 0 }) = { st with fl := st.line, fc := st.col, text := [c], state := 0, col := st.col + 1 } := by
      unfold beginS overS; simp only [hL', hD', h45, h59, h10, hS', if_false, Bool.false_eq_true]; rw [if_neg (by omega)]
     rw [e, if_pos (.inr (.inl hB'))]
     have := iz { st with fl := st.line, fc := st.col, text := [c], state := 0, col := st.col + 1 } g h0 rfl hg
     have e59 : (c == 59) = false := by simpa using h59
     rw [this]; simp [e59]
    ·have hB' : isB c = false := by simpa [isB] using hB
     have e : overS c (beginS c { st with text := [], state := 0 }) = { st with fl := st.line, fc := st.col, text := [c], state := 0, col := st.col + 1, wrong := 6, al := st.line, ac := st.col } := by
      unfold beginS overS; simp only [hL', hD', h45, h59, h10, hS', if_false, Bool.false_eq_true]; rw [if_pos (by omega)]; simp [failS, h0]
     rw [e, if_neg (by simp [hB', h59]), hn, if_neg (by omega), if_neg hL, if_pos hS', run_wrong (by simp)]
  refine ⟨hz, fun st f h0 hs hf => ?_, fun st f h0 hm hfl hcol hf => ?_⟩
  ·obtain ⟨g, rfl⟩ : ∃ g, f = g + 1 := ⟨f - 1, by simp at hf; omega⟩
   have hg : l.length < g := by simp at hf; omega
   rw [runS_cons, refL_cons]
   by_cases hneg : c < 0
   ·rw [if_pos hneg, if_pos hneg]
    simp [failS, h0, closeS, resS, errR, hs]
   ·rw [if_neg hneg, if_neg hneg, if_neg (by simp [h0])]
    by_cases h10 : c = 10
    ·have e : overS c (takeS c st) = { st with fl := st.line, fc := st.col, text := [c], state := 0, words := st.words ++ [⟨4, ByteArray.empty, 0, st.line, st.col⟩], line := st.line + 1, col := 1 } := by
      subst h10
      unfold takeS; rw [if_pos hs, if_pos rfl]
      unfold beginS overS; simp [isL, isD, putS]
     rw [e, if_pos h10]
     exact iz { st with fl := st.line, fc := st.col, text := [c], state := 0, words := st.words ++ [⟨4, ByteArray.empty, 0, st.line, st.col⟩], line := st.line + 1, col := 1 } g h0 rfl hg
    ·have e : overS c (takeS c st) = { st with col := st.col + 1 } := by
      unfold takeS; rw [if_pos hs, if_neg h10, over_word h10]
     rw [e, if_neg h10, if_pos (.inl rfl)]
     exact io { st with col := st.col + 1 } g h0 hs hg
  ·by_cases hc : (st.state = 2 ∧ isLD c = true) ∨ ((st.state = 3 ∨ st.state = 4) ∧ isD c = true)
   ·have h48 : 48 ≤ c := by
     rcases hc with h | h
     ·exact isLD_pos h.2
     ·have := isD_iff.1 h.2; omega
    have e : ∃ s', takeS c st = { st with text := st.text ++ [c], state := s' } ∧ MidS { st with text := st.text ++ [c], state := s', col := st.col + 1 } := by
     rcases hc with h | h
     ·refine ⟨2, ?_, ?_⟩
      ·unfold takeS; rw [if_neg (by omega), if_pos h, ← h.1]
      ·rcases hm with ⟨_, h1, h2⟩ | ⟨hs, _⟩ | ⟨hs, _⟩
       ·refine .inl ⟨rfl, ?_, fun x hx => ?_⟩
        ·cases ht : st.text with
         | nil => rw [ht] at h1; cases h1
         | cons a r => rw [ht] at h1; exact h1
        ·rcases List.mem_append.1 hx with h' | h'
         ·exact h2 x h'
         ·simp at h'; rw [h']; exact h.2
       ·omega
       ·omega
     ·refine ⟨4, ?_, ?_⟩
      ·unfold takeS; rw [if_neg (by omega), if_neg (by omega), if_pos h]
      ·rcases hm with ⟨hs, _⟩ | ⟨hs, h1⟩ | ⟨hs, h1⟩
       ·omega
       ·refine .inr (.inr ⟨rfl, [c], by simp, by simp [h.2], .inr ?_⟩)
        show st.text ++ [c] = [45, c]
        rw [h1]; rfl
       ·exact .inr (.inr ⟨rfl, h1.more h.2⟩)
    obtain ⟨s', e1, e2⟩ := e
    rw [runS_cons, if_neg (by omega), if_neg (by simp [h0]), e1, over_word (by omega)]
    have := im { st with text := st.text ++ [c], state := s', col := st.col + 1 } f h0 e2 hfl (by simp [hcol]; omega) (by simpa using hf)
    rw [this]
    simp
   ·exact mid_end (c :: l) hz h0 hm hfl hcol hf (fun c' l' h => by injection h with h1 h2; subst h1; exact ⟨fun h => hc (.inl h), fun h => hc (.inr h)⟩)
theorem lex_eq (l : List Int) : resS (runS l st0) = refL (l.length + 1) 1 1 false l [] := (run_ref l).1 st0 _ rfl rfl (Nat.lt_succ_self _)
end Go.Proofs.YtljglhaeonbfoaaGreatDoor
namespace Go.Proofs.YtljglhaeonbfoaaGreatDoor
def goodAt (s : ByteArray) (i : Nat) : Bool := decide ((s.get! i).toNat < 128) || decide (1 < (Utf8.decode s i).2)
def itemsF (s : ByteArray) : Nat → Nat → List Int
 | 0, _ => []
 | f + 1, pos => if pos < s.size then (if goodAt s pos = true then ((Utf8.decode s pos).1 : Int) :: itemsF s f (pos + (Utf8.decode s pos).2) else [-1]) else []
def items (s : ByteArray) (pos : Nat) : List Int := itemsF s (s.size - pos) pos
theorem itemsF_more (s : ByteArray) : ∀ (f g pos : Nat), s.size - pos ≤ f → s.size - pos ≤ g → itemsF s f pos = itemsF s g pos
 | 0, 0, _, _, _ => rfl
 | 0, g + 1, pos, h, _ => by
  show [] = itemsF s (g + 1) pos
  unfold itemsF; rw [if_neg (by omega)]
 | f + 1, 0, pos, _, h => by
  show itemsF s (f + 1) pos = []
  unfold itemsF; rw [if_neg (by omega)]
 | f + 1, g + 1, pos, hf, hg => by
  unfold itemsF
  by_cases hp : pos < s.size
  ·have hw := Lib.decode_width_pos s pos hp
   rw [if_pos hp, if_pos hp, itemsF_more s f g _ (by omega) (by omega)]
  ·rw [if_neg hp, if_neg hp]
theorem items_end {s : ByteArray} {pos : Nat} (h : ¬ pos < s.size) : items s pos = [] := by
 unfold items
 rw [show s.size - pos = 0 by omega]; rfl
theorem items_good {s : ByteArray} {pos : Nat} (h : pos < s.size) (hg : goodAt s pos = true) : items s pos = ((Utf8.decode s pos).1 : Int) :: items s (pos + (Utf8.decode s pos).2) := by
 have hw := Lib.decode_width_pos s pos h
 unfold items
 obtain ⟨f, hf⟩ : ∃ f, s.size - pos = f + 1 := ⟨s.size - pos - 1, by omega⟩
 rw [hf]
 show (if pos < s.size then (if goodAt s pos = true then ((Utf8.decode s pos).1 : Int) :: itemsF s f (pos + (Utf8.decode s pos).2) else [-1]) else []) = _
 rw [if_pos h, if_pos hg, itemsF_more s f (s.size - (pos + (Utf8.decode s pos).2)) _ (by omega) (Nat.le_refl _)]
theorem items_bad {s : ByteArray} {pos : Nat} (h : pos < s.size) (hg : goodAt s pos = false) : items s pos = [-1] := by
 unfold items
 obtain ⟨f, hf⟩ : ∃ f, s.size - pos = f + 1 := ⟨s.size - pos - 1, by omega⟩
 rw [hf]
 show (if pos < s.size then (if goodAt s pos = true then ((Utf8.decode s pos).1 : Int) :: itemsF s f (pos + (Utf8.decode s pos).2) else [-1]) else []) = _
 rw [if_pos h, if_neg (by simp [hg])]
theorem get_drop {s : ByteArray} {pos : Nat} {x : UInt8} {t : List UInt8} (h : s.data.toList.drop pos = x :: t) : pos < s.size ∧ s.get! pos = x ∧ s.data.toList.drop (pos + 1) = t := by
 have hl : pos < s.data.toList.length := by
  rcases Nat.lt_or_ge pos s.data.toList.length with h' | h'
  ·exact h'
  ·rw [List.drop_eq_nil_of_le h'] at h; cases h
 have e := List.drop_eq_getElem_cons hl
 rw [h] at e
 injection e with e1 e2
 refine ⟨by simpa using hl, ?_, e2.symm⟩
 rw [e1]
 have hl' : pos < s.data.size := by simpa using hl
 show s.data[pos]! = _
 rw [getElem!_pos s.data pos hl']; simp
theorem drop_get {s : ByteArray} {pos : Nat} (h : pos < s.size) : s.data.toList.drop pos = s.get! pos :: s.data.toList.drop (pos + 1) := by
 have hl : pos < s.data.toList.length := by simpa using h
 have e := List.drop_eq_getElem_cons hl
 obtain ⟨_, h2, h3⟩ := get_drop e
 rw [e, h2]
theorem extract_list (s : ByteArray) (i j : Nat) : (s.extract i j).data.toList = (s.data.toList.drop i).take (j - i) := by
 rw [ByteArray.data_extract, Array.toList_extract, List.extract_eq_take_drop]
theorem extract_end (s : ByteArray) (i : Nat) : (s.extract i s.size).data.toList = s.data.toList.drop i := by
 rw [extract_list, List.take_of_length_le (by simp)]
theorem decodeN_cases (n b0 b1 b2 b3 : Nat) (h0 : b0 < 256) (h1 : b1 < 256) (h2 : b2 < 256) (h3 : b3 < 256) (D : Nat × Nat) (hD : Lib.decodeN n b0 b1 b2 b3 = D) :
  (b0 < 128 ∧ D = (b0, 1)) ∨ (128 ≤ b0 ∧ D = (65533, 1) ∧ ¬ (b0 = 239 ∧ b1 = 191 ∧ b2 = 189 ∧ 2 < n)) ∨
  (1 < n ∧ 128 ≤ b0 ∧ D.2 = 2 ∧ 128 ≤ D.1 ∧ D.1 < 2048 ∧ b0 / 32 = 6 ∧ b1 / 64 = 2 ∧ D.1 = b0 % 32 * 64 + b1 % 64) ∨
  (2 < n ∧ 128 ≤ b0 ∧ D.2 = 3 ∧ b0 / 16 = 14 ∧ b1 / 64 = 2 ∧ b2 / 64 = 2 ∧ D.1 = b0 % 16 * 4096 + b1 % 64 * 64 + b2 % 64 ∧ 2048 ≤ D.1 ∧ (D.1 < 55296 ∨ 57344 ≤ D.1)) ∨
  (3 < n ∧ 128 ≤ b0 ∧ D.2 = 4 ∧ 65536 ≤ D.1 ∧ D.1 ≤ 1114111 ∧ b0 / 8 = 30 ∧ b1 / 64 = 2 ∧ b2 / 64 = 2 ∧ b3 / 64 = 2 ∧ D.1 = b0 % 8 * 262144 + b1 % 64 * 4096 + b2 % 64 * 64 + b3 % 64) := by
 unfold Lib.decodeN at hD
 split at hD
 ·exact .inl ⟨by omega, hD.symm⟩
 ·right
  split at hD
  ·split at hD
   ·subst hD; exact .inr (.inl ⟨by omega, by omega, rfl, by show 128 ≤ b0 % 32 * 64 + b1 % 64; omega, by show b0 % 32 * 64 + b1 % 64 < 2048; omega, by omega, by omega, rfl⟩)
   ·subst hD; exact .inl ⟨by omega, rfl, by omega⟩
  ·split at hD
   ·split at hD
    ·subst hD; exact .inr (.inr (.inl ⟨by omega, by omega, rfl, by omega, by omega, by omega, rfl, by show 2048 ≤ b0 % 16 * 4096 + b1 % 64 * 64 + b2 % 64; omega, by show b0 % 16 * 4096 + b1 % 64 * 64 + b2 % 64 < 55296 ∨ 57344 ≤ b0 % 16 * 4096 + b1 % 64 * 64 + b2 % 64; omega⟩))
    ·rename_i hx hy hz hw
     subst hD
     refine .inl ⟨by omega, rfl, ?_⟩
     rintro ⟨rfl, rfl, rfl, hn⟩
     exact hw ⟨by decide, .inr ⟨by decide, by decide⟩⟩
   ·split at hD
    ·split at hD
     ·rename_i hw
      subst hD; exact .inr (.inr (.inr ⟨by omega, by omega, rfl, hw.1, by show b0 % 8 * 262144 + b1 % 64 * 4096 + b2 % 64 * 64 + b3 % 64 ≤ 1114111; omega, by omega, by omega, by omega, by omega, rfl⟩))
     ·subst hD; exact .inl ⟨by omega, rfl, by omega⟩
    ·rename_i hx hy hz hw
     subst hD
     refine .inl ⟨by omega, rfl, ?_⟩
     rintro ⟨rfl, rfl, rfl, hn⟩
     exact hz ⟨by decide, ⟨by omega, by decide⟩, ⟨by omega, by decide⟩⟩
theorem decode_ff (n b0 b1 b2 b3 : Nat) (h : (Lib.decodeN n b0 b1 b2 b3).1 = 65533) (h0 : b0 < 256) (h1 : b1 < 256) (h2 : b2 < 256) (h3 : b3 < 256) :
  128 ≤ b0 ∧ ((Lib.decodeN n b0 b1 b2 b3).2 = 3 ∧ b0 = 239 ∧ b1 = 191 ∧ b2 = 189 ∧ 2 < n ∨ (Lib.decodeN n b0 b1 b2 b3).2 = 1 ∧ ¬ (b0 = 239 ∧ b1 = 191 ∧ b2 = 189 ∧ 2 < n)) := by
 obtain ⟨D, hD⟩ : ∃ D, Lib.decodeN n b0 b1 b2 b3 = D := ⟨_, rfl⟩
 rw [hD] at h ⊢
 rcases decodeN_cases n b0 b1 b2 b3 h0 h1 h2 h3 D hD with ⟨_, e⟩ | ⟨a, e, b⟩ | ⟨_, _, a, b, c, _⟩ | ⟨a, a', b, c, d, e, f, _⟩ | ⟨_, _, a, b, c, _⟩
 ·rw [e] at h; simp only at h; omega
 ·exact ⟨a, .inr ⟨by rw [e], b⟩⟩
 ·omega
 ·exact ⟨a', .inl ⟨b, by omega, by omega, by omega, a⟩⟩
 ·omega
theorem byte_lt (x : UInt8) : x.toNat < 256 := x.toNat_lt
theorem toNat_eq {x : UInt8} {n : Nat} (hn : n < 256) : x = UInt8.ofNat n ↔ x.toNat = n := by
 constructor
 ·rintro rfl; simp; omega
 ·intro h
  apply UInt8.toNat_inj.1
  rw [h]; simp; omega
theorem prefix3 (l : List UInt8) (a b c : UInt8) : Lib.hasPrefix l [a, b, c] = true ↔ ∃ t, l = a :: b :: c :: t := by
 unfold Lib.hasPrefix
 rw [List.isPrefixOf_iff_prefix]
 constructor
 ·rintro ⟨t, rfl⟩; exact ⟨t, rfl⟩
 ·rintro ⟨t, rfl⟩; exact ⟨t, rfl⟩
theorem good_ff {s : ByteArray} {pos : Nat} (h : pos < s.size) (hr : (Utf8.decode s pos).1 = 65533) : goodAt s pos = Lib.hasPrefix (s.extract pos s.size).data.toList [239, 191, 189] := by
 have hd := Lib.decode_at s pos
 have key := decode_ff (s.size - pos) (s.get! pos).toNat (s.get! (pos + 1)).toNat (s.get! (pos + 2)).toNat (s.get! (pos + 3)).toNat (by rw [← hd]; exact hr) (byte_lt _) (byte_lt _) (byte_lt _) (byte_lt _)
 rw [← hd] at key
 obtain ⟨k0, key⟩ := key
 unfold goodAt
 have h128 : decide ((s.get! pos).toNat < 128) = false := by simpa using k0
 rw [h128, Bool.false_or, extract_end]
 rcases key with ⟨hw, h0, h1, h2, hn⟩ | ⟨hw, hno⟩
 ·rw [hw]
  have e0 : s.get! pos = 239 := (toNat_eq (n := 239) (by decide)).2 h0
  have e1 : s.get! (pos + 1) = 191 := (toNat_eq (n := 191) (by decide)).2 h1
  have e2 : s.get! (pos + 2) = 189 := (toNat_eq (n := 189) (by decide)).2 h2
  rw [drop_get h, drop_get (show pos + 1 < s.size by omega), drop_get (show pos + 1 + 1 < s.size by omega), e0, e1, e2]
  rfl
 ·rw [hw]
  symm
  show Lib.hasPrefix _ _ = decide (1 < 1)
  cases hp : Lib.hasPrefix (s.data.toList.drop pos) [239, 191, 189] with
  | false => rfl
  | true =>
   obtain ⟨t, ht⟩ := (prefix3 _ _ _ _).1 hp
   obtain ⟨a1, a2, a3⟩ := get_drop ht
   obtain ⟨b1, b2, b3⟩ := get_drop a3
   obtain ⟨c1, c2, c3⟩ := get_drop b3
   exact absurd ⟨by rw [a2]; rfl, by rw [b2]; rfl, by rw [show pos + 2 = pos + 1 + 1 from rfl, c2]; rfl, by omega⟩ hno
theorem good_not {s : ByteArray} {pos : Nat} (hr : (Utf8.decode s pos).1 ≠ 65533) : goodAt s pos = true := by
 unfold goodAt
 rcases decodeN_cases (s.size - pos) _ _ _ _ (byte_lt (s.get! pos)) (byte_lt (s.get! (pos + 1))) (byte_lt (s.get! (pos + 2))) (byte_lt (s.get! (pos + 3))) (Utf8.decode s pos) (Lib.decode_at s pos).symm with ⟨a, _⟩ | ⟨_, e, _⟩ | ⟨_, _, a, _⟩ | ⟨_, _, a, _⟩ | ⟨_, _, a, _⟩
 ·simp [a]
 ·exact absurd (by rw [e]) hr
 ·simp [a]
 ·simp [a]
 ·simp [a]
theorem width_le {s : ByteArray} {pos : Nat} (h : pos < s.size) : pos + (Utf8.decode s pos).2 ≤ s.size := by
 rcases decodeN_cases (s.size - pos) _ _ _ _ (byte_lt (s.get! pos)) (byte_lt (s.get! (pos + 1))) (byte_lt (s.get! (pos + 2))) (byte_lt (s.get! (pos + 3))) (Utf8.decode s pos) (Lib.decode_at s pos).symm with ⟨_, e⟩ | ⟨_, e, _⟩ | ⟨_, _, a, _⟩ | ⟨_, _, a, _⟩ | ⟨_, _, a, _⟩
 ·rw [e]; simp only; omega
 ·rw [e]; simp only; omega
 ·omega
 ·omega
 ·omega
end Go.Proofs.YtljglhaeonbfoaaGreatDoor
