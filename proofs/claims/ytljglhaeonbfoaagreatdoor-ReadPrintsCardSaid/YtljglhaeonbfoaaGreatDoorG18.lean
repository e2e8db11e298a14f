/- law28: certificates as plain data: what words name, what a text tells, which of two facts is ahead. laws 04, 07: plain: what the texts of law28 hold that no certificate needs, parted from them (BK2, BK5, BK6, BK15 to BK18, P28): not to be imported beside them. law04: plain: a text with more blanks between its words, and more ends, remarks behind its lines lexes alike. -/
import Derived.Test.YtljglhaeonbfoaaGreatDoorG15
import Derived.Test.YtljglhaeonbfoaaGreatDoorG12
import Derived.Test.YtljglhaeonbfoaaGreatDoorL2i
import Derived.Test.YtljglhaeonbfoaaGreatDoorG20
import Derived.Test.YtljglhaeonbfoaaGreatDoorG17
import Derived.Lib.ItoaLen
set_option linter.unusedSimpArgs false
set_option linter.unusedVariables false
namespace Go.Proofs.YtljglhaeonbfoaaGreatDoor
def digW (b : UInt8) : Bool := decide (48 ≤ b.toNat) && decide (b.toNat ≤ 57)
def numW (c : UInt8) (most : Nat) (s : ByteArray) : Option Nat :=
 match s.data.toList with
 | [] => none
 | x :: l => if (x == c && !l.isEmpty && decide (l.length ≤ 4) && l.all digW && (decide (l.length = 1) || !(l.head? == some 48)) && decide (spell 0 l < most)) = true then some (spell 0 l) else none
def keyB (c : UInt8) (n : Nat) : ByteArray := ⟨(c :: Lib.decDigits n).toArray⟩
theorem head_dec : ∀ (u : Nat), 1 ≤ u → (Lib.decDigits u).head? ≠ some 48 := by
 intro u
 induction u using Nat.strongRecOn with
 | _ u ih =>
  intro h1
  by_cases h : u < 10
  ·rw [Lib.decDigits_one h]
   intro e
   injection e with e
   have := congrArg UInt8.toNat e
   rw [ofNat_toNat (by omega)] at this
   simp at this
   omega
  ·rw [Lib.decDigits, dif_neg h]
   have i3 := (can_dec (u / 10)).2.2
   have := ih (u / 10) (by omega) (by omega)
   cases hd : Lib.decDigits (u / 10) with
   | nil => exact absurd hd i3
   | cons x l => rw [hd] at this; simpa using this
theorem dec_len {u : Nat} : (Lib.decDigits u).length = if u < 10 then 1 else (Lib.decDigits (u / 10)).length + 1 := by
 by_cases h : u < 10
 ·rw [Lib.decDigits_one h, if_pos h]; rfl
 ·rw [Lib.decDigits, dif_neg h, if_neg h, List.length_append]; rfl
theorem dec_len4 {u : Nat} (h : u < 1000) : (Lib.decDigits u).length ≤ 3 := by
 rw [dec_len]
 split
 ·omega
 ·rw [dec_len]
  split
  ·omega
  ·rw [dec_len, if_pos (by omega)]; decide
theorem digW_iff (l : List UInt8) : l.all digW = true ↔ DigB l := by
 unfold digW DigB
 simp
theorem numW_key {c : UInt8} {n most : Nat} (h : n < most) (hm : most ≤ 1000) : numW c most (keyB c n) = some n := by
 obtain ⟨h1, h2, h3⟩ := can_dec n
 have h4 : (Lib.decDigits n).length = 1 ∨ (Lib.decDigits n).head? ≠ some 48 := by
  by_cases h0 : n < 10
  ·exact .inl (by rw [dec_len, if_pos h0])
  ·exact .inr (head_dec n (by omega))
 have h5 := dec_len4 (show n < 1000 by omega)
 unfold numW keyB
 simp only
 rw [if_pos]
 ·rw [h2]
 ·have e1 : (Lib.decDigits n).isEmpty = false := by cases hd : Lib.decDigits n <;> simp_all
  have e2 := (digW_iff _).2 h1
  have e3 : (decide ((Lib.decDigits n).length = 1) || !((Lib.decDigits n).head? == some 48)) = true := by
   rcases h4 with h | h
   ·simp [h]
   ·have : ((Lib.decDigits n).head? == some 48) = false := by simpa using h
    rw [this]; simp
  rw [e1, e2, e3, h2]
  simp
  omega
theorem numW_inv {c : UInt8} {n most : Nat} {s : ByteArray} (h : numW c most s = some n) : s = keyB c n ∧ n < most := by
 unfold numW at h
 split at h
 ·cases h
 ·rename_i x l hl
  split at h
  ·rename_i hc
   injection h with h
   simp only [Bool.and_eq_true, Bool.or_eq_true, decide_eq_true_eq, Bool.not_eq_true', beq_iff_eq, digW_iff] at hc
   obtain ⟨⟨⟨⟨⟨h1, h2⟩, h3⟩, h4⟩, h5⟩, h6⟩ := hc
   have hne : l ≠ [] := by intro e; rw [e] at h2; cases h2
   have hcan := (dec_can l.length l rfl h4 hne (by
    rcases h5 with h5 | h5
    ·exact .inl h5
    ·exact .inr (by simpa using h5))).1
   rw [h] at hcan h6
   refine ⟨?_, h6⟩
   apply bytes_ext
   unfold keyB
   rw [hl, hcan, h1]
  ·cases h
def loopC {σ : Type} (go : σ → Option σ) : Nat → σ → σ
 | 0, x => x
 | f + 1, x => match go x with
  | none => x
  | some y => loopC go f y
def runC {σ : Type} (go : σ → Option σ) (μ : σ → Nat) (x : σ) : σ := loopC go (μ x) x
section
variable {σ : Type} {go : σ → Option σ} {μ : σ → Nat}
theorem loop_none {f : Nat} {x : σ} (h : go x = none) : loopC go (f + 1) x = x := by
 show (match go x with | none => x | some y => loopC go f y) = x
 rw [h]
theorem loop_some {f : Nat} {x y : σ} (h : go x = some y) : loopC go (f + 1) x = loopC go f y := by
 show (match go x with | none => x | some y => loopC go f y) = _
 rw [h]
theorem loop_more (hd : ∀ x y, go x = some y → μ y < μ x) : ∀ (f g : Nat) (x : σ), μ x ≤ f → μ x ≤ g → loopC go f x = loopC go g x
 | 0, 0, _, _, _ => rfl
 | 0, g + 1, x, h, _ => by
  show x = match go x with | none => x | some y => loopC go g y
  cases hg : go x with
  | none => rfl
  | some y => have := hd x y hg; omega
 | f + 1, 0, x, _, h => by
  show (match go x with | none => x | some y => loopC go f y) = x
  cases hg : go x with
  | none => rfl
  | some y => have := hd x y hg; omega
 | f + 1, g + 1, x, h1, h2 => by
  show (match go x with | none => x | some y => loopC go f y) = match go x with | none => x | some y => loopC go g y
  cases hg : go x with
  | none => rfl
  | some y => have := hd x y hg; exact loop_more hd f g y (by omega) (by omega)
theorem run_go (hd : ∀ x y, go x = some y → μ y < μ x) {x y : σ} (h : go x = some y) : runC go μ x = runC go μ y := by
 have := hd x y h
 unfold runC
 obtain ⟨k, hk⟩ : ∃ k, μ x = k + 1 := ⟨μ x - 1, by omega⟩
 rw [hk]
 show (match go x with | none => x | some y => loopC go k y) = _
 rw [h]
 exact loop_more hd _ _ y (by omega) (Nat.le_refl _)
theorem run_stop {x : σ} (h : go x = none) : runC go μ x = x := by
 unfold runC
 cases μ x with
 | zero => rfl
 | succ k => show (match go x with | none => x | some y => loopC go k y) = x; rw [h]
end
def leftC (s : Cur) : Nat := if s.e = 0 then s.ws.length else 0
theorem left_fail {x : Int} (hx : x ≠ 0) (s : Cur) : leftC (failC x s) = 0 := by
 unfold failC
 by_cases h : s.e ≠ 0 ∨ x = 0
 ·rw [if_pos h]
  unfold leftC
  rw [if_neg (by rcases h with h | h; exact h; exact absurd h hx)]
 ·rw [if_neg h]
  split <;> (unfold leftC; rw [if_neg hx])
theorem left_pop (s : Cur) : leftC (popC s) = leftC s - 1 := by
 unfold leftC popC
 simp only
 split
 ·rw [List.length_tail]
 ·rfl
theorem left_num (lo hi : Int) (s : Cur) : leftC (numC lo hi s).2 ≤ leftC s - 1 := by
 unfold numC
 split
 ·split
  ·split
   ·rw [left_fail (by decide)]; omega
   ·rw [left_pop]; omega
  ·rw [left_fail (by decide)]; omega
 ·rw [left_fail (by decide)]; omega
theorem left_name (s : Cur) : leftC (nameC s).2 ≤ leftC s - 1 := by
 unfold nameC
 split
 ·split
  ·rw [left_pop]; omega
  ·rw [left_fail (by decide)]; omega
 ·rw [left_fail (by decide)]; omega
theorem left_is {v : Has} {s : Cur} (h : isC v s = true) : 1 ≤ leftC s := by
 unfold isC headC at h
 by_cases he : s.e = 0
 ·rw [if_pos he] at h
  unfold leftC
  rw [if_pos he]
  cases hw : s.ws with
  | nil => rw [hw] at h; cases h
  | cons x l => simp
 ·rw [if_neg he] at h; cases h
theorem left_ends {s : Cur} (h : endsC s = false) : 1 ≤ leftC s := by
 unfold endsC headC at h
 by_cases he : s.e = 0
 ·rw [if_pos he] at h
  unfold leftC
  rw [if_pos he]
  cases hw : s.ws with
  | nil => rw [hw] at h; cases h
  | cons x l => simp
 ·rw [if_neg he] at h; cases h
def kindC : List ByteArray → Nat → Cur → Nat × Cur
 | [], _, s => (0, s)
 | t :: l, k, s => if isC (.nm t) s = true then (k, popC s) else kindC l (k + 1) s
end Go.Proofs.YtljglhaeonbfoaaGreatDoor
namespace Go.Proofs.YtljglhaeonbfoaaGreatDoor
open Go.RowKit
theorem itoa_sz28 (n : Int) (h : InI n) : (itoaB n).size ≤ 21 := by
 have := Lib.itoa_length_le n h.1 h.2
 unfold itoaB
 show (Lib.itoa n).toArray.size ≤ 21
 simpa using this
section
variable {a b : Cur}
end
end Go.Proofs.YtljglhaeonbfoaaGreatDoor
namespace Go.Proofs.YtljglhaeonbfoaaGreatDoor
end Go.Proofs.YtljglhaeonbfoaaGreatDoor
