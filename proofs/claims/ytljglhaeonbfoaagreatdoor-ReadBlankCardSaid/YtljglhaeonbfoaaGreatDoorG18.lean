/- law28: certificates as plain data: what words name, what a text tells, which of two facts is ahead. laws 04, 07: plain: what the texts of law28 hold that no certificate needs, parted from them (BK2, BK5, BK6, BK15 to BK18, P28): not to be imported beside them. law04: plain: a text with more blanks between its words, and more ends, remarks behind its lines lexes alike. -/
import Derived.Test.YtljglhaeonbfoaaGreatDoorG15
import Derived.Test.YtljglhaeonbfoaaGreatDoorG12
import Derived.Test.YtljglhaeonbfoaaGreatDoorL2i
import Derived.Test.YtljglhaeonbfoaaGreatDoorG20
import Derived.Test.YtljglhaeonbfoaaGreatDoorG17
import Derived.Lib.ItoaLen
set_option linter.unusedSimpArgs false
set_option linter.unusedVariables false
namespace Go.Proofs.YtljglhaeonbfoaaGreatDoor
def digW (b : UInt8) : Bool := decide (48 ≤ b.toNat) && decide (b.toNat ≤ 57)
def numW (c : UInt8) (most : Nat) (s : ByteArray) : Option Nat :=
 match s.data.toList with
 | [] => none
 | x :: l => if (x == c && !l.isEmpty && decide (l.length ≤ 4) && l.all digW && (decide (l.length = 1) || !(l.head? == some 48)) && decide (spell 0 l < most)) = true then some (spell 0 l) else none
def keyB (c : UInt8) (n : Nat) : ByteArray := ⟨(c :: Lib.decDigits n).toArray⟩
theorem head_dec : ∀ (u : Nat), 1 ≤ u → (Lib.decDigits u).head? ≠ some 48 := by
 intro u
 induction u using Nat.strongRecOn with
 | _ u ih =>
  intro h1
  by_cases h : u < 10
  ·rw [Lib.decDigits_one h]
   intro e
   injection e with e
   have := congrArg UInt8.toNat e
   rw [ofNat_toNat (by omega)] at this
   simp at this
   omega
  ·rw [Lib.decDigits, dif_neg h]
   have i3 := (can_dec (u / 10)).2.2
   have := ih (u / 10) (by omega) (by omega)
   cases hd : Lib.decDigits (u / 10) with
   | nil => exact absurd hd i3
   | cons x l => rw [hd] at this; simpa using this
theorem dec_len {u : Nat} : (Lib.decDigits u).length = if u < 10 then 1 else (Lib.decDigits (u / 10)).length + 1 := by
 by_cases h : u < 10
 ·rw [Lib.decDigits_one h, if_pos h]; rfl
 ·rw [Lib.decDigits, dif_neg h, if_neg h, List.length_append]; rfl
theorem dec_len4 {u : Nat} (h : u < 1000) : (Lib.decDigits u).length ≤ 3 := by
 rw [dec_len]
 split
 ·omega
 ·rw [dec_len]
  split
  ·omega
  ·rw [dec_len, if_pos (by omega)]; decide
theorem digW_iff (l : List UInt8) : l.all digW = true ↔ DigB l := by
 unfold digW DigB
 simp
theorem numW_key {c : UInt8} {n most : Nat} (h : n < most) (hm : most ≤ 1000) : numW c most (keyB c n) = some n := by
 obtain ⟨h1, h2, h3⟩ := can_dec n
 have h4 : (Lib.decDigits n).length = 1 ∨ (Lib.decDigits n).head? ≠ some 48 := by
  by_cases h0 : n < 10
  ·exact .inl (by rw [dec_len, if_pos h0])
  ·exact .inr (head_dec n (by omega))
 have h5 := dec_len4 (show n < 1000 by omega)
 unfold numW keyB
 simp only
 rw [if_pos]
 ·rw [h2]
 ·have e1 : (Lib.decDigits n).isEmpty = false := by cases hd : Lib.decDigits n <;> simp_all
  have e2 := (digW_iff _).2 h1
  have e3 : (decide ((Lib.decDigits n).length = 1) || !((Lib.decDigits n).head? == some 48)) = true := by
   rcases h4 with h | h
   ·simp [h]
   ·have : ((Lib.decDigits n).head? == some 48) = false := by simpa using h
    rw [this]; simp
  rw [e1, e2, e3, h2]
  simp
  omega
theorem numW_inv {c : UInt8} {n most : Nat} {s : ByteArray} (h : numW c most s = some n) : s = keyB c n ∧ n < most := by
 unfold numW at h
 split at h
 ·cases h
 ·rename_i x l hl
  split at h
  ·rename_i hc
   injection h with h
   simp only [Bool.and_eq_true, Bool.or_eq_true, decide_eq_true_eq, Bool.not_eq_true', beq_iff_eq, digW_iff] at hc
   obtain ⟨⟨⟨⟨⟨h1, h2⟩, h3⟩, h4⟩, h5⟩, h6⟩ := hc
   have hne : l ≠ [] := by intro e; rw [e] at h2; cases h2
   have hcan := (dec_can l.length l rfl h4 hne (by
    rcases h5 with h5 | h5
    ·exact .inl h5
    ·exact .inr (by simpa using h5))).1
   rw [h] at hcan h6
   refine ⟨?_, h6⟩
   apply bytes_ext
   unfold keyB
   rw [hl, hcan, h1]
  ·cases h
def loopC {σ : Type} (go : σ → Option σ) : Nat → σ → σ
 | 0, x => x
 | f + 1, x => match go x with
  | none => x
  | some y => loopC go f y
def runC {σ : Type} (go : σ → Option σ) (μ : σ → Nat) (x : σ) : σ := loopC go (μ x) x
section
variable {σ : Type} {go : σ → Option σ} {μ : σ → Nat}
theorem loop_none {f : Nat} {x : σ} (h : go x = none) : loopC go (f + 1) x = x := by
 show (match go x with | none => x | some y => loopC go f y) = x
 rw [h]
theorem loop_some {f : Nat} {x y : σ} (h : go x = some y) : loopC go (f + 1) x = loopC go f y := by
 show (match go x with | none => x | some y => loopC go f y) = _
 rw [h]
theorem loop_more (hd : ∀ x y, go x = some y → μ y < μ x) : ∀ (f g : Nat) (x : σ), μ x ≤ f → μ x ≤ g → loopC go f x = loopC go g x
 | 0, 0, _, _, _ => rfl
 | 0, g + 1, x, h, _ => by
  show x = match go x with | none => x | some y => loopC go g y
  cases hg : go x with
  | none => rfl
  | some y => have := hd x y hg; omega
 | f + 1, 0, x, _, h => by
  show (match go x with | none => x | some y => loopC go f y) = x
  cases hg : go x with
  | none => rfl
  | some y => have := hd x y hg; omega
 | f + 1, g + 1, x, h1, h2 => by
  show (match go x with | none => x | some y => loopC go f y) = match go x with | none => x | some y => loopC go g y
  cases hg : go x with
  | none => rfl
  | some y => have := hd x y hg; exact loop_more hd f g y (by omega) (by omega)
theorem run_go (hd : ∀ x y, go x = some y → μ y < μ x) {x y : σ} (h : go x = some y) : runC go μ x = runC go μ y := by
 have := hd x y h
 unfold runC
 obtain ⟨k, hk⟩ : ∃ k, μ x = k + 1 := ⟨μ x - 1, by omega⟩
 rw [hk]
 show (match go x with | none => x | some y => loopC go k y) = _
 rw [h]
 exact loop_more hd _ _ y (by omega) (Nat.le_refl _)
theorem run_stop {x : σ} (h : go x = none) : runC go μ x = x := by
 unfold runC
 cases μ x with
 | zero => rfl
 | succ k => show (match go x with | none => x | some y => loopC go k y) = x; rw [h]
end
def leftC (s : Cur) : Nat := if s.e = 0 then s.ws.length else 0
theorem left_fail {x : Int} (hx : x ≠ 0) (s : Cur) : leftC (failC x s) = 0 := by
 unfold failC
 by_cases h : s.e ≠ 0 ∨ x = 0
 ·rw [if_pos h]
  unfold leftC
  rw [if_neg (by rcases h with h | h; exact h; exact absurd h hx)]
 ·rw [if_neg h]
  split <;> (unfold leftC; rw [if_neg hx])
theorem left_pop (s : Cur) : leftC (popC s) = leftC s - 1 := by
 unfold leftC popC
 simp only
 split
 ·rw [List.length_tail]
 ·rfl
theorem left_num (lo hi : Int) (s : Cur) : leftC (numC lo hi s).2 ≤ leftC s - 1 := by
 unfold numC
 split
 ·split
  ·split
   ·rw [left_fail (by decide)]; omega
   ·rw [left_pop]; omega
  ·rw [left_fail (by decide)]; omega
 ·rw [left_fail (by decide)]; omega
theorem left_name (s : Cur) : leftC (nameC s).2 ≤ leftC s - 1 := by
 unfold nameC
 split
 ·split
  ·rw [left_pop]; omega
  ·rw [left_fail (by decide)]; omega
 ·rw [left_fail (by decide)]; omega
theorem left_mark : ∀ (l : List ByteArray) (s : Cur), leftC (markC l s) ≤ leftC s
 | [], _ => Nat.le_refl _
 | t :: l, s => by
  unfold markC
  refine Nat.le_trans (left_mark l _) ?_
  split
  ·rw [left_pop]; omega
  ·rw [left_fail (by decide)]; omega
theorem left_end (s : Cur) : leftC (endC s) ≤ leftC s := by
 unfold endC
 split
 ·split
  ·rw [left_pop]; omega
  ·rw [left_fail (by decide)]; omega
 ·exact Nat.le_refl _
theorem left_is {v : Has} {s : Cur} (h : isC v s = true) : 1 ≤ leftC s := by
 unfold isC headC at h
 by_cases he : s.e = 0
 ·rw [if_pos he] at h
  unfold leftC
  rw [if_pos he]
  cases hw : s.ws with
  | nil => rw [hw] at h; cases h
  | cons x l => simp
 ·rw [if_neg he] at h; cases h
theorem left_ends {s : Cur} (h : endsC s = false) : 1 ≤ leftC s := by
 unfold endsC headC at h
 by_cases he : s.e = 0
 ·rw [if_pos he] at h
  unfold leftC
  rw [if_pos he]
  cases hw : s.ws with
  | nil => rw [hw] at h; cases h
  | cons x l => simp
 ·rw [if_neg he] at h; cases h
def kindC : List ByteArray → Nat → Cur → Nat × Cur
 | [], _, s => (0, s)
 | t :: l, k, s => if isC (.nm t) s = true then (k, popC s) else kindC l (k + 1) s
end Go.Proofs.YtljglhaeonbfoaaGreatDoor
namespace Go.Proofs.YtljglhaeonbfoaaGreatDoor
open Go.RowKit
theorem itoa_sz28 (n : Int) (h : InI n) : (itoaB n).size ≤ 21 := by
 have := Lib.itoa_length_le n h.1 h.2
 unfold itoaB
 show (Lib.itoa n).toArray.size ≤ 21
 simpa using this
theorem key_runes28 {c : UInt8} (hc : c.toNat < 128) (n : Nat) : keyB c n = runesBytes (runesOf (c :: Lib.decDigits n)) := by
 apply bytes_ext
 rw [runesOf_bytes]
 ·unfold keyB; simp
 ·intro b hb
  rcases List.mem_cons.1 hb with rfl | hb
  ·exact hc
  ·exact (can_dec n).1.low b hb
theorem right_key28 {c : UInt8} (hc : c.toNat < 128) (hl : isL (c.toNat : Int) = true) {n : Nat} (hn : n < 1000) : rightW (nmW (keyB c n)) = true := by
 have hld : ∀ x ∈ runesOf (c :: Lib.decDigits n), isLD x = true := by
  intro x hx
  rw [show runesOf (c :: Lib.decDigits n) = (c.toNat : Int) :: runesOf (Lib.decDigits n) from rfl] at hx
  rcases List.mem_cons.1 hx with rfl | hx
  ·unfold isLD; rw [hl]; rfl
  ·have := (can_dec n).1.isD x hx
   unfold isLD; rw [this]; simp
 have hi : items (keyB c n) 0 = runesOf (c :: Lib.decDigits n) := by
  rw [key_runes28 hc]
  exact items_of_runes _ fun x hx => LD_VR (hld x hx)
 unfold rightW
 rw [if_pos rfl]
 show ((0 : Int) == 0 && isNameR 0 (items (keyB c n) 0)) = true
 rw [hi, (isNameR_iff _ 0).2 ⟨fun _ => by show isL (c.toNat : Int) = true; exact hl, hld, by simp [runesOf], by
  have := dec_len4 hn
  simp only [runesOf, List.map_cons, List.length_cons, List.length_map]
  omega⟩]
 rfl
theorem loop_sim28 {σ : Type} {go : σ → Option σ} (R : σ → σ → Prop) (hgo : ∀ x y, R x y → (go x = none ∧ go y = none) ∨ ∃ x' y', go x = some x' ∧ go y = some y' ∧ R x' y') : ∀ (f : Nat) {x y : σ}, R x y → R (loopC go f x) (loopC go f y)
 | 0, _, _, h => h
 | f + 1, x, y, h => by
  rcases hgo x y h with ⟨h1, h2⟩ | ⟨x', y', h1, h2, h3⟩
  ·rw [loop_none h1, loop_none h2]; exact h
  ·rw [loop_some h1, loop_some h2]; exact loop_sim28 R hgo f h3
theorem run_sim28 {σ : Type} {go : σ → Option σ} {μ : σ → Nat} (R : σ → σ → Prop) (hgo : ∀ x y, R x y → (go x = none ∧ go y = none) ∨ ∃ x' y', go x = some x' ∧ go y = some y' ∧ R x' y') (hμ : ∀ x y, R x y → μ x = μ y) {x y : σ} (h : R x y) : R (runC go μ x) (runC go μ y) := by
 unfold runC
 rw [hμ x y h]
 exact loop_sim28 R hgo _ h
section
variable {a b : Cur}
theorem CurSim.ends28 (h : CurSim a b) : endsC a = endsC b := by
 unfold endsC
 rcases h.head with ⟨h1, h2⟩ | ⟨x, y, h1, h2, h3⟩
 ·rw [h1, h2]
 ·rw [h1, h2]; simp only [(core_parts h3).1]
theorem CurSim.peek28 (h : CurSim a b) : peekC a = peekC b := by
 unfold peekC
 rcases h.head with ⟨h1, h2⟩ | ⟨x, y, h1, h2, h3⟩
 ·rw [h1, h2]
 ·rw [h1, h2]; simp only [(core_parts h3).1, (core_parts h3).2.1]
theorem CurSim.left28 (h : CurSim a b) : leftC a = leftC b := by
 have h1 := congrArg List.length h.1
 rw [List.length_map, List.length_map] at h1
 unfold leftC
 rw [h.2, h1]
end
theorem kind_sim28 : ∀ (l : List ByteArray) (k : Nat) {a b : Cur}, CurSim a b → (kindC l k a).1 = (kindC l k b).1 ∧ CurSim (kindC l k a).2 (kindC l k b).2
 | [], _, _, _, h => ⟨rfl, h⟩
 | t :: l, k, a, b, h => by
  unfold kindC
  rw [h.is]
  split
  ·exact ⟨rfl, h.pop⟩
  ·exact kind_sim28 l (k + 1) h
def SimL28 {α : Type} (x y : α × Cur) : Prop := x.1 = y.1 ∧ CurSim x.2 y.2
theorem fail_e28 {x : Int} (hx : x ≠ 0) (s : Cur) : (failC x s).e ≠ 0 := by
 unfold failC
 split
 ·rename_i h; rcases h with h | h; exact h; exact absurd h hx
 ·split <;> exact hx
theorem num_ok28 {lo hi : Int} {s : Cur} (h : (numC lo hi s).2.e = 0) : s.e = 0 ∧ lo ≤ (numC lo hi s).1 ∧ (numC lo hi s).1 ≤ hi ∧ leftC (numC lo hi s).2 + 1 = leftC s := by
 unfold numC headC at h ⊢
 by_cases he : s.e = 0
 ·rw [if_pos he] at h ⊢
  cases hw : s.ws with
  | nil => rw [hw] at h; exact absurd h (fail_e28 (by decide) s)
  | cons w l =>
   rw [hw] at h
   simp only [List.head?_cons] at h ⊢
   by_cases hk : w.kind = 2
   ·rw [if_pos hk] at h ⊢
    by_cases hr : w.n < lo ∨ hi < w.n
    ·rw [if_pos hr] at h; exact absurd h (fail_e28 (by decide) s)
    ·rw [if_neg hr]
     refine ⟨he, by omega, by omega, ?_⟩
     unfold leftC popC
     simp only
     rw [if_pos he, if_pos he, hw]
     rfl
   ·rw [if_neg hk] at h; exact absurd h (fail_e28 (by decide) s)
 ·rw [if_neg he] at h; exact absurd h (fail_e28 (by decide) s)
theorem name_ok28 {s : Cur} (h : (nameC s).2.e = 0) : s.e = 0 ∧ leftC (nameC s).2 + 1 = leftC s := by
 unfold nameC headC at h ⊢
 by_cases he : s.e = 0
 ·rw [if_pos he] at h ⊢
  cases hw : s.ws with
  | nil => rw [hw] at h; exact absurd h (fail_e28 (by decide) s)
  | cons w l =>
   rw [hw] at h
   simp only [List.head?_cons] at h ⊢
   by_cases hk : w.kind = 1
   ·rw [if_pos hk]
    refine ⟨he, ?_⟩
    unfold leftC popC
    simp only
    rw [if_pos he, if_pos he, hw]
    rfl
   ·rw [if_neg hk] at h; exact absurd h (fail_e28 (by decide) s)
 ·rw [if_neg he] at h; exact absurd h (fail_e28 (by decide) s)
theorem pop_left28 {v : Has} {s : Cur} (h : isC v s = true) : s.e = 0 ∧ leftC (popC s) + 1 = leftC s := by
 have h1 := left_is h
 have h2 := left_pop s
 refine ⟨?_, by omega⟩
 unfold isC headC at h
 by_cases he : s.e = 0
 ·exact he
 ·rw [if_neg he] at h; cases h
theorem mark_ok28 {t : ByteArray} {s : Cur} (h : (markC [t] s).e = 0) : s.e = 0 ∧ leftC (markC [t] s) + 1 = leftC s := by
 unfold markC markC at h ⊢
 by_cases hi : isC (.mk t) s = true
 ·rw [if_pos hi] at h ⊢
  exact pop_left28 hi
 ·rw [if_neg hi] at h; exact absurd h (fail_e28 (by decide) s)
theorem end_ok28 {s : Cur} (h : (endC s).e = 0) : s.e = 0 ∧ leftC (endC s) ≤ leftC s := by
 refine ⟨?_, left_end s⟩
 unfold endC at h
 split at h
 ·split at h
  ·exact h
  ·exact absurd h (fail_e28 (by decide) s)
 ·exact h
theorem kind_ok28 : ∀ (l : List ByteArray) (k : Nat) (s : Cur), (kindC l k s).2.e = s.e ∧ ((kindC l k s).1 = 0 ∨ (k ≤ (kindC l k s).1 ∧ (kindC l k s).1 < k + l.length ∧ leftC (kindC l k s).2 + 1 = leftC s))
 | [], _, _ => ⟨rfl, .inl rfl⟩
 | t :: l, k, s => by
  unfold kindC
  by_cases hi : isC (.nm t) s = true
  ·rw [if_pos hi]
   exact ⟨rfl, .inr ⟨Nat.le_refl _, by simp, (pop_left28 hi).2⟩⟩
  ·rw [if_neg hi]
   obtain ⟨h1, h2⟩ := kind_ok28 l (k + 1) s
   refine ⟨h1, ?_⟩
   rcases h2 with h2 | ⟨h2, h3, h4⟩
   ·exact .inl h2
   ·exact .inr ⟨by omega, by simp only [List.length_cons]; omega, h4⟩
theorem NumT.sp {t : List Int} (h : NumT t) {x : Int} (hx : x ∈ t) : x ≠ 32 := by
 obtain ⟨d, _, hd, h⟩ := h
 rintro rfl
 rcases h with rfl | rfl
 ·exact absurd (hd _ hx) (by decide)
 ·rcases List.mem_cons.1 hx with h | h
  ·exact absurd h (by decide)
  ·exact absurd (hd _ h) (by decide)
theorem enc_sp {c : Int} (h : VR c) (hc : c ≠ 32) : ∀ x ∈ (Utf8.encode c).data.toList, x ≠ 32 := by
 obtain ⟨n, rfl⟩ : ∃ n : Nat, c = n := ⟨c.toNat, by unfold VR at h; omega⟩
 unfold VR at h
 intro x hx e
 have h10 : x.toNat = 32 := by rw [e]; rfl
 by_cases h1 : n < 128
 ·rw [enc1 h1] at hx
  simp only [List.mem_cons, List.not_mem_nil, or_false] at hx
  rw [hx, ofNat_toNat (by omega)] at h10; omega
 by_cases h2 : n < 2048
 ·rw [enc2 (by omega) h2] at hx
  simp only [List.mem_cons, List.not_mem_nil, or_false] at hx
  rcases hx with hx | hx <;> rw [hx, ofNat_toNat (by omega)] at h10 <;> omega
 by_cases h3 : n < 65536
 ·rw [enc3 (by omega) h3 (by omega)] at hx
  simp only [List.mem_cons, List.not_mem_nil, or_false] at hx
  rcases hx with hx | hx | hx <;> rw [hx, ofNat_toNat (by omega)] at h10 <;> omega
 ·rw [enc4 (c := n) (by omega) (by omega)] at hx
  simp only [List.mem_cons, List.not_mem_nil, or_false] at hx
  rcases hx with hx | hx | hx | hx <;> rw [hx, ofNat_toNat (by omega)] at h10 <;> omega
theorem enc32 : (Utf8.encode 32).data.toList = [32] := enc1 (c := 32) (by decide)
theorem sp_bytesq : mkB [32, 9, 32] = runesBytes [32, 9, 32] := by
 apply bytes_ext; rw [mkB_list, runesBytes_list]; decide +kernel
theorem CurSim.symm28 {a b : Cur} (h : CurSim a b) : CurSim b a := ⟨h.1.symm, h.2.symm⟩
theorem CurSim.trans28 {a b c : Cur} (h : CurSim a b) (g : CurSim b c) : CurSim a c := ⟨h.1.trans g.1, h.2.trans g.2⟩
end Go.Proofs.YtljglhaeonbfoaaGreatDoor
namespace Go.Proofs.YtljglhaeonbfoaaGreatDoor
def wx1 (c : Int) : List Int := if c = 10 then [10, 32, 59, 32, 8592, 32, 945, 10, 10, 9] else if c = 32 then [32, 9, 32] else [c]
def wxL (l : List Int) : List Int := l.flatMap wx1
theorem wxL_nil : wxL [] = [] := rfl
theorem wxL_cons (c : Int) (l : List Int) (h : c ≠ 10) (h2 : c ≠ 32) : wxL (c :: l) = c :: wxL l := by unfold wxL; rw [List.flatMap_cons]; unfold wx1; rw [if_neg h, if_neg h2]; rfl
theorem wxL_ten (l : List Int) : wxL (10 :: l) = 10 :: 32 :: 59 :: 32 :: 8592 :: 32 :: 945 :: 10 :: 10 :: 9 :: wxL l := by unfold wxL; rw [List.flatMap_cons]; rfl
theorem wxL_sp (l : List Int) : wxL (32 :: l) = 32 :: 9 :: 32 :: wxL l := by unfold wxL; rw [List.flatMap_cons]; rfl
theorem wxL_keep : ∀ (t l : List Int), (∀ x ∈ t, x ≠ 10 ∧ x ≠ 32) → wxL (t ++ l) = t ++ wxL l
 | [], l, _ => rfl
 | c :: t, l, h => by rw [List.cons_append, wxL_cons _ _ (h c (by simp)).1 (h c (by simp)).2, wxL_keep t l fun x hx => h x (by simp [hx])]; rfl
theorem wxL_head {l : List Int} {c : Int} {r : List Int} (h : wxL l = c :: r) : (∃ t, l = c :: t) ∨ c = 32 := by
 cases l with
 | nil => rw [wxL_nil] at h; cases h
 | cons a l =>
  by_cases ha : a = 10
  ·subst ha; rw [wxL_ten] at h; injection h with h1 _; exact .inl ⟨l, by rw [← h1]⟩
  by_cases hb : a = 32
  ·subst hb; rw [wxL_sp] at h; injection h with h1 _; exact .inr h1.symm
  ·rw [wxL_cons _ _ ha hb] at h; injection h with h1 _; exact .inl ⟨l, by rw [h1]⟩
theorem wxL_while (p : Int → Bool) (hp : p 10 = false) (hq : p 32 = false) : ∀ (l : List Int), (wxL l).takeWhile p = l.takeWhile p
 | [] => rfl
 | c :: l => by
  by_cases hc : c = 10
  ·subst hc; rw [wxL_ten, List.takeWhile_cons_of_neg (by simp [hp]), List.takeWhile_cons_of_neg (by simp [hp])]
  by_cases hd : c = 32
  ·subst hd; rw [wxL_sp, List.takeWhile_cons_of_neg (by simp [hq]), List.takeWhile_cons_of_neg (by simp [hq])]
  ·rw [wxL_cons _ _ hc hd, List.takeWhile_cons, List.takeWhile_cons, wxL_while p hp hq l]
theorem wxL_headL (l : List Int) : headL (wxL l) = headL l := by
 cases l with
 | nil => rfl
 | cons a l =>
  by_cases ha : a = 10
  ·subst ha; rw [wxL_ten]; rfl
  by_cases hb : a = 32
  ·subst hb; rw [wxL_sp]; rfl
  ·rw [wxL_cons _ _ ha hb]; rfl
theorem numLen_wx (c : Int) (t : List Int) (hc : c ≠ 10) (hd : c ≠ 32) : numLen (c :: wxL t) = numLen (c :: t) := by
 have h := wxL_while isD (by decide) (by decide) (c :: t)
 rw [wxL_cons _ _ hc hd] at h
 rw [numLen_cons, numLen_cons, h, wxL_while isD (by decide) (by decide) t]
theorem wx_sim : ∀ (f : Nat) (line col line' col' : Int) (rem : Bool) (L : List Int) (acc acc' : List Word) (f' : Nat), L.length < f → (wxL L).length < f' → RelW acc acc' → SimR (refL f line col rem L acc) (refL f' line' col' rem (wxL L) acc')
 | 0, _, _, _, _, _, _, _, _, _, h, _, _ => by omega
 | f + 1, line, col, line', col', rem, [], acc, acc', f', _, h', hr => by
  cases f' with
  | zero => simp at h'
  | succ f' => exact ⟨rfl, fun _ => hr⟩
 | f + 1, line, col, line', col', rem, c :: t, acc, acc', f', hf, hf', hr => by
  have hft : t.length < f := by simp at hf; omega
  by_cases h10 : c = 10
  ·subst h10
   rw [wxL_ten] at hf' ⊢
   obtain ⟨g, rfl⟩ : ∃ g, f' = g + 10 := ⟨f' - 10, by simp at hf'; omega⟩
   rw [refL_cons, if_neg (by decide), if_pos rfl]
   rw [refL_cons, if_neg (by decide), if_pos rfl]
   rw [refL_cons, if_neg (by decide), if_neg (by decide), if_pos (.inr (.inl (by decide)))]
   rw [refL_cons, if_neg (by decide), if_neg (by decide), if_pos (.inr (.inr rfl))]
   rw [refL_cons, if_neg (by decide), if_neg (by decide), if_pos (.inl (by simp))]
   rw [refL_cons, if_neg (by decide), if_neg (by decide), if_pos (.inl (by simp))]
   rw [refL_cons, if_neg (by decide), if_neg (by decide), if_pos (.inl (by simp))]
   rw [refL_cons, if_neg (by decide), if_neg (by decide), if_pos (.inl (by simp))]
   rw [refL_cons, if_neg (by decide), if_pos rfl]
   rw [refL_cons, if_neg (by decide), if_pos rfl]
   rw [refL_cons, if_neg (by decide), if_neg (by decide), if_pos (.inr (.inl (by decide)))]
   refine wx_sim f _ _ _ _ false t _ _ _ hft (by simp at hf'; omega) ?_
   refine RelW.more (RelW.more (hr.snoc rfl) ?_ rfl) ?_ rfl
   ·rw [lastE_snoc]; rfl
   ·rw [lastE_snoc]; rfl
  by_cases h32 : c = 32
  ·subst h32
   rw [wxL_sp] at hf' ⊢
   obtain ⟨g, rfl⟩ : ∃ g, f' = g + 3 := ⟨f' - 3, by simp at hf'; omega⟩
   rw [refL_cons, if_neg (by decide), if_neg (by decide), if_pos (.inr (.inl (by decide)))]
   rw [refL_cons, if_neg (by decide), if_neg (by decide), if_pos (.inr (.inl (by decide)))]
   rw [refL_cons, if_neg (by decide), if_neg (by decide), if_pos (.inr (.inl (by decide)))]
   rw [refL_cons, if_neg (by decide), if_neg (by decide), if_pos (.inr (.inl (by decide)))]
   have e1 : (rem || (32 : Int) == 59) = rem := by simp
   have e2 : (rem || (9 : Int) == 59) = rem := by simp
   rw [e1, e2, e1]
   exact wx_sim f _ _ _ _ rem t _ _ _ hft (by simp at hf'; omega) hr
  obtain ⟨g, rfl⟩ : ∃ g, f' = g + 1 := ⟨f' - 1, by omega⟩
  by_cases h0 : c < 0
  ·rw [wxL_cons _ _ h10 h32, refL_cons, if_pos h0, refL_cons, if_pos h0]
   exact sim_err _ _ _ _ _ (by decide)
  by_cases hs : rem = true ∨ isB c = true ∨ c = 59
  ·rw [wxL_cons _ _ h10 h32] at hf' ⊢
   rw [refL_cons, if_neg h0, if_neg h10, if_pos hs, refL_cons, if_neg h0, if_neg h10, if_pos hs]
   exact wx_sim f _ _ _ _ _ t _ _ _ hft (by simp at hf'; omega) hr
  obtain rfl : rem = false := by
   cases rem
   ·rfl
   ·exact absurd (.inl rfl) hs
  by_cases hn : 0 < numLen (c :: t)
  ·obtain ⟨u, r, e, hu, hrr⟩ := numLen_split hn
   rw [e] at hf hf' ⊢
   have hlen := hu.ne
   have hu10 : ∀ x ∈ u, x ≠ 10 ∧ x ≠ 32 := fun x hx => ⟨hu.ten hx, hu.sp hx⟩
   rw [wxL_keep u r hu10] at hf' ⊢
   rw [refL_num hu hrr, refL_num hu (fun c l' e => by rcases wxL_head e with ⟨t, ht⟩ | rfl; exact hrr c t ht; decide), wxL_headL]
   split
   ·exact sim_err _ _ _ _ _ (by decide)
   split
   ·exact sim_err _ _ _ _ _ (by decide)
   exact wx_sim f _ _ _ _ _ r _ _ _ (by rw [List.length_append] at hf; omega) (by rw [List.length_append] at hf'; omega) (hr.snoc rfl)
  by_cases hL : isL c = true
  ·obtain ⟨r, e, hrr⟩ := takeWhile_split isLD (c :: t)
   obtain ⟨u, hu⟩ : ∃ u, (c :: t).takeWhile isLD = u := ⟨_, rfl⟩
   have hm : ∀ x ∈ u, isLD x = true := by rw [← hu]; exact takeWhile_mem1
   have hh : headL u = true := by rw [← hu, List.takeWhile_cons, show isLD c = true by simp [isLD, hL]]; exact hL
   rw [hu] at e
   rw [e] at hf hf' ⊢
   have hlen : 0 < u.length := by cases u <;> simp_all [headL]
   rw [wxL_keep u r (fun x hx => ⟨by rintro rfl; exact absurd (hm _ hx) (by decide), by rintro rfl; exact absurd (hm _ hx) (by decide)⟩)] at hf' ⊢
   rw [refL_name hh hm hrr, refL_name hh hm (fun c l' e => by rcases wxL_head e with ⟨t, ht⟩ | rfl; exact hrr c t ht; decide)]
   split
   ·exact sim_err _ _ _ _ _ (by decide)
   exact wx_sim f _ _ _ _ _ r _ _ _ (by rw [List.length_append] at hf; omega) (by rw [List.length_append] at hf'; omega) (hr.snoc rfl)
  ·rw [wxL_cons _ _ h10 h32] at hf' ⊢
   rw [refL_cons, if_neg h0, if_neg h10, if_neg hs, if_neg hn, if_neg hL, refL_cons g, if_neg h0, if_neg h10, if_neg hs, if_neg (show ¬ 0 < numLen (c :: wxL t) by rw [numLen_wx _ _ h10 h32]; exact hn), if_neg hL]
   split
   ·exact sim_err _ _ _ _ _ (by decide)
   exact wx_sim f _ _ _ _ _ t _ _ _ hft (by simp at hf'; omega) (hr.snoc rfl)
def wxb1 (b : UInt8) : List UInt8 := if b = 10 then [10, 32, 59, 32, 226, 134, 144, 32, 206, 177, 10, 10, 9] else if b = 32 then [32, 9, 32] else [b]
def wxB (l : List UInt8) : List UInt8 := l.flatMap wxb1
theorem wxB_append (a b : List UInt8) : wxB (a ++ b) = wxB a ++ wxB b := by unfold wxB; rw [List.flatMap_append]
theorem wxB_cons (b : UInt8) (l : List UInt8) : wxB (b :: l) = wxb1 b ++ wxB l := by unfold wxB; rw [List.flatMap_cons]
theorem wxb1_head (b : UInt8) : ∃ x r, wxb1 b = x :: r ∧ (x = 32 ∨ x = b) := by
 unfold wxb1
 split
 ·rename_i h; exact ⟨_, _, rfl, .inr h.symm⟩
 ·split
  ·exact ⟨_, _, rfl, .inl rfl⟩
  ·exact ⟨_, _, rfl, .inr rfl⟩
theorem wxB_keep : ∀ (t : List UInt8), (∀ x ∈ t, x ≠ 10 ∧ x ≠ 32) → wxB t = t
 | [], _ => rfl
 | b :: t, h => by rw [wxB_cons, wxB_keep t fun x hx => h x (by simp [hx])]; unfold wxb1; rw [if_neg (h b (by simp)).1, if_neg (h b (by simp)).2]; rfl
theorem wxB_back : ∀ (t l r : List UInt8), (∀ x ∈ t, x ≠ 10 ∧ x ≠ 32) → wxB l = t ++ r → ∃ r', l = t ++ r'
 | [], l, _, _, _ => ⟨l, rfl⟩
 | b :: t, [], r, _, h => by cases h
 | b :: t, a :: l, r, ht, h => by
  rw [wxB_cons] at h
  have hb := ht b (by simp)
  by_cases ha : a = 10
  ·subst ha
   exfalso
   rw [show wxb1 10 = 10 :: [32, 59, 32, 226, 134, 144, 32, 206, 177, 10, 10, 9] from rfl] at h
   injection h with h1 _
   exact hb.1 h1.symm
  by_cases ha2 : a = 32
  ·subst ha2
   exfalso
   rw [show wxb1 32 = 32 :: [9, 32] from rfl] at h
   injection h with h1 _
   exact hb.2 h1.symm
  have hw : wxb1 a = [a] := by unfold wxb1; rw [if_neg ha, if_neg ha2]
  rw [hw] at h
  injection h with h1 h2
  subst h1
  obtain ⟨r', hr'⟩ := wxB_back t l r (fun x hx => ht x (by simp [hx])) h2
  exact ⟨r', by rw [hr']; rfl⟩
theorem ten_bytesx : mkB [10, 32, 59, 32, 226, 134, 144, 32, 206, 177, 10, 10, 9] = runesBytes [10, 32, 59, 32, 8592, 32, 945, 10, 10, 9] := by
 apply bytes_ext; rw [mkB_list, runesBytes_list]; decide +kernel
theorem items_wx (s : ByteArray) : ∀ (n i : Nat), s.size - i ≤ n → i ≤ s.size → items (mkB (wxB (s.data.toList.drop i))) 0 = wxL (items s i) := by
 intro n
 induction n with
 | zero =>
  intro i hn hi
  have hl : s.data.toList.drop i = [] := List.drop_eq_nil_of_le (by rw [← size_list]; omega)
  rw [hl, items_end (s := s) (pos := i) (by omega)]
  exact items_end (s := mkB (wxB [])) (by decide)
 | succ n ih =>
  intro i hn hi
  by_cases hlt : i < s.size
  ·cases hg : goodAt s i with
   | true =>
    have hw := Lib.decode_width_pos s i hlt
    have hV := decode_VR s i hg
    have henc := encode_decode hlt hg
    obtain ⟨c, hc⟩ : ∃ c : Int, ((Utf8.decode s i).1 : Int) = c := ⟨_, rfl⟩
    have hsp : s.data.toList.drop i = (Utf8.encode c).data.toList ++ s.data.toList.drop (i + (Utf8.decode s i).2) := by
     rw [← hc, henc, ← List.drop_drop, List.take_append_drop]
    have hle : i + (Utf8.decode s i).2 ≤ s.size := by
     have := encode_width hlt hg
     have hz := congrArg List.length henc
     rw [← size_list, this, List.length_take, List.length_drop, ← size_list] at hz
     omega
    rw [items_good hlt hg, hc, hsp, wxB_append, mkB_append]
    rw [hc] at hV
    have hrec := ih (i + (Utf8.decode s i).2) (by omega) hle
    by_cases h10 : c = 10
    ·subst h10
     rw [wxL_ten, show wxB (Utf8.encode 10).data.toList = [10, 32, 59, 32, 226, 134, 144, 32, 206, 177, 10, 10, 9] by rw [enc10]; decide, ten_bytesx, items_runes _ _ (by intro x hx; simp only [List.mem_cons, List.not_mem_nil, or_false] at hx; unfold VR; omega), hrec]; rfl
    by_cases h32 : c = 32
    ·subst h32
     rw [wxL_sp, show wxB (Utf8.encode 32).data.toList = [32, 9, 32] by rw [enc32]; decide, sp_bytesq, items_runes _ _ (by intro x hx; simp only [List.mem_cons, List.not_mem_nil, or_false] at hx; unfold VR; omega), hrec]; rfl
    ·rw [wxL_cons _ _ h10 h32, wxB_keep _ (fun x hx => ⟨enc_ten hV h10 x hx, enc_sp hV h32 x hx⟩), mkB_enc, items_enc hV, hrec]
   | false =>
    rw [items_bad hlt hg, wxL_cons _ _ (by decide) (by decide), wxL_nil]
    have hl0 : 0 < (s.data.toList.drop i).length := by rw [List.length_drop, ← size_list]; omega
    have hz : 0 < (mkB (wxB (s.data.toList.drop i))).size := by
     rw [mkB_size]
     cases hd : s.data.toList.drop i with
     | nil => rw [hd] at hl0; simp at hl0
     | cons b l => obtain ⟨x, r, hr, _⟩ := wxb1_head b; rw [wxB_cons, hr]; simp
    refine items_bad hz ?_
    cases hg2 : goodAt (mkB (wxB (s.data.toList.drop i))) 0 with
    | false => rfl
    | true =>
     exfalso
     have hV := decode_VR _ _ hg2
     have henc := encode_decode hz hg2
     rw [List.drop_zero, mkB_list] at henc
     obtain ⟨c, hc⟩ : ∃ c : Int, ((Utf8.decode (mkB (wxB (s.data.toList.drop i))) 0).1 : Int) = c := ⟨_, rfl⟩
     rw [hc] at hV henc
     have hsp : wxB (s.data.toList.drop i) = (Utf8.encode c).data.toList ++ (wxB (s.data.toList.drop i)).drop (Utf8.decode (mkB (wxB (s.data.toList.drop i))) 0).2 := by
      rw [henc, List.take_append_drop]
     have hx : ∃ c' r', VR c' ∧ s.data.toList.drop i = (Utf8.encode c').data.toList ++ r' := by
      by_cases hs : c = 10 ∨ c = 32
      ·cases hd : s.data.toList.drop i with
       | nil => rw [hd] at hl0; simp at hl0
       | cons b l =>
        rw [hd, wxB_cons] at hsp
        obtain ⟨x, r, hr, hxb⟩ := wxb1_head b
        by_cases hb10 : b = 10
        ·subst hb10; exact ⟨10, l, by unfold VR; omega, by rw [enc10]; rfl⟩
        by_cases hb32 : b = 32
        ·subst hb32; exact ⟨32, l, by unfold VR; omega, by rw [enc32]; rfl⟩
        exfalso
        have hw : wxb1 b = [b] := by unfold wxb1; rw [if_neg hb10, if_neg hb32]
        rw [hw] at hsp
        rcases hs with rfl | rfl
        ·rw [enc10] at hsp; injection hsp with h1 _; exact hb10 h1
        ·rw [enc32] at hsp; injection hsp with h1 _; exact hb32 h1
      ·have h10 : c ≠ 10 := fun e => hs (.inl e)
       have h32 : c ≠ 32 := fun e => hs (.inr e)
       obtain ⟨r', hr'⟩ := wxB_back _ _ _ (fun x hx => ⟨enc_ten hV h10 x hx, enc_sp hV h32 x hx⟩) hsp
       exact ⟨c, r', hV, hr'⟩
     obtain ⟨c', r', hV', hr'⟩ := hx
     have h1 := (good_drop s i hi).1
     rw [hr', mkB_append, mkB_enc, (decode_enc hV' _).2.1, hg] at h1
     cases h1
  ·have hl : s.data.toList.drop i = [] := List.drop_eq_nil_of_le (by rw [← size_list]; omega)
   rw [hl, items_end (s := s) (pos := i) (by omega)]
   exact items_end (s := mkB (wxB [])) (by decide)
def wxT (s : ByteArray) : ByteArray := mkB (wxB s.data.toList)
theorem items_wxT (s : ByteArray) : items (wxT s) 0 = wxL (items s 0) := by
 unfold wxT
 have := items_wx s s.size 0 (by omega) (by omega)
 rw [List.drop_zero] at this
 rw [this]
theorem read_wx (s : ByteArray) : SimR (readR s) (readR (wxT s)) := by
 have h := wx_sim ((items s 0).length + 1) 1 1 1 1 false (items s 0) [] [] ((wxL (items s 0)).length + 1) (by omega) (by omega) ⟨by rfl, by rfl⟩
 rw [readR_ref, readR_ref, items_wxT]
 exact h
theorem over_wx (s : ByteArray) : CurSim (overT s) (overT (wxT s)) := over_sim _ _ (read_wx s)
end Go.Proofs.YtljglhaeonbfoaaGreatDoor
